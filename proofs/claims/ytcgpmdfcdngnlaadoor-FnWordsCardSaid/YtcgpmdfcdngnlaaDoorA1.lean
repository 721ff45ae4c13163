/-
  Contracts of IsDigits, in the reference and in the program: both return whether the text is not empty and holds digits alone.
  Condition: the text is no longer than Go's longest.
-/
import Derived.Test.YtcgpmdfcdngnlaaDoorB0
set_option linter.unusedVariables false
set_option linter.unusedSimpArgs false
namespace Go.Proofs.YtcgpmdfcdngnlaaDoor
open Go.RowKit
def AllTo (p : UInt8 → Bool) (s : ByteArray) (k : Nat) : Prop := ∀ j, (hj : j < s.size) → j < k → p s[j] = true
theorem AllTo.zero (p : UInt8 → Bool) (s : ByteArray) : AllTo p s 0 := fun _ _ h => absurd h (Nat.not_lt_zero _)
theorem AllTo.succ {p : UInt8 → Bool} {s : ByteArray} {k : Nat} (h : AllTo p s k) (hk : k < s.size) (hp : p s[k] = true) : AllTo p s (k + 1) := by
  intro j hj hjk
  by_cases e : j = k
  · subst e; exact hp
  · exact h j hj (by omega)
theorem AllTo.all {p : UInt8 → Bool} {s : ByteArray} {k : Nat} (h : AllTo p s k) (hk : s.size ≤ k) : s.data.toList.all p = true := by
  rw [List.all_eq_true]
  intro x hx
  obtain ⟨j, hj, rfl⟩ := List.mem_iff_getElem.1 hx
  have hj' : j < s.size := by simpa using hj
  have := h j hj' (by omega)
  rw [Array.getElem_toList]; exact this
theorem all_false {p : UInt8 → Bool} {s : ByteArray} {k : Nat} (hk : k < s.size) (hp : p s[k] = false) : s.data.toList.all p = false := by
  rw [List.all_eq_false]
  exact ⟨s[k], by simp [ByteArray.getElem_eq_getElem_data], by simp [hp]⟩

def isDig (c : UInt8) : Bool := decide (48 ≤ (c.toNat : Int)) && decide ((c.toNat : Int) ≤ 57)
theorem isDig_true {c : UInt8} (h : isDig c = true) : 48 ≤ (c.toNat : Int) ∧ (c.toNat : Int) ≤ 57 := by simpa [isDig] using h
theorem isDig_false {c : UInt8} (h : ¬ isDig c = true) : isDig c = false ∧ ((c.toNat : Int) < 48 ∨ (48 ≤ (c.toNat : Int) ∧ 57 < (c.toNat : Int))) := by
  refine ⟨by simpa using h, ?_⟩
  simp [isDig] at h; omega
def isDigits (s : ByteArray) : Bool := decide (0 < s.size) && s.data.toList.all isDig
theorem isDigits_bad {s : ByteArray} {k : Nat} (hk : k < s.size) (h : isDig s[k] = false) : isDigits s = false := by simp [isDigits, all_false hk h]
theorem isDigits_end {s : ByteArray} {k : Nat} (h : AllTo isDig s k) (hk : s.size ≤ k) : isDigits s = decide (0 < s.size) := by simp [isDigits, h.all hk]

theorem ne_empty (s : ByteArray) : (!s.toList.isEmpty) = decide (0 < s.size) := by
  have h : s.toList.length = s.size := by rw [ByteArray.toList_eq]; simp
  cases e : s.toList with
  | nil => rw [e] at h; simp at h; simp [← h]
  | cons x l => rw [e] at h; simp at h; simp [← h]

theorem specIsDigits (s : ByteArray) (w : World) (hs : s.size ≤ maxLen) :
    Calls Tryd.prog 43 #[.string s] w fun e w' => e = .returned (.bool (isDigits s)) ∧ w = w' := by
  unfold maxLen at hs
  go_enter Tryd.func43, Tryd.ntmps43
  go_wp2
  go_loop [3] (fun i => ∃ k : Nat, k ≤ s.size ∧ i = .int .i64 k ∧ AllTo isDig s k) (fun i => s.size - (intOf i).toNat)
  case atStart => exact ⟨0, Nat.zero_le _, rfl, AllTo.zero _ _⟩
  case round =>
    obtain ⟨k, hk, rfl, hall⟩ := hrel
    by_cases hlt : k < s.size
    · by_cases hd : isDig s[k] = true
      · obtain ⟨h1, h2⟩ := isDig_true hd
        have Hn := hall.succ hlt hd
        clear hd
        go_wp2
        go_round
        case rel => exact ⟨k + 1, by omega, by go_num, Hn⟩
        case measure => simp [intOf]; omega
      · obtain ⟨hd', h1⟩ := isDig_false hd
        have Hf := Lib.hid (isDigits_bad hlt hd')
        clear hd hd'
        rcases h1 with h1 | ⟨h1, h2⟩ <;>
        · go_wp2
          go_ret
          exact ⟨ret_bool Hf.out.symm, rfl⟩
    · have Hf := Lib.hid (isDigits_end hall (by omega))
      go_wp2
      go_ret
      exact ⟨ret_bool (by rw [Hf.out]), rfl⟩

theorem implIsDigits (s : ByteArray) (w : World) (hs : s.size ≤ maxLen) :
    Calls Tryd.prog 59 #[.string s] w fun e w' => e = .returned (.bool (isDigits s)) ∧ w = w' := by
  unfold maxLen at hs
  go_enter Tryd.func59, Tryd.ntmps59
  go_wp2
  go_loop [3, 6] (fun _ i => ∃ k : Nat, k ≤ s.size ∧ i = .int .i64 k ∧ AllTo isDig s k) (fun _ i => s.size - (intOf i).toNat)
  case atStart => exact ⟨0, Nat.zero_le _, rfl, AllTo.zero _ _⟩
  case round =>
    obtain ⟨k, hk, rfl, hall⟩ := hrel
    by_cases hlt : k < s.size
    · by_cases hd : isDig s[k] = true
      · obtain ⟨h1, h2⟩ := isDig_true hd
        have Hn := hall.succ hlt hd
        clear hd
        go_wp2
        go_round
        case rel => exact ⟨k + 1, by omega, by go_num, Hn⟩
        case measure => simp [intOf]; omega
      · obtain ⟨hd', h1⟩ := isDig_false hd
        have Hf := Lib.hid (isDigits_bad hlt hd')
        clear hd hd'
        rcases h1 with h1 | ⟨h1, h2⟩ <;>
        · go_wp2
          go_ret
          exact ⟨ret_bool Hf.out.symm, rfl⟩
    · have Hf := Lib.hid (isDigits_end hall (by omega))
      go_wp2
      go_ret
      exact ⟨ret_bool (by rw [Hf.out]; exact ne_empty s), rfl⟩
end Go.Proofs.YtcgpmdfcdngnlaaDoor
