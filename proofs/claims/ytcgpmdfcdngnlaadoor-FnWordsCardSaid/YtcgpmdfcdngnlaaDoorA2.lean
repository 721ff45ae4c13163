/-
  Contracts of IsName, in the reference and in the program: both return whether the text is a name.
  Condition: the text is no longer than Go's longest.
-/
import Derived.Test.YtcgpmdfcdngnlaaDoorA1
import Derived.Test.YtcgpmdfcdngnlaaDoorB1
set_option linter.unusedVariables false
set_option linter.unusedSimpArgs false
namespace Go.Proofs.YtcgpmdfcdngnlaaDoor
open Go.RowKit
def isLow (c : UInt8) : Bool := decide (97 ≤ (c.toNat : Int)) && decide ((c.toNat : Int) ≤ 122)
theorem isLow_true {c : UInt8} (h : isLow c = true) : 97 ≤ (c.toNat : Int) ∧ (c.toNat : Int) ≤ 122 := by simpa [isLow] using h
theorem isLow_false {c : UInt8} (h : ¬ isLow c = true) : ((c.toNat : Int) < 97 ∨ (97 ≤ (c.toNat : Int) ∧ 122 < (c.toNat : Int) ∧ decide ((c.toNat : Int) ≤ 122) = false)) := by simp [isLow] at h ⊢; omega
def nameCh (c : UInt8) : Bool := isLow c || isDig c
def headLow (s : ByteArray) : Bool := (s.data.toList.head?.map isLow).getD false
def isName (s : ByteArray) : Bool := decide (1 ≤ s.size) && decide (s.size ≤ 8) && headLow s && s.data.toList.all nameCh
theorem headLow_eq {s : ByteArray} (h : 0 < s.size) : headLow s = isLow s[0] := by
  unfold headLow
  have : s.data.toList.head? = some s[0] := by
    rw [List.head?_eq_getElem?, Array.getElem?_toList, Array.getElem?_eq_getElem (by simpa using h)]; rfl
  simp [this]
theorem nameCh_low {c : UInt8} (h : isLow c = true) : nameCh c = true := by simp [nameCh, h]
theorem nameCh_dig {c : UInt8} (h : isDig c = true) : nameCh c = true := by simp [nameCh, h]
theorem nameCh_not {c : UInt8} (h : ¬ isLow c = true) (h' : isDig c = false) : nameCh c = false := by simp [nameCh, h, h']
theorem isName_bad {s : ByteArray} {k : Nat} (hk : k < s.size) (h : nameCh s[k] = false) : isName s = false := by simp [isName, all_false hk h]
theorem isName_head {s : ByteArray} (hk : 0 < s.size) (h : ¬ isLow s[0] = true) : isName s = false := by simp [isName, headLow_eq hk, h]
theorem isName_short {s : ByteArray} (h : ¬ 1 ≤ s.size) : isName s = false := by simp [isName]; omega
theorem isName_long {s : ByteArray} (h : ¬ s.size ≤ 8) : isName s = false := by simp [isName]; omega
theorem isName_good {s : ByteArray} {k : Nat} (h1 : 1 ≤ s.size) (h2 : s.size ≤ 8) (h3 : isLow s[0] = true) (h : AllTo nameCh s k) (hk : s.size ≤ k) : isName s = true := by
  simp [isName, headLow_eq h1, h3, h.all hk, h1, h2]
theorem isName_end {s : ByteArray} {k : Nat} (h3 : 0 < k → headLow s = true) (h : AllTo nameCh s k) (hk : s.size ≤ k) : isName s = (decide (1 ≤ (s.size : Int)) && decide ((s.size : Int) ≤ 8)) := by
  have e1 : decide (1 ≤ (s.size : Int)) = decide (1 ≤ s.size) := by simp; omega
  have e2 : decide ((s.size : Int) ≤ 8) = decide (s.size ≤ 8) := by simp; omega
  rw [e1, e2]
  by_cases h1 : 1 ≤ s.size
  · simp [isName, h.all hk, h3 (by omega)]
  · simp [isName, h1]
theorem extract_one {s : ByteArray} {k : Nat} (h : k < s.size) : isDigits (s.extract k (k + 1)) = isDig s[k] := by
  have hs : (s.extract k (k + 1)).size = 1 := by simp; omega
  have hx : (s.extract k (k + 1)).data.toList = [s[k]] := by
    apply List.ext_getElem
    · simp; omega
    · intro i h1 h2
      simp at h2
      subst h2
      simp [ByteArray.getElem_eq_getElem_data]
  unfold isDigits
  rw [hs, hx]; simp

set_option maxHeartbeats 400000 in
theorem implIsName (s : ByteArray) (w : World) (hs : s.size ≤ maxLen) :
    Calls Tryd.prog 31 #[.string s] w fun e w' => e = .returned (.bool (isName s)) ∧ w = w' := by
  have hs' := hs
  unfold maxLen at hs
  by_cases h1 : 1 ≤ s.size
  · by_cases h2 : s.size ≤ 8
    · by_cases h3 : isLow s[0] = true
      · obtain ⟨h4, h5⟩ := isLow_true h3
        have H3 := Lib.hid h3
        clear h3
        go_enter Tryd.func31, Tryd.ntmps31
        go_wp2
        go_loop [3, 24] (fun _ i => ∃ k : Nat, k ≤ s.size ∧ i = .int .i64 k ∧ AllTo nameCh s k) (fun _ i => s.size - (intOf i).toNat)
        case atStart => exact ⟨0, Nat.zero_le _, rfl, AllTo.zero _ _⟩
        case round =>
          obtain ⟨k, hk, rfl, hall⟩ := hrel
          by_cases hlt : k < s.size
          · by_cases hl : isLow s[k] = true
            · obtain ⟨h6, h7⟩ := isLow_true hl
              have Hn := hall.succ hlt (nameCh_low hl)
              clear hl hall
              go_wp2
              go_round
              case rel => exact ⟨k + 1, by omega, by go_num, Hn⟩
              case measure => simp [intOf]; omega
            · have hl' := isLow_false hl
              by_cases hd : isDig s[k] = true
              · have Hn := hall.succ hlt (nameCh_dig hd)
                have Hx := Lib.hid ((extract_one hlt).trans hd)
                clear hd hl hall
                rcases hl' with h | ⟨h, h', h''⟩ <;>
                · go_wp2_with (go_at_call 59; refine (implIsDigits _ _ (by simp [maxLen]; omega)).mono ?_; rintro e w' ⟨rfl, rfl⟩; rw [Hx.out])
                  go_round
                  case rel => exact ⟨k + 1, by omega, by go_num, Hn⟩
                  case measure => simp [intOf]; omega
              · have Hf := Lib.hid (isName_bad hlt (nameCh_not hl (by simpa using hd)))
                have Hx := Lib.hid ((extract_one hlt).trans (by simpa using hd : isDig s[k] = false))
                clear hd hl hall
                rcases hl' with h | ⟨h, h', h''⟩ <;>
                · go_wp2_with (go_at_call 59; refine (implIsDigits _ _ (by simp [maxLen]; omega)).mono ?_; rintro e w' ⟨rfl, rfl⟩; rw [Hx.out])
                  go_ret
                  exact ⟨ret_bool Hf.out.symm, rfl⟩
          · have Hf := Lib.hid (isName_good h1 h2 H3.out hall (by omega))
            clear hall
            go_wp2
            go_ret
            exact ⟨ret_bool Hf.out.symm, rfl⟩
      · have Hf := Lib.hid (isName_head (by omega) h3)
        have h3' := isLow_false h3
        clear h3
        rcases h3' with h | ⟨h, h', h''⟩ <;>
        · go_enter Tryd.func31, Tryd.ntmps31
          go_wp2
          go_ret
          exact ⟨ret_bool Hf.out.symm, rfl⟩
    · have Hf := Lib.hid (isName_long h2)
      go_enter Tryd.func31, Tryd.ntmps31
      go_wp2
      go_ret
      exact ⟨ret_bool Hf.out.symm, rfl⟩
  · have Hf := Lib.hid (isName_short h1)
    go_enter Tryd.func31, Tryd.ntmps31
    go_wp2
    go_ret
    exact ⟨ret_bool Hf.out.symm, rfl⟩

end Go.Proofs.YtcgpmdfcdngnlaaDoor
