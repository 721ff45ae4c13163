/-
  The laws' copy and comparison of slices of texts.
  Conditions: lists lie in memory.
-/
import Derived.Test.YtcgpmdfcdngnlaaDoorZ1
import Derived.Test.YtcgpmdfcdngnlaaDoorC1
import Derived.Test.YtcgpmdfcdngnlaaDoorM2
set_option linter.unusedVariables false
set_option linter.unusedSimpArgs false
namespace Go.Proofs.YtcgpmdfcdngnlaaDoor
open Go.RowKit

theorem beq_str (a b : ByteArray) : (a == b) = decide (a = b) := by
  cases a with | mk x => cases b with | mk y =>
  have h : ((ByteArray.mk x) == (ByteArray.mk y)) = (x == y) := rfl
  rw [h]
  by_cases e : x = y
  · subst e; simp
  · simp [e]
def eqS (xs ys : List ByteArray) : Bool := decide (xs = ys)
def EqToS (xs ys : List ByteArray) (k : Nat) : Prop := ∀ i, i < k → xs.getD i ByteArray.empty = ys.getD i ByteArray.empty
theorem EqToS.zero (xs ys : List ByteArray) : EqToS xs ys 0 := fun _ h => absurd h (Nat.not_lt_zero _)
theorem EqToS.succ {xs ys : List ByteArray} {k : Nat} (h : EqToS xs ys k) (hk : xs.getD k ByteArray.empty = ys.getD k ByteArray.empty) : EqToS xs ys (k + 1) := by
  intro i hi
  by_cases e : i = k
  · subst e; exact hk
  · exact h i (by omega)
theorem eqS_len {xs ys : List ByteArray} (h : xs.length ≠ ys.length) : eqS xs ys = false := by
  simp only [eqS, decide_eq_false_iff_not]; intro e; exact h (by rw [e])
theorem eqS_bad {xs ys : List ByteArray} {k : Nat} (h : xs.getD k ByteArray.empty ≠ ys.getD k ByteArray.empty) : eqS xs ys = false := by
  simp only [eqS, decide_eq_false_iff_not]; intro e; exact h (by rw [e])
theorem eqS_end {xs ys : List ByteArray} {k : Nat} (hl : xs.length = ys.length) (hk : xs.length ≤ k) (h : EqToS xs ys k) : eqS xs ys = true := by
  simp only [eqS, decide_eq_true_eq]
  apply List.ext_getElem hl
  intro i h1 h2
  have := h i (by omega)
  simpa [List.getD_eq_getElem?_getD, List.getElem?_eq_getElem h1, List.getElem?_eq_getElem h2] using this
theorem eqS_self (xs : List ByteArray) : eqS xs xs = true := by simp [eqS]
/-- Two rhythms are equal. -/
def copiedS (xs : List ByteArray) (k : Nat) : List ByteArray := xs.take k ++ List.replicate (xs.length - k) ByteArray.empty
theorem copiedS_zero (xs : List ByteArray) : copiedS xs 0 = List.replicate xs.length ByteArray.empty := by simp [copiedS]
theorem copiedS_len (xs : List ByteArray) {k : Nat} (h : k ≤ xs.length) : (copiedS xs k).length = xs.length := by simp [copiedS]; omega
theorem copiedS_all (xs : List ByteArray) : copiedS xs xs.length = xs := by simp [copiedS]
theorem copiedS_succ (xs : List ByteArray) {k : Nat} (h : k < xs.length) : (copiedS xs k).set k (xs.getD k ByteArray.empty) = copiedS xs (k + 1) := by
  unfold copiedS
  apply List.ext_getElem?
  intro i
  have ht : (xs.take k).length = k := by simp; omega
  have ht' : (xs.take (k + 1)).length = k + 1 := by simp; omega
  rw [List.getElem?_set]
  by_cases hik : k = i
  · subst hik
    rw [if_pos rfl, if_pos (by simp; omega), List.getElem?_append_left (by omega)]
    simp [List.getElem?_take, List.getD_eq_getElem?_getD, List.getElem?_eq_getElem h]
  · rw [if_neg hik]
    by_cases hlt : i < k
    · rw [List.getElem?_append_left (by omega), List.getElem?_append_left (by omega)]
      simp [List.getElem?_take, hlt, show i < k + 1 by omega]
    · rw [List.getElem?_append_right (by omega), List.getElem?_append_right (by omega), ht, ht']
      simp only [List.getElem?_replicate]
      by_cases hi2 : i < xs.length
      · rw [if_pos (by omega), if_pos (by omega)]
      · rw [if_neg (by omega), if_neg (by omega)]

set_option maxHeartbeats 400000 in
theorem lawEqStringS (u v : Value) (xs ys : List ByteArray) (w : World) (B C : Nat) (he : xs = ys) (hu : Strs w B u xs) (hv : Strs w C v ys) :
    Calls Tryd.prog 13 #[u, v] w fun e w' => e = .returned (.bool (eqS xs ys)) ∧ ∃ n, w' = w.drewN n := by
  have He := Lib.hid he
  clear he
  have hlu := hu.cap
  have hlv := hv.cap
  unfold maxLen at hlu hlv
  by_cases hl : xs.length = ys.length
  · rcases hu.open with ⟨rfl, a, cap, rfl⟩ | ⟨b, o, cap, rfl, hm, h0, hB, hb, hc⟩
    · have hy : ys = [] := List.eq_nil_of_length_eq_zero hl.symm
      subst hy
      obtain ⟨a', cap', rfl, -⟩ := hv
      clear hu hl hlu hlv
      go_enter Tryd.func13, Tryd.ntmps13
      go_wp2
      refine wp_loop_rounds 1 ?_; rw [rounds_succ]
      go_wp2
      go_ret
      exact ⟨rfl, 0, rfl⟩
    · rcases hv.open with ⟨rfl, a', cap', rfl⟩ | ⟨b', o', cap', rfl, hm', h0', hB', hb', hc'⟩
      · have : ([] : List ByteArray).length = 0 := rfl
        omega
      · have hne : (((xs.length : Nat) : Int) != ((ys.length : Nat) : Int)) = false := by simp [hl]
        have Hl := Lib.hid hl
        have hle : xs.length ≤ ys.length := by omega
        clear hu hv hl hB hB' h0 h0' hm hm'
        go_enter Tryd.func13, Tryd.ntmps13
        go_wp2
        go_loopw [5] (fun i wr => ∃ k : Nat, k ≤ xs.length ∧ i = .int .i64 k ∧ EqToS xs ys k ∧ ∃ m, wr = w.drewN m) (fun i _ => xs.length - (intOf i).toNat)
        case atStart => exact ⟨0, Nat.zero_le _, rfl, EqToS.zero _ _, 0, rfl⟩
        case round =>
          obtain ⟨k, hk, rfl, heq, m, rfl⟩ := hrel
          by_cases hlt : k < xs.length
          · have hlt' : k < ys.length := by omega
            have hlt1 : (k : Int) < (xs.length : Int) := by omega
            have hlt2 : (k : Int) < (ys.length : Int) := by omega
            have hc1 := hc k hlt
            have hc1' := hc' k hlt'
            have e1 : xs.getD k ByteArray.empty = xs[k] := by simp [List.getD_eq_getElem?_getD, List.getElem?_eq_getElem hlt]
            have e2 : ys.getD k ByteArray.empty = ys[k] := by simp [List.getD_eq_getElem?_getD, List.getElem?_eq_getElem hlt']
            by_cases hx : xs.getD k ByteArray.empty = ys.getD k ByteArray.empty
            · have Hn := heq.succ hx
              have hb2 : (xs[k].toList == ys[k].toList) = true := by rw [← e1, ← e2, hx]; simp
              have hb1 : (xs[k] != ys[k]) = false := by rw [← e1, ← e2, hx, bne, beq_str]; simp
              clear hx heq e1 e2
              go_wp2
              go_quiet (fail)
              go_wp2
              go_roundw
              case rel => exact ⟨k + 1, by omega, by go_num, Hn, _, rfl⟩
              case measure => simp [intOf]; omega
            · exact absurd (by rw [He.out]) hx
          · have Hf := Lib.hid (eqS_end Hl.out (by omega) heq)
            clear heq
            go_wp2
            go_ret
            exact ⟨ret_bool Hf.out.symm, _, rfl⟩
  · have Hf := Lib.hid (eqS_len hl)
    have hne : (((xs.length : Nat) : Int) != ((ys.length : Nat) : Int)) = true := by simp; omega
    obtain ⟨a, cap, rfl, -⟩ := hu
    obtain ⟨a', cap', rfl, -⟩ := hv
    clear hl
    go_enter Tryd.func13, Tryd.ntmps13
    go_wp2
    go_ret
    exact ⟨ret_bool Hf.out.symm, 0, rfl⟩

end Go.Proofs.YtcgpmdfcdngnlaaDoor
