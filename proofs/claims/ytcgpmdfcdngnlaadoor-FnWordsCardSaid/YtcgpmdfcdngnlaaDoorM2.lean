/-
  Plain facts: remainders, membership, equality of lists, the sorted list of the members of a list.
  No program in sight.
-/
import Derived.Test.YtcgpmdfcdngnlaaDoorM1
set_option linter.unusedVariables false
set_option linter.unusedSimpArgs false
namespace Go.Proofs.YtcgpmdfcdngnlaaDoor

/-- The remainder from 0 up to n. -/
def mo (k n : Int) : Int := k % n
theorem mo_ge {k n : Int} (h : 1 ≤ n) : 0 ≤ mo k n := Int.emod_nonneg _ (by omega)
theorem mo_lt {k n : Int} (h : 1 ≤ n) : mo k n < n := Int.emod_lt_of_pos _ (by omega)
theorem mo_id {k n : Int} (h0 : 0 ≤ k) (h1 : k < n) : mo k n = k := Int.emod_eq_of_lt h0 h1
theorem mo_tmod {k n : Int} (h : 1 ≤ n) : (k.tmod n + n).tmod n = mo k n := by
  have hlt : -n < k.tmod n := by
    have := Int.lt_tmod_of_pos k (show 0 < n by omega); omega
  rw [Int.tmod_eq_emod_of_nonneg (by omega)]
  unfold mo
  rw [Int.add_emod_right]
  rw [Int.tmod_eq_emod]
  split
  · simp
  · rw [Int.sub_emod, Int.emod_emod_of_dvd _ (Int.dvd_refl n)]
    have : (n.natAbs : Int) = n := by omega
    rw [this]; simp
theorem tmod_bd {k n : Int} (h : 1 ≤ n) : -n < k.tmod n ∧ k.tmod n < n :=
  ⟨Int.lt_tmod_of_pos k (by omega), Int.tmod_lt_of_pos k (by omega)⟩

/-- Is y in the list? -/
def hasL (xs : List Int) (y : Int) : Bool := decide (y ∈ xs)
def NotTo (xs : List Int) (y : Int) (k : Nat) : Prop := ∀ i, i < k → i < xs.length → xs.getD i 0 ≠ y
theorem NotTo.zero (xs : List Int) (y : Int) : NotTo xs y 0 := fun _ h => absurd h (Nat.not_lt_zero _)
theorem NotTo.succ {xs : List Int} {y : Int} {k : Nat} (h : NotTo xs y k) (hk : xs.getD k 0 ≠ y) : NotTo xs y (k + 1) := by
  intro i hi hl
  by_cases e : i = k
  · subst e; exact hk
  · exact h i (by omega) hl
theorem hasL_yes {xs : List Int} {y : Int} {k : Nat} (hk : k < xs.length) (h : xs.getD k 0 = y) : hasL xs y = true := by
  simp only [hasL, decide_eq_true_eq]
  rw [← h, List.getD_eq_getElem?_getD, List.getElem?_eq_getElem hk]; exact List.getElem_mem hk
theorem hasL_no {xs : List Int} {y : Int} {k : Nat} (hk : xs.length ≤ k) (h : NotTo xs y k) : hasL xs y = false := by
  simp only [hasL, decide_eq_false_iff_not]
  intro hm
  obtain ⟨i, hi, he⟩ := List.mem_iff_getElem.1 hm
  apply h i (by omega) hi
  rw [List.getD_eq_getElem?_getD, List.getElem?_eq_getElem hi]; exact he
/-- The place of y, or -1. -/
def idxL (xs : List Int) (y : Int) : Int := match xs.idxOf? y with | some i => (i : Int) | none => -1
theorem idxL_yes {xs : List Int} {y : Int} {k : Nat} (hn : NotTo xs y k) (hk : k < xs.length) (h : xs.getD k 0 = y) : idxL xs y = (k : Int) := by
  unfold idxL
  have : xs.idxOf? y = some k := by
    rw [List.idxOf?_eq_some_iff]
    refine ⟨hk, ?_, fun j hj => ?_⟩
    · rw [← h, List.getD_eq_getElem?_getD, List.getElem?_eq_getElem hk]; simp
    · have := hn j hj (by omega)
      rw [List.getD_eq_getElem?_getD, List.getElem?_eq_getElem (by omega)] at this
      simpa using this
  rw [this]
theorem idxL_no {xs : List Int} {y : Int} {k : Nat} (hk : xs.length ≤ k) (h : NotTo xs y k) : idxL xs y = -1 := by
  unfold idxL
  have : xs.idxOf? y = none := by
    rw [List.idxOf?_eq_none_iff]
    have := hasL_no hk h
    simpa [hasL] using this
  rw [this]
theorem idxL_ge {xs : List Int} {y : Int} : (hasL xs y = true ∧ 0 ≤ idxL xs y) ∨ (hasL xs y = false ∧ idxL xs y = -1) := by
  unfold idxL hasL
  cases h : xs.idxOf? y with
  | none => right; rw [List.idxOf?_eq_none_iff] at h; simp [h]
  | some i =>
    left
    have hm : y ∈ xs := by
      rw [List.idxOf?_eq_some_iff] at h
      obtain ⟨h1, h2, _⟩ := h
      have : xs[i] = y := by simpa using h2
      rw [← this]; exact List.getElem_mem h1
    simp [hm]

def eqL (xs ys : List Int) : Bool := decide (xs = ys)
def EqTo (xs ys : List Int) (k : Nat) : Prop := ∀ i, i < k → xs.getD i 0 = ys.getD i 0
theorem EqTo.zero (xs ys : List Int) : EqTo xs ys 0 := fun _ h => absurd h (Nat.not_lt_zero _)
theorem EqTo.succ {xs ys : List Int} {k : Nat} (h : EqTo xs ys k) (hk : xs.getD k 0 = ys.getD k 0) : EqTo xs ys (k + 1) := by
  intro i hi
  by_cases e : i = k
  · subst e; exact hk
  · exact h i (by omega)
theorem eqL_len {xs ys : List Int} (h : xs.length ≠ ys.length) : eqL xs ys = false := by
  simp only [eqL, decide_eq_false_iff_not]; intro e; exact h (by rw [e])
theorem eqL_bad {xs ys : List Int} {k : Nat} (h : xs.getD k 0 ≠ ys.getD k 0) : eqL xs ys = false := by
  simp only [eqL, decide_eq_false_iff_not]; intro e; exact h (by rw [e])
theorem eqL_end {xs ys : List Int} {k : Nat} (hl : xs.length = ys.length) (hk : xs.length ≤ k) (h : EqTo xs ys k) : eqL xs ys = true := by
  simp only [eqL, decide_eq_true_eq]
  apply List.ext_getElem hl
  intro i h1 h2
  have := h i (by omega)
  simpa [List.getD_eq_getElem?_getD, List.getElem?_eq_getElem h1, List.getElem?_eq_getElem h2] using this
theorem eqL_self (xs : List Int) : eqL xs xs = true := by simp [eqL]
/-- Two rhythms are equal. -/
def eqR (n m : Int) (xs ys : List Int) : Bool := decide (n = m) && eqL xs ys
theorem eqR_self (n : Int) (xs : List Int) : eqR n n xs xs = true := by simp [eqR, eqL_self]
end Go.Proofs.YtcgpmdfcdngnlaaDoor
