/-
  The number of beats that two rhythms have in common.
  No condition.
-/
import Derived.Test.YtopfenhphnmfkaaM13
import Derived.Test.YtopfenhphnmfkaaM16
set_option linter.unusedVariables false
set_option linter.unusedSimpArgs false
namespace Go.Proofs.Ytopfenhphnmfkaa

def comm (x y : List Int) : Nat := (x.filter (hasL y)).length
theorem comm_le (x y : List Int) : comm x y ≤ x.length := List.length_filter_le _ _
theorem comm_nil (y : List Int) : comm [] y = 0 := rfl
theorem comm_yes {x y : List Int} {k : Nat} (hk : k < x.length) (h : hasL y x[k] = true) : comm (x.take (k + 1)) y = comm (x.take k) y + 1 := by
  unfold comm; rw [List.take_succ_eq_append_getElem hk, List.filter_append, List.length_append]; simp [h]
theorem comm_no {x y : List Int} {k : Nat} (hk : k < x.length) (h : hasL y x[k] = false) : comm (x.take (k + 1)) y = comm (x.take k) y := by
  unfold comm; rw [List.take_succ_eq_append_getElem hk, List.filter_append, List.length_append]; simp [h]
theorem comm_pop {n : Int} {x y : List Int} (hx : Rok n x) (hy : Rok n y) : pop 24 (codeN n x &&& codeN n y) = comm x y := by
  have h1 := hx.lo
  have h2 := hx.hi
  have bx : ∀ p ∈ x, 0 ≤ p ∧ p < n := fun p hp => ⟨hx.ge p hp, hx.lt p hp⟩
  have bY : ∀ p ∈ y, 0 ≤ p ∧ p < n := fun p hp => ⟨hy.ge p hp, hy.lt p hp⟩
  rw [pop_bits]
  have hP : ∀ i : Nat, ((codeN n x &&& codeN n y).testBit i) = true ↔ ((i : Int) < n ∧ hasL x (n - 1 - i) = true ∧ hasL y (n - 1 - i) = true) := by
    intro i
    rw [Nat.testBit_and, Bool.and_eq_true]
    by_cases hi : (i : Int) < n
    · rw [codeN_pulse bx hi, codeN_pulse bY hi]; simp [hi]
    · rw [codeN_high bx hi]; simp [hi]
  have key : ((((List.range 24).filter fun i => (codeN n x &&& codeN n y).testBit i).map fun (i : Nat) => n - 1 - (i : Int)).reverse) = x.filter (hasL y) := by
    refine sorted_ext ?_ (hx.inc.filter _) ?_
    · rw [List.pairwise_reverse, List.pairwise_map]
      refine List.Pairwise.imp ?_ (List.pairwise_lt_range.filter _)
      intro a b hab
      omega
    · intro z
      rw [List.mem_reverse, List.mem_map, List.mem_filter]
      constructor
      · rintro ⟨i, hi, rfl⟩
        have := (hP i).1 (List.mem_filter.1 hi).2
        exact ⟨by simpa [hasL] using this.2.1, this.2.2⟩
      · rintro ⟨hz, hh⟩
        have hb := bx z hz
        refine ⟨(n - 1 - z).toNat, List.mem_filter.2 ⟨List.mem_range.2 (by omega), (hP _).2 ⟨by omega, ?_, ?_⟩⟩, by omega⟩
        · rw [show n - 1 - ((n - 1 - z).toNat : Int) = z by omega]; simpa [hasL] using hz
        · rw [show n - 1 - ((n - 1 - z).toNat : Int) = z by omega]; exact hh
  have := congrArg List.length key
  rw [List.length_reverse, List.length_map] at this
  exact this
end Go.Proofs.Ytopfenhphnmfkaa
