/-
  Plain facts: a rhythm out of its steps: when there is one.
  No program in sight.
-/
import Derived.Test.YtoedmdefjibaoaaM7
set_option linter.unusedVariables false
set_option linter.unusedSimpArgs false
namespace Go.Proofs.Ytoedmdefjibaoaa

def allIn (xs : List Int) : Bool := xs.all In24
theorem allIn_of {xs : List Int} {k : Nat} (h : inTo xs k) (hk : xs.length ≤ k) : allIn xs = true := by
  rw [allIn, List.all_eq_true]
  intro y hy
  obtain ⟨i, hi, rfl⟩ := List.mem_iff_getElem.1 hy
  have := h i (by omega) hi
  rwa [getD_get hi] at this
theorem allIn_to {xs : List Int} (h : allIn xs = true) : inTo xs xs.length := by
  intro i _ hl
  rw [allIn, List.all_eq_true] at h
  exact h _ (getD_mem hl)
theorem allIn_bad {xs : List Int} {k : Nat} (hk : k < xs.length) (h : In24 (xs.getD k 0) = false) : allIn xs = false := by
  rw [allIn, List.all_eq_false]
  exact ⟨_, getD_mem hk, by rw [h]; decide⟩
def okFromSteps (xs : List Int) (first : Int) : Bool :=
  decide (0 < xs.length) && allIn xs && decide (sumTo xs xs.length ≤ 24) && decide (0 ≤ first) && decide (first < xs.getD (xs.length - 1) 0)
def numFromSteps (xs : List Int) (first : Int) : Int := if okFromSteps xs first = true then sumTo xs xs.length else 0
def lstFromSteps (xs : List Int) (first : Int) : List Int := if okFromSteps xs first = true then frTo xs first xs.length else []
theorem from_no {xs : List Int} {first : Int} (h : okFromSteps xs first = false) : numFromSteps xs first = 0 ∧ lstFromSteps xs first = [] := by simp [numFromSteps, lstFromSteps, h]
theorem from_yes {xs : List Int} {first : Int} (h : okFromSteps xs first = true) : numFromSteps xs first = sumTo xs xs.length ∧ lstFromSteps xs first = frTo xs first xs.length := by simp [numFromSteps, lstFromSteps, h]
theorem okFrom_iff (xs : List Int) (first : Int) : okFromSteps xs first = true ↔ 0 < xs.length ∧ allIn xs = true ∧ sumTo xs xs.length ≤ 24 ∧ 0 ≤ first ∧ first < xs.getD (xs.length - 1) 0 := by
  simp [okFromSteps, and_assoc]
theorem okFrom_false {xs : List Int} {first : Int} (h : ¬ (0 < xs.length ∧ allIn xs = true ∧ sumTo xs xs.length ≤ 24 ∧ 0 ≤ first ∧ first < xs.getD (xs.length - 1) 0)) : okFromSteps xs first = false := by
  rw [← Bool.not_eq_true]; exact fun hh => h ((okFrom_iff _ _).1 hh)
theorem okFrom_bad {xs : List Int} {first : Int} (h : allIn xs = false) : okFromSteps xs first = false := okFrom_false (by simp [h])
theorem okFrom_sum {xs : List Int} {first : Int} {k : Nat} (hk : k ≤ xs.length) (h : 24 < sumTo xs k) : okFromSteps xs first = false := by
  refine okFrom_false ?_
  rintro ⟨_, h1, h2, _⟩
  have := sumTo_mono (allIn_to h1) hk (Nat.le_refl _)
  omega
theorem okFrom_long {xs : List Int} {first : Int} (h : 24 < xs.length) : okFromSteps xs first = false := by
  refine okFrom_false ?_
  rintro ⟨_, h1, h2, _⟩
  have := (sumTo_bd (allIn_to h1) (Nat.le_refl _)).1
  omega
theorem sumTo_last {xs : List Int} (h : 0 < xs.length) : sumTo xs xs.length = sumTo xs (xs.length - 1) + xs.getD (xs.length - 1) 0 := by
  have := sumTo_succ (xs := xs) (k := xs.length - 1) (by omega)
  rwa [show xs.length - 1 + 1 = xs.length by omega] at this
theorem lenFromSteps (xs : List Int) (first : Int) : (lstFromSteps xs first).length ≤ 24 := by
  cases h : okFromSteps xs first with
  | false => rw [(from_no h).2]; simp
  | true =>
    rw [(from_yes h).2, frTo_len]
    obtain ⟨_, h1, h2, _⟩ := (okFrom_iff _ _).1 h
    have := (sumTo_bd (allIn_to h1) (Nat.le_refl _)).1
    omega
theorem from_rok {xs : List Int} {first : Int} (h : allIn xs = true) (hne : 0 < xs.length) (h0 : 0 ≤ first) : rok (sumTo xs xs.length) (frTo xs first xs.length) = okFromSteps xs first := by
  have hin := allIn_to h
  have hl := sumTo_last hne
  have hb := sumTo_bd hin (Nat.le_refl _)
  rw [Bool.eq_iff_iff, rok_iff, okFrom_iff]
  constructor
  · intro hR
    refine ⟨hne, h, hR.hi, h0, ?_⟩
    have hm : first + sumTo xs (xs.length - 1) ∈ frTo xs first xs.length := by
      unfold frTo; exact List.mem_map.2 ⟨xs.length - 1, List.mem_range.2 (by omega), rfl⟩
    have := hR.lt _ hm
    omega
  · rintro ⟨_, _, h2, _, h4⟩
    refine ⟨by omega, h2, ?_, ?_, ?_⟩
    · intro y hy
      obtain ⟨i, hi, rfl⟩ := List.mem_map.1 hy
      have hi' := List.mem_range.1 hi
      have := (sumTo_bd (k := i) (fun j hj hl => hin j (by omega) hl) (by omega)).1
      omega
    · intro y hy
      obtain ⟨i, hi, rfl⟩ := List.mem_map.1 hy
      have hi' := List.mem_range.1 hi
      have := sumTo_mono hin (i := i) (j := xs.length - 1) (by omega) (by omega)
      omega
    · unfold frTo
      rw [List.pairwise_map]
      refine List.Pairwise.imp_of_mem ?_ (List.pairwise_lt_range (n := xs.length))
      intro i j hi hj hij
      have := sumTo_mono hin (i := i) (j := j) (by omega) (by have := List.mem_range.1 hj; omega)
      omega
/-- A first beat that is too large makes no rhythm, whatever follows. -/
theorem from_rok_big {n first : Int} {l : List Int} (hl : 0 < l.length) (h0 : l.getD 0 0 = first) (hf : 24 ≤ first) : rok n l = false := by
  rw [← Bool.not_eq_true, rok_iff]
  intro hR
  have h1 := hR.lt _ (getD_mem hl)
  have h2 := hR.hi
  omega
theorem okFrom_big {xs : List Int} {first : Int} (hf : 24 ≤ first) : okFromSteps xs first = false := by
  refine okFrom_false ?_
  rintro ⟨h0, h1, _, _, h4⟩
  have := in24_bd (allIn_to h1 (xs.length - 1) (by omega) (by omega))
  omega
end Go.Proofs.Ytoedmdefjibaoaa
