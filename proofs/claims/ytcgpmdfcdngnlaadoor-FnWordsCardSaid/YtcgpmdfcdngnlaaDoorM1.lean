/-
  Plain facts: what a valid rhythm is, as a function on integers and lists.
  No program in sight.
-/
import Derived.WalkKit
import Derived.Lib.Hide
set_option linter.unusedVariables false
set_option linter.unusedSimpArgs false
namespace Go.Proofs.YtcgpmdfcdngnlaaDoor

/-- The beat at place i is from 0 to m, and greater than the one before it. -/
def okAt (m : Int) (xs : List Int) (i : Nat) : Bool :=
  decide (0 ≤ xs.getD i 0) && decide (xs.getD i 0 ≤ m) && (decide (i = 0) || decide (xs.getD (i - 1) 0 < xs.getD i 0))
def OkTo (m : Int) (xs : List Int) (k : Nat) : Prop := ∀ i, i < k → okAt m xs i = true
theorem OkTo.zero (m : Int) (xs : List Int) : OkTo m xs 0 := fun _ h => absurd h (Nat.not_lt_zero _)
theorem OkTo.succ {m : Int} {xs : List Int} {k : Nat} (h : OkTo m xs k) (hk : okAt m xs k = true) : OkTo m xs (k + 1) := by
  intro i hi
  by_cases e : i = k
  · subst e; exact hk
  · exact h i (by omega)
def okList (m : Int) (xs : List Int) : Bool := (List.range xs.length).all (okAt m xs)
theorem okList_of {m : Int} {xs : List Int} {k : Nat} (h : OkTo m xs k) (hk : xs.length ≤ k) : okList m xs = true := by
  rw [okList, List.all_eq_true]
  intro i hi
  exact h i (by have := List.mem_range.1 hi; omega)
theorem okList_bad {m : Int} {xs : List Int} {k : Nat} (hk : k < xs.length) (h : okAt m xs k = false) : okList m xs = false := by
  rw [okList, List.all_eq_false]
  exact ⟨k, by simpa using hk, by simp [h]⟩
theorem okList_to {m : Int} {xs : List Int} (h : okList m xs = true) : OkTo m xs xs.length := by
  intro i hi
  rw [okList, List.all_eq_true] at h
  exact h i (by simpa using hi)

/-- A valid rhythm. -/
def rok (n : Int) (xs : List Int) : Bool := decide (1 ≤ n) && decide (n ≤ 24) && okList (n - 1) xs

structure Rok (n : Int) (xs : List Int) : Prop where
  lo : 1 ≤ n
  hi : n ≤ 24
  ge : ∀ x ∈ xs, 0 ≤ x
  lt : ∀ x ∈ xs, x < n
  inc : xs.Pairwise (· < ·)

theorem pairwise_of_adj {xs : List Int} (h : ∀ i, i + 1 < xs.length → xs.getD i 0 < xs.getD (i + 1) 0) : xs.Pairwise (· < ·) := by
  rw [List.pairwise_iff_getElem]
  intro i j hi hj hij
  obtain ⟨d, rfl⟩ : ∃ d, j = i + 1 + d := ⟨j - (i + 1), by omega⟩
  clear hij
  induction d with
  | zero =>
    have := h i hj
    simpa [List.getD_eq_getElem?_getD, List.getElem?_eq_getElem hi, List.getElem?_eq_getElem hj] using this
  | succ d ih =>
    have h1 := ih (by omega)
    have h2 := h (i + 1 + d) (by omega)
    have e1 : i + 1 + d < xs.length := by omega
    have e2 : i + 1 + d + 1 < xs.length := by omega
    simp only [List.getD_eq_getElem?_getD, List.getElem?_eq_getElem e1, List.getElem?_eq_getElem e2, Option.getD_some] at h2
    exact Int.lt_trans h1 h2

theorem rok_iff (n : Int) (xs : List Int) : rok n xs = true ↔ Rok n xs := by
  unfold rok
  constructor
  · intro h
    simp only [Bool.and_eq_true, decide_eq_true_eq] at h
    obtain ⟨⟨h1, h2⟩, h3⟩ := h
    have h4 := okList_to h3
    have h5 : ∀ i, i < xs.length → 0 ≤ xs.getD i 0 ∧ xs.getD i 0 < n ∧ (i ≠ 0 → xs.getD (i - 1) 0 < xs.getD i 0) := by
      intro i hi
      have := h4 i hi
      simp only [okAt, Bool.and_eq_true, Bool.or_eq_true, decide_eq_true_eq] at this
      exact ⟨this.1.1, by omega, fun e => by rcases this.2 with h | h; exact absurd h e; exact h⟩
    have mem : ∀ x ∈ xs, 0 ≤ x ∧ x < n := by
      intro x hx
      obtain ⟨i, hi, rfl⟩ := List.mem_iff_getElem.1 hx
      have := h5 i hi
      simp only [List.getD_eq_getElem?_getD, List.getElem?_eq_getElem hi, Option.getD_some] at this
      exact ⟨this.1, this.2.1⟩
    refine ⟨h1, h2, fun x hx => (mem x hx).1, fun x hx => (mem x hx).2, pairwise_of_adj fun i hi => ?_⟩
    have := (h5 (i + 1) hi).2.2 (by omega)
    simpa using this
  · intro ⟨h1, h2, h3, h4, h5⟩
    simp only [Bool.and_eq_true, decide_eq_true_eq]
    refine ⟨⟨h1, h2⟩, okList_of (k := xs.length) (fun i hi => ?_) (Nat.le_refl _)⟩
    have hm : xs[i] ∈ xs := List.getElem_mem hi
    have h6 := h3 _ hm
    have h7 := h4 _ hm
    simp only [okAt, List.getD_eq_getElem?_getD, List.getElem?_eq_getElem hi, Option.getD_some, Bool.and_eq_true, Bool.or_eq_true, decide_eq_true_eq]
    refine ⟨⟨h6, by omega⟩, ?_⟩
    by_cases e : i = 0
    · exact .inl e
    · right
      have hi' : i - 1 < xs.length := by omega
      simp only [List.getElem?_eq_getElem hi', Option.getD_some]
      exact (List.pairwise_iff_getElem.1 h5) (i - 1) i hi' hi (by omega)

theorem rok_big {n : Int} (xs : List Int) (h : ¬ (1 ≤ n ∧ n ≤ 24)) : rok n xs = false := by
  unfold rok
  by_cases h1 : 1 ≤ n
  · have h2 : ¬ n ≤ 24 := fun h2 => h ⟨h1, h2⟩
    simp [h2]
  · simp [h1]
theorem rok_small {n : Int} (xs : List Int) (h1 : 1 ≤ n) (h2 : n ≤ 24) : rok n xs = okList (n - 1) xs := by simp [rok, h1, h2]
end Go.Proofs.YtcgpmdfcdngnlaaDoor
