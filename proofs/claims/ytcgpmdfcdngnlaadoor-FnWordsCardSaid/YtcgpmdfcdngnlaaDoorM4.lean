/-
  Plain facts: the sorted list of the members of a list; the evenly spread beats.
  No program in sight.
-/
import Derived.Test.YtcgpmdfcdngnlaaDoorM3
set_option linter.unusedVariables false
set_option linter.unusedSimpArgs false
namespace Go.Proofs.YtcgpmdfcdngnlaaDoor

/-- Two increasing lists with the same members are one. -/
theorem sorted_ext : ∀ {xs ys : List Int}, xs.Pairwise (· < ·) → ys.Pairwise (· < ·) → (∀ z, z ∈ xs ↔ z ∈ ys) → xs = ys
  | [], [], _, _, _ => rfl
  | [], y :: ys, _, _, h => by have := (h y).2 (List.mem_cons_self ..); cases this
  | x :: xs, [], _, _, h => by have := (h x).1 (List.mem_cons_self ..); cases this
  | x :: xs, y :: ys, hx, hy, h => by
    have hx' := List.pairwise_cons.1 hx
    have hy' := List.pairwise_cons.1 hy
    have e : x = y := by
      rcases List.mem_cons.1 ((h x).1 (List.mem_cons_self ..)) with e | e
      · exact e
      · rcases List.mem_cons.1 ((h y).2 (List.mem_cons_self ..)) with e' | e'
        · exact e'.symm
        · have h1 := hy'.1 _ e
          have h2 := hx'.1 _ e'
          omega
    subst e
    congr 1
    refine sorted_ext hx'.2 hy'.2 fun z => ⟨fun hz => ?_, fun hz => ?_⟩
    · rcases List.mem_cons.1 ((h z).1 (List.mem_cons_of_mem _ hz)) with e | e
      · have := hx'.1 _ hz; omega
      · exact e
    · rcases List.mem_cons.1 ((h z).2 (List.mem_cons_of_mem _ hz)) with e | e
      · have := hy'.1 _ hz; omega
      · exact e

/-- The numbers below k, in order, that are in the list. -/
def ofTo (list : List Int) (k : Nat) : List Int := ((List.range k).map fun (p : Nat) => (p : Int)).filter (hasL list)
theorem ofTo_zero (list : List Int) : ofTo list 0 = [] := rfl
theorem ofTo_yes {list : List Int} {k : Nat} (h : hasL list (k : Int) = true) : ofTo list (k + 1) = ofTo list k ++ [(k : Int)] := by
  simp [ofTo, List.range_succ, List.filter_append, h]
theorem ofTo_no {list : List Int} {k : Nat} (h : hasL list (k : Int) = false) : ofTo list (k + 1) = ofTo list k := by
  simp [ofTo, List.range_succ, List.filter_append, h]
theorem ofTo_len (list : List Int) (k : Nat) : (ofTo list k).length ≤ k := by
  unfold ofTo
  exact Nat.le_trans (List.length_filter_le _ _) (by simp)
theorem mem_ofTo {list : List Int} {k : Nat} {z : Int} : z ∈ ofTo list k ↔ z ∈ list ∧ 0 ≤ z ∧ z < k := by
  unfold ofTo
  rw [List.mem_filter, List.mem_map]
  constructor
  · rintro ⟨⟨p, hp, rfl⟩, hz⟩
    rw [List.mem_range] at hp
    exact ⟨by simpa [hasL] using hz, by omega, by omega⟩
  · rintro ⟨hz, h0, hk⟩
    refine ⟨⟨z.toNat, List.mem_range.2 (by omega), by omega⟩, by simpa [hasL] using hz⟩
theorem ofTo_sorted (list : List Int) (k : Nat) : (ofTo list k).Pairwise (· < ·) := by
  unfold ofTo
  refine List.Pairwise.filter _ ?_
  rw [List.pairwise_map]
  exact (List.pairwise_lt_range).imp fun h => by omega
theorem ofTo_id {list : List Int} {k : Nat} (hs : list.Pairwise (· < ·)) (hb : ∀ z ∈ list, 0 ≤ z ∧ z < k) : ofTo list k = list :=
  sorted_ext (ofTo_sorted _ _) hs fun z => by rw [mem_ofTo]; exact ⟨fun h => h.1, fun h => ⟨h, hb z h⟩⟩
theorem ofTo_congr {a b : List Int} {k : Nat} (h : ∀ z : Int, 0 ≤ z → z < k → (z ∈ a ↔ z ∈ b)) : ofTo a k = ofTo b k :=
  sorted_ext (ofTo_sorted _ _) (ofTo_sorted _ _) fun z => by
    rw [mem_ofTo, mem_ofTo]
    exact ⟨fun ⟨h1, h2, h3⟩ => ⟨(h z h2 h3).1 h1, h2, h3⟩, fun ⟨h1, h2, h3⟩ => ⟨(h z h2 h3).2 h1, h2, h3⟩⟩
theorem ofTo_rok {list : List Int} {n : Int} (h1 : 1 ≤ n) (h2 : n ≤ 24) : Rok n (ofTo list n.toNat) :=
  ⟨h1, h2, fun x hx => (mem_ofTo.1 hx).2.1, fun x hx => by have := (mem_ofTo.1 hx).2.2; omega, ofTo_sorted _ _⟩

/-! ### even rhythms -/
def evAt (k n m : Int) (i : Nat) : Int := ((i : Int) * n + m) / k
def evTo (k n m : Int) (i : Nat) : List Int := (List.range i).map (evAt k n m)
theorem evTo_succ (k n m : Int) (i : Nat) : evTo k n m (i + 1) = evTo k n m i ++ [evAt k n m i] := by simp [evTo, List.range_succ]
theorem evTo_len (k n m : Int) (i : Nat) : (evTo k n m i).length = i := by simp [evTo]
theorem ev_prod {n : Int} {i : Nat} (h : 0 ≤ n) (hn : n ≤ 24) (hi : i ≤ 24) : 0 ≤ (i : Int) * n ∧ (i : Int) * n ≤ 576 := by
  refine ⟨Int.mul_nonneg (by omega) h, ?_⟩
  calc (i : Int) * n ≤ 24 * n := Int.mul_le_mul_of_nonneg_right (by omega) h
    _ ≤ 24 * 24 := Int.mul_le_mul_of_nonneg_left hn (by omega)
    _ = 576 := by omega
theorem evAt_bd {k n m : Int} {i : Nat} (hk : (i : Int) < k) (hkn : k ≤ n) (hm : 0 ≤ m) (hmn : m < n) : 0 ≤ evAt k n m i ∧ evAt k n m i < n := by
  have h0 : 0 ≤ (i : Int) * n := Int.mul_nonneg (by omega) (by omega)
  refine ⟨Int.ediv_nonneg (by omega) (by omega), ?_⟩
  refine Int.ediv_lt_of_lt_mul (by omega) ?_
  have : (i : Int) * n + n ≤ n * k := by
    have h1 : ((i : Int) + 1) * n ≤ k * n := Int.mul_le_mul_of_nonneg_right (by omega) (by omega)
    rw [Int.add_mul, Int.one_mul, Int.mul_comm k n] at h1
    exact h1
  omega
theorem evAt_lt {k n m : Int} {i : Nat} (hk : 1 ≤ k) (hkn : k ≤ n) : evAt k n m i < evAt k n m (i + 1) := by
  unfold evAt
  have h1 : (((i + 1 : Nat) : Int) * n + m) = ((i : Int) * n + m) + n := by
    rw [Int.natCast_add, Int.add_mul]; simp; omega
  rw [h1]
  have h2 : ((i : Int) * n + m) + k ≤ ((i : Int) * n + m) + n := by omega
  have h3 : (((i : Int) * n + m) + k) / k ≤ (((i : Int) * n + m) + n) / k := Int.ediv_le_ediv (by omega) h2
  have h4 : (((i : Int) * n + m) + k) / k = ((i : Int) * n + m) / k + 1 := by
    have := Int.add_mul_ediv_right ((i : Int) * n + m) 1 (show k ≠ 0 by omega)
    simpa using this
  omega
theorem evTo_sorted {k n m : Int} (hk : 1 ≤ k) (hkn : k ≤ n) (i : Nat) : (evTo k n m i).Pairwise (· < ·) := by
  unfold evTo
  rw [List.pairwise_map]
  refine (List.pairwise_lt_range).imp fun {a b} h => ?_
  obtain ⟨d, rfl⟩ : ∃ d, b = a + 1 + d := ⟨b - (a + 1), by omega⟩
  clear h
  induction d with
  | zero => exact evAt_lt hk hkn
  | succ d ih => exact Int.lt_trans ih (evAt_lt (i := a + 1 + d) hk hkn)
/-- The reference's way comes to the same list. -/
theorem evTo_of {k n m : Int} (hk : 0 ≤ k) (hkn : k ≤ n) (hm : 0 ≤ m) (hmn : m < n) : ofTo (evTo k n m k.toNat) n.toNat = evTo k n m k.toNat := by
  by_cases h0 : k = 0
  · subst h0
    apply sorted_ext (ofTo_sorted _ _)
    · simp [evTo]
    · intro z; rw [mem_ofTo]; simp [evTo]
  · refine ofTo_id (evTo_sorted (by omega) hkn _) fun z hz => ?_
    unfold evTo at hz
    rw [List.mem_map] at hz
    obtain ⟨i, hi, rfl⟩ := hz
    rw [List.mem_range] at hi
    have := evAt_bd (k := k) (n := n) (m := m) (i := i) (by omega) hkn hm hmn
    omega

def okShiftedEven (k n m : Int) : Bool := decide (1 ≤ n) && decide (n ≤ 24) && decide (0 ≤ k) && decide (k ≤ n) && decide (0 ≤ m) && decide (m ≤ n - 1) && !(decide (k = 0) && decide (0 < m))
def numShiftedEven (k n m : Int) : Int := if okShiftedEven k n m = true then n else 0
def lstShiftedEven (k n m : Int) : List Int := if okShiftedEven k n m = true then evTo k n m k.toNat else []
theorem lenShiftedEven (k n m : Int) : (lstShiftedEven k n m).length ≤ 24 := by
  unfold lstShiftedEven
  split
  · rename_i h
    simp only [okShiftedEven, Bool.and_eq_true, decide_eq_true_eq] at h
    rw [evTo_len]; omega
  · simp
theorem okShiftedEven_yes {k n m : Int} (h1 : 1 ≤ n) (h2 : n ≤ 24) (h3 : 0 ≤ k) (h4 : k ≤ n) (h5 : 0 ≤ m) (h6 : m < n) (h7 : k ≠ 0 ∨ m = 0) : okShiftedEven k n m = true := by
  have e : (decide (k = 0) && decide (0 < m)) = false := by
    rcases h7 with h | h
    · simp [h]
    · simp [h]
  simp only [okShiftedEven, e, Bool.and_eq_true, decide_eq_true_eq]
  exact ⟨⟨⟨⟨⟨⟨h1, h2⟩, h3⟩, h4⟩, h5⟩, by omega⟩, rfl⟩
theorem okShiftedEven_no {k n m : Int} (h : ¬ (1 ≤ n ∧ n ≤ 24 ∧ 0 ≤ k ∧ k ≤ n ∧ 0 ≤ m ∧ m < n ∧ (k ≠ 0 ∨ m = 0))) : okShiftedEven k n m = false := by
  rw [← Bool.not_eq_true]
  intro h'
  apply h
  simp only [okShiftedEven, Bool.and_eq_true, decide_eq_true_eq, Bool.not_eq_true', Bool.and_eq_false_iff, decide_eq_false_iff_not] at h'
  obtain ⟨⟨⟨⟨⟨⟨h1, h2⟩, h3⟩, h4⟩, h5⟩, h6⟩, h7⟩ := h'
  exact ⟨h1, h2, h3, h4, h5, by omega, by omega⟩
end Go.Proofs.YtcgpmdfcdngnlaaDoor
