/-
  Plain facts: a rhythm repeated; a rhythm out of its steps.
  No program in sight.
-/
import Derived.Test.YtopfenhphnmfkaaM5
set_option linter.unusedVariables false
set_option linter.unusedSimpArgs false
namespace Go.Proofs.Ytopfenhphnmfkaa

/-! ### repeated -/
def repIn (n : Int) (i : Nat) (l : List Int) : List Int := l.map fun p => (i : Int) * n + p
def repTo (n : Int) (x : List Int) : Nat → List Int
  | 0 => []
  | i + 1 => repTo n x i ++ repIn n i x
theorem repIn_snoc (n : Int) (i : Nat) (l : List Int) (p : Int) : repIn n i (l ++ [p]) = repIn n i l ++ [(i : Int) * n + p] := by simp [repIn]
theorem repIn_len (n : Int) (i : Nat) (l : List Int) : (repIn n i l).length = l.length := by simp [repIn]
theorem repTo_len (n : Int) (x : List Int) (i : Nat) : (repTo n x i).length = i * x.length := by
  induction i with
  | zero => simp [repTo]
  | succ i ih => rw [repTo, List.length_append, ih, repIn_len, Nat.succ_mul]
def okRepeatRhythm (n : Int) (x : List Int) (k : Int) : Bool := rok n x && decide (1 ≤ k) && decide (k ≤ 24) && decide (k * n ≤ 24)
def numRepeatRhythm (n : Int) (x : List Int) (k : Int) : Int := if okRepeatRhythm n x k = true then k * n else 0
def lstRepeatRhythm (n : Int) (x : List Int) (k : Int) : List Int := if okRepeatRhythm n x k = true then repTo n x k.toNat else []
theorem repeat_no {n : Int} {x : List Int} {k : Int} (h : okRepeatRhythm n x k = false) : numRepeatRhythm n x k = 0 ∧ lstRepeatRhythm n x k = [] := by simp [numRepeatRhythm, lstRepeatRhythm, h]
theorem repeat_yes {n : Int} {x : List Int} {k : Int} (h : okRepeatRhythm n x k = true) : numRepeatRhythm n x k = k * n ∧ lstRepeatRhythm n x k = repTo n x k.toNat := by simp [numRepeatRhythm, lstRepeatRhythm, h]
theorem okRepeat_of {n : Int} {x : List Int} {k : Int} (h : rok n x = true) (h1 : 1 ≤ k) (h2 : k * n ≤ 24) : okRepeatRhythm n x k = true := by
  have hR := (rok_iff n x).1 h
  have h3 : k ≤ k * n := by
    have := Int.mul_le_mul_of_nonneg_left (a := 1) (b := n) hR.lo (show 0 ≤ k by omega)
    omega
  simp only [okRepeatRhythm, h, Bool.true_and, Bool.and_eq_true, decide_eq_true_eq]
  exact ⟨⟨h1, by omega⟩, h2⟩
theorem okRepeat_no1 {n : Int} {x : List Int} {k : Int} (h : rok n x = false) : okRepeatRhythm n x k = false := by simp [okRepeatRhythm, h]
theorem okRepeat_no2 {n : Int} {x : List Int} {k : Int} (h : ¬ (1 ≤ k ∧ k ≤ 24)) : okRepeatRhythm n x k = false := by
  have : (decide (1 ≤ k) && decide (k ≤ 24)) = false := by simp; omega
  unfold okRepeatRhythm
  rw [Bool.and_assoc (rok n x), this]; simp
theorem okRepeat_no3 {n : Int} {x : List Int} {k : Int} (h : 24 < k * n) : okRepeatRhythm n x k = false := by
  have : decide (k * n ≤ 24) = false := by simp; omega
  simp [okRepeatRhythm, this]
/-- The program's test: k is at most 24 / n. -/
theorem quo_iff {n k : Int} (h : 1 ≤ n) : k ≤ 24 / n ↔ k * n ≤ 24 := by
  constructor
  · intro h1
    have h2 : k * n ≤ (24 / n) * n := Int.mul_le_mul_of_nonneg_right h1 (by omega)
    have h3 := Int.ediv_mul_le 24 (show n ≠ 0 by omega)
    omega
  · intro h1
    exact (Int.le_ediv_iff_mul_le (by omega)).2 h1
theorem lenRepeatRhythm (n : Int) (x : List Int) (k : Int) : (lstRepeatRhythm n x k).length ≤ 576 := by
  cases h : okRepeatRhythm n x k with
  | false => rw [(repeat_no h).2]; simp
  | true =>
    rw [(repeat_yes h).2, repTo_len]
    simp only [okRepeatRhythm, Bool.and_eq_true, decide_eq_true_eq] at h
    have h1 := ((rok_iff n x).1 h.1.1.1).len24
    have h2 : k.toNat ≤ 24 := by omega
    calc k.toNat * x.length ≤ 24 * x.length := Nat.mul_le_mul_right _ h2
      _ ≤ 24 * 24 := Nat.mul_le_mul_left _ h1

/-! ### out of steps -/
def sumTo (xs : List Int) (k : Nat) : Int := (xs.take k).foldl (· + ·) 0
theorem sumTo_zero (xs : List Int) : sumTo xs 0 = 0 := rfl
theorem sumTo_succ {xs : List Int} {k : Nat} (h : k < xs.length) : sumTo xs (k + 1) = sumTo xs k + xs.getD k 0 := by
  unfold sumTo; rw [take_snoc h, List.foldl_append]; rfl
def In24 (s : Int) : Bool := decide (1 ≤ s) && decide (s ≤ 24)
def inTo (xs : List Int) (k : Nat) : Prop := ∀ i, i < k → i < xs.length → In24 (xs.getD i 0) = true
theorem inTo.zero (xs : List Int) : inTo xs 0 := fun _ h => absurd h (Nat.not_lt_zero _)
theorem inTo.succ {xs : List Int} {k : Nat} (h : inTo xs k) (hk : In24 (xs.getD k 0) = true) : inTo xs (k + 1) := by
  intro i hi hl
  by_cases e : i = k
  · subst e; exact hk
  · exact h i (by omega) hl
theorem in24_bd {s : Int} (h : In24 s = true) : 1 ≤ s ∧ s ≤ 24 := by simpa [In24] using h
theorem sumTo_bd {xs : List Int} {k : Nat} (h : inTo xs k) (hk : k ≤ xs.length) : (k : Int) ≤ sumTo xs k ∧ sumTo xs k ≤ 24 * (k : Int) := by
  induction k with
  | zero => simp [sumTo]
  | succ k ih =>
    have h1 := ih (fun i hi hl => h i (by omega) hl) (by omega)
    have h2 := in24_bd (h k (by omega) (by omega))
    rw [sumTo_succ (by omega)]; omega
theorem sumTo_mono {xs : List Int} (h : inTo xs xs.length) {i j : Nat} (hij : i ≤ j) (hj : j ≤ xs.length) : sumTo xs i + ((j : Int) - i) ≤ sumTo xs j := by
  induction j with
  | zero => obtain rfl : i = 0 := by omega
            simp
  | succ j ih =>
    by_cases e : i = j + 1
    · subst e; simp
    · have h1 := ih (by omega) (by omega)
      have h2 := in24_bd (h j (by omega) (by omega))
      rw [sumTo_succ (by omega)]; omega
/-- The beats: the first one, and one behind each step. -/
def frTo (xs : List Int) (first : Int) (k : Nat) : List Int := (List.range k).map fun i => first + sumTo xs i
theorem frTo_succ (xs : List Int) (first : Int) (k : Nat) : frTo xs first (k + 1) = frTo xs first k ++ [first + sumTo xs k] := by simp [frTo, List.range_succ]
theorem frTo_len (xs : List Int) (first : Int) (k : Nat) : (frTo xs first k).length = k := by simp [frTo]
end Go.Proofs.Ytopfenhphnmfkaa
