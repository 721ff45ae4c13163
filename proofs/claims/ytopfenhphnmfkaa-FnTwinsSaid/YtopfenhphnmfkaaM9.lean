/-
  Plain facts: a span of steps; the other beats of a rhythm.
  No program in sight.
-/
import Derived.Test.YtopfenhphnmfkaaM5
set_option linter.unusedVariables false
set_option linter.unusedSimpArgs false
namespace Go.Proofs.Ytopfenhphnmfkaa

/-! ### a span -/
def spanTo (l : List Int) (i : Nat) (k : Nat) : Int := ((List.range k).map fun j => l.getD ((i + j) % l.length) 0).foldl (· + ·) 0
theorem spanTo_zero (l : List Int) (i : Nat) : spanTo l i 0 = 0 := rfl
theorem spanTo_succ (l : List Int) (i k : Nat) : spanTo l i (k + 1) = spanTo l i k + l.getD ((i + k) % l.length) 0 := by
  simp [spanTo, List.range_succ, List.foldl_append]
theorem spanTo_bd {l : List Int} (h : ∀ y ∈ l, 1 ≤ y ∧ y ≤ 24) (h0 : 0 < l.length) (i k : Nat) : 0 ≤ spanTo l i k ∧ spanTo l i k ≤ 24 * (k : Int) := by
  induction k with
  | zero => simp [spanTo]
  | succ k ih =>
    have := h _ (getD_mem (xs := l) (k := (i + k) % l.length) (Nat.mod_lt _ h0))
    rw [spanTo_succ]; omega
def okSpan (l : List Int) (i k : Int) : Bool := (decide (0 ≤ i) && decide (i ≤ (l.length : Int) - 1)) && (decide (0 ≤ k) && decide (k ≤ (l.length : Int)))
def valSpanOf (n : Int) (x : List Int) (i k : Int) : Int := if okSpan (lstStepsOf n x) i k = true then spanTo (lstStepsOf n x) i.toNat k.toNat else 0

/-! ### the other beats -/
def othTo (list : List Int) (k : Nat) : List Int := ((List.range k).map fun (p : Nat) => (p : Int)).filter fun p => !hasL list p
theorem othTo_zero (list : List Int) : othTo list 0 = [] := rfl
theorem othTo_yes {list : List Int} {k : Nat} (h : hasL list (k : Int) = false) : othTo list (k + 1) = othTo list k ++ [(k : Int)] := by
  simp [othTo, List.range_succ, List.filter_append, h]
theorem othTo_no {list : List Int} {k : Nat} (h : hasL list (k : Int) = true) : othTo list (k + 1) = othTo list k := by
  simp [othTo, List.range_succ, List.filter_append, h]
theorem othTo_len (list : List Int) (k : Nat) : (othTo list k).length ≤ k := by
  unfold othTo
  exact Nat.le_trans (List.length_filter_le _ _) (by simp)
def okOtherRhythm (n : Int) (x : List Int) : Bool := rok n x
def numOtherRhythm (n : Int) (x : List Int) : Int := if rok n x = true then n else 0
def lstOtherRhythm (n : Int) (x : List Int) : List Int := if rok n x = true then othTo x n.toNat else []
theorem other_no {n : Int} {x : List Int} (h : rok n x = false) : numOtherRhythm n x = 0 ∧ lstOtherRhythm n x = [] ∧ okOtherRhythm n x = false := by simp [numOtherRhythm, lstOtherRhythm, okOtherRhythm, h]
theorem other_yes {n : Int} {x : List Int} (h : rok n x = true) : numOtherRhythm n x = n ∧ lstOtherRhythm n x = othTo x n.toNat ∧ okOtherRhythm n x = true := by simp [numOtherRhythm, lstOtherRhythm, okOtherRhythm, h]
theorem lenOtherRhythm (n : Int) (x : List Int) : (lstOtherRhythm n x).length ≤ 24 := by
  cases h : rok n x with
  | false => rw [(other_no h).2.1]; simp
  | true =>
    rw [(other_yes h).2.1]
    have := othTo_len x n.toNat
    have := ((rok_iff n x).1 h).hi
    omega
theorem numOtherRhythm_le (n : Int) (x : List Int) : 0 ≤ numOtherRhythm n x ∧ numOtherRhythm n x ≤ 24 := by
  cases h : rok n x with
  | false => rw [(other_no h).1]; omega
  | true =>
    rw [(other_yes h).1]
    have := (rok_iff n x).1 h
    have h1 := this.hi
    have h2 := this.lo
    omega
end Go.Proofs.Ytopfenhphnmfkaa
