/-
  Plain facts: the numbers of differences of a rhythm.
  No program in sight.
-/
import Derived.Test.YtopfenhphnmfkaaM5
set_option linter.unusedVariables false
set_option linter.unusedSimpArgs false
namespace Go.Proofs.Ytopfenhphnmfkaa

def incAt (l : List Int) (i : Nat) : List Int := l.set i (l.getD i 0 + 1)
theorem incAt_len (l : List Int) (i : Nat) : (incAt l i).length = l.length := by simp [incAt]
def Bd (B : Int) (l : List Int) : Prop := ∀ z ∈ l, 0 ≤ z ∧ z ≤ B
theorem Bd.get {B : Int} {l : List Int} (h : Bd B l) {i : Nat} (hi : i < l.length) : 0 ≤ l.getD i 0 ∧ l.getD i 0 ≤ B := h _ (getD_mem hi)
theorem Bd.inc {B : Int} {l : List Int} (h : Bd B l) (i : Nat) : Bd (B + 1) (incAt l i) := by
  intro z hz
  unfold incAt at hz
  by_cases hi : i < l.length
  · rcases List.mem_or_eq_of_mem_set hz with h1 | h1
    · have := h z h1; omega
    · have := h.get hi; omega
  · rw [List.set_eq_of_length_le (by omega)] at hz
    have := h z hz; omega
theorem Bd.zero (n : Nat) : Bd 0 (List.replicate n 0) := by
  intro z hz
  have := (List.mem_replicate.1 hz).2
  omega
theorem Bd.mono {B C : Int} {l : List Int} (h : Bd B l) (hc : B ≤ C) : Bd C l := fun z hz => by have := h z hz; omega

def difIn (n p : Int) (l : List Int) (qs : List Int) : List Int := qs.foldl (fun l q => incAt l (mo (p - q) n).toNat) l
theorem difIn_snoc (n p : Int) (l qs : List Int) (q : Int) : difIn n p l (qs ++ [q]) = incAt (difIn n p l qs) (mo (p - q) n).toNat := by simp [difIn]
theorem difIn_len (n p : Int) (l : List Int) (qs : List Int) : (difIn n p l qs).length = l.length := by
  induction qs generalizing l with
  | nil => rfl
  | cons q qs ih => unfold difIn at ih ⊢; rw [List.foldl_cons, ih, incAt_len]
theorem difIn_bd {n p B : Int} {l qs : List Int} (h : Bd B l) : Bd (B + qs.length) (difIn n p l qs) := by
  induction qs generalizing l B with
  | nil => simpa [difIn] using h
  | cons q qs ih =>
    have := ih (h.inc (mo (p - q) n).toNat)
    unfold difIn at this ⊢
    rw [List.foldl_cons]
    exact this.mono (by simp; omega)
def difOut (n : Int) (xs : List Int) (k : Nat) : List Int := (List.range k).foldl (fun l i => difIn n (xs.getD i 0) l xs) (List.replicate n.toNat 0)
theorem difOut_zero (n : Int) (xs : List Int) : difOut n xs 0 = List.replicate n.toNat 0 := rfl
theorem difOut_succ (n : Int) (xs : List Int) (k : Nat) : difOut n xs (k + 1) = difIn n (xs.getD k 0) (difOut n xs k) xs := by simp [difOut, List.range_succ]
theorem difOut_len (n : Int) (xs : List Int) (k : Nat) : (difOut n xs k).length = n.toNat := by
  induction k with
  | zero => simp [difOut]
  | succ k ih => rw [difOut_succ, difIn_len, ih]
theorem difOut_bd (n : Int) (xs : List Int) (k : Nat) : Bd ((k : Int) * xs.length) (difOut n xs k) := by
  induction k with
  | zero => simpa [difOut] using Bd.zero n.toNat
  | succ k ih =>
    rw [difOut_succ]
    have := difIn_bd (n := n) (p := xs.getD k 0) (qs := xs) ih
    exact this.mono (by rw [Int.natCast_add, Int.add_mul]; simp)
theorem dif_bd {n : Int} {xs : List Int} (h : xs.length ≤ 24) {k : Nat} (hk : k ≤ xs.length) (j : Nat) : Bd 1152 (difIn n (xs.getD k 0) (difOut n xs k) (xs.take j)) := by
  have h1 := difIn_bd (n := n) (p := xs.getD k 0) (qs := xs.take j) (difOut_bd n xs k)
  have h2 : (xs.take j).length ≤ xs.length := by rw [List.length_take]; omega
  refine h1.mono ?_
  have h3 : (k : Int) * (xs.length : Int) ≤ 24 * 24 := by
    calc (k : Int) * (xs.length : Int) ≤ 24 * (xs.length : Int) := Int.mul_le_mul_of_nonneg_right (by omega) (by omega)
      _ ≤ 24 * 24 := Int.mul_le_mul_of_nonneg_left (by omega) (by omega)
  omega
def lstDifferencesOf (n : Int) (x : List Int) : List Int := if rok n x = true then difOut n x x.length else []
theorem lstDifferencesOf_yes {n : Int} {x : List Int} (h : rok n x = true) : lstDifferencesOf n x = difOut n x x.length := by simp [lstDifferencesOf, h]
theorem lstDifferencesOf_no {n : Int} {x : List Int} (h : rok n x = false) : lstDifferencesOf n x = [] := by simp [lstDifferencesOf, h]
theorem lenDifferencesOf (n : Int) (x : List Int) : (lstDifferencesOf n x).length ≤ 24 := by
  cases h : rok n x with
  | false => rw [lstDifferencesOf_no h]; simp
  | true =>
    rw [lstDifferencesOf_yes h, difOut_len]
    have hR := (rok_iff n x).1 h
    have h1 := hR.lo
    have h2 := hR.hi
    omega
end Go.Proofs.Ytopfenhphnmfkaa
