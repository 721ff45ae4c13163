/-
  Plain facts: the spread of a rhythm, its steps.
  No program in sight.
-/
import Derived.Test.YtcgpmdfcdngnlaaDoorM2
set_option linter.unusedVariables false
set_option linter.unusedSimpArgs false
namespace Go.Proofs.YtcgpmdfcdngnlaaDoor

theorem take_snoc {xs : List Int} {k : Nat} (h : k < xs.length) : xs.take (k + 1) = xs.take k ++ [xs.getD k 0] := by
  rw [List.take_succ_eq_append_getElem h, List.getD_eq_getElem?_getD, List.getElem?_eq_getElem h]; rfl
theorem getD_mem {xs : List Int} {k : Nat} (h : k < xs.length) : xs.getD k 0 ∈ xs := by
  rw [List.getD_eq_getElem?_getD, List.getElem?_eq_getElem h]; exact List.getElem_mem h
theorem getD_get {xs : List Int} {k : Nat} (h : k < xs.length) : xs.getD k 0 = xs[k] := by
  rw [List.getD_eq_getElem?_getD, List.getElem?_eq_getElem h]; rfl
theorem Rok.at_ {n : Int} {xs : List Int} (h : Rok n xs) {k : Nat} (hk : k < xs.length) : 0 ≤ xs.getD k 0 ∧ xs.getD k 0 < n := ⟨h.ge _ (getD_mem hk), h.lt _ (getD_mem hk)⟩
theorem Rok.mono {n : Int} {xs : List Int} (h : Rok n xs) {i j : Nat} (hij : i < j) (hj : j < xs.length) : xs.getD i 0 < xs.getD j 0 := by
  rw [getD_get hj, getD_get (show i < xs.length by omega)]
  exact List.pairwise_iff_getElem.1 h.inc i j (by omega) hj hij
theorem Rok.bound {n : Int} {xs : List Int} (h : Rok n xs) {k : Nat} (hk : k < xs.length) : (k : Int) ≤ xs.getD k 0 := by
  induction k with
  | zero => have := (h.at_ hk).1; simpa using this
  | succ k ih =>
    have h1 := ih (by omega)
    have h2 := h.mono (show k < k + 1 by omega) hk
    omega
theorem Rok.len {n : Int} {xs : List Int} (h : Rok n xs) : (xs.length : Int) ≤ n := by
  by_cases h0 : xs.length = 0
  · have := h.lo; omega
  · have h1 := h.bound (show xs.length - 1 < xs.length by omega)
    have h2 := (h.at_ (show xs.length - 1 < xs.length by omega)).2
    omega
theorem Rok.len24 {n : Int} {xs : List Int} (h : Rok n xs) : xs.length ≤ 24 := by have h1 := h.len; have h2 := h.hi; omega

/-! ### the spread -/
def spIn (n p s : Int) (l : List Int) : Int := l.foldl (fun s q => s + (p - q) * (n + q - p)) s
theorem spIn_snoc (n p s : Int) (l : List Int) (q : Int) : spIn n p s (l ++ [q]) = spIn n p s l + (p - q) * (n + q - p) := by simp [spIn]
def spOut (n : Int) (xs : List Int) (i : Nat) : Int := (List.range i).foldl (fun s i => spIn n (xs.getD i 0) s (xs.take i)) 0
theorem spOut_zero (n : Int) (xs : List Int) : spOut n xs 0 = 0 := rfl
theorem spOut_succ (n : Int) (xs : List Int) (i : Nat) : spOut n xs (i + 1) = spIn n (xs.getD i 0) (spOut n xs i) (xs.take i) := by simp [spOut, List.range_succ]
theorem sp_prod {n p q : Int} (hn : 1 ≤ n) (hn' : n ≤ 24) (hp : 0 ≤ p) (hp' : p < n) (hq : 0 ≤ q) (hq' : q < p) : 0 ≤ (p - q) * (n + q - p) ∧ (p - q) * (n + q - p) ≤ 576 := by
  have h1 : 0 ≤ p - q := by omega
  have h2 : 0 ≤ n + q - p := by omega
  refine ⟨Int.mul_nonneg h1 h2, ?_⟩
  calc (p - q) * (n + q - p) ≤ 24 * (n + q - p) := Int.mul_le_mul_of_nonneg_right (by omega) h2
    _ ≤ 24 * 24 := Int.mul_le_mul_of_nonneg_left (by omega) (by omega)
    _ = 576 := by omega
theorem spIn_bd {n p s : Int} {xs : List Int} (h : Rok n xs) {i : Nat} (hi : i < xs.length) (hp : p = xs.getD i 0) {j : Nat} (hj : j ≤ i) :
    s ≤ spIn n p s (xs.take j) ∧ spIn n p s (xs.take j) ≤ s + 576 * (j : Int) := by
  induction j with
  | zero => simp [spIn]
  | succ j ih =>
    have h1 := ih (by omega)
    rw [take_snoc (show j < xs.length by omega), spIn_snoc]
    have h2 := h.at_ (show j < xs.length by omega)
    have h3 := h.at_ hi
    have h4 := h.mono (show j < i by omega) hi
    have := sp_prod (n := n) (p := p) (q := xs.getD j 0) h.lo h.hi (by rw [hp]; exact h3.1) (by rw [hp]; exact h3.2) h2.1 (by rw [hp]; exact h4)
    omega
theorem spOut_bd {n : Int} {xs : List Int} (h : Rok n xs) {i : Nat} (hi : i ≤ xs.length) : 0 ≤ spOut n xs i ∧ spOut n xs i ≤ 13824 * (i : Int) := by
  induction i with
  | zero => simp [spOut]
  | succ i ih =>
    have h1 := ih (by omega)
    rw [spOut_succ]
    have h2 := spIn_bd (s := spOut n xs i) h (show i < xs.length by omega) rfl (Nat.le_refl i)
    have h3 := h.len24
    omega
def valSpreadOf (n : Int) (xs : List Int) : Int := if rok n xs = true then spOut n xs xs.length else -1
theorem valSpreadOf_yes {n : Int} {x : List Int} (h : rok n x = true) : valSpreadOf n x = spOut n x x.length := by simp [valSpreadOf, h]
theorem valSpreadOf_no {n : Int} {x : List Int} (h : rok n x = false) : valSpreadOf n x = -1 := by simp [valSpreadOf, h]
end Go.Proofs.YtcgpmdfcdngnlaaDoor
