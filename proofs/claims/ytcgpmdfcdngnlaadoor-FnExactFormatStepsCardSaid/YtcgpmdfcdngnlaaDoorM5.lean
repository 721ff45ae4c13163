/-
  Plain facts: the steps of a rhythm.
  No program in sight.
-/
import Derived.Test.YtcgpmdfcdngnlaaDoorM4
set_option linter.unusedVariables false
set_option linter.unusedSimpArgs false
namespace Go.Proofs.YtcgpmdfcdngnlaaDoor

/-- The step behind beat i. -/
def stAt (n : Int) (xs : List Int) (i : Nat) : Int := if i + 1 < xs.length then xs.getD (i + 1) 0 - xs.getD i 0 else n + xs.getD 0 0 - xs.getD i 0
def stTo (n : Int) (xs : List Int) (k : Nat) : List Int := (List.range k).map (stAt n xs)
theorem stTo_succ (n : Int) (xs : List Int) (k : Nat) : stTo n xs (k + 1) = stTo n xs k ++ [stAt n xs k] := by simp [stTo, List.range_succ]
theorem stTo_len (n : Int) (xs : List Int) (k : Nat) : (stTo n xs k).length = k := by simp [stTo]
theorem stTo_get {n : Int} {xs : List Int} {k i : Nat} (h : i < k) : (stTo n xs k).getD i 0 = stAt n xs i := by
  simp [stTo, List.getD_eq_getElem?_getD, h]
theorem stAt_in {n : Int} {xs : List Int} {i : Nat} (h : i + 1 < xs.length) : stAt n xs i = xs.getD (i + 1) 0 - xs.getD i 0 := by simp [stAt, h]
theorem stAt_last {n : Int} {xs : List Int} {i : Nat} (h : ¬ i + 1 < xs.length) : stAt n xs i = n + xs.getD 0 0 - xs.getD i 0 := by simp [stAt, h]
theorem stAt_bd {n : Int} {xs : List Int} (h : Rok n xs) {i : Nat} (hi : i < xs.length) : 1 ≤ stAt n xs i ∧ stAt n xs i ≤ n := by
  by_cases hl : i + 1 < xs.length
  · rw [stAt_in hl]
    have h1 := h.mono (show i < i + 1 by omega) hl
    have h2 := h.at_ hl
    have h3 := h.at_ hi
    omega
  · rw [stAt_last hl]
    have h2 := h.at_ (show 0 < xs.length by omega)
    have h3 := h.at_ hi
    by_cases h0 : i = 0
    · subst h0; have := h.lo; omega
    · have := h.mono (show 0 < i by omega) hi
      omega
/-- The steps of a rhythm; none if it is not valid. -/
def lstStepsOf (n : Int) (xs : List Int) : List Int := if rok n xs = true then stTo n xs xs.length else []
theorem lstStepsOf_yes {n : Int} {x : List Int} (h : rok n x = true) : lstStepsOf n x = stTo n x x.length := by simp [lstStepsOf, h]
theorem lstStepsOf_no {n : Int} {x : List Int} (h : rok n x = false) : lstStepsOf n x = [] := by simp [lstStepsOf, h]
theorem lenStepsOf (n : Int) (x : List Int) : (lstStepsOf n x).length ≤ 24 := by
  cases h : rok n x with
  | false => rw [lstStepsOf_no h]; simp
  | true => rw [lstStepsOf_yes h, stTo_len]; exact ((rok_iff n x).1 h).len24
theorem lstStepsOf_bd {n : Int} {x : List Int} : ∀ y ∈ lstStepsOf n x, 1 ≤ y ∧ y ≤ 24 := by
  intro y hy
  cases h : rok n x with
  | false => rw [lstStepsOf_no h] at hy; cases hy
  | true =>
    rw [lstStepsOf_yes h] at hy
    have hR := (rok_iff n x).1 h
    unfold stTo at hy
    rw [List.mem_map] at hy
    obtain ⟨i, hi, rfl⟩ := hy
    rw [List.mem_range] at hi
    have := stAt_bd hR hi
    have := hR.hi
    omega

/-- How many of the first k numbers are greater than 1. -/
def restTo (l : List Int) (k : Nat) : Int := ((l.take k).filter fun s => decide (1 < s)).length
theorem restTo_yes {l : List Int} {k : Nat} (hk : k < l.length) (h : 1 < l.getD k 0) : restTo l (k + 1) = restTo l k + 1 := by
  unfold restTo
  rw [take_snoc hk, List.filter_append, List.filter_cons, if_pos (by simpa using h)]
  simp
theorem restTo_no {l : List Int} {k : Nat} (hk : k < l.length) (h : ¬ 1 < l.getD k 0) : restTo l (k + 1) = restTo l k := by
  unfold restTo
  rw [take_snoc hk, List.filter_append, List.filter_cons, if_neg (by simpa using h)]
  simp
theorem restTo_bd (l : List Int) (k : Nat) : 0 ≤ restTo l k ∧ restTo l k ≤ k := by
  unfold restTo
  have h1 := List.length_filter_le (fun s : Int => decide (1 < s)) (l.take k)
  have h2 : (l.take k).length ≤ k := List.length_take_le _ _
  omega
def valRestsOf (n : Int) (x : List Int) : Int := if rok n x = true then restTo (stTo n x x.length) x.length else -1
theorem valRestsOf_yes {n : Int} {x : List Int} (h : rok n x = true) : valRestsOf n x = restTo (stTo n x x.length) x.length := by simp [valRestsOf, h]
theorem valRestsOf_no {n : Int} {x : List Int} (h : rok n x = false) : valRestsOf n x = -1 := by simp [valRestsOf, h]
end Go.Proofs.YtcgpmdfcdngnlaaDoor
