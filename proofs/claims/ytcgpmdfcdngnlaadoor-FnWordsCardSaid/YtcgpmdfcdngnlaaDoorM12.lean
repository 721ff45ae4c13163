/-
  Plain facts: what the functions on rotations and mirrors return.
  No program in sight.
-/
import Derived.Test.YtcgpmdfcdngnlaaDoorM11
set_option linter.unusedVariables false
set_option linter.unusedSimpArgs false
namespace Go.Proofs.YtcgpmdfcdngnlaaDoor

/-! ### mirror and rotation -/
def okMirrorRhythm (n : Int) (x : List Int) : Bool := rok n x
def numMirrorRhythm (n : Int) (x : List Int) : Int := if rok n x = true then n else 0
def lstMirrorRhythm (n : Int) (x : List Int) : List Int := if rok n x = true then mapV n x (-1) 0 else []
theorem mirror_no {n : Int} {x : List Int} (h : rok n x = false) : numMirrorRhythm n x = 0 ∧ lstMirrorRhythm n x = [] ∧ okMirrorRhythm n x = false := by simp [numMirrorRhythm, lstMirrorRhythm, okMirrorRhythm, h]
theorem mirror_yes {n : Int} {x : List Int} (h : rok n x = true) : numMirrorRhythm n x = n ∧ lstMirrorRhythm n x = mapV n x (-1) 0 ∧ okMirrorRhythm n x = true := by simp [numMirrorRhythm, lstMirrorRhythm, okMirrorRhythm, h]
theorem lenMirrorRhythm (n : Int) (x : List Int) : (lstMirrorRhythm n x).length ≤ 24 := by
  cases h : rok n x with
  | false => rw [(mirror_no h).2.1]; simp
  | true => rw [(mirror_yes h).2.1]; exact mapV_len ((rok_iff n x).1 h).hi _ _ _

def inK (k : Int) : Bool := decide (-1000 ≤ k) && decide (k ≤ 1000)
def okRotateRhythm (n : Int) (x : List Int) (k : Int) : Bool := rok n x && inK k
def numRotateRhythm (n : Int) (x : List Int) (k : Int) : Int := if okRotateRhythm n x k = true then n else 0
def lstRotateRhythm (n : Int) (x : List Int) (k : Int) : List Int := if okRotateRhythm n x k = true then mapV n x 1 k else []
theorem rotate_no {n : Int} {x : List Int} {k : Int} (h : okRotateRhythm n x k = false) : numRotateRhythm n x k = 0 ∧ lstRotateRhythm n x k = [] ∧ okRotateRhythm n x k = false := by simp [numRotateRhythm, lstRotateRhythm, h]
theorem rotate_yes {n : Int} {x : List Int} {k : Int} (h : okRotateRhythm n x k = true) : numRotateRhythm n x k = n ∧ lstRotateRhythm n x k = mapV n x 1 k ∧ okRotateRhythm n x k = true := by simp [numRotateRhythm, lstRotateRhythm, h]
theorem rotate_no1 {n : Int} {x : List Int} (k : Int) (h : rok n x = false) : okRotateRhythm n x k = false := by simp [okRotateRhythm, h]
theorem rotate_no2 (n : Int) (x : List Int) {k : Int} (h : inK k = false) : okRotateRhythm n x k = false := by simp [okRotateRhythm, h]
theorem rotate_yes2 {n : Int} {x : List Int} {k : Int} (h : rok n x = true) (h' : inK k = true) : okRotateRhythm n x k = true := by simp [okRotateRhythm, h, h']
theorem inK_iff {k : Int} : inK k = true ↔ -1000 ≤ k ∧ k ≤ 1000 := by simp [inK]
theorem lenRotateRhythm (n : Int) (x : List Int) (k : Int) : (lstRotateRhythm n x k).length ≤ 24 := by
  cases h : okRotateRhythm n x k with
  | false => rw [(rotate_no h).2.1]; simp
  | true =>
    rw [(rotate_yes h).2.1]
    simp only [okRotateRhythm, Bool.and_eq_true] at h
    exact mapV_len ((rok_iff n x).1 h.1).hi _ _ _

/-! ### stretching -/
def gcdI (a b : Int) : Int := ((Nat.gcd a.toNat b.toNat : Nat) : Int)
def inU (u n : Int) : Bool := decide (1 ≤ u) && decide (u ≤ max (n - 1) 1)
def unitB (u n : Int) : Bool := inU u n && decide (gcdI u n = 1)
def okStretchRhythm (n : Int) (x : List Int) (u : Int) : Bool := rok n x && unitB u n
def numStretchRhythm (n : Int) (x : List Int) (u : Int) : Int := if okStretchRhythm n x u = true then n else 0
def lstStretchRhythm (n : Int) (x : List Int) (u : Int) : List Int := if okStretchRhythm n x u = true then mapV n x u 0 else []
theorem stretch_no {n : Int} {x : List Int} {u : Int} (h : okStretchRhythm n x u = false) : numStretchRhythm n x u = 0 ∧ lstStretchRhythm n x u = [] ∧ okStretchRhythm n x u = false := by simp [numStretchRhythm, lstStretchRhythm, h]
theorem stretch_yes {n : Int} {x : List Int} {u : Int} (h : okStretchRhythm n x u = true) : numStretchRhythm n x u = n ∧ lstStretchRhythm n x u = mapV n x u 0 ∧ okStretchRhythm n x u = true := by simp [numStretchRhythm, lstStretchRhythm, h]
theorem stretch_no1 {n : Int} {x : List Int} (u : Int) (h : rok n x = false) : okStretchRhythm n x u = false := by simp [okStretchRhythm, h]
theorem stretch_no2 {n : Int} (x : List Int) {u : Int} (h : unitB u n = false) : okStretchRhythm n x u = false := by simp [okStretchRhythm, h]
theorem stretch_yes2 {n : Int} {x : List Int} {u : Int} (h : rok n x = true) (h' : unitB u n = true) : okStretchRhythm n x u = true := by simp [okStretchRhythm, h, h']
theorem unitB_no {u n : Int} (h : inU u n = false) : unitB u n = false := by simp [unitB, h]
theorem unitB_yes {u n : Int} (h : inU u n = true) : unitB u n = (gcdI u n == 1) := by
  simp only [unitB, h, Bool.true_and]
  by_cases e : gcdI u n = 1 <;> simp [e]
theorem inU_bd {u n : Int} (h : inU u n = true) (h1 : 1 ≤ n) (h2 : n ≤ 24) : 1 ≤ u ∧ u ≤ 24 := by
  simp only [inU, Bool.and_eq_true, decide_eq_true_eq] at h
  obtain ⟨a, b⟩ := h
  omega
theorem unitB_inU {u n : Int} (h : unitB u n = true) : inU u n = true := by
  simp only [unitB, Bool.and_eq_true] at h; exact h.1
theorem lenStretchRhythm (n : Int) (x : List Int) (u : Int) : (lstStretchRhythm n x u).length ≤ 24 := by
  cases h : okStretchRhythm n x u with
  | false => rw [(stretch_no h).2.1]; simp
  | true =>
    rw [(stretch_yes h).2.1]
    simp only [okStretchRhythm, Bool.and_eq_true] at h
    exact mapV_len ((rok_iff n x).1 h.1).hi _ _ _

/-! ### the period -/
def perGo (n : Int) (x : List Int) : Nat → Int → Int
  | 0, k => k
  | f + 1, k => if eqL (mapV n x 1 k) x = true then k else perGo n x f (k + 1)
def per (n : Int) (x : List Int) : Int := perGo n x (n - 1).toNat 1
theorem perGo_yes {n : Int} {x : List Int} {f : Nat} {k : Int} (h : eqL (mapV n x 1 k) x = true) : perGo n x f k = k := by
  cases f with
  | zero => rfl
  | succ f => simp [perGo, h]
theorem perGo_no {n : Int} {x : List Int} {k : Int} (hk : k < n) (h : eqL (mapV n x 1 k) x = false) : perGo n x (n - k).toNat k = perGo n x (n - (k + 1)).toNat (k + 1) := by
  have e : (n - k).toNat = (n - (k + 1)).toNat + 1 := by omega
  rw [e]
  simp [perGo, h]
theorem per_full {n : Int} {x : List Int} (hR : Rok n x) : eqL (mapV n x 1 n) x = true := by rw [mapV_full hR]; exact eqL_self x
theorem perGo_bd (n : Int) (x : List Int) (f : Nat) (k : Int) : k ≤ perGo n x f k ∧ perGo n x f k ≤ k + f := by
  induction f generalizing k with
  | zero => simp [perGo]
  | succ f ih =>
    unfold perGo
    split
    · omega
    · have := ih (k + 1); omega
theorem per_bd {n : Int} {x : List Int} (h : 1 ≤ n) : 1 ≤ per n x ∧ per n x ≤ n := by
  have := perGo_bd n x (n - 1).toNat 1
  unfold per; omega
def valPeriodOf (n : Int) (x : List Int) : Int := if rok n x = true then per n x else 0
theorem periodOf_no {n : Int} {x : List Int} (h : rok n x = false) : valPeriodOf n x = 0 := by simp [valPeriodOf, h]
theorem periodOf_yes {n : Int} {x : List Int} (h : rok n x = true) : valPeriodOf n x = per n x := by simp [valPeriodOf, h]
def valIsPeriodic (n : Int) (x : List Int) : Bool := rok n x && decide (per n x < n)
theorem isPeriodic_no {n : Int} {x : List Int} (h : rok n x = false) : valIsPeriodic n x = false := by simp [valIsPeriodic, h]
theorem isPeriodic_yes {n : Int} {x : List Int} (h : rok n x = true) : valIsPeriodic n x = decide (per n x < n) := by simp [valIsPeriodic, h]

/-! ### the rotation that leads to a rhythm -/
def rtGo (n : Int) (x y : List Int) : Nat → Int → Int
  | 0, _ => -1
  | f + 1, k => if eqL (mapV n x 1 k) y = true then k else rtGo n x y f (k + 1)
def rotTo (n : Int) (x y : List Int) : Int := rtGo n x y n.toNat 0
theorem rtGo_yes {n : Int} {x y : List Int} {k : Int} (hk : k < n) (h : eqL (mapV n x 1 k) y = true) : rtGo n x y (n - k).toNat k = k := by
  have e : (n - k).toNat = (n - (k + 1)).toNat + 1 := by omega
  rw [e]
  simp [rtGo, h]
theorem rtGo_no {n : Int} {x y : List Int} {k : Int} (hk : k < n) (h : eqL (mapV n x 1 k) y = false) : rtGo n x y (n - k).toNat k = rtGo n x y (n - (k + 1)).toNat (k + 1) := by
  have e : (n - k).toNat = (n - (k + 1)).toNat + 1 := by omega
  rw [e]
  simp [rtGo, h]
theorem rtGo_end {n : Int} {x y : List Int} {k : Int} (hk : ¬ k < n) : rtGo n x y (n - k).toNat k = -1 := by
  have e : (n - k).toNat = 0 := by omega
  rw [e]; rfl
theorem rtGo_bd (n : Int) (x y : List Int) (f : Nat) (k : Int) : rtGo n x y f k = -1 ∨ (k ≤ rtGo n x y f k ∧ rtGo n x y f k < k + f) := by
  induction f generalizing k with
  | zero => exact .inl rfl
  | succ f ih =>
    unfold rtGo
    split
    · right; omega
    · rcases ih (k + 1) with h | h
      · exact .inl h
      · right; omega
theorem rotTo_bd {n : Int} {x y : List Int} (h1 : 1 ≤ n) (h2 : n ≤ 24) : -1 ≤ rotTo n x y ∧ rotTo n x y ≤ 24 := by
  rcases rtGo_bd n x y n.toNat 0 with h | h
  · unfold rotTo; omega
  · unfold rotTo; omega
def valRotationTo (n : Int) (x : List Int) (m : Int) (y : List Int) : Int := if (rok n x && rok m y && decide (n = m)) = true then rotTo n x y else -1
def valAreRotations (n : Int) (x : List Int) (m : Int) (y : List Int) : Bool := decide (0 ≤ valRotationTo n x m y)
theorem valRotationTo_bd (n : Int) (x : List Int) (m : Int) (y : List Int) : -1 ≤ valRotationTo n x m y ∧ valRotationTo n x m y ≤ 24 := by
  unfold valRotationTo
  split
  · rename_i h
    simp only [Bool.and_eq_true] at h
    have hR := (rok_iff n x).1 h.1.1
    exact rotTo_bd hR.lo hR.hi
  · omega
def valAreForms (n : Int) (x : List Int) (m : Int) (y : List Int) : Bool := (rok n x && rok m y && decide (n = m)) && (decide (0 ≤ rotTo n x y) || decide (0 ≤ rotTo n (mapV n x (-1) 0) y))
theorem areForms_spec {n : Int} {x : List Int} {m : Int} {y : List Int} (h : rok n x = true) : valAreForms n x m y = (decide (0 ≤ valRotationTo n x m y) || decide (0 ≤ valRotationTo n (mapV n x (-1) 0) m y)) := by
  have hR := (rok_iff n x).1 h
  have hM : rok n (mapV n x (-1) 0) = true := (rok_iff _ _).2 (mapV_rok hR.lo hR.hi _ _ _)
  unfold valAreForms valRotationTo
  rw [h, hM]
  by_cases hc : (true && rok m y && decide (n = m)) = true
  · rw [if_pos hc, if_pos hc, hc, Bool.true_and]
  · rw [if_neg hc, if_neg hc]
    rw [Bool.not_eq_true] at hc
    rw [hc]; rfl

/-! ### axes -/
def axTo (n : Int) (x : List Int) (k : Nat) : List Int := ((List.range k).map fun (p : Nat) => (p : Int)).filter fun k => eqL (mapV n x (-1) k) x
theorem axTo_yes {n : Int} {x : List Int} {k : Nat} (h : eqL (mapV n x (-1) (k : Int)) x = true) : axTo n x (k + 1) = axTo n x k ++ [(k : Int)] := by
  simp [axTo, List.range_succ, List.filter_append, h]
theorem axTo_no {n : Int} {x : List Int} {k : Nat} (h : eqL (mapV n x (-1) (k : Int)) x = false) : axTo n x (k + 1) = axTo n x k := by
  simp [axTo, List.range_succ, List.filter_append, h]
theorem axTo_len (n : Int) (x : List Int) (k : Nat) : (axTo n x k).length ≤ k := by
  unfold axTo
  exact Nat.le_trans (List.length_filter_le _ _) (by simp)
theorem mapV_mir {n : Int} (h : 1 ≤ n) (x : List Int) (k : Int) : mapV n (mapV n x (-1) 0) 1 k = mapV n x (-1) k := by
  rw [mapV_comp h]; congr 1; omega
def lstAxesOf (n : Int) (x : List Int) : List Int := if rok n x = true then axTo n x n.toNat else []
theorem axesOf_no {n : Int} {x : List Int} (h : rok n x = false) : lstAxesOf n x = [] := by simp [lstAxesOf, h]
theorem axesOf_yes {n : Int} {x : List Int} (h : rok n x = true) : lstAxesOf n x = axTo n x n.toNat := by simp [lstAxesOf, h]
theorem lenAxesOf (n : Int) (x : List Int) : (lstAxesOf n x).length ≤ 24 := by
  cases h : rok n x with
  | false => rw [axesOf_no h]; simp
  | true =>
    rw [axesOf_yes h]
    have h1 := ((rok_iff n x).1 h).hi
    have := axTo_len n x n.toNat
    omega
def valIsMirrored (n : Int) (x : List Int) : Bool := decide (0 < ((lstAxesOf n x).length : Int))
end Go.Proofs.YtcgpmdfcdngnlaaDoor
