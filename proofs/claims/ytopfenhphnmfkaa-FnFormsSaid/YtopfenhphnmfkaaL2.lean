/-
  The contracts that FnForms wants, at valid rhythms; a rhythm repeated is valid.
  Conditions: rhythms are valid, their beats lie in memory.
-/
import Derived.Test.YtopfenhphnmfkaaL1
import Derived.Test.YtopfenhphnmfkaaR3
set_option linter.unusedVariables false
set_option linter.unusedSimpArgs false
namespace Go.Proofs.Ytopfenhphnmfkaa
open Go.RowKit

theorem repTo_bd {n : Int} {x : List Int} (hR : Rok n x) : ∀ (k : Nat), ∀ z ∈ repTo n x k, 0 ≤ z ∧ z < (k : Int) * n
  | 0, z, hz => by cases hz
  | k + 1, z, hz => by
    have hlo := hR.lo
    have e : ((k + 1 : Nat) : Int) * n = (k : Int) * n + n := by rw [Int.natCast_add, Int.add_mul]; simp
    have h0 : 0 ≤ (k : Int) * n := Int.mul_nonneg (by omega) (by omega)
    rw [e]
    rcases List.mem_append.1 (show z ∈ repTo n x k ++ repIn n k x from hz) with h | h
    · have := repTo_bd hR k z h; omega
    · obtain ⟨p, hp, rfl⟩ := mem_repIn.1 h
      have := hR.ge p hp
      have := hR.lt p hp
      omega
theorem repTo_inc {n : Int} {x : List Int} (hR : Rok n x) : ∀ k : Nat, (repTo n x k).Pairwise (· < ·)
  | 0 => List.Pairwise.nil
  | k + 1 => by
    show (repTo n x k ++ repIn n k x).Pairwise (· < ·)
    rw [List.pairwise_append]
    refine ⟨repTo_inc hR k, ?_, ?_⟩
    · unfold repIn; rw [List.pairwise_map]; exact hR.inc.imp fun h => by omega
    · intro a ha b hb
      obtain ⟨p, hp, rfl⟩ := mem_repIn.1 hb
      have := (repTo_bd hR k a ha).2
      have := hR.ge p hp
      omega
theorem rep_rok {n : Int} {x : List Int} (hR : Rok n x) {k : Int} (hk : 1 ≤ k) (h : k * n ≤ 24) : Rok (k * n) (repTo n x k.toNat) where
  lo := by
    have hlo := hR.lo
    have : 1 * 1 ≤ k * n := Int.mul_le_mul hk hlo (by decide) (by omega)
    omega
  hi := h
  ge := fun z hz => (repTo_bd hR _ z hz).1
  lt := fun z hz => by have := (repTo_bd hR _ z hz).2; rwa [show ((k.toNat : Nat) : Int) = k by omega] at this
  inc := repTo_inc hR _
theorem repeatS (n : Int) (v : Value) (x : List Int) (k : Int) (w : World) (hR : Rok n x) (hk : 1 ≤ k) (hk' : k ≤ 4) (h : Ints w w.heap.size v x) :
    Calls Try.prog 12 #[.agg #[.int .i64 n, v], .int .i64 k] w fun e w' => ∃ (m : Int) (y : List Int) (b : Bool), (b = true → Rok m y) ∧ RetRhythm2 w m y b e w' := by
  have hlo := hR.lo
  have hhi := hR.hi
  have := specRepeatRhythmC n v x ⟨by omega, by omega⟩ k ⟨by omega, by omega⟩ w h
  cases hok : okRepeatRhythm n x k with
  | false =>
    have ho := repeat_no hok
    rw [ho.1, ho.2, hok] at this
    exact this.mono fun e w' h => ⟨0, [], false, fun q => (by cases q), h⟩
  | true =>
    have ho := repeat_yes hok
    rw [ho.1, ho.2, hok] at this
    have h24 : k * n ≤ 24 := by
      simp only [okRepeatRhythm, Bool.and_eq_true, decide_eq_true_eq] at hok
      exact hok.2
    exact this.mono fun e w' h => ⟨_, _, true, fun _ => rep_rok hR hk h24, h⟩
theorem axesY (n : Int) (v : Value) (x : List Int) (al : Nat) (w : World) (hR : Rok n x) (hal : (axTo n x n.toNat).length = al) (h : Ints w w.heap.size v x) :
    Calls Try.prog 14 #[.agg #[.int .i64 n, v]] w fun e w' => (∃ (a : Option Addr) (c : Nat), e = .returned (.slice a al c)) ∧ Below w.heap.size w w' := by
  have hlo := hR.lo
  have hhi := hR.hi
  have := implAxesOfC n v x ⟨by omega, by omega⟩ w h
  rw [axesOf_yes ((rok_iff n x).2 hR)] at this
  subst hal
  exact this.mono fun e w' ⟨a, c, h1, _, h3⟩ => ⟨⟨a, c, h1⟩, h3⟩
theorem rotationsY (n : Int) (v : Value) (x : List Int) (pl : Nat) (w : World) (hR : Rok n x) (hpl : per n x = (pl : Int)) (h : Ints w w.heap.size v x) :
    Calls Try.prog 15 #[.agg #[.int .i64 n, v]] w fun e w' => (∃ (a : Option Addr) (c : Nat), e = .returned (.slice a pl c)) ∧ Below w.heap.size w w' := by
  have hlo := hR.lo
  have hhi := hR.hi
  have := implRotationsOfC n v x ⟨by omega, by omega⟩ w h
  have e : (lstRotationsOf n x).length = pl := by rw [rotations_yes ((rok_iff n x).2 hR), roTo_len, hpl]; omega
  refine this.mono fun e' w' ⟨a, c, h1, _, h3⟩ => ⟨⟨a, c, ?_⟩, h3⟩
  rw [h1, e]
theorem leastRotY (n : Int) (v : Value) (x : List Int) (w : World) (hR : Rok n x) (y : List Int) (hy : leastV n x = y) (h : Ints w w.heap.size v x) :
    Calls Try.prog 16 #[.agg #[.int .i64 n, v]] w (RetRhythm2 w n y true) := by
  have hlo := hR.lo
  have hhi := hR.hi
  have ho := leastRotation_yes ((rok_iff n x).2 hR)
  have := implLeastRotationC n v x ⟨by omega, by omega⟩ w h
  rw [ho.1, ho.2.1, ho.2.2, hy] at this
  exact this
theorem leastFormY (n : Int) (v : Value) (x : List Int) (w : World) (hR : Rok n x) (y : List Int) (hy : formV n x = y) (h : Ints w w.heap.size v x) :
    Calls Try.prog 17 #[.agg #[.int .i64 n, v]] w (RetRhythm2 w n y true) := by
  have hlo := hR.lo
  have hhi := hR.hi
  have ho := leastForm_yes ((rok_iff n x).2 hR)
  have := implLeastFormC n v x ⟨by omega, by omega⟩ w h
  rw [ho.1, ho.2.1, ho.2.2, hy] at this
  exact this
theorem mirroredY (n : Int) (v : Value) (x : List Int) (b : Bool) (w : World) (hR : Rok n x) (hb : decide (0 < (axTo n x n.toNat).length) = b) (h : Ints w w.heap.size v x) :
    Calls Try.prog 19 #[.agg #[.int .i64 n, v]] w fun e w' => e = .returned (.bool b) ∧ Below w.heap.size w w' := by
  have hlo := hR.lo
  have hhi := hR.hi
  have := implIsMirroredC n v x ⟨by omega, by omega⟩ w h
  unfold valIsMirrored at this
  rw [axesOf_yes ((rok_iff n x).2 hR)] at this
  have e : decide (0 < (((axTo n x n.toNat).length : Nat) : Int)) = b := by rw [← hb, decide_eq_decide]; omega
  rw [e] at this
  exact this
theorem periodicY (n : Int) (v : Value) (x : List Int) (p : Int) (w : World) (hR : Rok n x) (hp : per n x = p) (h : Ints w w.heap.size v x) :
    Calls Try.prog 20 #[.agg #[.int .i64 n, v]] w fun e w' => e = .returned (.bool (decide (p < n))) ∧ Below w.heap.size w w' := by
  have hlo := hR.lo
  have hhi := hR.hi
  have := implIsPeriodicC n v x ⟨by omega, by omega⟩ w h
  rw [isPeriodic_yes ((rok_iff n x).2 hR), hp] at this
  exact this
theorem isLeastY (n : Int) (v : Value) (x : List Int) (w : World) (hR : Rok n x) (hl : leastV n x = x) (h : Ints w w.heap.size v x) :
    Calls Try.prog 22 #[.agg #[.int .i64 n, v]] w fun e w' => e = .returned (.bool true) ∧ Below w.heap.size w w' := by
  have hlo := hR.lo
  have hhi := hR.hi
  have := implIsLeastRotationC n v x ⟨by omega, by omega⟩ w h
  rw [isLeast_yes ((rok_iff n x).2 hR), hl, eqL_self] at this
  exact this
theorem rotToY (n : Int) (u v : Value) (x y : List Int) (k : Int) (w : World) (hx : Rok n x) (hy : Rok n y) (hk : rotTo n x y = k) (hu : Ints w w.heap.size u x) (hv : Ints w w.heap.size v y) :
    Calls Try.prog 24 #[.agg #[.int .i64 n, u], .agg #[.int .i64 n, v]] w fun e w' => e = .returned (.int .i64 k) ∧ Below w.heap.size w w' := by
  have hlo := hx.lo
  have hhi := hx.hi
  have := implRotationToC n u x ⟨by omega, by omega⟩ n v y ⟨by omega, by omega⟩ w hu hv
  rw [valRotationTo_yes (sameSz_iff.2 ⟨hx, hy, rfl⟩), hk] at this
  exact this
theorem areRotY (n : Int) (u v : Value) (x y : List Int) (b : Bool) (w : World) (hx : Rok n x) (hy : Rok n y) (hb : decide (0 ≤ rotTo n x y) = b) (hu : Ints w w.heap.size u x) (hv : Ints w w.heap.size v y) :
    Calls Try.prog 25 #[.agg #[.int .i64 n, u], .agg #[.int .i64 n, v]] w fun e w' => e = .returned (.bool b) ∧ Below w.heap.size w w' := by
  have hlo := hx.lo
  have hhi := hx.hi
  have := implAreRotationsC n u x ⟨by omega, by omega⟩ n v y ⟨by omega, by omega⟩ w hu hv
  unfold valAreRotations at this
  rw [valRotationTo_yes (sameSz_iff.2 ⟨hx, hy, rfl⟩), hb] at this
  exact this
theorem areFormsY (n : Int) (u v : Value) (x y : List Int) (b : Bool) (w : World) (hx : Rok n x) (hy : Rok n y) (hb : valAreForms n x n y = b) (hu : Ints w w.heap.size u x) (hv : Ints w w.heap.size v y) :
    Calls Try.prog 26 #[.agg #[.int .i64 n, u], .agg #[.int .i64 n, v]] w fun e w' => e = .returned (.bool b) ∧ Below w.heap.size w w' := by
  have hlo := hx.lo
  have hhi := hx.hi
  have := implAreFormsC n u x ⟨by omega, by omega⟩ n v y ⟨by omega, by omega⟩ w hu hv
  rw [hb] at this
  exact this
theorem least_rot {n : Int} {x : List Int} (hR : Rok n x) : decide (0 ≤ rotTo n x (leastV n x)) = true := by
  obtain ⟨j, hj⟩ := leastV_some n x
  rw [hj]
  exact decide_eq_true (rotTo_rots hR j)
theorem mir_rotB {n : Int} {x : List Int} (hR : Rok n x) {b : Bool} (hb : decide (0 < (axTo n x n.toNat).length) = b) : decide (0 ≤ rotTo n x (mapV n x (-1) 0)) = b := by
  rw [← hb, decide_eq_decide]; exact axes_rot hR
end Go.Proofs.Ytopfenhphnmfkaa
