/-
  Contracts of TwinsOf, in the program and in the reference.
  Conditions: the rhythm's beats lie in memory.
-/
import Derived.Test.YtopfenhphnmfkaaR4
import Derived.Test.YtopfenhphnmfkaaR2
import Derived.Test.YtopfenhphnmfkaaN11
import Derived.Test.YtopfenhphnmfkaaN13
import Derived.Test.YtopfenhphnmfkaaN14
import Derived.Test.YtopfenhphnmfkaaF11
set_option linter.unusedVariables false
set_option linter.unusedSimpArgs false
namespace Go.Proofs.Ytopfenhphnmfkaa
open Go.RowKit

def okW (n : Int) (x y : List Int) : Bool := eqL (formV n y) y && valAreTwins n x n y
def okT (n : Int) (x : List Int) (c : Nat) : Bool := decide (pop 24 c = x.length) && okW n x (ofCode n c)
def twTo (n : Int) (x : List Int) (M i : Nat) : List Rh := ((List.range i).filter fun j => okT n x (M - 1 - j)).map fun j => (n, ofCode n (M - 1 - j))
theorem twTo_yes {n : Int} {x : List Int} {M i c : Nat} (hc : M - 1 - i = c) (h : okT n x c = true) : twTo n x M (i + 1) = twTo n x M i ++ [(n, ofCode n c)] := by
  subst hc; simp [twTo, List.range_succ, List.filter_append, h]
theorem twTo_no {n : Int} {x : List Int} {M i c : Nat} (hc : M - 1 - i = c) (h : okT n x c = false) : twTo n x M (i + 1) = twTo n x M i := by
  subst hc; simp [twTo, List.range_succ, List.filter_append, h]
theorem twTo_len (n : Int) (x : List Int) (M i : Nat) : (twTo n x M i).length ≤ i := by
  simp only [twTo, List.length_map]
  exact Nat.le_trans (List.length_filter_le _ _) (by simp)
def okTw (n : Int) (x : List Int) : Bool := rok n x && decide (n ≤ 12)
def lstTwinsOf (n : Int) (x : List Int) : List Rh := if okTw n x = true then twTo n x (2 ^ n.toNat) (2 ^ n.toNat) else []
theorem twinsOf_no {n : Int} {x : List Int} (h : okTw n x = false) : lstTwinsOf n x = [] := by simp [lstTwinsOf, h]
theorem twinsOf_yes {n : Int} {x : List Int} (h : okTw n x = true) : lstTwinsOf n x = twTo n x (2 ^ n.toNat) (2 ^ n.toNat) := by simp [lstTwinsOf, h]
theorem pow12 {n : Int} (h : n ≤ 12) : 2 ^ n.toNat ≤ 4096 := Nat.le_trans (Nat.pow_le_pow_right (by decide) (show n.toNat ≤ 12 by omega)) (by decide)
theorem pow_pos2 (n : Int) : 1 ≤ 2 ^ n.toNat := Nat.one_le_two_pow
theorem lenTwinsOf (n : Int) (x : List Int) : (lstTwinsOf n x).length ≤ 4096 ∧ ∀ i, i < (lstTwinsOf n x).length → (rhX (lstTwinsOf n x) i).length ≤ 24 := by
  cases h : okTw n x with
  | false => rw [twinsOf_no h]; exact ⟨by simp, fun i hi => by simp at hi⟩
  | true =>
    rw [twinsOf_yes h]
    have h' := h
    simp only [okTw, Bool.and_eq_true, decide_eq_true_eq] at h'
    have hR := (rok_iff n x).1 h'.1
    refine ⟨Nat.le_trans (twTo_len _ _ _ _) (pow12 h'.2), fun i hi => ?_⟩
    have hm : ∀ p ∈ twTo n x (2 ^ n.toNat) (2 ^ n.toNat), p.2.length ≤ 24 := fun p hp => by
      simp only [twTo, List.mem_map] at hp
      obtain ⟨j, _, rfl⟩ := hp
      have h1 := ocTo_len n (2 ^ n.toNat - 1 - j) n.toNat
      have := hR.hi
      simp only [ofCode]; omega
    have he : (twTo n x (2 ^ n.toNat) (2 ^ n.toNat)).getD i (0, []) = (twTo n x (2 ^ n.toNat) (2 ^ n.toNat))[i] := by
      simp [List.getD_eq_getElem?_getD, List.getElem?_eq_getElem hi]
    unfold rhX
    rw [he]
    exact hm _ (List.getElem_mem hi)

set_option maxRecDepth 20000 in
set_option maxHeartbeats 2000000 in
theorem implTwin1 (n : Int) (u v : Value) (x y : List Int) (q : Nat) (w : World) (hR : Rok n x) (hS : Rok n y) (hq : q < w.heap.size) (hq0 : w.cell? ⟨q, 0, none⟩ = some (.int .i64 n)) (hq1 : w.cell? ⟨q, 1, none⟩ = some u)
    (hu : Ints w w.heap.size u x) (hv : Ints w w.heap.size v y) :
    Calls Try.prog 88 #[.agg #[.int .i64 n, v], .pointer (some ⟨q, 0, none⟩)] w fun e w' => e = .returned (.bool (okW n x y)) ∧ Below w.heap.size w w' := by
  have hu' := hu
  have hv' := hv
  obtain ⟨a, cap, rfl, -⟩ := hu'
  obtain ⟨a', cap', rfl, -⟩ := hv'
  have hlo := hR.lo
  have hhi := hR.hi
  have cI : I64 n := ⟨by omega, by omega⟩
  have HB0 : Hid (Below w.heap.size w (w.alloc (.cells #[.int .i64 n, .slice a' y.length cap'] 25)).drew) := by unfold Hid; (repeat (first | (with_reducible exact (Below.refl _ _)) | (with_reducible refine bel_alloc ?_ _) | (with_reducible refine Below.drew ?_) | (with_reducible refine bel_drewN ?_ _) | (with_reducible refine Below.setCell ?_ (by simp) _)))
  have HX0 : Hid (Bx (w.alloc (.cells #[.int .i64 n, .slice a' y.length cap'] 25)).drew w.heap.size (.int .i64 n) (.slice a' y.length cap') 25) := by unfold Hid; (repeat (first | (with_reducible refine Bx.newAt _ _ _ _ ?_; simp; done) | (with_reducible refine Bx.alloc ?_ _) | (with_reducible refine Bx.drew ?_) | (with_reducible refine Bx.drewN ?_ _)))
  have HQ0 := Lib.hid hq0
  have HQ1 := Lib.hid hq1
  cases he : eqL (formV n y) y with
  | false =>
    have Hf : Hid (okW n x y = false) := by unfold Hid okW; rw [he]; rfl
    have He : Hid (eqR n n (formV n y) y = false) := by unfold Hid; rw [eqR_same]; exact he
    clear he
    go_enter Try.func88, Try.ntmps88
    go_wp2_with fail
    go_region_with (first
      | (go_at_call 66; refine (implForm _ _ y _ hS (Ints.ofBelow hv HB0.out)).mono ?_; rintro e w1 ⟨a1, c1, rfl, o1, b1⟩; have HB1 := Lib.hid (bel_step HB0.out b1 HB0.out.size); have hbx1 := HX0.out.below b1 HX0.out.lt; have HX1 := Lib.hid hbx1; have p0 := hbx1.c0; have p1 := hbx1.c1; have s0 := ((bcell HB1.out).1 _ _ hq).trans HQ0.out; have s1 := ((bcell HB1.out).1 _ _ hq).trans HQ1.out)
      | (go_at_call 64; refine (implEqualsC _ _ _ _ (formV n y) y _ o1.ints (Ints.ofBelow hv HB1.out)).mono ?_; rintro e w2 ⟨rfl, b2⟩; rw [He.out]; have HB2 := Lib.hid (bel_step HB1.out b2 HB1.out.size); have hbx2 := HX1.out.below b2 HX1.out.lt; have r0 := hbx2.c0; have r1 := hbx2.c1; have k0 := ((bcell HB2.out).1 _ _ hq).trans HQ0.out; have k1 := ((bcell HB2.out).1 _ _ hq).trans HQ1.out))
    all_goals
      go_wp2
      go_ret
      exact ⟨ret_bool Hf.out.symm, HB2.out⟩
  | true =>
    have Hf : Hid (okW n x y = valAreTwins n x n y) := by unfold Hid okW; rw [he]; rfl
    have He : Hid (eqR n n (formV n y) y = true) := by unfold Hid; rw [eqR_same]; exact he
    clear he
    go_enter Try.func88, Try.ntmps88
    go_wp2_with fail
    go_region_with (first
      | (go_at_call 66; refine (implForm _ _ y _ hS (Ints.ofBelow hv HB0.out)).mono ?_; rintro e w1 ⟨a1, c1, rfl, o1, b1⟩; have HB1 := Lib.hid (bel_step HB0.out b1 HB0.out.size); have hbx1 := HX0.out.below b1 HX0.out.lt; have HX1 := Lib.hid hbx1; have p0 := hbx1.c0; have p1 := hbx1.c1; have s0 := ((bcell HB1.out).1 _ _ hq).trans HQ0.out; have s1 := ((bcell HB1.out).1 _ _ hq).trans HQ1.out)
      | (go_at_call 64; refine (implEqualsC _ _ _ _ (formV n y) y _ o1.ints (Ints.ofBelow hv HB1.out)).mono ?_; rintro e w2 ⟨rfl, b2⟩; rw [He.out]; have HB2 := Lib.hid (bel_step HB1.out b2 HB1.out.size); have hbx2 := HX1.out.below b2 HX1.out.lt; have r0 := hbx2.c0; have r1 := hbx2.c1; have k0 := ((bcell HB2.out).1 _ _ hq).trans HQ0.out; have k1 := ((bcell HB2.out).1 _ _ hq).trans HQ1.out)
      | (go_at_call 37; refine (implAreTwinsC _ _ x cI _ _ y cI _ (Ints.ofBelow hu HB2.out) (Ints.ofBelow hv HB2.out)).mono ?_; rintro e w3 ⟨rfl, b3⟩; have HB3 := Lib.hid (bel_step HB2.out b3 HB2.out.size)))
    all_goals
      go_wp2
      go_ret
      exact ⟨ret_bool Hf.out.symm, HB3.out⟩
end Go.Proofs.Ytopfenhphnmfkaa
