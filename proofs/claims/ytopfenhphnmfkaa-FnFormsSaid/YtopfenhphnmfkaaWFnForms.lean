/-
  The walk of FnForms: it returns true and writes nothing that was there.
  Conditions: the arguments lie in memory as the statement's reading says.
-/
import Derived.Test.YtopfenhphnmfkaaL2
import Derived.BigGuardPart
import Derived.Test.YtopfenhphnmfkaaB0
set_option linter.unusedVariables false
set_option linter.unusedSimpArgs false
namespace Go.Proofs.Ytopfenhphnmfkaa.fnForms
open Go.RowKit
set_option linter.unusedVariables false

set_option maxRecDepth 20000 in
set_option maxHeartbeats 64000000 in
theorem walk (w : World) (v0 : Value) (z0 : Nat) (h0 : Bytes w w.heap.size v0 z0) :
    Calls Try.prog 3 #[v0] w fun e w' => e = .returned (.bool true) ∧ Below w.heap.size w w' := by
  have h0' := h0
  obtain ⟨ad0, cap0, rfl, -⟩ := h0'
  by_cases s0 : 1048576 < z0
  · go_enter Try.func3, Try.ntmps3
    go_wp2
    go_ret
    exact ⟨rfl, Below.refl _ _⟩
  have hm0 : z0 ≤ 1048576 := by omega
  have HH0 := Lib.hid h0
  clear h0
  have HB : Hid (Below w.heap.size w w) := Below.refl _ _
  go_enter Try.func3, Try.ntmps3
  go_wp2_with fail
  refine withWorld fun X1 hX => ?_
  have gB : Below w.heap.size w X1 := (by rw [hX]; (repeat (first | (with_reducible exact (Below.refl _ _)) | (with_reducible refine bel_alloc ?_ _) | (with_reducible refine Below.drew ?_) | (with_reducible refine bel_drewN ?_ _) | (with_reducible refine Below.setCell ?_ (by simp) _))))
  replace HB := Lib.hid (bel_step HB.out gB HB.out.size)
  clear hX gB
  refine (specMakeRhythm _ z0 0 14 _ hm0 (by decide) (by decide) (by decide) ((HH0.out.below HB.out).mono HB.out.size)).mono ?_
  rintro e w1 ⟨N, x, ax1, kx1, rfl, hN14, hR, o1, b1⟩
  replace HB := Lib.hid (bel_step HB.out b1 HB.out.size)
  have HO1 := Lib.hid o1
  clear o1
  clear b1
  have hq1 : w.heap.size ≤ w1.heap.size := HB.out.size
  have HRok := Lib.hid hR
  clear hR
  go_wp2_with fail
  refine withWorld fun X2 hX => ?_
  have gB : Below w1.heap.size w1 X2 := (by rw [hX]; (repeat (first | (with_reducible exact (Below.refl _ _)) | (with_reducible refine bel_alloc ?_ _) | (with_reducible refine Below.drew ?_) | (with_reducible refine bel_drewN ?_ _) | (with_reducible refine Below.setCell ?_ (by simp) _))))
  have HRr : Hid (RH X2 w1.heap.size (N) (.slice ax1 x.length kx1) (x)) := (by unfold Hid; rw [hX]; (repeat (first | exact RH.new HO1.out | (with_reducible refine RH.alloc ?_ _) | (with_reducible refine RH.drewN ?_ _))))
  replace HB := Lib.hid (bel_step HB.out gB HB.out.size)
  clear HO1
  clear hX gB
  refine (specMakeNum _ z0 30 _ hm0 (by decide) ((HH0.out.below HB.out).mono HB.out.size)).mono ?_
  rintro e w2 ⟨⟨r30, hr0, hr1, rfl⟩, b2⟩
  replace HB := Lib.hid (bel_step HB.out b2 HB.out.size)
  replace HRr := Lib.hid (HRr.out.after b2)
  clear b2
  have cr0 := HRr.out.1.c0
  have cr1 := HRr.out.1.c1
  have ltr := HRr.out.1.lt
  by_cases h3 : r30 % 3 = 0
  · have h3b : (r30 % 3 == 0) = true := by rw [h3]; rfl
    go_wp2_with fail
    refine withWorld fun X3 hX => ?_
    have gB : Below w2.heap.size w2 X3 := (by rw [hX]; (repeat (first | (with_reducible exact (Below.refl _ _)) | (with_reducible refine bel_alloc ?_ _) | (with_reducible refine Below.drew ?_) | (with_reducible refine bel_drewN ?_ _) | (with_reducible refine Below.setCell ?_ (by simp) _))))
    replace HB := Lib.hid (bel_step HB.out gB HB.out.size)
    replace HRr := Lib.hid (HRr.out.after gB)
    clear hX gB cr0 cr1 ltr
    refine (specMakeRhythm _ z0 0 6 _ hm0 (by decide) (by decide) (by decide) ((HH0.out.below HB.out).mono HB.out.size)).mono ?_
    rintro e w3 ⟨N6, x6, ax3, kx3, rfl, hN6, hR6, o3, b3⟩
    replace HB := Lib.hid (bel_step HB.out b3 HB.out.size)
    replace HRr := Lib.hid (HRr.out.after b3)
    clear b3
    have cr0 := HRr.out.1.c0
    have cr1 := HRr.out.1.c1
    have ltr := HRr.out.1.lt
    have HQ := Lib.hid (o3.ints)
    clear o3
    have HR6 := Lib.hid hR6
    clear hR6 h3 h3b hr0 hr1
    go_wp2_with fail
    refine withWorld fun X4 hX => ?_
    have gB : Below w3.heap.size w3 X4 := (by rw [hX]; (repeat (first | (with_reducible exact (Below.refl _ _)) | (with_reducible refine bel_alloc ?_ _) | (with_reducible refine Below.drew ?_) | (with_reducible refine bel_drewN ?_ _) | (with_reducible refine Below.setCell ?_ (by simp) _))))
    replace HB := Lib.hid (bel_step HB.out gB HB.out.size)
    replace HRr := Lib.hid (HRr.out.after gB)
    replace HQ := Lib.hid (HQ.out.ofBelow gB)
    clear hX gB cr0 cr1 ltr
    refine (specMakeNum _ z0 32 _ hm0 (by decide) ((HH0.out.below HB.out).mono HB.out.size)).mono ?_
    rintro e w4 ⟨⟨r32, hs0, hs1, rfl⟩, b4⟩
    replace HB := Lib.hid (bel_step HB.out b4 HB.out.size)
    replace HRr := Lib.hid (HRr.out.after b4)
    replace HQ := Lib.hid (HQ.out.ofBelow b4)
    clear b4
    have cr0 := HRr.out.1.c0
    have cr1 := HRr.out.1.c1
    have ltr := HRr.out.1.lt
    obtain ⟨kk, hk0, hk1, hkk⟩ : ∃ kk : Int, 1 ≤ kk ∧ kk ≤ 4 ∧ 1 + r32 % 4 = kk := ⟨_, by omega, by omega, rfl⟩
    go_wp2_with fail
    try rw [hkk]
    clear hkk hs0 hs1
    have hqX := HRr.out.1.lt
    refine withWorld fun X5 hX => ?_
    have gB : Below w4.heap.size w4 X5 := (by rw [hX]; (repeat (first | (with_reducible exact (Below.refl _ _)) | (with_reducible refine bel_alloc ?_ _) | (with_reducible refine Below.drew ?_) | (with_reducible refine bel_drewN ?_ _) | (with_reducible refine Below.setCell ?_ (by simp) _))))
    replace HB := Lib.hid (bel_step HB.out gB HB.out.size)
    replace HRr := Lib.hid (HRr.out.after gB)
    replace HQ := Lib.hid (HQ.out.ofBelow gB)
    clear hX gB cr0 cr1 ltr
    have hqY : w1.heap.size < X5.heap.size := HRr.out.1.lt
    refine (repeatS _ _ x6 kk _ HR6.out hk0 hk1 HQ.out).mono ?_
    rintro e w5 ⟨Nd, y, b, hby, ax5, kx5, rfl, o5, b5⟩
    replace HB := Lib.hid (bel_step HB.out b5 HB.out.size)
    replace HRr := Lib.hid (HRr.out.after b5)
    replace HQ := Lib.hid (HQ.out.ofBelow b5)
    have HO5 := Lib.hid o5
    have HBY := Lib.hid hby
    clear o5 b5 hby HQ HR6
    have cr0 := HRr.out.1.c0
    have cr1 := HRr.out.1.c1
    have ltr := HRr.out.1.lt
    cases b with
    | false =>
      obtain ⟨pl, hpl, hp1, hpn, hpd⟩ : ∃ pl : Nat, per (N) (x) = (pl : Int) ∧ 1 ≤ pl ∧ (pl : Int) ≤ N ∧ (N) % (pl : Int) = 0 := by
        have h1 := per_bd (x := x) HRok.out.lo
        have h2 := per_dvd HRok.out
        refine ⟨(per (N) (x)).toNat, by omega, by omega, by omega, ?_⟩
        rw [show (((per (N) (x)).toNat : Nat) : Int) = per (N) (x) by omega]; exact h2
      obtain ⟨al, hal, halc⟩ : ∃ al : Nat, (axTo (N) (x) (N).toNat).length = al ∧ (al = 0 ∨ (al : Int) = (N) / (pl : Int)) := ⟨_, rfl, by rw [← hpl]; exact axes_len HRok.out⟩
      have HPL := Lib.hid hpl
      have HAL := Lib.hid hal
      have HAC := Lib.hid halc
      have HPD := Lib.hid hpd
      clear hpl hal halc hpd
      have hlo := HRok.out.lo
      have hhi := HRok.out.hi
      have HFR := Lib.hid (leastV_rok hlo hhi (x))
      have HGR := Lib.hid (formV_rok hlo hhi (x))
      have HMR := Lib.hid (mapV_rok hlo hhi (x) (-1) 0)
      go_wp2_with fail
      refine withWorld fun X6 hX => ?_
      have gB : Below w5.heap.size w5 X6 := (by rw [hX]; (repeat (first | (with_reducible exact (Below.refl _ _)) | (with_reducible refine bel_alloc ?_ _) | (with_reducible refine Below.drew ?_) | (with_reducible refine bel_drewN ?_ _) | (with_reducible refine Below.setCell ?_ (by simp) _))))
      have HRd : Hid (RH X6 w5.heap.size (Nd) (.slice ax5 y.length kx5) (y)) := (by unfold Hid; rw [hX]; (repeat (first | exact RH.new HO5.out | (with_reducible refine RH.alloc ?_ _) | (with_reducible refine RH.drewN ?_ _))))
      replace HB := Lib.hid (bel_step HB.out gB HB.out.size)
      replace HRr := Lib.hid (HRr.out.after gB)
      clear HO5
      clear hX gB cr0 cr1 ltr
      refine (periodY _ _ (x) _ _ HRok.out HPL.out HRr.out.2).mono ?_
      rintro e w6 ⟨rfl, b6⟩
      replace HB := Lib.hid (bel_step HB.out b6 HB.out.size)
      replace HRr := Lib.hid (HRr.out.after b6)
      replace HRd := Lib.hid (HRd.out.after b6)
      clear b6
      have cr0 := HRr.out.1.c0
      have cr1 := HRr.out.1.c1
      have ltr := HRr.out.1.lt
      have cd0 := HRd.out.1.c0
      have cd1 := HRd.out.1.c1
      have ltd := HRd.out.1.lt
      go_wp2_with fail
      refine withWorld fun X7 hX => ?_
      have gB : Below w6.heap.size w6 X7 := (by rw [hX]; (repeat (first | (with_reducible exact (Below.refl _ _)) | (with_reducible refine bel_alloc ?_ _) | (with_reducible refine Below.drew ?_) | (with_reducible refine bel_drewN ?_ _) | (with_reducible refine Below.setCell ?_ (by simp) _))))
      replace HB := Lib.hid (bel_step HB.out gB HB.out.size)
      replace HRr := Lib.hid (HRr.out.after gB)
      replace HRd := Lib.hid (HRd.out.after gB)
      clear hX gB cr0 cr1 ltr cd0 cd1 ltd
      refine (axesY _ _ (x) _ _ HRok.out HAL.out HRr.out.2).mono ?_
      rintro e w7 ⟨⟨aa7, ca7, rfl⟩, b7⟩
      replace HB := Lib.hid (bel_step HB.out b7 HB.out.size)
      replace HRr := Lib.hid (HRr.out.after b7)
      replace HRd := Lib.hid (HRd.out.after b7)
      clear b7
      have cr0 := HRr.out.1.c0
      have cr1 := HRr.out.1.c1
      have ltr := HRr.out.1.lt
      have cd0 := HRd.out.1.c0
      have cd1 := HRd.out.1.c1
      have ltd := HRd.out.1.lt
      go_wp2_with fail
      refine withWorld fun X8 hX => ?_
      have gB : Below w7.heap.size w7 X8 := (by rw [hX]; (repeat (first | (with_reducible exact (Below.refl _ _)) | (with_reducible refine bel_alloc ?_ _) | (with_reducible refine Below.drew ?_) | (with_reducible refine bel_drewN ?_ _) | (with_reducible refine Below.setCell ?_ (by simp) _))))
      replace HB := Lib.hid (bel_step HB.out gB HB.out.size)
      replace HRr := Lib.hid (HRr.out.after gB)
      replace HRd := Lib.hid (HRd.out.after gB)
      clear hX gB cr0 cr1 ltr cd0 cd1 ltd
      refine (rotationsY _ _ (x) _ _ HRok.out HPL.out HRr.out.2).mono ?_
      rintro e w8 ⟨⟨aa8, ca8, rfl⟩, b8⟩
      replace HB := Lib.hid (bel_step HB.out b8 HB.out.size)
      replace HRr := Lib.hid (HRr.out.after b8)
      replace HRd := Lib.hid (HRd.out.after b8)
      clear b8
      have cr0 := HRr.out.1.c0
      have cr1 := HRr.out.1.c1
      have ltr := HRr.out.1.lt
      have cd0 := HRd.out.1.c0
      have cd1 := HRd.out.1.c1
      have ltd := HRd.out.1.lt
      go_wp2_with fail
      refine withWorld fun X9 hX => ?_
      have gB : Below w8.heap.size w8 X9 := (by rw [hX]; (repeat (first | (with_reducible exact (Below.refl _ _)) | (with_reducible refine bel_alloc ?_ _) | (with_reducible refine Below.drew ?_) | (with_reducible refine bel_drewN ?_ _) | (with_reducible refine Below.setCell ?_ (by simp) _))))
      replace HB := Lib.hid (bel_step HB.out gB HB.out.size)
      replace HRr := Lib.hid (HRr.out.after gB)
      replace HRd := Lib.hid (HRd.out.after gB)
      clear hX gB cr0 cr1 ltr cd0 cd1 ltd
      refine (leastRotY _ _ (x) _ HRok.out _ rfl HRr.out.2).mono ?_
      rintro e w9 ⟨ax9, kx9, rfl, o9, b9⟩
      replace HB := Lib.hid (bel_step HB.out b9 HB.out.size)
      replace HRr := Lib.hid (HRr.out.after b9)
      replace HRd := Lib.hid (HRd.out.after b9)
      have HO9 := Lib.hid o9
      clear o9
      clear b9
      have cr0 := HRr.out.1.c0
      have cr1 := HRr.out.1.c1
      have ltr := HRr.out.1.lt
      have cd0 := HRd.out.1.c0
      have cd1 := HRd.out.1.c1
      have ltd := HRd.out.1.lt
      go_wp2_with fail
      refine withWorld fun X10 hX => ?_
      have gB : Below w9.heap.size w9 X10 := (by rw [hX]; (repeat (first | (with_reducible exact (Below.refl _ _)) | (with_reducible refine bel_alloc ?_ _) | (with_reducible refine Below.drew ?_) | (with_reducible refine bel_drewN ?_ _) | (with_reducible refine Below.setCell ?_ (by simp) _))))
      have HRf : Hid (RH X10 w9.heap.size (N) (.slice ax9 (leastV (N) (x)).length kx9) (leastV (N) (x))) := (by unfold Hid; rw [hX]; (repeat (first | exact RH.new HO9.out | (with_reducible refine RH.alloc ?_ _) | (with_reducible refine RH.drewN ?_ _))))
      replace HB := Lib.hid (bel_step HB.out gB HB.out.size)
      replace HRr := Lib.hid (HRr.out.after gB)
      replace HRd := Lib.hid (HRd.out.after gB)
      clear HO9
      clear hX gB cr0 cr1 ltr cd0 cd1 ltd
      refine (leastFormY _ _ (x) _ HRok.out _ rfl HRr.out.2).mono ?_
      rintro e w10 ⟨ax10, kx10, rfl, o10, b10⟩
      replace HB := Lib.hid (bel_step HB.out b10 HB.out.size)
      replace HRr := Lib.hid (HRr.out.after b10)
      replace HRd := Lib.hid (HRd.out.after b10)
      replace HRf := Lib.hid (HRf.out.after b10)
      have HO10 := Lib.hid o10
      clear o10
      clear b10
      have cr0 := HRr.out.1.c0
      have cr1 := HRr.out.1.c1
      have ltr := HRr.out.1.lt
      have cd0 := HRd.out.1.c0
      have cd1 := HRd.out.1.c1
      have ltd := HRd.out.1.lt
      have cf0 := HRf.out.1.c0
      have cf1 := HRf.out.1.c1
      have ltf := HRf.out.1.lt
      go_wp2_with fail
      refine withWorld fun X11 hX => ?_
      have gB : Below w10.heap.size w10 X11 := (by rw [hX]; (repeat (first | (with_reducible exact (Below.refl _ _)) | (with_reducible refine bel_alloc ?_ _) | (with_reducible refine Below.drew ?_) | (with_reducible refine bel_drewN ?_ _) | (with_reducible refine Below.setCell ?_ (by simp) _))))
      have HRg : Hid (RH X11 w10.heap.size (N) (.slice ax10 (formV (N) (x)).length kx10) (formV (N) (x))) := (by unfold Hid; rw [hX]; (repeat (first | exact RH.new HO10.out | (with_reducible refine RH.alloc ?_ _) | (with_reducible refine RH.drewN ?_ _))))
      replace HB := Lib.hid (bel_step HB.out gB HB.out.size)
      replace HRr := Lib.hid (HRr.out.after gB)
      replace HRd := Lib.hid (HRd.out.after gB)
      replace HRf := Lib.hid (HRf.out.after gB)
      clear HO10
      clear hX gB cr0 cr1 ltr cd0 cd1 ltd cf0 cf1 ltf
      refine (mirrorY _ _ (x) _ HRok.out _ rfl HRr.out.2).mono ?_
      rintro e w11 ⟨ax11, kx11, rfl, o11, b11⟩
      replace HB := Lib.hid (bel_step HB.out b11 HB.out.size)
      replace HRr := Lib.hid (HRr.out.after b11)
      replace HRd := Lib.hid (HRd.out.after b11)
      replace HRf := Lib.hid (HRf.out.after b11)
      replace HRg := Lib.hid (HRg.out.after b11)
      have HO11 := Lib.hid o11
      clear o11
      clear b11
      have cr0 := HRr.out.1.c0
      have cr1 := HRr.out.1.c1
      have ltr := HRr.out.1.lt
      have cd0 := HRd.out.1.c0
      have cd1 := HRd.out.1.c1
      have ltd := HRd.out.1.lt
      have cf0 := HRf.out.1.c0
      have cf1 := HRf.out.1.c1
      have ltf := HRf.out.1.lt
      have cg0 := HRg.out.1.c0
      have cg1 := HRg.out.1.c1
      have ltg := HRg.out.1.lt
      go_wp2_with fail
      refine withWorld fun X12 hX => ?_
      have gB : Below w11.heap.size w11 X12 := (by rw [hX]; (repeat (first | (with_reducible exact (Below.refl _ _)) | (with_reducible refine bel_alloc ?_ _) | (with_reducible refine Below.drew ?_) | (with_reducible refine bel_drewN ?_ _) | (with_reducible refine Below.setCell ?_ (by simp) _))))
      have HRm : Hid (RH X12 w11.heap.size (N) (.slice ax11 (mapV (N) (x) (-1) 0).length kx11) (mapV (N) (x) (-1) 0)) := (by unfold Hid; rw [hX]; (repeat (first | exact RH.new HO11.out | (with_reducible refine RH.alloc ?_ _) | (with_reducible refine RH.drewN ?_ _))))
      replace HB := Lib.hid (bel_step HB.out gB HB.out.size)
      replace HRr := Lib.hid (HRr.out.after gB)
      replace HRd := Lib.hid (HRd.out.after gB)
      replace HRf := Lib.hid (HRf.out.after gB)
      replace HRg := Lib.hid (HRg.out.after gB)
      clear HO11
      clear hX gB cr0 cr1 ltr cd0 cd1 ltd cf0 cf1 ltf cg0 cg1 ltg
      refine (leastFormY _ _ (mapV (N) (x) (-1) 0) _ HMR.out _ (formV_mir HRok.out) HRm.out.2).mono ?_
      rintro e w12 ⟨ax12, kx12, rfl, o12, b12⟩
      replace HB := Lib.hid (bel_step HB.out b12 HB.out.size)
      replace HRr := Lib.hid (HRr.out.after b12)
      replace HRd := Lib.hid (HRd.out.after b12)
      replace HRf := Lib.hid (HRf.out.after b12)
      replace HRg := Lib.hid (HRg.out.after b12)
      replace HRm := Lib.hid (HRm.out.after b12)
      have HO12 := Lib.hid o12
      clear o12
      clear b12
      have cr0 := HRr.out.1.c0
      have cr1 := HRr.out.1.c1
      have ltr := HRr.out.1.lt
      have cd0 := HRd.out.1.c0
      have cd1 := HRd.out.1.c1
      have ltd := HRd.out.1.lt
      have cf0 := HRf.out.1.c0
      have cf1 := HRf.out.1.c1
      have ltf := HRf.out.1.lt
      have cg0 := HRg.out.1.c0
      have cg1 := HRg.out.1.c1
      have ltg := HRg.out.1.lt
      have cm0 := HRm.out.1.c0
      have cm1 := HRm.out.1.c1
      have ltm := HRm.out.1.lt
      have hd1 : ((N) % (pl : Int) != 0) = false := by rw [HPD.out]; rfl
      have hd2 : ((pl : Int) == 0) = false := by simp; omega
      have hd3 : ¬ (pl : Int) = 0 := by omega
      have hd4 : ¬ (pl : Int) < 1 := by omega
      rcases Nat.eq_zero_or_pos al with ha0 | ha0
      · subst ha0
        have HMB : Hid (decide (0 < (axTo (N) (x) (N).toNat).length) = false) := by unfold Hid; rw [HAL.out]; rfl
        go_wp2_with fail
        refine withWorld fun X13 hX => ?_
        have gB : Below w12.heap.size w12 X13 := (by rw [hX]; (repeat (first | (with_reducible exact (Below.refl _ _)) | (with_reducible refine bel_alloc ?_ _) | (with_reducible refine Below.drew ?_) | (with_reducible refine bel_drewN ?_ _) | (with_reducible refine Below.setCell ?_ (by simp) _))))
        have HRh : Hid (RH X13 w12.heap.size (N) (.slice ax12 (formV (N) (x)).length kx12) (formV (N) (x))) := (by unfold Hid; rw [hX]; (repeat (first | exact RH.new HO12.out | (with_reducible refine RH.alloc ?_ _) | (with_reducible refine RH.drewN ?_ _))))
        replace HB := Lib.hid (bel_step HB.out gB HB.out.size)
        replace HRr := Lib.hid (HRr.out.after gB)
        replace HRd := Lib.hid (HRd.out.after gB)
        replace HRf := Lib.hid (HRf.out.after gB)
        replace HRg := Lib.hid (HRg.out.after gB)
        replace HRm := Lib.hid (HRm.out.after gB)
        clear HO12
        clear hX gB cr0 cr1 ltr cd0 cd1 ltd cf0 cf1 ltf cg0 cg1 ltg cm0 cm1 ltm
        refine (mirroredY _ _ (x) false _ HRok.out HMB.out HRr.out.2).mono ?_
        rintro e w13 ⟨rfl, b13⟩
        replace HB := Lib.hid (bel_step HB.out b13 HB.out.size)
        replace HRr := Lib.hid (HRr.out.after b13)
        replace HRd := Lib.hid (HRd.out.after b13)
        replace HRf := Lib.hid (HRf.out.after b13)
        replace HRg := Lib.hid (HRg.out.after b13)
        replace HRm := Lib.hid (HRm.out.after b13)
        replace HRh := Lib.hid (HRh.out.after b13)
        clear b13
        have cr0 := HRr.out.1.c0
        have cr1 := HRr.out.1.c1
        have ltr := HRr.out.1.lt
        have cd0 := HRd.out.1.c0
        have cd1 := HRd.out.1.c1
        have ltd := HRd.out.1.lt
        have cf0 := HRf.out.1.c0
        have cf1 := HRf.out.1.c1
        have ltf := HRf.out.1.lt
        have cg0 := HRg.out.1.c0
        have cg1 := HRg.out.1.c1
        have ltg := HRg.out.1.lt
        have cm0 := HRm.out.1.c0
        have cm1 := HRm.out.1.c1
        have ltm := HRm.out.1.lt
        have ch0 := HRh.out.1.c0
        have ch1 := HRh.out.1.c1
        have lth := HRh.out.1.lt
        go_wp2_with fail
        refine withWorld fun X14 hX => ?_
        have gB : Below w13.heap.size w13 X14 := (by rw [hX]; (repeat (first | (with_reducible exact (Below.refl _ _)) | (with_reducible refine bel_alloc ?_ _) | (with_reducible refine Below.drew ?_) | (with_reducible refine bel_drewN ?_ _) | (with_reducible refine Below.setCell ?_ (by simp) _))))
        replace HB := Lib.hid (bel_step HB.out gB HB.out.size)
        replace HRr := Lib.hid (HRr.out.after gB)
        replace HRd := Lib.hid (HRd.out.after gB)
        replace HRf := Lib.hid (HRf.out.after gB)
        replace HRg := Lib.hid (HRg.out.after gB)
        replace HRm := Lib.hid (HRm.out.after gB)
        replace HRh := Lib.hid (HRh.out.after gB)
        clear hX gB cr0 cr1 ltr cd0 cd1 ltd cf0 cf1 ltf cg0 cg1 ltg cm0 cm1 ltm ch0 ch1 lth
        refine (periodicY _ _ (x) _ _ HRok.out HPL.out HRr.out.2).mono ?_
        rintro e w14 ⟨rfl, b14⟩
        replace HB := Lib.hid (bel_step HB.out b14 HB.out.size)
        replace HRr := Lib.hid (HRr.out.after b14)
        replace HRd := Lib.hid (HRd.out.after b14)
        replace HRf := Lib.hid (HRf.out.after b14)
        replace HRg := Lib.hid (HRg.out.after b14)
        replace HRm := Lib.hid (HRm.out.after b14)
        replace HRh := Lib.hid (HRh.out.after b14)
        clear b14
        have cr0 := HRr.out.1.c0
        have cr1 := HRr.out.1.c1
        have ltr := HRr.out.1.lt
        have cd0 := HRd.out.1.c0
        have cd1 := HRd.out.1.c1
        have ltd := HRd.out.1.lt
        have cf0 := HRf.out.1.c0
        have cf1 := HRf.out.1.c1
        have ltf := HRf.out.1.lt
        have cg0 := HRg.out.1.c0
        have cg1 := HRg.out.1.c1
        have ltg := HRg.out.1.lt
        have cm0 := HRm.out.1.c0
        have cm1 := HRm.out.1.c1
        have ltm := HRm.out.1.lt
        have ch0 := HRh.out.1.c0
        have ch1 := HRh.out.1.c1
        have lth := HRh.out.1.lt
        go_wp2_with fail
        refine withWorld fun X15 hX => ?_
        have gB : Below w14.heap.size w14 X15 := (by rw [hX]; (repeat (first | (with_reducible exact (Below.refl _ _)) | (with_reducible refine bel_alloc ?_ _) | (with_reducible refine Below.drew ?_) | (with_reducible refine bel_drewN ?_ _) | (with_reducible refine Below.setCell ?_ (by simp) _))))
        replace HB := Lib.hid (bel_step HB.out gB HB.out.size)
        replace HRr := Lib.hid (HRr.out.after gB)
        replace HRd := Lib.hid (HRd.out.after gB)
        replace HRf := Lib.hid (HRf.out.after gB)
        replace HRg := Lib.hid (HRg.out.after gB)
        replace HRm := Lib.hid (HRm.out.after gB)
        replace HRh := Lib.hid (HRh.out.after gB)
        clear hX gB cr0 cr1 ltr cd0 cd1 ltd cf0 cf1 ltf cg0 cg1 ltg cm0 cm1 ltm ch0 ch1 lth
        refine (lawRhythmsY _ _ _ (formV (N) (x)) (formV (N) (x)) _ rfl HRg.out.2 HRh.out.2).mono ?_
        rintro e w15 ⟨rfl, b15⟩
        replace HB := Lib.hid (bel_step HB.out b15 HB.out.size)
        replace HRr := Lib.hid (HRr.out.after b15)
        replace HRd := Lib.hid (HRd.out.after b15)
        replace HRf := Lib.hid (HRf.out.after b15)
        replace HRg := Lib.hid (HRg.out.after b15)
        replace HRm := Lib.hid (HRm.out.after b15)
        replace HRh := Lib.hid (HRh.out.after b15)
        clear b15
        have cr0 := HRr.out.1.c0
        have cr1 := HRr.out.1.c1
        have ltr := HRr.out.1.lt
        have cd0 := HRd.out.1.c0
        have cd1 := HRd.out.1.c1
        have ltd := HRd.out.1.lt
        have cf0 := HRf.out.1.c0
        have cf1 := HRf.out.1.c1
        have ltf := HRf.out.1.lt
        have cg0 := HRg.out.1.c0
        have cg1 := HRg.out.1.c1
        have ltg := HRg.out.1.lt
        have cm0 := HRm.out.1.c0
        have cm1 := HRm.out.1.c1
        have ltm := HRm.out.1.lt
        have ch0 := HRh.out.1.c0
        have ch1 := HRh.out.1.c1
        have lth := HRh.out.1.lt
        go_wp2_with fail
        refine withWorld fun X16 hX => ?_
        have gB : Below w15.heap.size w15 X16 := (by rw [hX]; (repeat (first | (with_reducible exact (Below.refl _ _)) | (with_reducible refine bel_alloc ?_ _) | (with_reducible refine Below.drew ?_) | (with_reducible refine bel_drewN ?_ _) | (with_reducible refine Below.setCell ?_ (by simp) _))))
        replace HB := Lib.hid (bel_step HB.out gB HB.out.size)
        replace HRr := Lib.hid (HRr.out.after gB)
        replace HRd := Lib.hid (HRd.out.after gB)
        replace HRf := Lib.hid (HRf.out.after gB)
        replace HRg := Lib.hid (HRg.out.after gB)
        replace HRm := Lib.hid (HRm.out.after gB)
        replace HRh := Lib.hid (HRh.out.after gB)
        clear hX gB cr0 cr1 ltr cd0 cd1 ltd cf0 cf1 ltf cg0 cg1 ltg cm0 cm1 ltm ch0 ch1 lth
        refine (isLeastY _ _ (leastV (N) (x)) _ HFR.out (leastV_least HRok.out) HRf.out.2).mono ?_
        rintro e w16 ⟨rfl, b16⟩
        replace HB := Lib.hid (bel_step HB.out b16 HB.out.size)
        replace HRr := Lib.hid (HRr.out.after b16)
        replace HRd := Lib.hid (HRd.out.after b16)
        replace HRf := Lib.hid (HRf.out.after b16)
        replace HRg := Lib.hid (HRg.out.after b16)
        replace HRm := Lib.hid (HRm.out.after b16)
        replace HRh := Lib.hid (HRh.out.after b16)
        clear b16
        have cr0 := HRr.out.1.c0
        have cr1 := HRr.out.1.c1
        have ltr := HRr.out.1.lt
        have cd0 := HRd.out.1.c0
        have cd1 := HRd.out.1.c1
        have ltd := HRd.out.1.lt
        have cf0 := HRf.out.1.c0
        have cf1 := HRf.out.1.c1
        have ltf := HRf.out.1.lt
        have cg0 := HRg.out.1.c0
        have cg1 := HRg.out.1.c1
        have ltg := HRg.out.1.lt
        have cm0 := HRm.out.1.c0
        have cm1 := HRm.out.1.c1
        have ltm := HRm.out.1.lt
        have ch0 := HRh.out.1.c0
        have ch1 := HRh.out.1.c1
        have lth := HRh.out.1.lt
        clear HRh cr0 cr1 ltr cd0 cd1 ltd cf0 cf1 ltf cg0 cg1 ltg cm0 cm1 ltm ch0 ch1 lth
        have cr0 := HRr.out.1.c0
        have cr1 := HRr.out.1.c1
        have ltr := HRr.out.1.lt
        have cd0 := HRd.out.1.c0
        have cd1 := HRd.out.1.c1
        have ltd := HRd.out.1.lt
        have cf0 := HRf.out.1.c0
        have cf1 := HRf.out.1.c1
        have ltf := HRf.out.1.lt
        have cg0 := HRg.out.1.c0
        have cg1 := HRg.out.1.c1
        have ltg := HRg.out.1.lt
        have cm0 := HRm.out.1.c0
        have cm1 := HRm.out.1.c1
        have ltm := HRm.out.1.lt
        go_wp2_with fail
        refine withWorld fun X17 hX => ?_
        have gB : Below w16.heap.size w16 X17 := (by rw [hX]; (repeat (first | (with_reducible exact (Below.refl _ _)) | (with_reducible refine bel_alloc ?_ _) | (with_reducible refine Below.drew ?_) | (with_reducible refine bel_drewN ?_ _) | (with_reducible refine Below.setCell ?_ (by simp) _))))
        replace HB := Lib.hid (bel_step HB.out gB HB.out.size)
        replace HRr := Lib.hid (HRr.out.after gB)
        replace HRd := Lib.hid (HRd.out.after gB)
        replace HRf := Lib.hid (HRf.out.after gB)
        replace HRg := Lib.hid (HRg.out.after gB)
        replace HRm := Lib.hid (HRm.out.after gB)
        clear hX gB cr0 cr1 ltr cd0 cd1 ltd cf0 cf1 ltf cg0 cg1 ltg cm0 cm1 ltm
        refine (specMakeNum _ z0 34 _ hm0 (by decide) ((HH0.out.below HB.out).mono HB.out.size)).mono ?_
        rintro e w17 ⟨⟨r34, hs0, hs1, rfl⟩, b17⟩
        replace HB := Lib.hid (bel_step HB.out b17 HB.out.size)
        replace HRr := Lib.hid (HRr.out.after b17)
        replace HRd := Lib.hid (HRd.out.after b17)
        replace HRf := Lib.hid (HRf.out.after b17)
        replace HRg := Lib.hid (HRg.out.after b17)
        replace HRm := Lib.hid (HRm.out.after b17)
        clear b17
        have cr0 := HRr.out.1.c0
        have cr1 := HRr.out.1.c1
        have ltr := HRr.out.1.lt
        have cd0 := HRd.out.1.c0
        have cd1 := HRd.out.1.c1
        have ltd := HRd.out.1.lt
        have cf0 := HRf.out.1.c0
        have cf1 := HRf.out.1.c1
        have ltf := HRf.out.1.lt
        have cg0 := HRg.out.1.c0
        have cg1 := HRg.out.1.c1
        have ltg := HRg.out.1.lt
        have cm0 := HRm.out.1.c0
        have cm1 := HRm.out.1.c1
        have ltm := HRm.out.1.lt
        have hn0 : ((N) == 0) = false := by simp; omega
        have hn1 : ¬ (N) = 0 := by omega
        obtain ⟨KK, hk0, hk1, hKK⟩ : ∃ KK : Int, 0 ≤ KK ∧ KK < N ∧ r34 % (N) = KK := ⟨_, Int.emod_nonneg _ hn1, Int.emod_lt_of_pos _ (by omega), rfl⟩
        go_wp2_with fail
        try rw [hKK]
        clear hKK hs0 hs1
        have HTR := Lib.hid (mapV_rok hlo hhi (x) 1 KK)
        have HTP : Hid (per (N) (mapV (N) (x) 1 KK) = (pl : Int)) := by unfold Hid; rw [← HPL.out]; exact per_of HTR.out HRok.out (inv_map1 HRok.out KK)
        have HTO : Hid (rotTo (N) (x) (mapV (N) (x) 1 KK) = KK % (pl : Int)) := by unfold Hid; rw [← HPL.out]; exact rotTo_rot HRok.out
        refine withWorld fun X18 hX => ?_
        have gB : Below w17.heap.size w17 X18 := (by rw [hX]; (repeat (first | (with_reducible exact (Below.refl _ _)) | (with_reducible refine bel_alloc ?_ _) | (with_reducible refine Below.drew ?_) | (with_reducible refine bel_drewN ?_ _) | (with_reducible refine Below.setCell ?_ (by simp) _))))
        replace HB := Lib.hid (bel_step HB.out gB HB.out.size)
        replace HRr := Lib.hid (HRr.out.after gB)
        replace HRd := Lib.hid (HRd.out.after gB)
        replace HRf := Lib.hid (HRf.out.after gB)
        replace HRg := Lib.hid (HRg.out.after gB)
        replace HRm := Lib.hid (HRm.out.after gB)
        clear hX gB cr0 cr1 ltr cd0 cd1 ltd cf0 cf1 ltf cg0 cg1 ltg cm0 cm1 ltm
        refine (rotateY _ _ (x) KK _ HRok.out (by omega) (by omega) _ rfl HRr.out.2).mono ?_
        rintro e w18 ⟨ax18, kx18, rfl, o18, b18⟩
        replace HB := Lib.hid (bel_step HB.out b18 HB.out.size)
        replace HRr := Lib.hid (HRr.out.after b18)
        replace HRd := Lib.hid (HRd.out.after b18)
        replace HRf := Lib.hid (HRf.out.after b18)
        replace HRg := Lib.hid (HRg.out.after b18)
        replace HRm := Lib.hid (HRm.out.after b18)
        have HO18 := Lib.hid o18
        clear o18
        clear b18
        have cr0 := HRr.out.1.c0
        have cr1 := HRr.out.1.c1
        have ltr := HRr.out.1.lt
        have cd0 := HRd.out.1.c0
        have cd1 := HRd.out.1.c1
        have ltd := HRd.out.1.lt
        have cf0 := HRf.out.1.c0
        have cf1 := HRf.out.1.c1
        have ltf := HRf.out.1.lt
        have cg0 := HRg.out.1.c0
        have cg1 := HRg.out.1.c1
        have ltg := HRg.out.1.lt
        have cm0 := HRm.out.1.c0
        have cm1 := HRm.out.1.c1
        have ltm := HRm.out.1.lt
        go_wp2_with fail
        refine withWorld fun X19 hX => ?_
        have gB : Below w18.heap.size w18 X19 := (by rw [hX]; (repeat (first | (with_reducible exact (Below.refl _ _)) | (with_reducible refine bel_alloc ?_ _) | (with_reducible refine Below.drew ?_) | (with_reducible refine bel_drewN ?_ _) | (with_reducible refine Below.setCell ?_ (by simp) _))))
        have HRt : Hid (RH X19 w18.heap.size (N) (.slice ax18 (mapV (N) (x) 1 KK).length kx18) (mapV (N) (x) 1 KK)) := (by unfold Hid; rw [hX]; (repeat (first | exact RH.new HO18.out | (with_reducible refine RH.alloc ?_ _) | (with_reducible refine RH.drewN ?_ _))))
        replace HB := Lib.hid (bel_step HB.out gB HB.out.size)
        replace HRr := Lib.hid (HRr.out.after gB)
        replace HRd := Lib.hid (HRd.out.after gB)
        replace HRf := Lib.hid (HRf.out.after gB)
        replace HRg := Lib.hid (HRg.out.after gB)
        replace HRm := Lib.hid (HRm.out.after gB)
        clear HO18
        clear hX gB cr0 cr1 ltr cd0 cd1 ltd cf0 cf1 ltf cg0 cg1 ltg cm0 cm1 ltm
        refine (leastRotY _ _ (mapV (N) (x) 1 KK) _ HTR.out _ (leastV_rot HRok.out KK) HRt.out.2).mono ?_
        rintro e w19 ⟨ax19, kx19, rfl, o19, b19⟩
        replace HB := Lib.hid (bel_step HB.out b19 HB.out.size)
        replace HRr := Lib.hid (HRr.out.after b19)
        replace HRd := Lib.hid (HRd.out.after b19)
        replace HRf := Lib.hid (HRf.out.after b19)
        replace HRg := Lib.hid (HRg.out.after b19)
        replace HRm := Lib.hid (HRm.out.after b19)
        replace HRt := Lib.hid (HRt.out.after b19)
        have HO19 := Lib.hid o19
        clear o19
        clear b19
        have cr0 := HRr.out.1.c0
        have cr1 := HRr.out.1.c1
        have ltr := HRr.out.1.lt
        have cd0 := HRd.out.1.c0
        have cd1 := HRd.out.1.c1
        have ltd := HRd.out.1.lt
        have cf0 := HRf.out.1.c0
        have cf1 := HRf.out.1.c1
        have ltf := HRf.out.1.lt
        have cg0 := HRg.out.1.c0
        have cg1 := HRg.out.1.c1
        have ltg := HRg.out.1.lt
        have cm0 := HRm.out.1.c0
        have cm1 := HRm.out.1.c1
        have ltm := HRm.out.1.lt
        have ct0 := HRt.out.1.c0
        have ct1 := HRt.out.1.c1
        have ltt := HRt.out.1.lt
        go_wp2_with fail
        refine withWorld fun X20 hX => ?_
        have gB : Below w19.heap.size w19 X20 := (by rw [hX]; (repeat (first | (with_reducible exact (Below.refl _ _)) | (with_reducible refine bel_alloc ?_ _) | (with_reducible refine Below.drew ?_) | (with_reducible refine bel_drewN ?_ _) | (with_reducible refine Below.setCell ?_ (by simp) _))))
        have HRy : Hid (RH X20 w19.heap.size (N) (.slice ax19 (leastV (N) (x)).length kx19) (leastV (N) (x))) := (by unfold Hid; rw [hX]; (repeat (first | exact RH.new HO19.out | (with_reducible refine RH.alloc ?_ _) | (with_reducible refine RH.drewN ?_ _))))
        replace HB := Lib.hid (bel_step HB.out gB HB.out.size)
        replace HRr := Lib.hid (HRr.out.after gB)
        replace HRd := Lib.hid (HRd.out.after gB)
        replace HRf := Lib.hid (HRf.out.after gB)
        replace HRg := Lib.hid (HRg.out.after gB)
        replace HRm := Lib.hid (HRm.out.after gB)
        replace HRt := Lib.hid (HRt.out.after gB)
        clear HO19
        clear hX gB cr0 cr1 ltr cd0 cd1 ltd cf0 cf1 ltf cg0 cg1 ltg cm0 cm1 ltm ct0 ct1 ltt
        refine (leastFormY _ _ (mapV (N) (x) 1 KK) _ HTR.out _ (formV_rot HRok.out KK) HRt.out.2).mono ?_
        rintro e w20 ⟨ax20, kx20, rfl, o20, b20⟩
        replace HB := Lib.hid (bel_step HB.out b20 HB.out.size)
        replace HRr := Lib.hid (HRr.out.after b20)
        replace HRd := Lib.hid (HRd.out.after b20)
        replace HRf := Lib.hid (HRf.out.after b20)
        replace HRg := Lib.hid (HRg.out.after b20)
        replace HRm := Lib.hid (HRm.out.after b20)
        replace HRt := Lib.hid (HRt.out.after b20)
        replace HRy := Lib.hid (HRy.out.after b20)
        have HO20 := Lib.hid o20
        clear o20
        clear b20
        have cr0 := HRr.out.1.c0
        have cr1 := HRr.out.1.c1
        have ltr := HRr.out.1.lt
        have cd0 := HRd.out.1.c0
        have cd1 := HRd.out.1.c1
        have ltd := HRd.out.1.lt
        have cf0 := HRf.out.1.c0
        have cf1 := HRf.out.1.c1
        have ltf := HRf.out.1.lt
        have cg0 := HRg.out.1.c0
        have cg1 := HRg.out.1.c1
        have ltg := HRg.out.1.lt
        have cm0 := HRm.out.1.c0
        have cm1 := HRm.out.1.c1
        have ltm := HRm.out.1.lt
        have ct0 := HRt.out.1.c0
        have ct1 := HRt.out.1.c1
        have ltt := HRt.out.1.lt
        have cy0 := HRy.out.1.c0
        have cy1 := HRy.out.1.c1
        have lty := HRy.out.1.lt
        go_wp2_with fail
        refine withWorldC fun Y21 hY => ?_
        have gB : Below w20.heap.size w20 Y21 := (by rw [hY]; (repeat (first | (with_reducible exact (Below.refl _ _)) | (with_reducible refine bel_alloc ?_ _) | (with_reducible refine Below.drew ?_) | (with_reducible refine bel_drewN ?_ _) | (with_reducible refine Below.setCell ?_ (by simp) _))))
        have HRz : Hid (RH Y21 w20.heap.size (N) (.slice ax20 (formV (N) (x)).length kx20) (formV (N) (x))) := (by unfold Hid; rw [hY]; (repeat (first | exact RH.new HO20.out | (with_reducible refine RH.alloc ?_ _) | (with_reducible refine RH.drewN ?_ _))))
        replace HB := Lib.hid (bel_step HB.out gB HB.out.size)
        replace HRr := Lib.hid (HRr.out.after gB)
        replace HRd := Lib.hid (HRd.out.after gB)
        replace HRf := Lib.hid (HRf.out.after gB)
        replace HRg := Lib.hid (HRg.out.after gB)
        replace HRm := Lib.hid (HRm.out.after gB)
        replace HRt := Lib.hid (HRt.out.after gB)
        replace HRy := Lib.hid (HRy.out.after gB)
        clear HO20
        clear hY gB cr0 cr1 ltr cd0 cd1 ltd cf0 cf1 ltf cg0 cg1 ltg cm0 cm1 ltm ct0 ct1 ltt cy0 cy1 lty
        refine region_held (fun V => Below Y21.heap.size Y21 V) (by kernel_rfl) (by kernel_rfl) ((Below.refl _ _).drew) (fun V V' h1 h2 => bel_step h1 h2 h1.size) fun U val hne hv hcall => ?_
        have HC := Lib.hid hcall
        have zr0 : ∀ u, (val u).cell? ⟨w1.heap.size, 0, none⟩ = some (.int .i64 (N)) := fun u => ((bcell (hv u)).1 _ _ HRr.out.1.lt).trans HRr.out.1.c0
        have zr1 : ∀ u, (val u).cell? ⟨w1.heap.size, 1, none⟩ = some (.slice ax1 x.length kx1) := fun u => ((bcell (hv u)).1 _ _ HRr.out.1.lt).trans HRr.out.1.c1
        have zf0 : ∀ u, (val u).cell? ⟨w9.heap.size, 0, none⟩ = some (.int .i64 (N)) := fun u => ((bcell (hv u)).1 _ _ HRf.out.1.lt).trans HRf.out.1.c0
        have zf1 : ∀ u, (val u).cell? ⟨w9.heap.size, 1, none⟩ = some (.slice ax9 (leastV (N) (x)).length kx9) := fun u => ((bcell (hv u)).1 _ _ HRf.out.1.lt).trans HRf.out.1.c1
        have zg0 : ∀ u, (val u).cell? ⟨w10.heap.size, 0, none⟩ = some (.int .i64 (N)) := fun u => ((bcell (hv u)).1 _ _ HRg.out.1.lt).trans HRg.out.1.c0
        have zg1 : ∀ u, (val u).cell? ⟨w10.heap.size, 1, none⟩ = some (.slice ax10 (formV (N) (x)).length kx10) := fun u => ((bcell (hv u)).1 _ _ HRg.out.1.lt).trans HRg.out.1.c1
        have zm0 : ∀ u, (val u).cell? ⟨w11.heap.size, 0, none⟩ = some (.int .i64 (N)) := fun u => ((bcell (hv u)).1 _ _ HRm.out.1.lt).trans HRm.out.1.c0
        have zm1 : ∀ u, (val u).cell? ⟨w11.heap.size, 1, none⟩ = some (.slice ax11 (mapV (N) (x) (-1) 0).length kx11) := fun u => ((bcell (hv u)).1 _ _ HRm.out.1.lt).trans HRm.out.1.c1
        have zt0 : ∀ u, (val u).cell? ⟨w18.heap.size, 0, none⟩ = some (.int .i64 (N)) := fun u => ((bcell (hv u)).1 _ _ HRt.out.1.lt).trans HRt.out.1.c0
        have zt1 : ∀ u, (val u).cell? ⟨w18.heap.size, 1, none⟩ = some (.slice ax18 (mapV (N) (x) 1 KK).length kx18) := fun u => ((bcell (hv u)).1 _ _ HRt.out.1.lt).trans HRt.out.1.c1
        have zy0 : ∀ u, (val u).cell? ⟨w19.heap.size, 0, none⟩ = some (.int .i64 (N)) := fun u => ((bcell (hv u)).1 _ _ HRy.out.1.lt).trans HRy.out.1.c0
        have zy1 : ∀ u, (val u).cell? ⟨w19.heap.size, 1, none⟩ = some (.slice ax19 (leastV (N) (x)).length kx19) := fun u => ((bcell (hv u)).1 _ _ HRy.out.1.lt).trans HRy.out.1.c1
        have zz0 : ∀ u, (val u).cell? ⟨w20.heap.size, 0, none⟩ = some (.int .i64 (N)) := fun u => ((bcell (hv u)).1 _ _ HRz.out.1.lt).trans HRz.out.1.c0
        have zz1 : ∀ u, (val u).cell? ⟨w20.heap.size, 1, none⟩ = some (.slice ax20 (formV (N) (x)).length kx20) := fun u => ((bcell (hv u)).1 _ _ HRz.out.1.lt).trans HRz.out.1.c1
        have HV := Lib.hid hv
        clear hv hcall
        repeat (go_big_quiet_step ((first | (go_at_call 21; exact HC.out _ _ _ _ (lawRhythmsY _ _ _ (leastV (N) (x)) (leastV (N) (x)) _ rfl (HRy.out.2.ofBelow (HV.out _)) (HRf.out.2.ofBelow (HV.out _)))) | (go_at_call 21; exact HC.out _ _ _ _ (lawRhythmsY _ _ _ (formV (N) (x)) (formV (N) (x)) _ rfl (HRz.out.2.ofBelow (HV.out _)) (HRg.out.2.ofBelow (HV.out _)))) | (go_at_call 24; exact HC.out _ _ _ _ (rotToY _ _ _ (x) (mapV (N) (x) 1 KK) _ _ HRok.out HTR.out HTO.out (HRr.out.2.ofBelow (HV.out _)) (HRt.out.2.ofBelow (HV.out _)))) | (go_at_call 25; exact HC.out _ _ _ _ (areRotY _ _ _ (x) (leastV (N) (x)) true _ HRok.out HFR.out (least_rot HRok.out) (HRr.out.2.ofBelow (HV.out _)) (HRf.out.2.ofBelow (HV.out _)))) | (go_at_call 26; exact HC.out _ _ _ _ (areFormsY _ _ _ (x) (mapV (N) (x) (-1) 0) true _ HRok.out HMR.out (form_mir HRok.out) (HRr.out.2.ofBelow (HV.out _)) (HRm.out.2.ofBelow (HV.out _)))) | (go_at_call 26; exact HC.out _ _ _ _ (areFormsY _ _ _ (x) (formV (N) (x)) true _ HRok.out HGR.out (form_form HRok.out) (HRr.out.2.ofBelow (HV.out _)) (HRg.out.2.ofBelow (HV.out _)))) | (go_at_call 25; exact HC.out _ _ _ _ (areRotY _ _ _ (x) (mapV (N) (x) (-1) 0) false _ HRok.out HMR.out (mir_rotB HRok.out HMB.out) (HRr.out.2.ofBelow (HV.out _)) (HRm.out.2.ofBelow (HV.out _)))) | (go_at_call 19; exact HC.out _ _ _ _ (mirroredY _ _ (x) false _ HRok.out HMB.out (HRr.out.2.ofBelow (HV.out _)))) | (go_at_call 13; exact HC.out _ _ _ _ (periodY _ _ (mapV (N) (x) 1 KK) _ _ HTR.out HTP.out (HRt.out.2.ofBelow (HV.out _)))))))
        refine wpQuiet_nil ?_
        rintro _ ⟨u, rfl⟩
        have gu := HV.out u
        clear HC HV zr0 zr1 zf0 zf1 zg0 zg1 zm0 zm1 zt0 zt1 zy0 zy1 zz0 zz1
        generalize val u = w21 at gu ⊢
        clear u hne val
        replace HB := Lib.hid (bel_step HB.out gu HB.out.size)
        replace HRr := Lib.hid (HRr.out.after gu)
        replace HRd := Lib.hid (HRd.out.after gu)
        replace HRf := Lib.hid (HRf.out.after gu)
        replace HRg := Lib.hid (HRg.out.after gu)
        replace HRm := Lib.hid (HRm.out.after gu)
        replace HRt := Lib.hid (HRt.out.after gu)
        replace HRy := Lib.hid (HRy.out.after gu)
        replace HRz := Lib.hid (HRz.out.after gu)
        clear gu
        have cr0 := HRr.out.1.c0
        have cr1 := HRr.out.1.c1
        have ltr := HRr.out.1.lt
        have cd0 := HRd.out.1.c0
        have cd1 := HRd.out.1.c1
        have ltd := HRd.out.1.lt
        have cf0 := HRf.out.1.c0
        have cf1 := HRf.out.1.c1
        have ltf := HRf.out.1.lt
        have cg0 := HRg.out.1.c0
        have cg1 := HRg.out.1.c1
        have ltg := HRg.out.1.lt
        have cm0 := HRm.out.1.c0
        have cm1 := HRm.out.1.c1
        have ltm := HRm.out.1.lt
        have ct0 := HRt.out.1.c0
        have ct1 := HRt.out.1.c1
        have ltt := HRt.out.1.lt
        have cy0 := HRy.out.1.c0
        have cy1 := HRy.out.1.c1
        have lty := HRy.out.1.lt
        have cz0 := HRz.out.1.c0
        have cz1 := HRz.out.1.c1
        have ltz := HRz.out.1.lt
        go_wp2
        go_ret
        exact ⟨rfl, HB.out⟩
      · have ha1 : ((al : Int) != 0) = true := by simp; omega
        have ha2 : ((al : Int) != (N) / (pl : Int)) = false := by
          rcases HAC.out with h | h
          · omega
          · rw [h]; simp
        have HMB : Hid (decide (0 < (axTo (N) (x) (N).toNat).length) = true) := by unfold Hid; rw [HAL.out]; exact decide_eq_true ha0
        go_wp2_with fail
        refine withWorld fun X13 hX => ?_
        have gB : Below w12.heap.size w12 X13 := (by rw [hX]; (repeat (first | (with_reducible exact (Below.refl _ _)) | (with_reducible refine bel_alloc ?_ _) | (with_reducible refine Below.drew ?_) | (with_reducible refine bel_drewN ?_ _) | (with_reducible refine Below.setCell ?_ (by simp) _))))
        have HRh : Hid (RH X13 w12.heap.size (N) (.slice ax12 (formV (N) (x)).length kx12) (formV (N) (x))) := (by unfold Hid; rw [hX]; (repeat (first | exact RH.new HO12.out | (with_reducible refine RH.alloc ?_ _) | (with_reducible refine RH.drewN ?_ _))))
        replace HB := Lib.hid (bel_step HB.out gB HB.out.size)
        replace HRr := Lib.hid (HRr.out.after gB)
        replace HRd := Lib.hid (HRd.out.after gB)
        replace HRf := Lib.hid (HRf.out.after gB)
        replace HRg := Lib.hid (HRg.out.after gB)
        replace HRm := Lib.hid (HRm.out.after gB)
        clear HO12
        clear hX gB cr0 cr1 ltr cd0 cd1 ltd cf0 cf1 ltf cg0 cg1 ltg cm0 cm1 ltm
        refine (mirroredY _ _ (x) true _ HRok.out HMB.out HRr.out.2).mono ?_
        rintro e w13 ⟨rfl, b13⟩
        replace HB := Lib.hid (bel_step HB.out b13 HB.out.size)
        replace HRr := Lib.hid (HRr.out.after b13)
        replace HRd := Lib.hid (HRd.out.after b13)
        replace HRf := Lib.hid (HRf.out.after b13)
        replace HRg := Lib.hid (HRg.out.after b13)
        replace HRm := Lib.hid (HRm.out.after b13)
        replace HRh := Lib.hid (HRh.out.after b13)
        clear b13
        have cr0 := HRr.out.1.c0
        have cr1 := HRr.out.1.c1
        have ltr := HRr.out.1.lt
        have cd0 := HRd.out.1.c0
        have cd1 := HRd.out.1.c1
        have ltd := HRd.out.1.lt
        have cf0 := HRf.out.1.c0
        have cf1 := HRf.out.1.c1
        have ltf := HRf.out.1.lt
        have cg0 := HRg.out.1.c0
        have cg1 := HRg.out.1.c1
        have ltg := HRg.out.1.lt
        have cm0 := HRm.out.1.c0
        have cm1 := HRm.out.1.c1
        have ltm := HRm.out.1.lt
        have ch0 := HRh.out.1.c0
        have ch1 := HRh.out.1.c1
        have lth := HRh.out.1.lt
        go_wp2_with fail
        refine withWorld fun X14 hX => ?_
        have gB : Below w13.heap.size w13 X14 := (by rw [hX]; (repeat (first | (with_reducible exact (Below.refl _ _)) | (with_reducible refine bel_alloc ?_ _) | (with_reducible refine Below.drew ?_) | (with_reducible refine bel_drewN ?_ _) | (with_reducible refine Below.setCell ?_ (by simp) _))))
        replace HB := Lib.hid (bel_step HB.out gB HB.out.size)
        replace HRr := Lib.hid (HRr.out.after gB)
        replace HRd := Lib.hid (HRd.out.after gB)
        replace HRf := Lib.hid (HRf.out.after gB)
        replace HRg := Lib.hid (HRg.out.after gB)
        replace HRm := Lib.hid (HRm.out.after gB)
        replace HRh := Lib.hid (HRh.out.after gB)
        clear hX gB cr0 cr1 ltr cd0 cd1 ltd cf0 cf1 ltf cg0 cg1 ltg cm0 cm1 ltm ch0 ch1 lth
        refine (periodicY _ _ (x) _ _ HRok.out HPL.out HRr.out.2).mono ?_
        rintro e w14 ⟨rfl, b14⟩
        replace HB := Lib.hid (bel_step HB.out b14 HB.out.size)
        replace HRr := Lib.hid (HRr.out.after b14)
        replace HRd := Lib.hid (HRd.out.after b14)
        replace HRf := Lib.hid (HRf.out.after b14)
        replace HRg := Lib.hid (HRg.out.after b14)
        replace HRm := Lib.hid (HRm.out.after b14)
        replace HRh := Lib.hid (HRh.out.after b14)
        clear b14
        have cr0 := HRr.out.1.c0
        have cr1 := HRr.out.1.c1
        have ltr := HRr.out.1.lt
        have cd0 := HRd.out.1.c0
        have cd1 := HRd.out.1.c1
        have ltd := HRd.out.1.lt
        have cf0 := HRf.out.1.c0
        have cf1 := HRf.out.1.c1
        have ltf := HRf.out.1.lt
        have cg0 := HRg.out.1.c0
        have cg1 := HRg.out.1.c1
        have ltg := HRg.out.1.lt
        have cm0 := HRm.out.1.c0
        have cm1 := HRm.out.1.c1
        have ltm := HRm.out.1.lt
        have ch0 := HRh.out.1.c0
        have ch1 := HRh.out.1.c1
        have lth := HRh.out.1.lt
        go_wp2_with fail
        refine withWorld fun X15 hX => ?_
        have gB : Below w14.heap.size w14 X15 := (by rw [hX]; (repeat (first | (with_reducible exact (Below.refl _ _)) | (with_reducible refine bel_alloc ?_ _) | (with_reducible refine Below.drew ?_) | (with_reducible refine bel_drewN ?_ _) | (with_reducible refine Below.setCell ?_ (by simp) _))))
        replace HB := Lib.hid (bel_step HB.out gB HB.out.size)
        replace HRr := Lib.hid (HRr.out.after gB)
        replace HRd := Lib.hid (HRd.out.after gB)
        replace HRf := Lib.hid (HRf.out.after gB)
        replace HRg := Lib.hid (HRg.out.after gB)
        replace HRm := Lib.hid (HRm.out.after gB)
        replace HRh := Lib.hid (HRh.out.after gB)
        clear hX gB cr0 cr1 ltr cd0 cd1 ltd cf0 cf1 ltf cg0 cg1 ltg cm0 cm1 ltm ch0 ch1 lth
        refine (lawRhythmsY _ _ _ (formV (N) (x)) (formV (N) (x)) _ rfl HRg.out.2 HRh.out.2).mono ?_
        rintro e w15 ⟨rfl, b15⟩
        replace HB := Lib.hid (bel_step HB.out b15 HB.out.size)
        replace HRr := Lib.hid (HRr.out.after b15)
        replace HRd := Lib.hid (HRd.out.after b15)
        replace HRf := Lib.hid (HRf.out.after b15)
        replace HRg := Lib.hid (HRg.out.after b15)
        replace HRm := Lib.hid (HRm.out.after b15)
        replace HRh := Lib.hid (HRh.out.after b15)
        clear b15
        have cr0 := HRr.out.1.c0
        have cr1 := HRr.out.1.c1
        have ltr := HRr.out.1.lt
        have cd0 := HRd.out.1.c0
        have cd1 := HRd.out.1.c1
        have ltd := HRd.out.1.lt
        have cf0 := HRf.out.1.c0
        have cf1 := HRf.out.1.c1
        have ltf := HRf.out.1.lt
        have cg0 := HRg.out.1.c0
        have cg1 := HRg.out.1.c1
        have ltg := HRg.out.1.lt
        have cm0 := HRm.out.1.c0
        have cm1 := HRm.out.1.c1
        have ltm := HRm.out.1.lt
        have ch0 := HRh.out.1.c0
        have ch1 := HRh.out.1.c1
        have lth := HRh.out.1.lt
        go_wp2_with fail
        refine withWorld fun X16 hX => ?_
        have gB : Below w15.heap.size w15 X16 := (by rw [hX]; (repeat (first | (with_reducible exact (Below.refl _ _)) | (with_reducible refine bel_alloc ?_ _) | (with_reducible refine Below.drew ?_) | (with_reducible refine bel_drewN ?_ _) | (with_reducible refine Below.setCell ?_ (by simp) _))))
        replace HB := Lib.hid (bel_step HB.out gB HB.out.size)
        replace HRr := Lib.hid (HRr.out.after gB)
        replace HRd := Lib.hid (HRd.out.after gB)
        replace HRf := Lib.hid (HRf.out.after gB)
        replace HRg := Lib.hid (HRg.out.after gB)
        replace HRm := Lib.hid (HRm.out.after gB)
        replace HRh := Lib.hid (HRh.out.after gB)
        clear hX gB cr0 cr1 ltr cd0 cd1 ltd cf0 cf1 ltf cg0 cg1 ltg cm0 cm1 ltm ch0 ch1 lth
        refine (isLeastY _ _ (leastV (N) (x)) _ HFR.out (leastV_least HRok.out) HRf.out.2).mono ?_
        rintro e w16 ⟨rfl, b16⟩
        replace HB := Lib.hid (bel_step HB.out b16 HB.out.size)
        replace HRr := Lib.hid (HRr.out.after b16)
        replace HRd := Lib.hid (HRd.out.after b16)
        replace HRf := Lib.hid (HRf.out.after b16)
        replace HRg := Lib.hid (HRg.out.after b16)
        replace HRm := Lib.hid (HRm.out.after b16)
        replace HRh := Lib.hid (HRh.out.after b16)
        clear b16
        have cr0 := HRr.out.1.c0
        have cr1 := HRr.out.1.c1
        have ltr := HRr.out.1.lt
        have cd0 := HRd.out.1.c0
        have cd1 := HRd.out.1.c1
        have ltd := HRd.out.1.lt
        have cf0 := HRf.out.1.c0
        have cf1 := HRf.out.1.c1
        have ltf := HRf.out.1.lt
        have cg0 := HRg.out.1.c0
        have cg1 := HRg.out.1.c1
        have ltg := HRg.out.1.lt
        have cm0 := HRm.out.1.c0
        have cm1 := HRm.out.1.c1
        have ltm := HRm.out.1.lt
        have ch0 := HRh.out.1.c0
        have ch1 := HRh.out.1.c1
        have lth := HRh.out.1.lt
        clear HRh cr0 cr1 ltr cd0 cd1 ltd cf0 cf1 ltf cg0 cg1 ltg cm0 cm1 ltm ch0 ch1 lth
        have cr0 := HRr.out.1.c0
        have cr1 := HRr.out.1.c1
        have ltr := HRr.out.1.lt
        have cd0 := HRd.out.1.c0
        have cd1 := HRd.out.1.c1
        have ltd := HRd.out.1.lt
        have cf0 := HRf.out.1.c0
        have cf1 := HRf.out.1.c1
        have ltf := HRf.out.1.lt
        have cg0 := HRg.out.1.c0
        have cg1 := HRg.out.1.c1
        have ltg := HRg.out.1.lt
        have cm0 := HRm.out.1.c0
        have cm1 := HRm.out.1.c1
        have ltm := HRm.out.1.lt
        go_wp2_with fail
        refine withWorld fun X17 hX => ?_
        have gB : Below w16.heap.size w16 X17 := (by rw [hX]; (repeat (first | (with_reducible exact (Below.refl _ _)) | (with_reducible refine bel_alloc ?_ _) | (with_reducible refine Below.drew ?_) | (with_reducible refine bel_drewN ?_ _) | (with_reducible refine Below.setCell ?_ (by simp) _))))
        replace HB := Lib.hid (bel_step HB.out gB HB.out.size)
        replace HRr := Lib.hid (HRr.out.after gB)
        replace HRd := Lib.hid (HRd.out.after gB)
        replace HRf := Lib.hid (HRf.out.after gB)
        replace HRg := Lib.hid (HRg.out.after gB)
        replace HRm := Lib.hid (HRm.out.after gB)
        clear hX gB cr0 cr1 ltr cd0 cd1 ltd cf0 cf1 ltf cg0 cg1 ltg cm0 cm1 ltm
        refine (specMakeNum _ z0 34 _ hm0 (by decide) ((HH0.out.below HB.out).mono HB.out.size)).mono ?_
        rintro e w17 ⟨⟨r34, hs0, hs1, rfl⟩, b17⟩
        replace HB := Lib.hid (bel_step HB.out b17 HB.out.size)
        replace HRr := Lib.hid (HRr.out.after b17)
        replace HRd := Lib.hid (HRd.out.after b17)
        replace HRf := Lib.hid (HRf.out.after b17)
        replace HRg := Lib.hid (HRg.out.after b17)
        replace HRm := Lib.hid (HRm.out.after b17)
        clear b17
        have cr0 := HRr.out.1.c0
        have cr1 := HRr.out.1.c1
        have ltr := HRr.out.1.lt
        have cd0 := HRd.out.1.c0
        have cd1 := HRd.out.1.c1
        have ltd := HRd.out.1.lt
        have cf0 := HRf.out.1.c0
        have cf1 := HRf.out.1.c1
        have ltf := HRf.out.1.lt
        have cg0 := HRg.out.1.c0
        have cg1 := HRg.out.1.c1
        have ltg := HRg.out.1.lt
        have cm0 := HRm.out.1.c0
        have cm1 := HRm.out.1.c1
        have ltm := HRm.out.1.lt
        have hn0 : ((N) == 0) = false := by simp; omega
        have hn1 : ¬ (N) = 0 := by omega
        obtain ⟨KK, hk0, hk1, hKK⟩ : ∃ KK : Int, 0 ≤ KK ∧ KK < N ∧ r34 % (N) = KK := ⟨_, Int.emod_nonneg _ hn1, Int.emod_lt_of_pos _ (by omega), rfl⟩
        go_wp2_with fail
        try rw [hKK]
        clear hKK hs0 hs1
        have HTR := Lib.hid (mapV_rok hlo hhi (x) 1 KK)
        have HTP : Hid (per (N) (mapV (N) (x) 1 KK) = (pl : Int)) := by unfold Hid; rw [← HPL.out]; exact per_of HTR.out HRok.out (inv_map1 HRok.out KK)
        have HTO : Hid (rotTo (N) (x) (mapV (N) (x) 1 KK) = KK % (pl : Int)) := by unfold Hid; rw [← HPL.out]; exact rotTo_rot HRok.out
        refine withWorld fun X18 hX => ?_
        have gB : Below w17.heap.size w17 X18 := (by rw [hX]; (repeat (first | (with_reducible exact (Below.refl _ _)) | (with_reducible refine bel_alloc ?_ _) | (with_reducible refine Below.drew ?_) | (with_reducible refine bel_drewN ?_ _) | (with_reducible refine Below.setCell ?_ (by simp) _))))
        replace HB := Lib.hid (bel_step HB.out gB HB.out.size)
        replace HRr := Lib.hid (HRr.out.after gB)
        replace HRd := Lib.hid (HRd.out.after gB)
        replace HRf := Lib.hid (HRf.out.after gB)
        replace HRg := Lib.hid (HRg.out.after gB)
        replace HRm := Lib.hid (HRm.out.after gB)
        clear hX gB cr0 cr1 ltr cd0 cd1 ltd cf0 cf1 ltf cg0 cg1 ltg cm0 cm1 ltm
        refine (rotateY _ _ (x) KK _ HRok.out (by omega) (by omega) _ rfl HRr.out.2).mono ?_
        rintro e w18 ⟨ax18, kx18, rfl, o18, b18⟩
        replace HB := Lib.hid (bel_step HB.out b18 HB.out.size)
        replace HRr := Lib.hid (HRr.out.after b18)
        replace HRd := Lib.hid (HRd.out.after b18)
        replace HRf := Lib.hid (HRf.out.after b18)
        replace HRg := Lib.hid (HRg.out.after b18)
        replace HRm := Lib.hid (HRm.out.after b18)
        have HO18 := Lib.hid o18
        clear o18
        clear b18
        have cr0 := HRr.out.1.c0
        have cr1 := HRr.out.1.c1
        have ltr := HRr.out.1.lt
        have cd0 := HRd.out.1.c0
        have cd1 := HRd.out.1.c1
        have ltd := HRd.out.1.lt
        have cf0 := HRf.out.1.c0
        have cf1 := HRf.out.1.c1
        have ltf := HRf.out.1.lt
        have cg0 := HRg.out.1.c0
        have cg1 := HRg.out.1.c1
        have ltg := HRg.out.1.lt
        have cm0 := HRm.out.1.c0
        have cm1 := HRm.out.1.c1
        have ltm := HRm.out.1.lt
        go_wp2_with fail
        refine withWorld fun X19 hX => ?_
        have gB : Below w18.heap.size w18 X19 := (by rw [hX]; (repeat (first | (with_reducible exact (Below.refl _ _)) | (with_reducible refine bel_alloc ?_ _) | (with_reducible refine Below.drew ?_) | (with_reducible refine bel_drewN ?_ _) | (with_reducible refine Below.setCell ?_ (by simp) _))))
        have HRt : Hid (RH X19 w18.heap.size (N) (.slice ax18 (mapV (N) (x) 1 KK).length kx18) (mapV (N) (x) 1 KK)) := (by unfold Hid; rw [hX]; (repeat (first | exact RH.new HO18.out | (with_reducible refine RH.alloc ?_ _) | (with_reducible refine RH.drewN ?_ _))))
        replace HB := Lib.hid (bel_step HB.out gB HB.out.size)
        replace HRr := Lib.hid (HRr.out.after gB)
        replace HRd := Lib.hid (HRd.out.after gB)
        replace HRf := Lib.hid (HRf.out.after gB)
        replace HRg := Lib.hid (HRg.out.after gB)
        replace HRm := Lib.hid (HRm.out.after gB)
        clear HO18
        clear hX gB cr0 cr1 ltr cd0 cd1 ltd cf0 cf1 ltf cg0 cg1 ltg cm0 cm1 ltm
        refine (leastRotY _ _ (mapV (N) (x) 1 KK) _ HTR.out _ (leastV_rot HRok.out KK) HRt.out.2).mono ?_
        rintro e w19 ⟨ax19, kx19, rfl, o19, b19⟩
        replace HB := Lib.hid (bel_step HB.out b19 HB.out.size)
        replace HRr := Lib.hid (HRr.out.after b19)
        replace HRd := Lib.hid (HRd.out.after b19)
        replace HRf := Lib.hid (HRf.out.after b19)
        replace HRg := Lib.hid (HRg.out.after b19)
        replace HRm := Lib.hid (HRm.out.after b19)
        replace HRt := Lib.hid (HRt.out.after b19)
        have HO19 := Lib.hid o19
        clear o19
        clear b19
        have cr0 := HRr.out.1.c0
        have cr1 := HRr.out.1.c1
        have ltr := HRr.out.1.lt
        have cd0 := HRd.out.1.c0
        have cd1 := HRd.out.1.c1
        have ltd := HRd.out.1.lt
        have cf0 := HRf.out.1.c0
        have cf1 := HRf.out.1.c1
        have ltf := HRf.out.1.lt
        have cg0 := HRg.out.1.c0
        have cg1 := HRg.out.1.c1
        have ltg := HRg.out.1.lt
        have cm0 := HRm.out.1.c0
        have cm1 := HRm.out.1.c1
        have ltm := HRm.out.1.lt
        have ct0 := HRt.out.1.c0
        have ct1 := HRt.out.1.c1
        have ltt := HRt.out.1.lt
        go_wp2_with fail
        refine withWorld fun X20 hX => ?_
        have gB : Below w19.heap.size w19 X20 := (by rw [hX]; (repeat (first | (with_reducible exact (Below.refl _ _)) | (with_reducible refine bel_alloc ?_ _) | (with_reducible refine Below.drew ?_) | (with_reducible refine bel_drewN ?_ _) | (with_reducible refine Below.setCell ?_ (by simp) _))))
        have HRy : Hid (RH X20 w19.heap.size (N) (.slice ax19 (leastV (N) (x)).length kx19) (leastV (N) (x))) := (by unfold Hid; rw [hX]; (repeat (first | exact RH.new HO19.out | (with_reducible refine RH.alloc ?_ _) | (with_reducible refine RH.drewN ?_ _))))
        replace HB := Lib.hid (bel_step HB.out gB HB.out.size)
        replace HRr := Lib.hid (HRr.out.after gB)
        replace HRd := Lib.hid (HRd.out.after gB)
        replace HRf := Lib.hid (HRf.out.after gB)
        replace HRg := Lib.hid (HRg.out.after gB)
        replace HRm := Lib.hid (HRm.out.after gB)
        replace HRt := Lib.hid (HRt.out.after gB)
        clear HO19
        clear hX gB cr0 cr1 ltr cd0 cd1 ltd cf0 cf1 ltf cg0 cg1 ltg cm0 cm1 ltm ct0 ct1 ltt
        refine (leastFormY _ _ (mapV (N) (x) 1 KK) _ HTR.out _ (formV_rot HRok.out KK) HRt.out.2).mono ?_
        rintro e w20 ⟨ax20, kx20, rfl, o20, b20⟩
        replace HB := Lib.hid (bel_step HB.out b20 HB.out.size)
        replace HRr := Lib.hid (HRr.out.after b20)
        replace HRd := Lib.hid (HRd.out.after b20)
        replace HRf := Lib.hid (HRf.out.after b20)
        replace HRg := Lib.hid (HRg.out.after b20)
        replace HRm := Lib.hid (HRm.out.after b20)
        replace HRt := Lib.hid (HRt.out.after b20)
        replace HRy := Lib.hid (HRy.out.after b20)
        have HO20 := Lib.hid o20
        clear o20
        clear b20
        have cr0 := HRr.out.1.c0
        have cr1 := HRr.out.1.c1
        have ltr := HRr.out.1.lt
        have cd0 := HRd.out.1.c0
        have cd1 := HRd.out.1.c1
        have ltd := HRd.out.1.lt
        have cf0 := HRf.out.1.c0
        have cf1 := HRf.out.1.c1
        have ltf := HRf.out.1.lt
        have cg0 := HRg.out.1.c0
        have cg1 := HRg.out.1.c1
        have ltg := HRg.out.1.lt
        have cm0 := HRm.out.1.c0
        have cm1 := HRm.out.1.c1
        have ltm := HRm.out.1.lt
        have ct0 := HRt.out.1.c0
        have ct1 := HRt.out.1.c1
        have ltt := HRt.out.1.lt
        have cy0 := HRy.out.1.c0
        have cy1 := HRy.out.1.c1
        have lty := HRy.out.1.lt
        go_wp2_with fail
        refine withWorldC fun Y21 hY => ?_
        have gB : Below w20.heap.size w20 Y21 := (by rw [hY]; (repeat (first | (with_reducible exact (Below.refl _ _)) | (with_reducible refine bel_alloc ?_ _) | (with_reducible refine Below.drew ?_) | (with_reducible refine bel_drewN ?_ _) | (with_reducible refine Below.setCell ?_ (by simp) _))))
        have HRz : Hid (RH Y21 w20.heap.size (N) (.slice ax20 (formV (N) (x)).length kx20) (formV (N) (x))) := (by unfold Hid; rw [hY]; (repeat (first | exact RH.new HO20.out | (with_reducible refine RH.alloc ?_ _) | (with_reducible refine RH.drewN ?_ _))))
        replace HB := Lib.hid (bel_step HB.out gB HB.out.size)
        replace HRr := Lib.hid (HRr.out.after gB)
        replace HRd := Lib.hid (HRd.out.after gB)
        replace HRf := Lib.hid (HRf.out.after gB)
        replace HRg := Lib.hid (HRg.out.after gB)
        replace HRm := Lib.hid (HRm.out.after gB)
        replace HRt := Lib.hid (HRt.out.after gB)
        replace HRy := Lib.hid (HRy.out.after gB)
        clear HO20
        clear hY gB cr0 cr1 ltr cd0 cd1 ltd cf0 cf1 ltf cg0 cg1 ltg cm0 cm1 ltm ct0 ct1 ltt cy0 cy1 lty
        refine region_held (fun V => Below Y21.heap.size Y21 V) (by kernel_rfl) (by kernel_rfl) ((Below.refl _ _).drew) (fun V V' h1 h2 => bel_step h1 h2 h1.size) fun U val hne hv hcall => ?_
        have HC := Lib.hid hcall
        have zr0 : ∀ u, (val u).cell? ⟨w1.heap.size, 0, none⟩ = some (.int .i64 (N)) := fun u => ((bcell (hv u)).1 _ _ HRr.out.1.lt).trans HRr.out.1.c0
        have zr1 : ∀ u, (val u).cell? ⟨w1.heap.size, 1, none⟩ = some (.slice ax1 x.length kx1) := fun u => ((bcell (hv u)).1 _ _ HRr.out.1.lt).trans HRr.out.1.c1
        have zf0 : ∀ u, (val u).cell? ⟨w9.heap.size, 0, none⟩ = some (.int .i64 (N)) := fun u => ((bcell (hv u)).1 _ _ HRf.out.1.lt).trans HRf.out.1.c0
        have zf1 : ∀ u, (val u).cell? ⟨w9.heap.size, 1, none⟩ = some (.slice ax9 (leastV (N) (x)).length kx9) := fun u => ((bcell (hv u)).1 _ _ HRf.out.1.lt).trans HRf.out.1.c1
        have zg0 : ∀ u, (val u).cell? ⟨w10.heap.size, 0, none⟩ = some (.int .i64 (N)) := fun u => ((bcell (hv u)).1 _ _ HRg.out.1.lt).trans HRg.out.1.c0
        have zg1 : ∀ u, (val u).cell? ⟨w10.heap.size, 1, none⟩ = some (.slice ax10 (formV (N) (x)).length kx10) := fun u => ((bcell (hv u)).1 _ _ HRg.out.1.lt).trans HRg.out.1.c1
        have zm0 : ∀ u, (val u).cell? ⟨w11.heap.size, 0, none⟩ = some (.int .i64 (N)) := fun u => ((bcell (hv u)).1 _ _ HRm.out.1.lt).trans HRm.out.1.c0
        have zm1 : ∀ u, (val u).cell? ⟨w11.heap.size, 1, none⟩ = some (.slice ax11 (mapV (N) (x) (-1) 0).length kx11) := fun u => ((bcell (hv u)).1 _ _ HRm.out.1.lt).trans HRm.out.1.c1
        have zt0 : ∀ u, (val u).cell? ⟨w18.heap.size, 0, none⟩ = some (.int .i64 (N)) := fun u => ((bcell (hv u)).1 _ _ HRt.out.1.lt).trans HRt.out.1.c0
        have zt1 : ∀ u, (val u).cell? ⟨w18.heap.size, 1, none⟩ = some (.slice ax18 (mapV (N) (x) 1 KK).length kx18) := fun u => ((bcell (hv u)).1 _ _ HRt.out.1.lt).trans HRt.out.1.c1
        have zy0 : ∀ u, (val u).cell? ⟨w19.heap.size, 0, none⟩ = some (.int .i64 (N)) := fun u => ((bcell (hv u)).1 _ _ HRy.out.1.lt).trans HRy.out.1.c0
        have zy1 : ∀ u, (val u).cell? ⟨w19.heap.size, 1, none⟩ = some (.slice ax19 (leastV (N) (x)).length kx19) := fun u => ((bcell (hv u)).1 _ _ HRy.out.1.lt).trans HRy.out.1.c1
        have zz0 : ∀ u, (val u).cell? ⟨w20.heap.size, 0, none⟩ = some (.int .i64 (N)) := fun u => ((bcell (hv u)).1 _ _ HRz.out.1.lt).trans HRz.out.1.c0
        have zz1 : ∀ u, (val u).cell? ⟨w20.heap.size, 1, none⟩ = some (.slice ax20 (formV (N) (x)).length kx20) := fun u => ((bcell (hv u)).1 _ _ HRz.out.1.lt).trans HRz.out.1.c1
        have HV := Lib.hid hv
        clear hv hcall
        repeat (go_big_quiet_step ((first | (go_at_call 21; exact HC.out _ _ _ _ (lawRhythmsY _ _ _ (leastV (N) (x)) (leastV (N) (x)) _ rfl (HRy.out.2.ofBelow (HV.out _)) (HRf.out.2.ofBelow (HV.out _)))) | (go_at_call 21; exact HC.out _ _ _ _ (lawRhythmsY _ _ _ (formV (N) (x)) (formV (N) (x)) _ rfl (HRz.out.2.ofBelow (HV.out _)) (HRg.out.2.ofBelow (HV.out _)))) | (go_at_call 24; exact HC.out _ _ _ _ (rotToY _ _ _ (x) (mapV (N) (x) 1 KK) _ _ HRok.out HTR.out HTO.out (HRr.out.2.ofBelow (HV.out _)) (HRt.out.2.ofBelow (HV.out _)))) | (go_at_call 25; exact HC.out _ _ _ _ (areRotY _ _ _ (x) (leastV (N) (x)) true _ HRok.out HFR.out (least_rot HRok.out) (HRr.out.2.ofBelow (HV.out _)) (HRf.out.2.ofBelow (HV.out _)))) | (go_at_call 26; exact HC.out _ _ _ _ (areFormsY _ _ _ (x) (mapV (N) (x) (-1) 0) true _ HRok.out HMR.out (form_mir HRok.out) (HRr.out.2.ofBelow (HV.out _)) (HRm.out.2.ofBelow (HV.out _)))) | (go_at_call 26; exact HC.out _ _ _ _ (areFormsY _ _ _ (x) (formV (N) (x)) true _ HRok.out HGR.out (form_form HRok.out) (HRr.out.2.ofBelow (HV.out _)) (HRg.out.2.ofBelow (HV.out _)))) | (go_at_call 25; exact HC.out _ _ _ _ (areRotY _ _ _ (x) (mapV (N) (x) (-1) 0) true _ HRok.out HMR.out (mir_rotB HRok.out HMB.out) (HRr.out.2.ofBelow (HV.out _)) (HRm.out.2.ofBelow (HV.out _)))) | (go_at_call 19; exact HC.out _ _ _ _ (mirroredY _ _ (x) true _ HRok.out HMB.out (HRr.out.2.ofBelow (HV.out _)))) | (go_at_call 13; exact HC.out _ _ _ _ (periodY _ _ (mapV (N) (x) 1 KK) _ _ HTR.out HTP.out (HRt.out.2.ofBelow (HV.out _)))))))
        refine wpQuiet_nil ?_
        rintro _ ⟨u, rfl⟩
        have gu := HV.out u
        clear HC HV zr0 zr1 zf0 zf1 zg0 zg1 zm0 zm1 zt0 zt1 zy0 zy1 zz0 zz1
        generalize val u = w21 at gu ⊢
        clear u hne val
        replace HB := Lib.hid (bel_step HB.out gu HB.out.size)
        replace HRr := Lib.hid (HRr.out.after gu)
        replace HRd := Lib.hid (HRd.out.after gu)
        replace HRf := Lib.hid (HRf.out.after gu)
        replace HRg := Lib.hid (HRg.out.after gu)
        replace HRm := Lib.hid (HRm.out.after gu)
        replace HRt := Lib.hid (HRt.out.after gu)
        replace HRy := Lib.hid (HRy.out.after gu)
        replace HRz := Lib.hid (HRz.out.after gu)
        clear gu
        have cr0 := HRr.out.1.c0
        have cr1 := HRr.out.1.c1
        have ltr := HRr.out.1.lt
        have cd0 := HRd.out.1.c0
        have cd1 := HRd.out.1.c1
        have ltd := HRd.out.1.lt
        have cf0 := HRf.out.1.c0
        have cf1 := HRf.out.1.c1
        have ltf := HRf.out.1.lt
        have cg0 := HRg.out.1.c0
        have cg1 := HRg.out.1.c1
        have ltg := HRg.out.1.lt
        have cm0 := HRm.out.1.c0
        have cm1 := HRm.out.1.c1
        have ltm := HRm.out.1.lt
        have ct0 := HRt.out.1.c0
        have ct1 := HRt.out.1.c1
        have ltt := HRt.out.1.lt
        have cy0 := HRy.out.1.c0
        have cy1 := HRy.out.1.c1
        have lty := HRy.out.1.lt
        have cz0 := HRz.out.1.c0
        have cz1 := HRz.out.1.c1
        have ltz := HRz.out.1.lt
        go_wp2
        go_ret
        exact ⟨rfl, HB.out⟩
    | true =>
      have HRok2 := Lib.hid (HBY.out rfl)
      clear HRok
      have HRok := HRok2
      have fr0 := HRr.out.1.f 0
      have fr1 := HRr.out.1.f 1
      go_wp2_with fail
      refine withWorld fun X6 hX => ?_
      have gB : Below w.heap.size w X6 := (by rw [hX]; repeat (first | (with_reducible exact HB.out) | (with_reducible refine bel_alloc ?_ _) | (with_reducible refine Below.setCell ?_ (by simp; omega) _) | (with_reducible refine Below.drew ?_)))
      have HRz : Hid (RH X6 w1.heap.size Nd (.slice ax5 y.length kx5) y) := (by unfold Hid; rw [hX]; exact ⟨((HRr.out.1.set0 _).set1 _).alloc _, (((HO5.out.setc hqY _).setc hqY _).alloc _).ints⟩)
      clear hX HRr HO5 fr0 fr1 cr0 cr1 ltr
      have HRr := HRz
      clear HRz HRok2 HBY
      replace HB := Lib.hid gB
      clear gB
      obtain ⟨pl, hpl, hp1, hpn, hpd⟩ : ∃ pl : Nat, per (Nd) (y) = (pl : Int) ∧ 1 ≤ pl ∧ (pl : Int) ≤ Nd ∧ (Nd) % (pl : Int) = 0 := by
        have h1 := per_bd (x := y) HRok.out.lo
        have h2 := per_dvd HRok.out
        refine ⟨(per (Nd) (y)).toNat, by omega, by omega, by omega, ?_⟩
        rw [show (((per (Nd) (y)).toNat : Nat) : Int) = per (Nd) (y) by omega]; exact h2
      obtain ⟨al, hal, halc⟩ : ∃ al : Nat, (axTo (Nd) (y) (Nd).toNat).length = al ∧ (al = 0 ∨ (al : Int) = (Nd) / (pl : Int)) := ⟨_, rfl, by rw [← hpl]; exact axes_len HRok.out⟩
      have HPL := Lib.hid hpl
      have HAL := Lib.hid hal
      have HAC := Lib.hid halc
      have HPD := Lib.hid hpd
      clear hpl hal halc hpd
      have hlo := HRok.out.lo
      have hhi := HRok.out.hi
      have HFR := Lib.hid (leastV_rok hlo hhi (y))
      have HGR := Lib.hid (formV_rok hlo hhi (y))
      have HMR := Lib.hid (mapV_rok hlo hhi (y) (-1) 0)
      refine (periodY _ _ (y) _ _ HRok.out HPL.out HRr.out.2).mono ?_
      rintro e w7 ⟨rfl, b7⟩
      replace HB := Lib.hid (bel_step HB.out b7 HB.out.size)
      replace HRr := Lib.hid (HRr.out.after b7)
      clear b7
      have cr0 := HRr.out.1.c0
      have cr1 := HRr.out.1.c1
      have ltr := HRr.out.1.lt
      go_wp2_with fail
      refine withWorld fun X8 hX => ?_
      have gB : Below w7.heap.size w7 X8 := (by rw [hX]; (repeat (first | (with_reducible exact (Below.refl _ _)) | (with_reducible refine bel_alloc ?_ _) | (with_reducible refine Below.drew ?_) | (with_reducible refine bel_drewN ?_ _) | (with_reducible refine Below.setCell ?_ (by simp) _))))
      replace HB := Lib.hid (bel_step HB.out gB HB.out.size)
      replace HRr := Lib.hid (HRr.out.after gB)
      clear hX gB cr0 cr1 ltr
      refine (axesY _ _ (y) _ _ HRok.out HAL.out HRr.out.2).mono ?_
      rintro e w8 ⟨⟨aa8, ca8, rfl⟩, b8⟩
      replace HB := Lib.hid (bel_step HB.out b8 HB.out.size)
      replace HRr := Lib.hid (HRr.out.after b8)
      clear b8
      have cr0 := HRr.out.1.c0
      have cr1 := HRr.out.1.c1
      have ltr := HRr.out.1.lt
      go_wp2_with fail
      refine withWorld fun X9 hX => ?_
      have gB : Below w8.heap.size w8 X9 := (by rw [hX]; (repeat (first | (with_reducible exact (Below.refl _ _)) | (with_reducible refine bel_alloc ?_ _) | (with_reducible refine Below.drew ?_) | (with_reducible refine bel_drewN ?_ _) | (with_reducible refine Below.setCell ?_ (by simp) _))))
      replace HB := Lib.hid (bel_step HB.out gB HB.out.size)
      replace HRr := Lib.hid (HRr.out.after gB)
      clear hX gB cr0 cr1 ltr
      refine (rotationsY _ _ (y) _ _ HRok.out HPL.out HRr.out.2).mono ?_
      rintro e w9 ⟨⟨aa9, ca9, rfl⟩, b9⟩
      replace HB := Lib.hid (bel_step HB.out b9 HB.out.size)
      replace HRr := Lib.hid (HRr.out.after b9)
      clear b9
      have cr0 := HRr.out.1.c0
      have cr1 := HRr.out.1.c1
      have ltr := HRr.out.1.lt
      go_wp2_with fail
      refine withWorld fun X10 hX => ?_
      have gB : Below w9.heap.size w9 X10 := (by rw [hX]; (repeat (first | (with_reducible exact (Below.refl _ _)) | (with_reducible refine bel_alloc ?_ _) | (with_reducible refine Below.drew ?_) | (with_reducible refine bel_drewN ?_ _) | (with_reducible refine Below.setCell ?_ (by simp) _))))
      replace HB := Lib.hid (bel_step HB.out gB HB.out.size)
      replace HRr := Lib.hid (HRr.out.after gB)
      clear hX gB cr0 cr1 ltr
      refine (leastRotY _ _ (y) _ HRok.out _ rfl HRr.out.2).mono ?_
      rintro e w10 ⟨ax10, kx10, rfl, o10, b10⟩
      replace HB := Lib.hid (bel_step HB.out b10 HB.out.size)
      replace HRr := Lib.hid (HRr.out.after b10)
      have HO10 := Lib.hid o10
      clear o10
      clear b10
      have cr0 := HRr.out.1.c0
      have cr1 := HRr.out.1.c1
      have ltr := HRr.out.1.lt
      go_wp2_with fail
      refine withWorld fun X11 hX => ?_
      have gB : Below w10.heap.size w10 X11 := (by rw [hX]; (repeat (first | (with_reducible exact (Below.refl _ _)) | (with_reducible refine bel_alloc ?_ _) | (with_reducible refine Below.drew ?_) | (with_reducible refine bel_drewN ?_ _) | (with_reducible refine Below.setCell ?_ (by simp) _))))
      have HRf : Hid (RH X11 w10.heap.size (Nd) (.slice ax10 (leastV (Nd) (y)).length kx10) (leastV (Nd) (y))) := (by unfold Hid; rw [hX]; (repeat (first | exact RH.new HO10.out | (with_reducible refine RH.alloc ?_ _) | (with_reducible refine RH.drewN ?_ _))))
      replace HB := Lib.hid (bel_step HB.out gB HB.out.size)
      replace HRr := Lib.hid (HRr.out.after gB)
      clear HO10
      clear hX gB cr0 cr1 ltr
      refine (leastFormY _ _ (y) _ HRok.out _ rfl HRr.out.2).mono ?_
      rintro e w11 ⟨ax11, kx11, rfl, o11, b11⟩
      replace HB := Lib.hid (bel_step HB.out b11 HB.out.size)
      replace HRr := Lib.hid (HRr.out.after b11)
      replace HRf := Lib.hid (HRf.out.after b11)
      have HO11 := Lib.hid o11
      clear o11
      clear b11
      have cr0 := HRr.out.1.c0
      have cr1 := HRr.out.1.c1
      have ltr := HRr.out.1.lt
      have cf0 := HRf.out.1.c0
      have cf1 := HRf.out.1.c1
      have ltf := HRf.out.1.lt
      go_wp2_with fail
      refine withWorld fun X12 hX => ?_
      have gB : Below w11.heap.size w11 X12 := (by rw [hX]; (repeat (first | (with_reducible exact (Below.refl _ _)) | (with_reducible refine bel_alloc ?_ _) | (with_reducible refine Below.drew ?_) | (with_reducible refine bel_drewN ?_ _) | (with_reducible refine Below.setCell ?_ (by simp) _))))
      have HRg : Hid (RH X12 w11.heap.size (Nd) (.slice ax11 (formV (Nd) (y)).length kx11) (formV (Nd) (y))) := (by unfold Hid; rw [hX]; (repeat (first | exact RH.new HO11.out | (with_reducible refine RH.alloc ?_ _) | (with_reducible refine RH.drewN ?_ _))))
      replace HB := Lib.hid (bel_step HB.out gB HB.out.size)
      replace HRr := Lib.hid (HRr.out.after gB)
      replace HRf := Lib.hid (HRf.out.after gB)
      clear HO11
      clear hX gB cr0 cr1 ltr cf0 cf1 ltf
      refine (mirrorY _ _ (y) _ HRok.out _ rfl HRr.out.2).mono ?_
      rintro e w12 ⟨ax12, kx12, rfl, o12, b12⟩
      replace HB := Lib.hid (bel_step HB.out b12 HB.out.size)
      replace HRr := Lib.hid (HRr.out.after b12)
      replace HRf := Lib.hid (HRf.out.after b12)
      replace HRg := Lib.hid (HRg.out.after b12)
      have HO12 := Lib.hid o12
      clear o12
      clear b12
      have cr0 := HRr.out.1.c0
      have cr1 := HRr.out.1.c1
      have ltr := HRr.out.1.lt
      have cf0 := HRf.out.1.c0
      have cf1 := HRf.out.1.c1
      have ltf := HRf.out.1.lt
      have cg0 := HRg.out.1.c0
      have cg1 := HRg.out.1.c1
      have ltg := HRg.out.1.lt
      go_wp2_with fail
      refine withWorld fun X13 hX => ?_
      have gB : Below w12.heap.size w12 X13 := (by rw [hX]; (repeat (first | (with_reducible exact (Below.refl _ _)) | (with_reducible refine bel_alloc ?_ _) | (with_reducible refine Below.drew ?_) | (with_reducible refine bel_drewN ?_ _) | (with_reducible refine Below.setCell ?_ (by simp) _))))
      have HRm : Hid (RH X13 w12.heap.size (Nd) (.slice ax12 (mapV (Nd) (y) (-1) 0).length kx12) (mapV (Nd) (y) (-1) 0)) := (by unfold Hid; rw [hX]; (repeat (first | exact RH.new HO12.out | (with_reducible refine RH.alloc ?_ _) | (with_reducible refine RH.drewN ?_ _))))
      replace HB := Lib.hid (bel_step HB.out gB HB.out.size)
      replace HRr := Lib.hid (HRr.out.after gB)
      replace HRf := Lib.hid (HRf.out.after gB)
      replace HRg := Lib.hid (HRg.out.after gB)
      clear HO12
      clear hX gB cr0 cr1 ltr cf0 cf1 ltf cg0 cg1 ltg
      refine (leastFormY _ _ (mapV (Nd) (y) (-1) 0) _ HMR.out _ (formV_mir HRok.out) HRm.out.2).mono ?_
      rintro e w13 ⟨ax13, kx13, rfl, o13, b13⟩
      replace HB := Lib.hid (bel_step HB.out b13 HB.out.size)
      replace HRr := Lib.hid (HRr.out.after b13)
      replace HRf := Lib.hid (HRf.out.after b13)
      replace HRg := Lib.hid (HRg.out.after b13)
      replace HRm := Lib.hid (HRm.out.after b13)
      have HO13 := Lib.hid o13
      clear o13
      clear b13
      have cr0 := HRr.out.1.c0
      have cr1 := HRr.out.1.c1
      have ltr := HRr.out.1.lt
      have cf0 := HRf.out.1.c0
      have cf1 := HRf.out.1.c1
      have ltf := HRf.out.1.lt
      have cg0 := HRg.out.1.c0
      have cg1 := HRg.out.1.c1
      have ltg := HRg.out.1.lt
      have cm0 := HRm.out.1.c0
      have cm1 := HRm.out.1.c1
      have ltm := HRm.out.1.lt
      have hd1 : ((Nd) % (pl : Int) != 0) = false := by rw [HPD.out]; rfl
      have hd2 : ((pl : Int) == 0) = false := by simp; omega
      have hd3 : ¬ (pl : Int) = 0 := by omega
      have hd4 : ¬ (pl : Int) < 1 := by omega
      rcases Nat.eq_zero_or_pos al with ha0 | ha0
      · subst ha0
        have HMB : Hid (decide (0 < (axTo (Nd) (y) (Nd).toNat).length) = false) := by unfold Hid; rw [HAL.out]; rfl
        go_wp2_with fail
        refine withWorld fun X14 hX => ?_
        have gB : Below w13.heap.size w13 X14 := (by rw [hX]; (repeat (first | (with_reducible exact (Below.refl _ _)) | (with_reducible refine bel_alloc ?_ _) | (with_reducible refine Below.drew ?_) | (with_reducible refine bel_drewN ?_ _) | (with_reducible refine Below.setCell ?_ (by simp) _))))
        have HRh : Hid (RH X14 w13.heap.size (Nd) (.slice ax13 (formV (Nd) (y)).length kx13) (formV (Nd) (y))) := (by unfold Hid; rw [hX]; (repeat (first | exact RH.new HO13.out | (with_reducible refine RH.alloc ?_ _) | (with_reducible refine RH.drewN ?_ _))))
        replace HB := Lib.hid (bel_step HB.out gB HB.out.size)
        replace HRr := Lib.hid (HRr.out.after gB)
        replace HRf := Lib.hid (HRf.out.after gB)
        replace HRg := Lib.hid (HRg.out.after gB)
        replace HRm := Lib.hid (HRm.out.after gB)
        clear HO13
        clear hX gB cr0 cr1 ltr cf0 cf1 ltf cg0 cg1 ltg cm0 cm1 ltm
        refine (mirroredY _ _ (y) false _ HRok.out HMB.out HRr.out.2).mono ?_
        rintro e w14 ⟨rfl, b14⟩
        replace HB := Lib.hid (bel_step HB.out b14 HB.out.size)
        replace HRr := Lib.hid (HRr.out.after b14)
        replace HRf := Lib.hid (HRf.out.after b14)
        replace HRg := Lib.hid (HRg.out.after b14)
        replace HRm := Lib.hid (HRm.out.after b14)
        replace HRh := Lib.hid (HRh.out.after b14)
        clear b14
        have cr0 := HRr.out.1.c0
        have cr1 := HRr.out.1.c1
        have ltr := HRr.out.1.lt
        have cf0 := HRf.out.1.c0
        have cf1 := HRf.out.1.c1
        have ltf := HRf.out.1.lt
        have cg0 := HRg.out.1.c0
        have cg1 := HRg.out.1.c1
        have ltg := HRg.out.1.lt
        have cm0 := HRm.out.1.c0
        have cm1 := HRm.out.1.c1
        have ltm := HRm.out.1.lt
        have ch0 := HRh.out.1.c0
        have ch1 := HRh.out.1.c1
        have lth := HRh.out.1.lt
        go_wp2_with fail
        refine withWorld fun X15 hX => ?_
        have gB : Below w14.heap.size w14 X15 := (by rw [hX]; (repeat (first | (with_reducible exact (Below.refl _ _)) | (with_reducible refine bel_alloc ?_ _) | (with_reducible refine Below.drew ?_) | (with_reducible refine bel_drewN ?_ _) | (with_reducible refine Below.setCell ?_ (by simp) _))))
        replace HB := Lib.hid (bel_step HB.out gB HB.out.size)
        replace HRr := Lib.hid (HRr.out.after gB)
        replace HRf := Lib.hid (HRf.out.after gB)
        replace HRg := Lib.hid (HRg.out.after gB)
        replace HRm := Lib.hid (HRm.out.after gB)
        replace HRh := Lib.hid (HRh.out.after gB)
        clear hX gB cr0 cr1 ltr cf0 cf1 ltf cg0 cg1 ltg cm0 cm1 ltm ch0 ch1 lth
        refine (periodicY _ _ (y) _ _ HRok.out HPL.out HRr.out.2).mono ?_
        rintro e w15 ⟨rfl, b15⟩
        replace HB := Lib.hid (bel_step HB.out b15 HB.out.size)
        replace HRr := Lib.hid (HRr.out.after b15)
        replace HRf := Lib.hid (HRf.out.after b15)
        replace HRg := Lib.hid (HRg.out.after b15)
        replace HRm := Lib.hid (HRm.out.after b15)
        replace HRh := Lib.hid (HRh.out.after b15)
        clear b15
        have cr0 := HRr.out.1.c0
        have cr1 := HRr.out.1.c1
        have ltr := HRr.out.1.lt
        have cf0 := HRf.out.1.c0
        have cf1 := HRf.out.1.c1
        have ltf := HRf.out.1.lt
        have cg0 := HRg.out.1.c0
        have cg1 := HRg.out.1.c1
        have ltg := HRg.out.1.lt
        have cm0 := HRm.out.1.c0
        have cm1 := HRm.out.1.c1
        have ltm := HRm.out.1.lt
        have ch0 := HRh.out.1.c0
        have ch1 := HRh.out.1.c1
        have lth := HRh.out.1.lt
        go_wp2_with fail
        refine withWorld fun X16 hX => ?_
        have gB : Below w15.heap.size w15 X16 := (by rw [hX]; (repeat (first | (with_reducible exact (Below.refl _ _)) | (with_reducible refine bel_alloc ?_ _) | (with_reducible refine Below.drew ?_) | (with_reducible refine bel_drewN ?_ _) | (with_reducible refine Below.setCell ?_ (by simp) _))))
        replace HB := Lib.hid (bel_step HB.out gB HB.out.size)
        replace HRr := Lib.hid (HRr.out.after gB)
        replace HRf := Lib.hid (HRf.out.after gB)
        replace HRg := Lib.hid (HRg.out.after gB)
        replace HRm := Lib.hid (HRm.out.after gB)
        replace HRh := Lib.hid (HRh.out.after gB)
        clear hX gB cr0 cr1 ltr cf0 cf1 ltf cg0 cg1 ltg cm0 cm1 ltm ch0 ch1 lth
        refine (lawRhythmsY _ _ _ (formV (Nd) (y)) (formV (Nd) (y)) _ rfl HRg.out.2 HRh.out.2).mono ?_
        rintro e w16 ⟨rfl, b16⟩
        replace HB := Lib.hid (bel_step HB.out b16 HB.out.size)
        replace HRr := Lib.hid (HRr.out.after b16)
        replace HRf := Lib.hid (HRf.out.after b16)
        replace HRg := Lib.hid (HRg.out.after b16)
        replace HRm := Lib.hid (HRm.out.after b16)
        replace HRh := Lib.hid (HRh.out.after b16)
        clear b16
        have cr0 := HRr.out.1.c0
        have cr1 := HRr.out.1.c1
        have ltr := HRr.out.1.lt
        have cf0 := HRf.out.1.c0
        have cf1 := HRf.out.1.c1
        have ltf := HRf.out.1.lt
        have cg0 := HRg.out.1.c0
        have cg1 := HRg.out.1.c1
        have ltg := HRg.out.1.lt
        have cm0 := HRm.out.1.c0
        have cm1 := HRm.out.1.c1
        have ltm := HRm.out.1.lt
        have ch0 := HRh.out.1.c0
        have ch1 := HRh.out.1.c1
        have lth := HRh.out.1.lt
        go_wp2_with fail
        refine withWorld fun X17 hX => ?_
        have gB : Below w16.heap.size w16 X17 := (by rw [hX]; (repeat (first | (with_reducible exact (Below.refl _ _)) | (with_reducible refine bel_alloc ?_ _) | (with_reducible refine Below.drew ?_) | (with_reducible refine bel_drewN ?_ _) | (with_reducible refine Below.setCell ?_ (by simp) _))))
        replace HB := Lib.hid (bel_step HB.out gB HB.out.size)
        replace HRr := Lib.hid (HRr.out.after gB)
        replace HRf := Lib.hid (HRf.out.after gB)
        replace HRg := Lib.hid (HRg.out.after gB)
        replace HRm := Lib.hid (HRm.out.after gB)
        replace HRh := Lib.hid (HRh.out.after gB)
        clear hX gB cr0 cr1 ltr cf0 cf1 ltf cg0 cg1 ltg cm0 cm1 ltm ch0 ch1 lth
        refine (isLeastY _ _ (leastV (Nd) (y)) _ HFR.out (leastV_least HRok.out) HRf.out.2).mono ?_
        rintro e w17 ⟨rfl, b17⟩
        replace HB := Lib.hid (bel_step HB.out b17 HB.out.size)
        replace HRr := Lib.hid (HRr.out.after b17)
        replace HRf := Lib.hid (HRf.out.after b17)
        replace HRg := Lib.hid (HRg.out.after b17)
        replace HRm := Lib.hid (HRm.out.after b17)
        replace HRh := Lib.hid (HRh.out.after b17)
        clear b17
        have cr0 := HRr.out.1.c0
        have cr1 := HRr.out.1.c1
        have ltr := HRr.out.1.lt
        have cf0 := HRf.out.1.c0
        have cf1 := HRf.out.1.c1
        have ltf := HRf.out.1.lt
        have cg0 := HRg.out.1.c0
        have cg1 := HRg.out.1.c1
        have ltg := HRg.out.1.lt
        have cm0 := HRm.out.1.c0
        have cm1 := HRm.out.1.c1
        have ltm := HRm.out.1.lt
        have ch0 := HRh.out.1.c0
        have ch1 := HRh.out.1.c1
        have lth := HRh.out.1.lt
        clear HRh cr0 cr1 ltr cf0 cf1 ltf cg0 cg1 ltg cm0 cm1 ltm ch0 ch1 lth
        have cr0 := HRr.out.1.c0
        have cr1 := HRr.out.1.c1
        have ltr := HRr.out.1.lt
        have cf0 := HRf.out.1.c0
        have cf1 := HRf.out.1.c1
        have ltf := HRf.out.1.lt
        have cg0 := HRg.out.1.c0
        have cg1 := HRg.out.1.c1
        have ltg := HRg.out.1.lt
        have cm0 := HRm.out.1.c0
        have cm1 := HRm.out.1.c1
        have ltm := HRm.out.1.lt
        go_wp2_with fail
        refine withWorld fun X18 hX => ?_
        have gB : Below w17.heap.size w17 X18 := (by rw [hX]; (repeat (first | (with_reducible exact (Below.refl _ _)) | (with_reducible refine bel_alloc ?_ _) | (with_reducible refine Below.drew ?_) | (with_reducible refine bel_drewN ?_ _) | (with_reducible refine Below.setCell ?_ (by simp) _))))
        replace HB := Lib.hid (bel_step HB.out gB HB.out.size)
        replace HRr := Lib.hid (HRr.out.after gB)
        replace HRf := Lib.hid (HRf.out.after gB)
        replace HRg := Lib.hid (HRg.out.after gB)
        replace HRm := Lib.hid (HRm.out.after gB)
        clear hX gB cr0 cr1 ltr cf0 cf1 ltf cg0 cg1 ltg cm0 cm1 ltm
        refine (specMakeNum _ z0 34 _ hm0 (by decide) ((HH0.out.below HB.out).mono HB.out.size)).mono ?_
        rintro e w18 ⟨⟨r34, hs0, hs1, rfl⟩, b18⟩
        replace HB := Lib.hid (bel_step HB.out b18 HB.out.size)
        replace HRr := Lib.hid (HRr.out.after b18)
        replace HRf := Lib.hid (HRf.out.after b18)
        replace HRg := Lib.hid (HRg.out.after b18)
        replace HRm := Lib.hid (HRm.out.after b18)
        clear b18
        have cr0 := HRr.out.1.c0
        have cr1 := HRr.out.1.c1
        have ltr := HRr.out.1.lt
        have cf0 := HRf.out.1.c0
        have cf1 := HRf.out.1.c1
        have ltf := HRf.out.1.lt
        have cg0 := HRg.out.1.c0
        have cg1 := HRg.out.1.c1
        have ltg := HRg.out.1.lt
        have cm0 := HRm.out.1.c0
        have cm1 := HRm.out.1.c1
        have ltm := HRm.out.1.lt
        have hn0 : ((Nd) == 0) = false := by simp; omega
        have hn1 : ¬ (Nd) = 0 := by omega
        obtain ⟨KK, hk0, hk1, hKK⟩ : ∃ KK : Int, 0 ≤ KK ∧ KK < Nd ∧ r34 % (Nd) = KK := ⟨_, Int.emod_nonneg _ hn1, Int.emod_lt_of_pos _ (by omega), rfl⟩
        go_wp2_with fail
        try rw [hKK]
        clear hKK hs0 hs1
        have HTR := Lib.hid (mapV_rok hlo hhi (y) 1 KK)
        have HTP : Hid (per (Nd) (mapV (Nd) (y) 1 KK) = (pl : Int)) := by unfold Hid; rw [← HPL.out]; exact per_of HTR.out HRok.out (inv_map1 HRok.out KK)
        have HTO : Hid (rotTo (Nd) (y) (mapV (Nd) (y) 1 KK) = KK % (pl : Int)) := by unfold Hid; rw [← HPL.out]; exact rotTo_rot HRok.out
        refine withWorld fun X19 hX => ?_
        have gB : Below w18.heap.size w18 X19 := (by rw [hX]; (repeat (first | (with_reducible exact (Below.refl _ _)) | (with_reducible refine bel_alloc ?_ _) | (with_reducible refine Below.drew ?_) | (with_reducible refine bel_drewN ?_ _) | (with_reducible refine Below.setCell ?_ (by simp) _))))
        replace HB := Lib.hid (bel_step HB.out gB HB.out.size)
        replace HRr := Lib.hid (HRr.out.after gB)
        replace HRf := Lib.hid (HRf.out.after gB)
        replace HRg := Lib.hid (HRg.out.after gB)
        replace HRm := Lib.hid (HRm.out.after gB)
        clear hX gB cr0 cr1 ltr cf0 cf1 ltf cg0 cg1 ltg cm0 cm1 ltm
        refine (rotateY _ _ (y) KK _ HRok.out (by omega) (by omega) _ rfl HRr.out.2).mono ?_
        rintro e w19 ⟨ax19, kx19, rfl, o19, b19⟩
        replace HB := Lib.hid (bel_step HB.out b19 HB.out.size)
        replace HRr := Lib.hid (HRr.out.after b19)
        replace HRf := Lib.hid (HRf.out.after b19)
        replace HRg := Lib.hid (HRg.out.after b19)
        replace HRm := Lib.hid (HRm.out.after b19)
        have HO19 := Lib.hid o19
        clear o19
        clear b19
        have cr0 := HRr.out.1.c0
        have cr1 := HRr.out.1.c1
        have ltr := HRr.out.1.lt
        have cf0 := HRf.out.1.c0
        have cf1 := HRf.out.1.c1
        have ltf := HRf.out.1.lt
        have cg0 := HRg.out.1.c0
        have cg1 := HRg.out.1.c1
        have ltg := HRg.out.1.lt
        have cm0 := HRm.out.1.c0
        have cm1 := HRm.out.1.c1
        have ltm := HRm.out.1.lt
        go_wp2_with fail
        refine withWorld fun X20 hX => ?_
        have gB : Below w19.heap.size w19 X20 := (by rw [hX]; (repeat (first | (with_reducible exact (Below.refl _ _)) | (with_reducible refine bel_alloc ?_ _) | (with_reducible refine Below.drew ?_) | (with_reducible refine bel_drewN ?_ _) | (with_reducible refine Below.setCell ?_ (by simp) _))))
        have HRt : Hid (RH X20 w19.heap.size (Nd) (.slice ax19 (mapV (Nd) (y) 1 KK).length kx19) (mapV (Nd) (y) 1 KK)) := (by unfold Hid; rw [hX]; (repeat (first | exact RH.new HO19.out | (with_reducible refine RH.alloc ?_ _) | (with_reducible refine RH.drewN ?_ _))))
        replace HB := Lib.hid (bel_step HB.out gB HB.out.size)
        replace HRr := Lib.hid (HRr.out.after gB)
        replace HRf := Lib.hid (HRf.out.after gB)
        replace HRg := Lib.hid (HRg.out.after gB)
        replace HRm := Lib.hid (HRm.out.after gB)
        clear HO19
        clear hX gB cr0 cr1 ltr cf0 cf1 ltf cg0 cg1 ltg cm0 cm1 ltm
        refine (leastRotY _ _ (mapV (Nd) (y) 1 KK) _ HTR.out _ (leastV_rot HRok.out KK) HRt.out.2).mono ?_
        rintro e w20 ⟨ax20, kx20, rfl, o20, b20⟩
        replace HB := Lib.hid (bel_step HB.out b20 HB.out.size)
        replace HRr := Lib.hid (HRr.out.after b20)
        replace HRf := Lib.hid (HRf.out.after b20)
        replace HRg := Lib.hid (HRg.out.after b20)
        replace HRm := Lib.hid (HRm.out.after b20)
        replace HRt := Lib.hid (HRt.out.after b20)
        have HO20 := Lib.hid o20
        clear o20
        clear b20
        have cr0 := HRr.out.1.c0
        have cr1 := HRr.out.1.c1
        have ltr := HRr.out.1.lt
        have cf0 := HRf.out.1.c0
        have cf1 := HRf.out.1.c1
        have ltf := HRf.out.1.lt
        have cg0 := HRg.out.1.c0
        have cg1 := HRg.out.1.c1
        have ltg := HRg.out.1.lt
        have cm0 := HRm.out.1.c0
        have cm1 := HRm.out.1.c1
        have ltm := HRm.out.1.lt
        have ct0 := HRt.out.1.c0
        have ct1 := HRt.out.1.c1
        have ltt := HRt.out.1.lt
        go_wp2_with fail
        refine withWorld fun X21 hX => ?_
        have gB : Below w20.heap.size w20 X21 := (by rw [hX]; (repeat (first | (with_reducible exact (Below.refl _ _)) | (with_reducible refine bel_alloc ?_ _) | (with_reducible refine Below.drew ?_) | (with_reducible refine bel_drewN ?_ _) | (with_reducible refine Below.setCell ?_ (by simp) _))))
        have HRy : Hid (RH X21 w20.heap.size (Nd) (.slice ax20 (leastV (Nd) (y)).length kx20) (leastV (Nd) (y))) := (by unfold Hid; rw [hX]; (repeat (first | exact RH.new HO20.out | (with_reducible refine RH.alloc ?_ _) | (with_reducible refine RH.drewN ?_ _))))
        replace HB := Lib.hid (bel_step HB.out gB HB.out.size)
        replace HRr := Lib.hid (HRr.out.after gB)
        replace HRf := Lib.hid (HRf.out.after gB)
        replace HRg := Lib.hid (HRg.out.after gB)
        replace HRm := Lib.hid (HRm.out.after gB)
        replace HRt := Lib.hid (HRt.out.after gB)
        clear HO20
        clear hX gB cr0 cr1 ltr cf0 cf1 ltf cg0 cg1 ltg cm0 cm1 ltm ct0 ct1 ltt
        refine (leastFormY _ _ (mapV (Nd) (y) 1 KK) _ HTR.out _ (formV_rot HRok.out KK) HRt.out.2).mono ?_
        rintro e w21 ⟨ax21, kx21, rfl, o21, b21⟩
        replace HB := Lib.hid (bel_step HB.out b21 HB.out.size)
        replace HRr := Lib.hid (HRr.out.after b21)
        replace HRf := Lib.hid (HRf.out.after b21)
        replace HRg := Lib.hid (HRg.out.after b21)
        replace HRm := Lib.hid (HRm.out.after b21)
        replace HRt := Lib.hid (HRt.out.after b21)
        replace HRy := Lib.hid (HRy.out.after b21)
        have HO21 := Lib.hid o21
        clear o21
        clear b21
        have cr0 := HRr.out.1.c0
        have cr1 := HRr.out.1.c1
        have ltr := HRr.out.1.lt
        have cf0 := HRf.out.1.c0
        have cf1 := HRf.out.1.c1
        have ltf := HRf.out.1.lt
        have cg0 := HRg.out.1.c0
        have cg1 := HRg.out.1.c1
        have ltg := HRg.out.1.lt
        have cm0 := HRm.out.1.c0
        have cm1 := HRm.out.1.c1
        have ltm := HRm.out.1.lt
        have ct0 := HRt.out.1.c0
        have ct1 := HRt.out.1.c1
        have ltt := HRt.out.1.lt
        have cy0 := HRy.out.1.c0
        have cy1 := HRy.out.1.c1
        have lty := HRy.out.1.lt
        go_wp2_with fail
        refine withWorldC fun Y22 hY => ?_
        have gB : Below w21.heap.size w21 Y22 := (by rw [hY]; (repeat (first | (with_reducible exact (Below.refl _ _)) | (with_reducible refine bel_alloc ?_ _) | (with_reducible refine Below.drew ?_) | (with_reducible refine bel_drewN ?_ _) | (with_reducible refine Below.setCell ?_ (by simp) _))))
        have HRz : Hid (RH Y22 w21.heap.size (Nd) (.slice ax21 (formV (Nd) (y)).length kx21) (formV (Nd) (y))) := (by unfold Hid; rw [hY]; (repeat (first | exact RH.new HO21.out | (with_reducible refine RH.alloc ?_ _) | (with_reducible refine RH.drewN ?_ _))))
        replace HB := Lib.hid (bel_step HB.out gB HB.out.size)
        replace HRr := Lib.hid (HRr.out.after gB)
        replace HRf := Lib.hid (HRf.out.after gB)
        replace HRg := Lib.hid (HRg.out.after gB)
        replace HRm := Lib.hid (HRm.out.after gB)
        replace HRt := Lib.hid (HRt.out.after gB)
        replace HRy := Lib.hid (HRy.out.after gB)
        clear HO21
        clear hY gB cr0 cr1 ltr cf0 cf1 ltf cg0 cg1 ltg cm0 cm1 ltm ct0 ct1 ltt cy0 cy1 lty
        refine region_held (fun V => Below Y22.heap.size Y22 V) (by kernel_rfl) (by kernel_rfl) ((Below.refl _ _).drew) (fun V V' h1 h2 => bel_step h1 h2 h1.size) fun U val hne hv hcall => ?_
        have HC := Lib.hid hcall
        have zr0 : ∀ u, (val u).cell? ⟨w1.heap.size, 0, none⟩ = some (.int .i64 (Nd)) := fun u => ((bcell (hv u)).1 _ _ HRr.out.1.lt).trans HRr.out.1.c0
        have zr1 : ∀ u, (val u).cell? ⟨w1.heap.size, 1, none⟩ = some (.slice ax5 y.length kx5) := fun u => ((bcell (hv u)).1 _ _ HRr.out.1.lt).trans HRr.out.1.c1
        have zf0 : ∀ u, (val u).cell? ⟨w10.heap.size, 0, none⟩ = some (.int .i64 (Nd)) := fun u => ((bcell (hv u)).1 _ _ HRf.out.1.lt).trans HRf.out.1.c0
        have zf1 : ∀ u, (val u).cell? ⟨w10.heap.size, 1, none⟩ = some (.slice ax10 (leastV (Nd) (y)).length kx10) := fun u => ((bcell (hv u)).1 _ _ HRf.out.1.lt).trans HRf.out.1.c1
        have zg0 : ∀ u, (val u).cell? ⟨w11.heap.size, 0, none⟩ = some (.int .i64 (Nd)) := fun u => ((bcell (hv u)).1 _ _ HRg.out.1.lt).trans HRg.out.1.c0
        have zg1 : ∀ u, (val u).cell? ⟨w11.heap.size, 1, none⟩ = some (.slice ax11 (formV (Nd) (y)).length kx11) := fun u => ((bcell (hv u)).1 _ _ HRg.out.1.lt).trans HRg.out.1.c1
        have zm0 : ∀ u, (val u).cell? ⟨w12.heap.size, 0, none⟩ = some (.int .i64 (Nd)) := fun u => ((bcell (hv u)).1 _ _ HRm.out.1.lt).trans HRm.out.1.c0
        have zm1 : ∀ u, (val u).cell? ⟨w12.heap.size, 1, none⟩ = some (.slice ax12 (mapV (Nd) (y) (-1) 0).length kx12) := fun u => ((bcell (hv u)).1 _ _ HRm.out.1.lt).trans HRm.out.1.c1
        have zt0 : ∀ u, (val u).cell? ⟨w19.heap.size, 0, none⟩ = some (.int .i64 (Nd)) := fun u => ((bcell (hv u)).1 _ _ HRt.out.1.lt).trans HRt.out.1.c0
        have zt1 : ∀ u, (val u).cell? ⟨w19.heap.size, 1, none⟩ = some (.slice ax19 (mapV (Nd) (y) 1 KK).length kx19) := fun u => ((bcell (hv u)).1 _ _ HRt.out.1.lt).trans HRt.out.1.c1
        have zy0 : ∀ u, (val u).cell? ⟨w20.heap.size, 0, none⟩ = some (.int .i64 (Nd)) := fun u => ((bcell (hv u)).1 _ _ HRy.out.1.lt).trans HRy.out.1.c0
        have zy1 : ∀ u, (val u).cell? ⟨w20.heap.size, 1, none⟩ = some (.slice ax20 (leastV (Nd) (y)).length kx20) := fun u => ((bcell (hv u)).1 _ _ HRy.out.1.lt).trans HRy.out.1.c1
        have zz0 : ∀ u, (val u).cell? ⟨w21.heap.size, 0, none⟩ = some (.int .i64 (Nd)) := fun u => ((bcell (hv u)).1 _ _ HRz.out.1.lt).trans HRz.out.1.c0
        have zz1 : ∀ u, (val u).cell? ⟨w21.heap.size, 1, none⟩ = some (.slice ax21 (formV (Nd) (y)).length kx21) := fun u => ((bcell (hv u)).1 _ _ HRz.out.1.lt).trans HRz.out.1.c1
        have HV := Lib.hid hv
        clear hv hcall
        repeat (go_big_quiet_step ((first | (go_at_call 21; exact HC.out _ _ _ _ (lawRhythmsY _ _ _ (leastV (Nd) (y)) (leastV (Nd) (y)) _ rfl (HRy.out.2.ofBelow (HV.out _)) (HRf.out.2.ofBelow (HV.out _)))) | (go_at_call 21; exact HC.out _ _ _ _ (lawRhythmsY _ _ _ (formV (Nd) (y)) (formV (Nd) (y)) _ rfl (HRz.out.2.ofBelow (HV.out _)) (HRg.out.2.ofBelow (HV.out _)))) | (go_at_call 24; exact HC.out _ _ _ _ (rotToY _ _ _ (y) (mapV (Nd) (y) 1 KK) _ _ HRok.out HTR.out HTO.out (HRr.out.2.ofBelow (HV.out _)) (HRt.out.2.ofBelow (HV.out _)))) | (go_at_call 25; exact HC.out _ _ _ _ (areRotY _ _ _ (y) (leastV (Nd) (y)) true _ HRok.out HFR.out (least_rot HRok.out) (HRr.out.2.ofBelow (HV.out _)) (HRf.out.2.ofBelow (HV.out _)))) | (go_at_call 26; exact HC.out _ _ _ _ (areFormsY _ _ _ (y) (mapV (Nd) (y) (-1) 0) true _ HRok.out HMR.out (form_mir HRok.out) (HRr.out.2.ofBelow (HV.out _)) (HRm.out.2.ofBelow (HV.out _)))) | (go_at_call 26; exact HC.out _ _ _ _ (areFormsY _ _ _ (y) (formV (Nd) (y)) true _ HRok.out HGR.out (form_form HRok.out) (HRr.out.2.ofBelow (HV.out _)) (HRg.out.2.ofBelow (HV.out _)))) | (go_at_call 25; exact HC.out _ _ _ _ (areRotY _ _ _ (y) (mapV (Nd) (y) (-1) 0) false _ HRok.out HMR.out (mir_rotB HRok.out HMB.out) (HRr.out.2.ofBelow (HV.out _)) (HRm.out.2.ofBelow (HV.out _)))) | (go_at_call 19; exact HC.out _ _ _ _ (mirroredY _ _ (y) false _ HRok.out HMB.out (HRr.out.2.ofBelow (HV.out _)))) | (go_at_call 13; exact HC.out _ _ _ _ (periodY _ _ (mapV (Nd) (y) 1 KK) _ _ HTR.out HTP.out (HRt.out.2.ofBelow (HV.out _)))))))
        refine wpQuiet_nil ?_
        rintro _ ⟨u, rfl⟩
        have gu := HV.out u
        clear HC HV zr0 zr1 zf0 zf1 zg0 zg1 zm0 zm1 zt0 zt1 zy0 zy1 zz0 zz1
        generalize val u = w22 at gu ⊢
        clear u hne val
        replace HB := Lib.hid (bel_step HB.out gu HB.out.size)
        replace HRr := Lib.hid (HRr.out.after gu)
        replace HRf := Lib.hid (HRf.out.after gu)
        replace HRg := Lib.hid (HRg.out.after gu)
        replace HRm := Lib.hid (HRm.out.after gu)
        replace HRt := Lib.hid (HRt.out.after gu)
        replace HRy := Lib.hid (HRy.out.after gu)
        replace HRz := Lib.hid (HRz.out.after gu)
        clear gu
        have cr0 := HRr.out.1.c0
        have cr1 := HRr.out.1.c1
        have ltr := HRr.out.1.lt
        have cf0 := HRf.out.1.c0
        have cf1 := HRf.out.1.c1
        have ltf := HRf.out.1.lt
        have cg0 := HRg.out.1.c0
        have cg1 := HRg.out.1.c1
        have ltg := HRg.out.1.lt
        have cm0 := HRm.out.1.c0
        have cm1 := HRm.out.1.c1
        have ltm := HRm.out.1.lt
        have ct0 := HRt.out.1.c0
        have ct1 := HRt.out.1.c1
        have ltt := HRt.out.1.lt
        have cy0 := HRy.out.1.c0
        have cy1 := HRy.out.1.c1
        have lty := HRy.out.1.lt
        have cz0 := HRz.out.1.c0
        have cz1 := HRz.out.1.c1
        have ltz := HRz.out.1.lt
        go_wp2
        go_ret
        exact ⟨rfl, HB.out⟩
      · have ha1 : ((al : Int) != 0) = true := by simp; omega
        have ha2 : ((al : Int) != (Nd) / (pl : Int)) = false := by
          rcases HAC.out with h | h
          · omega
          · rw [h]; simp
        have HMB : Hid (decide (0 < (axTo (Nd) (y) (Nd).toNat).length) = true) := by unfold Hid; rw [HAL.out]; exact decide_eq_true ha0
        go_wp2_with fail
        refine withWorld fun X14 hX => ?_
        have gB : Below w13.heap.size w13 X14 := (by rw [hX]; (repeat (first | (with_reducible exact (Below.refl _ _)) | (with_reducible refine bel_alloc ?_ _) | (with_reducible refine Below.drew ?_) | (with_reducible refine bel_drewN ?_ _) | (with_reducible refine Below.setCell ?_ (by simp) _))))
        have HRh : Hid (RH X14 w13.heap.size (Nd) (.slice ax13 (formV (Nd) (y)).length kx13) (formV (Nd) (y))) := (by unfold Hid; rw [hX]; (repeat (first | exact RH.new HO13.out | (with_reducible refine RH.alloc ?_ _) | (with_reducible refine RH.drewN ?_ _))))
        replace HB := Lib.hid (bel_step HB.out gB HB.out.size)
        replace HRr := Lib.hid (HRr.out.after gB)
        replace HRf := Lib.hid (HRf.out.after gB)
        replace HRg := Lib.hid (HRg.out.after gB)
        replace HRm := Lib.hid (HRm.out.after gB)
        clear HO13
        clear hX gB cr0 cr1 ltr cf0 cf1 ltf cg0 cg1 ltg cm0 cm1 ltm
        refine (mirroredY _ _ (y) true _ HRok.out HMB.out HRr.out.2).mono ?_
        rintro e w14 ⟨rfl, b14⟩
        replace HB := Lib.hid (bel_step HB.out b14 HB.out.size)
        replace HRr := Lib.hid (HRr.out.after b14)
        replace HRf := Lib.hid (HRf.out.after b14)
        replace HRg := Lib.hid (HRg.out.after b14)
        replace HRm := Lib.hid (HRm.out.after b14)
        replace HRh := Lib.hid (HRh.out.after b14)
        clear b14
        have cr0 := HRr.out.1.c0
        have cr1 := HRr.out.1.c1
        have ltr := HRr.out.1.lt
        have cf0 := HRf.out.1.c0
        have cf1 := HRf.out.1.c1
        have ltf := HRf.out.1.lt
        have cg0 := HRg.out.1.c0
        have cg1 := HRg.out.1.c1
        have ltg := HRg.out.1.lt
        have cm0 := HRm.out.1.c0
        have cm1 := HRm.out.1.c1
        have ltm := HRm.out.1.lt
        have ch0 := HRh.out.1.c0
        have ch1 := HRh.out.1.c1
        have lth := HRh.out.1.lt
        go_wp2_with fail
        refine withWorld fun X15 hX => ?_
        have gB : Below w14.heap.size w14 X15 := (by rw [hX]; (repeat (first | (with_reducible exact (Below.refl _ _)) | (with_reducible refine bel_alloc ?_ _) | (with_reducible refine Below.drew ?_) | (with_reducible refine bel_drewN ?_ _) | (with_reducible refine Below.setCell ?_ (by simp) _))))
        replace HB := Lib.hid (bel_step HB.out gB HB.out.size)
        replace HRr := Lib.hid (HRr.out.after gB)
        replace HRf := Lib.hid (HRf.out.after gB)
        replace HRg := Lib.hid (HRg.out.after gB)
        replace HRm := Lib.hid (HRm.out.after gB)
        replace HRh := Lib.hid (HRh.out.after gB)
        clear hX gB cr0 cr1 ltr cf0 cf1 ltf cg0 cg1 ltg cm0 cm1 ltm ch0 ch1 lth
        refine (periodicY _ _ (y) _ _ HRok.out HPL.out HRr.out.2).mono ?_
        rintro e w15 ⟨rfl, b15⟩
        replace HB := Lib.hid (bel_step HB.out b15 HB.out.size)
        replace HRr := Lib.hid (HRr.out.after b15)
        replace HRf := Lib.hid (HRf.out.after b15)
        replace HRg := Lib.hid (HRg.out.after b15)
        replace HRm := Lib.hid (HRm.out.after b15)
        replace HRh := Lib.hid (HRh.out.after b15)
        clear b15
        have cr0 := HRr.out.1.c0
        have cr1 := HRr.out.1.c1
        have ltr := HRr.out.1.lt
        have cf0 := HRf.out.1.c0
        have cf1 := HRf.out.1.c1
        have ltf := HRf.out.1.lt
        have cg0 := HRg.out.1.c0
        have cg1 := HRg.out.1.c1
        have ltg := HRg.out.1.lt
        have cm0 := HRm.out.1.c0
        have cm1 := HRm.out.1.c1
        have ltm := HRm.out.1.lt
        have ch0 := HRh.out.1.c0
        have ch1 := HRh.out.1.c1
        have lth := HRh.out.1.lt
        go_wp2_with fail
        refine withWorld fun X16 hX => ?_
        have gB : Below w15.heap.size w15 X16 := (by rw [hX]; (repeat (first | (with_reducible exact (Below.refl _ _)) | (with_reducible refine bel_alloc ?_ _) | (with_reducible refine Below.drew ?_) | (with_reducible refine bel_drewN ?_ _) | (with_reducible refine Below.setCell ?_ (by simp) _))))
        replace HB := Lib.hid (bel_step HB.out gB HB.out.size)
        replace HRr := Lib.hid (HRr.out.after gB)
        replace HRf := Lib.hid (HRf.out.after gB)
        replace HRg := Lib.hid (HRg.out.after gB)
        replace HRm := Lib.hid (HRm.out.after gB)
        replace HRh := Lib.hid (HRh.out.after gB)
        clear hX gB cr0 cr1 ltr cf0 cf1 ltf cg0 cg1 ltg cm0 cm1 ltm ch0 ch1 lth
        refine (lawRhythmsY _ _ _ (formV (Nd) (y)) (formV (Nd) (y)) _ rfl HRg.out.2 HRh.out.2).mono ?_
        rintro e w16 ⟨rfl, b16⟩
        replace HB := Lib.hid (bel_step HB.out b16 HB.out.size)
        replace HRr := Lib.hid (HRr.out.after b16)
        replace HRf := Lib.hid (HRf.out.after b16)
        replace HRg := Lib.hid (HRg.out.after b16)
        replace HRm := Lib.hid (HRm.out.after b16)
        replace HRh := Lib.hid (HRh.out.after b16)
        clear b16
        have cr0 := HRr.out.1.c0
        have cr1 := HRr.out.1.c1
        have ltr := HRr.out.1.lt
        have cf0 := HRf.out.1.c0
        have cf1 := HRf.out.1.c1
        have ltf := HRf.out.1.lt
        have cg0 := HRg.out.1.c0
        have cg1 := HRg.out.1.c1
        have ltg := HRg.out.1.lt
        have cm0 := HRm.out.1.c0
        have cm1 := HRm.out.1.c1
        have ltm := HRm.out.1.lt
        have ch0 := HRh.out.1.c0
        have ch1 := HRh.out.1.c1
        have lth := HRh.out.1.lt
        go_wp2_with fail
        refine withWorld fun X17 hX => ?_
        have gB : Below w16.heap.size w16 X17 := (by rw [hX]; (repeat (first | (with_reducible exact (Below.refl _ _)) | (with_reducible refine bel_alloc ?_ _) | (with_reducible refine Below.drew ?_) | (with_reducible refine bel_drewN ?_ _) | (with_reducible refine Below.setCell ?_ (by simp) _))))
        replace HB := Lib.hid (bel_step HB.out gB HB.out.size)
        replace HRr := Lib.hid (HRr.out.after gB)
        replace HRf := Lib.hid (HRf.out.after gB)
        replace HRg := Lib.hid (HRg.out.after gB)
        replace HRm := Lib.hid (HRm.out.after gB)
        replace HRh := Lib.hid (HRh.out.after gB)
        clear hX gB cr0 cr1 ltr cf0 cf1 ltf cg0 cg1 ltg cm0 cm1 ltm ch0 ch1 lth
        refine (isLeastY _ _ (leastV (Nd) (y)) _ HFR.out (leastV_least HRok.out) HRf.out.2).mono ?_
        rintro e w17 ⟨rfl, b17⟩
        replace HB := Lib.hid (bel_step HB.out b17 HB.out.size)
        replace HRr := Lib.hid (HRr.out.after b17)
        replace HRf := Lib.hid (HRf.out.after b17)
        replace HRg := Lib.hid (HRg.out.after b17)
        replace HRm := Lib.hid (HRm.out.after b17)
        replace HRh := Lib.hid (HRh.out.after b17)
        clear b17
        have cr0 := HRr.out.1.c0
        have cr1 := HRr.out.1.c1
        have ltr := HRr.out.1.lt
        have cf0 := HRf.out.1.c0
        have cf1 := HRf.out.1.c1
        have ltf := HRf.out.1.lt
        have cg0 := HRg.out.1.c0
        have cg1 := HRg.out.1.c1
        have ltg := HRg.out.1.lt
        have cm0 := HRm.out.1.c0
        have cm1 := HRm.out.1.c1
        have ltm := HRm.out.1.lt
        have ch0 := HRh.out.1.c0
        have ch1 := HRh.out.1.c1
        have lth := HRh.out.1.lt
        clear HRh cr0 cr1 ltr cf0 cf1 ltf cg0 cg1 ltg cm0 cm1 ltm ch0 ch1 lth
        have cr0 := HRr.out.1.c0
        have cr1 := HRr.out.1.c1
        have ltr := HRr.out.1.lt
        have cf0 := HRf.out.1.c0
        have cf1 := HRf.out.1.c1
        have ltf := HRf.out.1.lt
        have cg0 := HRg.out.1.c0
        have cg1 := HRg.out.1.c1
        have ltg := HRg.out.1.lt
        have cm0 := HRm.out.1.c0
        have cm1 := HRm.out.1.c1
        have ltm := HRm.out.1.lt
        go_wp2_with fail
        refine withWorld fun X18 hX => ?_
        have gB : Below w17.heap.size w17 X18 := (by rw [hX]; (repeat (first | (with_reducible exact (Below.refl _ _)) | (with_reducible refine bel_alloc ?_ _) | (with_reducible refine Below.drew ?_) | (with_reducible refine bel_drewN ?_ _) | (with_reducible refine Below.setCell ?_ (by simp) _))))
        replace HB := Lib.hid (bel_step HB.out gB HB.out.size)
        replace HRr := Lib.hid (HRr.out.after gB)
        replace HRf := Lib.hid (HRf.out.after gB)
        replace HRg := Lib.hid (HRg.out.after gB)
        replace HRm := Lib.hid (HRm.out.after gB)
        clear hX gB cr0 cr1 ltr cf0 cf1 ltf cg0 cg1 ltg cm0 cm1 ltm
        refine (specMakeNum _ z0 34 _ hm0 (by decide) ((HH0.out.below HB.out).mono HB.out.size)).mono ?_
        rintro e w18 ⟨⟨r34, hs0, hs1, rfl⟩, b18⟩
        replace HB := Lib.hid (bel_step HB.out b18 HB.out.size)
        replace HRr := Lib.hid (HRr.out.after b18)
        replace HRf := Lib.hid (HRf.out.after b18)
        replace HRg := Lib.hid (HRg.out.after b18)
        replace HRm := Lib.hid (HRm.out.after b18)
        clear b18
        have cr0 := HRr.out.1.c0
        have cr1 := HRr.out.1.c1
        have ltr := HRr.out.1.lt
        have cf0 := HRf.out.1.c0
        have cf1 := HRf.out.1.c1
        have ltf := HRf.out.1.lt
        have cg0 := HRg.out.1.c0
        have cg1 := HRg.out.1.c1
        have ltg := HRg.out.1.lt
        have cm0 := HRm.out.1.c0
        have cm1 := HRm.out.1.c1
        have ltm := HRm.out.1.lt
        have hn0 : ((Nd) == 0) = false := by simp; omega
        have hn1 : ¬ (Nd) = 0 := by omega
        obtain ⟨KK, hk0, hk1, hKK⟩ : ∃ KK : Int, 0 ≤ KK ∧ KK < Nd ∧ r34 % (Nd) = KK := ⟨_, Int.emod_nonneg _ hn1, Int.emod_lt_of_pos _ (by omega), rfl⟩
        go_wp2_with fail
        try rw [hKK]
        clear hKK hs0 hs1
        have HTR := Lib.hid (mapV_rok hlo hhi (y) 1 KK)
        have HTP : Hid (per (Nd) (mapV (Nd) (y) 1 KK) = (pl : Int)) := by unfold Hid; rw [← HPL.out]; exact per_of HTR.out HRok.out (inv_map1 HRok.out KK)
        have HTO : Hid (rotTo (Nd) (y) (mapV (Nd) (y) 1 KK) = KK % (pl : Int)) := by unfold Hid; rw [← HPL.out]; exact rotTo_rot HRok.out
        refine withWorld fun X19 hX => ?_
        have gB : Below w18.heap.size w18 X19 := (by rw [hX]; (repeat (first | (with_reducible exact (Below.refl _ _)) | (with_reducible refine bel_alloc ?_ _) | (with_reducible refine Below.drew ?_) | (with_reducible refine bel_drewN ?_ _) | (with_reducible refine Below.setCell ?_ (by simp) _))))
        replace HB := Lib.hid (bel_step HB.out gB HB.out.size)
        replace HRr := Lib.hid (HRr.out.after gB)
        replace HRf := Lib.hid (HRf.out.after gB)
        replace HRg := Lib.hid (HRg.out.after gB)
        replace HRm := Lib.hid (HRm.out.after gB)
        clear hX gB cr0 cr1 ltr cf0 cf1 ltf cg0 cg1 ltg cm0 cm1 ltm
        refine (rotateY _ _ (y) KK _ HRok.out (by omega) (by omega) _ rfl HRr.out.2).mono ?_
        rintro e w19 ⟨ax19, kx19, rfl, o19, b19⟩
        replace HB := Lib.hid (bel_step HB.out b19 HB.out.size)
        replace HRr := Lib.hid (HRr.out.after b19)
        replace HRf := Lib.hid (HRf.out.after b19)
        replace HRg := Lib.hid (HRg.out.after b19)
        replace HRm := Lib.hid (HRm.out.after b19)
        have HO19 := Lib.hid o19
        clear o19
        clear b19
        have cr0 := HRr.out.1.c0
        have cr1 := HRr.out.1.c1
        have ltr := HRr.out.1.lt
        have cf0 := HRf.out.1.c0
        have cf1 := HRf.out.1.c1
        have ltf := HRf.out.1.lt
        have cg0 := HRg.out.1.c0
        have cg1 := HRg.out.1.c1
        have ltg := HRg.out.1.lt
        have cm0 := HRm.out.1.c0
        have cm1 := HRm.out.1.c1
        have ltm := HRm.out.1.lt
        go_wp2_with fail
        refine withWorld fun X20 hX => ?_
        have gB : Below w19.heap.size w19 X20 := (by rw [hX]; (repeat (first | (with_reducible exact (Below.refl _ _)) | (with_reducible refine bel_alloc ?_ _) | (with_reducible refine Below.drew ?_) | (with_reducible refine bel_drewN ?_ _) | (with_reducible refine Below.setCell ?_ (by simp) _))))
        have HRt : Hid (RH X20 w19.heap.size (Nd) (.slice ax19 (mapV (Nd) (y) 1 KK).length kx19) (mapV (Nd) (y) 1 KK)) := (by unfold Hid; rw [hX]; (repeat (first | exact RH.new HO19.out | (with_reducible refine RH.alloc ?_ _) | (with_reducible refine RH.drewN ?_ _))))
        replace HB := Lib.hid (bel_step HB.out gB HB.out.size)
        replace HRr := Lib.hid (HRr.out.after gB)
        replace HRf := Lib.hid (HRf.out.after gB)
        replace HRg := Lib.hid (HRg.out.after gB)
        replace HRm := Lib.hid (HRm.out.after gB)
        clear HO19
        clear hX gB cr0 cr1 ltr cf0 cf1 ltf cg0 cg1 ltg cm0 cm1 ltm
        refine (leastRotY _ _ (mapV (Nd) (y) 1 KK) _ HTR.out _ (leastV_rot HRok.out KK) HRt.out.2).mono ?_
        rintro e w20 ⟨ax20, kx20, rfl, o20, b20⟩
        replace HB := Lib.hid (bel_step HB.out b20 HB.out.size)
        replace HRr := Lib.hid (HRr.out.after b20)
        replace HRf := Lib.hid (HRf.out.after b20)
        replace HRg := Lib.hid (HRg.out.after b20)
        replace HRm := Lib.hid (HRm.out.after b20)
        replace HRt := Lib.hid (HRt.out.after b20)
        have HO20 := Lib.hid o20
        clear o20
        clear b20
        have cr0 := HRr.out.1.c0
        have cr1 := HRr.out.1.c1
        have ltr := HRr.out.1.lt
        have cf0 := HRf.out.1.c0
        have cf1 := HRf.out.1.c1
        have ltf := HRf.out.1.lt
        have cg0 := HRg.out.1.c0
        have cg1 := HRg.out.1.c1
        have ltg := HRg.out.1.lt
        have cm0 := HRm.out.1.c0
        have cm1 := HRm.out.1.c1
        have ltm := HRm.out.1.lt
        have ct0 := HRt.out.1.c0
        have ct1 := HRt.out.1.c1
        have ltt := HRt.out.1.lt
        go_wp2_with fail
        refine withWorld fun X21 hX => ?_
        have gB : Below w20.heap.size w20 X21 := (by rw [hX]; (repeat (first | (with_reducible exact (Below.refl _ _)) | (with_reducible refine bel_alloc ?_ _) | (with_reducible refine Below.drew ?_) | (with_reducible refine bel_drewN ?_ _) | (with_reducible refine Below.setCell ?_ (by simp) _))))
        have HRy : Hid (RH X21 w20.heap.size (Nd) (.slice ax20 (leastV (Nd) (y)).length kx20) (leastV (Nd) (y))) := (by unfold Hid; rw [hX]; (repeat (first | exact RH.new HO20.out | (with_reducible refine RH.alloc ?_ _) | (with_reducible refine RH.drewN ?_ _))))
        replace HB := Lib.hid (bel_step HB.out gB HB.out.size)
        replace HRr := Lib.hid (HRr.out.after gB)
        replace HRf := Lib.hid (HRf.out.after gB)
        replace HRg := Lib.hid (HRg.out.after gB)
        replace HRm := Lib.hid (HRm.out.after gB)
        replace HRt := Lib.hid (HRt.out.after gB)
        clear HO20
        clear hX gB cr0 cr1 ltr cf0 cf1 ltf cg0 cg1 ltg cm0 cm1 ltm ct0 ct1 ltt
        refine (leastFormY _ _ (mapV (Nd) (y) 1 KK) _ HTR.out _ (formV_rot HRok.out KK) HRt.out.2).mono ?_
        rintro e w21 ⟨ax21, kx21, rfl, o21, b21⟩
        replace HB := Lib.hid (bel_step HB.out b21 HB.out.size)
        replace HRr := Lib.hid (HRr.out.after b21)
        replace HRf := Lib.hid (HRf.out.after b21)
        replace HRg := Lib.hid (HRg.out.after b21)
        replace HRm := Lib.hid (HRm.out.after b21)
        replace HRt := Lib.hid (HRt.out.after b21)
        replace HRy := Lib.hid (HRy.out.after b21)
        have HO21 := Lib.hid o21
        clear o21
        clear b21
        have cr0 := HRr.out.1.c0
        have cr1 := HRr.out.1.c1
        have ltr := HRr.out.1.lt
        have cf0 := HRf.out.1.c0
        have cf1 := HRf.out.1.c1
        have ltf := HRf.out.1.lt
        have cg0 := HRg.out.1.c0
        have cg1 := HRg.out.1.c1
        have ltg := HRg.out.1.lt
        have cm0 := HRm.out.1.c0
        have cm1 := HRm.out.1.c1
        have ltm := HRm.out.1.lt
        have ct0 := HRt.out.1.c0
        have ct1 := HRt.out.1.c1
        have ltt := HRt.out.1.lt
        have cy0 := HRy.out.1.c0
        have cy1 := HRy.out.1.c1
        have lty := HRy.out.1.lt
        go_wp2_with fail
        refine withWorldC fun Y22 hY => ?_
        have gB : Below w21.heap.size w21 Y22 := (by rw [hY]; (repeat (first | (with_reducible exact (Below.refl _ _)) | (with_reducible refine bel_alloc ?_ _) | (with_reducible refine Below.drew ?_) | (with_reducible refine bel_drewN ?_ _) | (with_reducible refine Below.setCell ?_ (by simp) _))))
        have HRz : Hid (RH Y22 w21.heap.size (Nd) (.slice ax21 (formV (Nd) (y)).length kx21) (formV (Nd) (y))) := (by unfold Hid; rw [hY]; (repeat (first | exact RH.new HO21.out | (with_reducible refine RH.alloc ?_ _) | (with_reducible refine RH.drewN ?_ _))))
        replace HB := Lib.hid (bel_step HB.out gB HB.out.size)
        replace HRr := Lib.hid (HRr.out.after gB)
        replace HRf := Lib.hid (HRf.out.after gB)
        replace HRg := Lib.hid (HRg.out.after gB)
        replace HRm := Lib.hid (HRm.out.after gB)
        replace HRt := Lib.hid (HRt.out.after gB)
        replace HRy := Lib.hid (HRy.out.after gB)
        clear HO21
        clear hY gB cr0 cr1 ltr cf0 cf1 ltf cg0 cg1 ltg cm0 cm1 ltm ct0 ct1 ltt cy0 cy1 lty
        refine region_held (fun V => Below Y22.heap.size Y22 V) (by kernel_rfl) (by kernel_rfl) ((Below.refl _ _).drew) (fun V V' h1 h2 => bel_step h1 h2 h1.size) fun U val hne hv hcall => ?_
        have HC := Lib.hid hcall
        have zr0 : ∀ u, (val u).cell? ⟨w1.heap.size, 0, none⟩ = some (.int .i64 (Nd)) := fun u => ((bcell (hv u)).1 _ _ HRr.out.1.lt).trans HRr.out.1.c0
        have zr1 : ∀ u, (val u).cell? ⟨w1.heap.size, 1, none⟩ = some (.slice ax5 y.length kx5) := fun u => ((bcell (hv u)).1 _ _ HRr.out.1.lt).trans HRr.out.1.c1
        have zf0 : ∀ u, (val u).cell? ⟨w10.heap.size, 0, none⟩ = some (.int .i64 (Nd)) := fun u => ((bcell (hv u)).1 _ _ HRf.out.1.lt).trans HRf.out.1.c0
        have zf1 : ∀ u, (val u).cell? ⟨w10.heap.size, 1, none⟩ = some (.slice ax10 (leastV (Nd) (y)).length kx10) := fun u => ((bcell (hv u)).1 _ _ HRf.out.1.lt).trans HRf.out.1.c1
        have zg0 : ∀ u, (val u).cell? ⟨w11.heap.size, 0, none⟩ = some (.int .i64 (Nd)) := fun u => ((bcell (hv u)).1 _ _ HRg.out.1.lt).trans HRg.out.1.c0
        have zg1 : ∀ u, (val u).cell? ⟨w11.heap.size, 1, none⟩ = some (.slice ax11 (formV (Nd) (y)).length kx11) := fun u => ((bcell (hv u)).1 _ _ HRg.out.1.lt).trans HRg.out.1.c1
        have zm0 : ∀ u, (val u).cell? ⟨w12.heap.size, 0, none⟩ = some (.int .i64 (Nd)) := fun u => ((bcell (hv u)).1 _ _ HRm.out.1.lt).trans HRm.out.1.c0
        have zm1 : ∀ u, (val u).cell? ⟨w12.heap.size, 1, none⟩ = some (.slice ax12 (mapV (Nd) (y) (-1) 0).length kx12) := fun u => ((bcell (hv u)).1 _ _ HRm.out.1.lt).trans HRm.out.1.c1
        have zt0 : ∀ u, (val u).cell? ⟨w19.heap.size, 0, none⟩ = some (.int .i64 (Nd)) := fun u => ((bcell (hv u)).1 _ _ HRt.out.1.lt).trans HRt.out.1.c0
        have zt1 : ∀ u, (val u).cell? ⟨w19.heap.size, 1, none⟩ = some (.slice ax19 (mapV (Nd) (y) 1 KK).length kx19) := fun u => ((bcell (hv u)).1 _ _ HRt.out.1.lt).trans HRt.out.1.c1
        have zy0 : ∀ u, (val u).cell? ⟨w20.heap.size, 0, none⟩ = some (.int .i64 (Nd)) := fun u => ((bcell (hv u)).1 _ _ HRy.out.1.lt).trans HRy.out.1.c0
        have zy1 : ∀ u, (val u).cell? ⟨w20.heap.size, 1, none⟩ = some (.slice ax20 (leastV (Nd) (y)).length kx20) := fun u => ((bcell (hv u)).1 _ _ HRy.out.1.lt).trans HRy.out.1.c1
        have zz0 : ∀ u, (val u).cell? ⟨w21.heap.size, 0, none⟩ = some (.int .i64 (Nd)) := fun u => ((bcell (hv u)).1 _ _ HRz.out.1.lt).trans HRz.out.1.c0
        have zz1 : ∀ u, (val u).cell? ⟨w21.heap.size, 1, none⟩ = some (.slice ax21 (formV (Nd) (y)).length kx21) := fun u => ((bcell (hv u)).1 _ _ HRz.out.1.lt).trans HRz.out.1.c1
        have HV := Lib.hid hv
        clear hv hcall
        repeat (go_big_quiet_step ((first | (go_at_call 21; exact HC.out _ _ _ _ (lawRhythmsY _ _ _ (leastV (Nd) (y)) (leastV (Nd) (y)) _ rfl (HRy.out.2.ofBelow (HV.out _)) (HRf.out.2.ofBelow (HV.out _)))) | (go_at_call 21; exact HC.out _ _ _ _ (lawRhythmsY _ _ _ (formV (Nd) (y)) (formV (Nd) (y)) _ rfl (HRz.out.2.ofBelow (HV.out _)) (HRg.out.2.ofBelow (HV.out _)))) | (go_at_call 24; exact HC.out _ _ _ _ (rotToY _ _ _ (y) (mapV (Nd) (y) 1 KK) _ _ HRok.out HTR.out HTO.out (HRr.out.2.ofBelow (HV.out _)) (HRt.out.2.ofBelow (HV.out _)))) | (go_at_call 25; exact HC.out _ _ _ _ (areRotY _ _ _ (y) (leastV (Nd) (y)) true _ HRok.out HFR.out (least_rot HRok.out) (HRr.out.2.ofBelow (HV.out _)) (HRf.out.2.ofBelow (HV.out _)))) | (go_at_call 26; exact HC.out _ _ _ _ (areFormsY _ _ _ (y) (mapV (Nd) (y) (-1) 0) true _ HRok.out HMR.out (form_mir HRok.out) (HRr.out.2.ofBelow (HV.out _)) (HRm.out.2.ofBelow (HV.out _)))) | (go_at_call 26; exact HC.out _ _ _ _ (areFormsY _ _ _ (y) (formV (Nd) (y)) true _ HRok.out HGR.out (form_form HRok.out) (HRr.out.2.ofBelow (HV.out _)) (HRg.out.2.ofBelow (HV.out _)))) | (go_at_call 25; exact HC.out _ _ _ _ (areRotY _ _ _ (y) (mapV (Nd) (y) (-1) 0) true _ HRok.out HMR.out (mir_rotB HRok.out HMB.out) (HRr.out.2.ofBelow (HV.out _)) (HRm.out.2.ofBelow (HV.out _)))) | (go_at_call 19; exact HC.out _ _ _ _ (mirroredY _ _ (y) true _ HRok.out HMB.out (HRr.out.2.ofBelow (HV.out _)))) | (go_at_call 13; exact HC.out _ _ _ _ (periodY _ _ (mapV (Nd) (y) 1 KK) _ _ HTR.out HTP.out (HRt.out.2.ofBelow (HV.out _)))))))
        refine wpQuiet_nil ?_
        rintro _ ⟨u, rfl⟩
        have gu := HV.out u
        clear HC HV zr0 zr1 zf0 zf1 zg0 zg1 zm0 zm1 zt0 zt1 zy0 zy1 zz0 zz1
        generalize val u = w22 at gu ⊢
        clear u hne val
        replace HB := Lib.hid (bel_step HB.out gu HB.out.size)
        replace HRr := Lib.hid (HRr.out.after gu)
        replace HRf := Lib.hid (HRf.out.after gu)
        replace HRg := Lib.hid (HRg.out.after gu)
        replace HRm := Lib.hid (HRm.out.after gu)
        replace HRt := Lib.hid (HRt.out.after gu)
        replace HRy := Lib.hid (HRy.out.after gu)
        replace HRz := Lib.hid (HRz.out.after gu)
        clear gu
        have cr0 := HRr.out.1.c0
        have cr1 := HRr.out.1.c1
        have ltr := HRr.out.1.lt
        have cf0 := HRf.out.1.c0
        have cf1 := HRf.out.1.c1
        have ltf := HRf.out.1.lt
        have cg0 := HRg.out.1.c0
        have cg1 := HRg.out.1.c1
        have ltg := HRg.out.1.lt
        have cm0 := HRm.out.1.c0
        have cm1 := HRm.out.1.c1
        have ltm := HRm.out.1.lt
        have ct0 := HRt.out.1.c0
        have ct1 := HRt.out.1.c1
        have ltt := HRt.out.1.lt
        have cy0 := HRy.out.1.c0
        have cy1 := HRy.out.1.c1
        have lty := HRy.out.1.lt
        have cz0 := HRz.out.1.c0
        have cz1 := HRz.out.1.c1
        have ltz := HRz.out.1.lt
        go_wp2
        go_ret
        exact ⟨rfl, HB.out⟩
  · have h3b : (r30 % 3 == 0) = false := by simpa using h3
    obtain ⟨pl, hpl, hp1, hpn, hpd⟩ : ∃ pl : Nat, per (N) (x) = (pl : Int) ∧ 1 ≤ pl ∧ (pl : Int) ≤ N ∧ (N) % (pl : Int) = 0 := by
      have h1 := per_bd (x := x) HRok.out.lo
      have h2 := per_dvd HRok.out
      refine ⟨(per (N) (x)).toNat, by omega, by omega, by omega, ?_⟩
      rw [show (((per (N) (x)).toNat : Nat) : Int) = per (N) (x) by omega]; exact h2
    obtain ⟨al, hal, halc⟩ : ∃ al : Nat, (axTo (N) (x) (N).toNat).length = al ∧ (al = 0 ∨ (al : Int) = (N) / (pl : Int)) := ⟨_, rfl, by rw [← hpl]; exact axes_len HRok.out⟩
    have HPL := Lib.hid hpl
    have HAL := Lib.hid hal
    have HAC := Lib.hid halc
    have HPD := Lib.hid hpd
    clear hpl hal halc hpd
    have hlo := HRok.out.lo
    have hhi := HRok.out.hi
    have HFR := Lib.hid (leastV_rok hlo hhi (x))
    have HGR := Lib.hid (formV_rok hlo hhi (x))
    have HMR := Lib.hid (mapV_rok hlo hhi (x) (-1) 0)
    go_wp2_with fail
    refine withWorld fun X3 hX => ?_
    have gB : Below w2.heap.size w2 X3 := (by rw [hX]; (repeat (first | (with_reducible exact (Below.refl _ _)) | (with_reducible refine bel_alloc ?_ _) | (with_reducible refine Below.drew ?_) | (with_reducible refine bel_drewN ?_ _) | (with_reducible refine Below.setCell ?_ (by simp) _))))
    replace HB := Lib.hid (bel_step HB.out gB HB.out.size)
    replace HRr := Lib.hid (HRr.out.after gB)
    clear hX gB cr0 cr1 ltr
    refine (periodY _ _ (x) _ _ HRok.out HPL.out HRr.out.2).mono ?_
    rintro e w3 ⟨rfl, b3⟩
    replace HB := Lib.hid (bel_step HB.out b3 HB.out.size)
    replace HRr := Lib.hid (HRr.out.after b3)
    clear b3
    have cr0 := HRr.out.1.c0
    have cr1 := HRr.out.1.c1
    have ltr := HRr.out.1.lt
    go_wp2_with fail
    refine withWorld fun X4 hX => ?_
    have gB : Below w3.heap.size w3 X4 := (by rw [hX]; (repeat (first | (with_reducible exact (Below.refl _ _)) | (with_reducible refine bel_alloc ?_ _) | (with_reducible refine Below.drew ?_) | (with_reducible refine bel_drewN ?_ _) | (with_reducible refine Below.setCell ?_ (by simp) _))))
    replace HB := Lib.hid (bel_step HB.out gB HB.out.size)
    replace HRr := Lib.hid (HRr.out.after gB)
    clear hX gB cr0 cr1 ltr
    refine (axesY _ _ (x) _ _ HRok.out HAL.out HRr.out.2).mono ?_
    rintro e w4 ⟨⟨aa4, ca4, rfl⟩, b4⟩
    replace HB := Lib.hid (bel_step HB.out b4 HB.out.size)
    replace HRr := Lib.hid (HRr.out.after b4)
    clear b4
    have cr0 := HRr.out.1.c0
    have cr1 := HRr.out.1.c1
    have ltr := HRr.out.1.lt
    go_wp2_with fail
    refine withWorld fun X5 hX => ?_
    have gB : Below w4.heap.size w4 X5 := (by rw [hX]; (repeat (first | (with_reducible exact (Below.refl _ _)) | (with_reducible refine bel_alloc ?_ _) | (with_reducible refine Below.drew ?_) | (with_reducible refine bel_drewN ?_ _) | (with_reducible refine Below.setCell ?_ (by simp) _))))
    replace HB := Lib.hid (bel_step HB.out gB HB.out.size)
    replace HRr := Lib.hid (HRr.out.after gB)
    clear hX gB cr0 cr1 ltr
    refine (rotationsY _ _ (x) _ _ HRok.out HPL.out HRr.out.2).mono ?_
    rintro e w5 ⟨⟨aa5, ca5, rfl⟩, b5⟩
    replace HB := Lib.hid (bel_step HB.out b5 HB.out.size)
    replace HRr := Lib.hid (HRr.out.after b5)
    clear b5
    have cr0 := HRr.out.1.c0
    have cr1 := HRr.out.1.c1
    have ltr := HRr.out.1.lt
    go_wp2_with fail
    refine withWorld fun X6 hX => ?_
    have gB : Below w5.heap.size w5 X6 := (by rw [hX]; (repeat (first | (with_reducible exact (Below.refl _ _)) | (with_reducible refine bel_alloc ?_ _) | (with_reducible refine Below.drew ?_) | (with_reducible refine bel_drewN ?_ _) | (with_reducible refine Below.setCell ?_ (by simp) _))))
    replace HB := Lib.hid (bel_step HB.out gB HB.out.size)
    replace HRr := Lib.hid (HRr.out.after gB)
    clear hX gB cr0 cr1 ltr
    refine (leastRotY _ _ (x) _ HRok.out _ rfl HRr.out.2).mono ?_
    rintro e w6 ⟨ax6, kx6, rfl, o6, b6⟩
    replace HB := Lib.hid (bel_step HB.out b6 HB.out.size)
    replace HRr := Lib.hid (HRr.out.after b6)
    have HO6 := Lib.hid o6
    clear o6
    clear b6
    have cr0 := HRr.out.1.c0
    have cr1 := HRr.out.1.c1
    have ltr := HRr.out.1.lt
    go_wp2_with fail
    refine withWorld fun X7 hX => ?_
    have gB : Below w6.heap.size w6 X7 := (by rw [hX]; (repeat (first | (with_reducible exact (Below.refl _ _)) | (with_reducible refine bel_alloc ?_ _) | (with_reducible refine Below.drew ?_) | (with_reducible refine bel_drewN ?_ _) | (with_reducible refine Below.setCell ?_ (by simp) _))))
    have HRf : Hid (RH X7 w6.heap.size (N) (.slice ax6 (leastV (N) (x)).length kx6) (leastV (N) (x))) := (by unfold Hid; rw [hX]; (repeat (first | exact RH.new HO6.out | (with_reducible refine RH.alloc ?_ _) | (with_reducible refine RH.drewN ?_ _))))
    replace HB := Lib.hid (bel_step HB.out gB HB.out.size)
    replace HRr := Lib.hid (HRr.out.after gB)
    clear HO6
    clear hX gB cr0 cr1 ltr
    refine (leastFormY _ _ (x) _ HRok.out _ rfl HRr.out.2).mono ?_
    rintro e w7 ⟨ax7, kx7, rfl, o7, b7⟩
    replace HB := Lib.hid (bel_step HB.out b7 HB.out.size)
    replace HRr := Lib.hid (HRr.out.after b7)
    replace HRf := Lib.hid (HRf.out.after b7)
    have HO7 := Lib.hid o7
    clear o7
    clear b7
    have cr0 := HRr.out.1.c0
    have cr1 := HRr.out.1.c1
    have ltr := HRr.out.1.lt
    have cf0 := HRf.out.1.c0
    have cf1 := HRf.out.1.c1
    have ltf := HRf.out.1.lt
    go_wp2_with fail
    refine withWorld fun X8 hX => ?_
    have gB : Below w7.heap.size w7 X8 := (by rw [hX]; (repeat (first | (with_reducible exact (Below.refl _ _)) | (with_reducible refine bel_alloc ?_ _) | (with_reducible refine Below.drew ?_) | (with_reducible refine bel_drewN ?_ _) | (with_reducible refine Below.setCell ?_ (by simp) _))))
    have HRg : Hid (RH X8 w7.heap.size (N) (.slice ax7 (formV (N) (x)).length kx7) (formV (N) (x))) := (by unfold Hid; rw [hX]; (repeat (first | exact RH.new HO7.out | (with_reducible refine RH.alloc ?_ _) | (with_reducible refine RH.drewN ?_ _))))
    replace HB := Lib.hid (bel_step HB.out gB HB.out.size)
    replace HRr := Lib.hid (HRr.out.after gB)
    replace HRf := Lib.hid (HRf.out.after gB)
    clear HO7
    clear hX gB cr0 cr1 ltr cf0 cf1 ltf
    refine (mirrorY _ _ (x) _ HRok.out _ rfl HRr.out.2).mono ?_
    rintro e w8 ⟨ax8, kx8, rfl, o8, b8⟩
    replace HB := Lib.hid (bel_step HB.out b8 HB.out.size)
    replace HRr := Lib.hid (HRr.out.after b8)
    replace HRf := Lib.hid (HRf.out.after b8)
    replace HRg := Lib.hid (HRg.out.after b8)
    have HO8 := Lib.hid o8
    clear o8
    clear b8
    have cr0 := HRr.out.1.c0
    have cr1 := HRr.out.1.c1
    have ltr := HRr.out.1.lt
    have cf0 := HRf.out.1.c0
    have cf1 := HRf.out.1.c1
    have ltf := HRf.out.1.lt
    have cg0 := HRg.out.1.c0
    have cg1 := HRg.out.1.c1
    have ltg := HRg.out.1.lt
    go_wp2_with fail
    refine withWorld fun X9 hX => ?_
    have gB : Below w8.heap.size w8 X9 := (by rw [hX]; (repeat (first | (with_reducible exact (Below.refl _ _)) | (with_reducible refine bel_alloc ?_ _) | (with_reducible refine Below.drew ?_) | (with_reducible refine bel_drewN ?_ _) | (with_reducible refine Below.setCell ?_ (by simp) _))))
    have HRm : Hid (RH X9 w8.heap.size (N) (.slice ax8 (mapV (N) (x) (-1) 0).length kx8) (mapV (N) (x) (-1) 0)) := (by unfold Hid; rw [hX]; (repeat (first | exact RH.new HO8.out | (with_reducible refine RH.alloc ?_ _) | (with_reducible refine RH.drewN ?_ _))))
    replace HB := Lib.hid (bel_step HB.out gB HB.out.size)
    replace HRr := Lib.hid (HRr.out.after gB)
    replace HRf := Lib.hid (HRf.out.after gB)
    replace HRg := Lib.hid (HRg.out.after gB)
    clear HO8
    clear hX gB cr0 cr1 ltr cf0 cf1 ltf cg0 cg1 ltg
    refine (leastFormY _ _ (mapV (N) (x) (-1) 0) _ HMR.out _ (formV_mir HRok.out) HRm.out.2).mono ?_
    rintro e w9 ⟨ax9, kx9, rfl, o9, b9⟩
    replace HB := Lib.hid (bel_step HB.out b9 HB.out.size)
    replace HRr := Lib.hid (HRr.out.after b9)
    replace HRf := Lib.hid (HRf.out.after b9)
    replace HRg := Lib.hid (HRg.out.after b9)
    replace HRm := Lib.hid (HRm.out.after b9)
    have HO9 := Lib.hid o9
    clear o9
    clear b9
    have cr0 := HRr.out.1.c0
    have cr1 := HRr.out.1.c1
    have ltr := HRr.out.1.lt
    have cf0 := HRf.out.1.c0
    have cf1 := HRf.out.1.c1
    have ltf := HRf.out.1.lt
    have cg0 := HRg.out.1.c0
    have cg1 := HRg.out.1.c1
    have ltg := HRg.out.1.lt
    have cm0 := HRm.out.1.c0
    have cm1 := HRm.out.1.c1
    have ltm := HRm.out.1.lt
    have hd1 : ((N) % (pl : Int) != 0) = false := by rw [HPD.out]; rfl
    have hd2 : ((pl : Int) == 0) = false := by simp; omega
    have hd3 : ¬ (pl : Int) = 0 := by omega
    have hd4 : ¬ (pl : Int) < 1 := by omega
    rcases Nat.eq_zero_or_pos al with ha0 | ha0
    · subst ha0
      have HMB : Hid (decide (0 < (axTo (N) (x) (N).toNat).length) = false) := by unfold Hid; rw [HAL.out]; rfl
      go_wp2_with fail
      refine withWorld fun X10 hX => ?_
      have gB : Below w9.heap.size w9 X10 := (by rw [hX]; (repeat (first | (with_reducible exact (Below.refl _ _)) | (with_reducible refine bel_alloc ?_ _) | (with_reducible refine Below.drew ?_) | (with_reducible refine bel_drewN ?_ _) | (with_reducible refine Below.setCell ?_ (by simp) _))))
      have HRh : Hid (RH X10 w9.heap.size (N) (.slice ax9 (formV (N) (x)).length kx9) (formV (N) (x))) := (by unfold Hid; rw [hX]; (repeat (first | exact RH.new HO9.out | (with_reducible refine RH.alloc ?_ _) | (with_reducible refine RH.drewN ?_ _))))
      replace HB := Lib.hid (bel_step HB.out gB HB.out.size)
      replace HRr := Lib.hid (HRr.out.after gB)
      replace HRf := Lib.hid (HRf.out.after gB)
      replace HRg := Lib.hid (HRg.out.after gB)
      replace HRm := Lib.hid (HRm.out.after gB)
      clear HO9
      clear hX gB cr0 cr1 ltr cf0 cf1 ltf cg0 cg1 ltg cm0 cm1 ltm
      refine (mirroredY _ _ (x) false _ HRok.out HMB.out HRr.out.2).mono ?_
      rintro e w10 ⟨rfl, b10⟩
      replace HB := Lib.hid (bel_step HB.out b10 HB.out.size)
      replace HRr := Lib.hid (HRr.out.after b10)
      replace HRf := Lib.hid (HRf.out.after b10)
      replace HRg := Lib.hid (HRg.out.after b10)
      replace HRm := Lib.hid (HRm.out.after b10)
      replace HRh := Lib.hid (HRh.out.after b10)
      clear b10
      have cr0 := HRr.out.1.c0
      have cr1 := HRr.out.1.c1
      have ltr := HRr.out.1.lt
      have cf0 := HRf.out.1.c0
      have cf1 := HRf.out.1.c1
      have ltf := HRf.out.1.lt
      have cg0 := HRg.out.1.c0
      have cg1 := HRg.out.1.c1
      have ltg := HRg.out.1.lt
      have cm0 := HRm.out.1.c0
      have cm1 := HRm.out.1.c1
      have ltm := HRm.out.1.lt
      have ch0 := HRh.out.1.c0
      have ch1 := HRh.out.1.c1
      have lth := HRh.out.1.lt
      go_wp2_with fail
      refine withWorld fun X11 hX => ?_
      have gB : Below w10.heap.size w10 X11 := (by rw [hX]; (repeat (first | (with_reducible exact (Below.refl _ _)) | (with_reducible refine bel_alloc ?_ _) | (with_reducible refine Below.drew ?_) | (with_reducible refine bel_drewN ?_ _) | (with_reducible refine Below.setCell ?_ (by simp) _))))
      replace HB := Lib.hid (bel_step HB.out gB HB.out.size)
      replace HRr := Lib.hid (HRr.out.after gB)
      replace HRf := Lib.hid (HRf.out.after gB)
      replace HRg := Lib.hid (HRg.out.after gB)
      replace HRm := Lib.hid (HRm.out.after gB)
      replace HRh := Lib.hid (HRh.out.after gB)
      clear hX gB cr0 cr1 ltr cf0 cf1 ltf cg0 cg1 ltg cm0 cm1 ltm ch0 ch1 lth
      refine (periodicY _ _ (x) _ _ HRok.out HPL.out HRr.out.2).mono ?_
      rintro e w11 ⟨rfl, b11⟩
      replace HB := Lib.hid (bel_step HB.out b11 HB.out.size)
      replace HRr := Lib.hid (HRr.out.after b11)
      replace HRf := Lib.hid (HRf.out.after b11)
      replace HRg := Lib.hid (HRg.out.after b11)
      replace HRm := Lib.hid (HRm.out.after b11)
      replace HRh := Lib.hid (HRh.out.after b11)
      clear b11
      have cr0 := HRr.out.1.c0
      have cr1 := HRr.out.1.c1
      have ltr := HRr.out.1.lt
      have cf0 := HRf.out.1.c0
      have cf1 := HRf.out.1.c1
      have ltf := HRf.out.1.lt
      have cg0 := HRg.out.1.c0
      have cg1 := HRg.out.1.c1
      have ltg := HRg.out.1.lt
      have cm0 := HRm.out.1.c0
      have cm1 := HRm.out.1.c1
      have ltm := HRm.out.1.lt
      have ch0 := HRh.out.1.c0
      have ch1 := HRh.out.1.c1
      have lth := HRh.out.1.lt
      go_wp2_with fail
      refine withWorld fun X12 hX => ?_
      have gB : Below w11.heap.size w11 X12 := (by rw [hX]; (repeat (first | (with_reducible exact (Below.refl _ _)) | (with_reducible refine bel_alloc ?_ _) | (with_reducible refine Below.drew ?_) | (with_reducible refine bel_drewN ?_ _) | (with_reducible refine Below.setCell ?_ (by simp) _))))
      replace HB := Lib.hid (bel_step HB.out gB HB.out.size)
      replace HRr := Lib.hid (HRr.out.after gB)
      replace HRf := Lib.hid (HRf.out.after gB)
      replace HRg := Lib.hid (HRg.out.after gB)
      replace HRm := Lib.hid (HRm.out.after gB)
      replace HRh := Lib.hid (HRh.out.after gB)
      clear hX gB cr0 cr1 ltr cf0 cf1 ltf cg0 cg1 ltg cm0 cm1 ltm ch0 ch1 lth
      refine (lawRhythmsY _ _ _ (formV (N) (x)) (formV (N) (x)) _ rfl HRg.out.2 HRh.out.2).mono ?_
      rintro e w12 ⟨rfl, b12⟩
      replace HB := Lib.hid (bel_step HB.out b12 HB.out.size)
      replace HRr := Lib.hid (HRr.out.after b12)
      replace HRf := Lib.hid (HRf.out.after b12)
      replace HRg := Lib.hid (HRg.out.after b12)
      replace HRm := Lib.hid (HRm.out.after b12)
      replace HRh := Lib.hid (HRh.out.after b12)
      clear b12
      have cr0 := HRr.out.1.c0
      have cr1 := HRr.out.1.c1
      have ltr := HRr.out.1.lt
      have cf0 := HRf.out.1.c0
      have cf1 := HRf.out.1.c1
      have ltf := HRf.out.1.lt
      have cg0 := HRg.out.1.c0
      have cg1 := HRg.out.1.c1
      have ltg := HRg.out.1.lt
      have cm0 := HRm.out.1.c0
      have cm1 := HRm.out.1.c1
      have ltm := HRm.out.1.lt
      have ch0 := HRh.out.1.c0
      have ch1 := HRh.out.1.c1
      have lth := HRh.out.1.lt
      go_wp2_with fail
      refine withWorld fun X13 hX => ?_
      have gB : Below w12.heap.size w12 X13 := (by rw [hX]; (repeat (first | (with_reducible exact (Below.refl _ _)) | (with_reducible refine bel_alloc ?_ _) | (with_reducible refine Below.drew ?_) | (with_reducible refine bel_drewN ?_ _) | (with_reducible refine Below.setCell ?_ (by simp) _))))
      replace HB := Lib.hid (bel_step HB.out gB HB.out.size)
      replace HRr := Lib.hid (HRr.out.after gB)
      replace HRf := Lib.hid (HRf.out.after gB)
      replace HRg := Lib.hid (HRg.out.after gB)
      replace HRm := Lib.hid (HRm.out.after gB)
      replace HRh := Lib.hid (HRh.out.after gB)
      clear hX gB cr0 cr1 ltr cf0 cf1 ltf cg0 cg1 ltg cm0 cm1 ltm ch0 ch1 lth
      refine (isLeastY _ _ (leastV (N) (x)) _ HFR.out (leastV_least HRok.out) HRf.out.2).mono ?_
      rintro e w13 ⟨rfl, b13⟩
      replace HB := Lib.hid (bel_step HB.out b13 HB.out.size)
      replace HRr := Lib.hid (HRr.out.after b13)
      replace HRf := Lib.hid (HRf.out.after b13)
      replace HRg := Lib.hid (HRg.out.after b13)
      replace HRm := Lib.hid (HRm.out.after b13)
      replace HRh := Lib.hid (HRh.out.after b13)
      clear b13
      have cr0 := HRr.out.1.c0
      have cr1 := HRr.out.1.c1
      have ltr := HRr.out.1.lt
      have cf0 := HRf.out.1.c0
      have cf1 := HRf.out.1.c1
      have ltf := HRf.out.1.lt
      have cg0 := HRg.out.1.c0
      have cg1 := HRg.out.1.c1
      have ltg := HRg.out.1.lt
      have cm0 := HRm.out.1.c0
      have cm1 := HRm.out.1.c1
      have ltm := HRm.out.1.lt
      have ch0 := HRh.out.1.c0
      have ch1 := HRh.out.1.c1
      have lth := HRh.out.1.lt
      clear HRh cr0 cr1 ltr cf0 cf1 ltf cg0 cg1 ltg cm0 cm1 ltm ch0 ch1 lth
      have cr0 := HRr.out.1.c0
      have cr1 := HRr.out.1.c1
      have ltr := HRr.out.1.lt
      have cf0 := HRf.out.1.c0
      have cf1 := HRf.out.1.c1
      have ltf := HRf.out.1.lt
      have cg0 := HRg.out.1.c0
      have cg1 := HRg.out.1.c1
      have ltg := HRg.out.1.lt
      have cm0 := HRm.out.1.c0
      have cm1 := HRm.out.1.c1
      have ltm := HRm.out.1.lt
      go_wp2_with fail
      refine withWorld fun X14 hX => ?_
      have gB : Below w13.heap.size w13 X14 := (by rw [hX]; (repeat (first | (with_reducible exact (Below.refl _ _)) | (with_reducible refine bel_alloc ?_ _) | (with_reducible refine Below.drew ?_) | (with_reducible refine bel_drewN ?_ _) | (with_reducible refine Below.setCell ?_ (by simp) _))))
      replace HB := Lib.hid (bel_step HB.out gB HB.out.size)
      replace HRr := Lib.hid (HRr.out.after gB)
      replace HRf := Lib.hid (HRf.out.after gB)
      replace HRg := Lib.hid (HRg.out.after gB)
      replace HRm := Lib.hid (HRm.out.after gB)
      clear hX gB cr0 cr1 ltr cf0 cf1 ltf cg0 cg1 ltg cm0 cm1 ltm
      refine (specMakeNum _ z0 34 _ hm0 (by decide) ((HH0.out.below HB.out).mono HB.out.size)).mono ?_
      rintro e w14 ⟨⟨r34, hs0, hs1, rfl⟩, b14⟩
      replace HB := Lib.hid (bel_step HB.out b14 HB.out.size)
      replace HRr := Lib.hid (HRr.out.after b14)
      replace HRf := Lib.hid (HRf.out.after b14)
      replace HRg := Lib.hid (HRg.out.after b14)
      replace HRm := Lib.hid (HRm.out.after b14)
      clear b14
      have cr0 := HRr.out.1.c0
      have cr1 := HRr.out.1.c1
      have ltr := HRr.out.1.lt
      have cf0 := HRf.out.1.c0
      have cf1 := HRf.out.1.c1
      have ltf := HRf.out.1.lt
      have cg0 := HRg.out.1.c0
      have cg1 := HRg.out.1.c1
      have ltg := HRg.out.1.lt
      have cm0 := HRm.out.1.c0
      have cm1 := HRm.out.1.c1
      have ltm := HRm.out.1.lt
      have hn0 : ((N) == 0) = false := by simp; omega
      have hn1 : ¬ (N) = 0 := by omega
      obtain ⟨KK, hk0, hk1, hKK⟩ : ∃ KK : Int, 0 ≤ KK ∧ KK < N ∧ r34 % (N) = KK := ⟨_, Int.emod_nonneg _ hn1, Int.emod_lt_of_pos _ (by omega), rfl⟩
      go_wp2_with fail
      try rw [hKK]
      clear hKK hs0 hs1
      have HTR := Lib.hid (mapV_rok hlo hhi (x) 1 KK)
      have HTP : Hid (per (N) (mapV (N) (x) 1 KK) = (pl : Int)) := by unfold Hid; rw [← HPL.out]; exact per_of HTR.out HRok.out (inv_map1 HRok.out KK)
      have HTO : Hid (rotTo (N) (x) (mapV (N) (x) 1 KK) = KK % (pl : Int)) := by unfold Hid; rw [← HPL.out]; exact rotTo_rot HRok.out
      refine withWorld fun X15 hX => ?_
      have gB : Below w14.heap.size w14 X15 := (by rw [hX]; (repeat (first | (with_reducible exact (Below.refl _ _)) | (with_reducible refine bel_alloc ?_ _) | (with_reducible refine Below.drew ?_) | (with_reducible refine bel_drewN ?_ _) | (with_reducible refine Below.setCell ?_ (by simp) _))))
      replace HB := Lib.hid (bel_step HB.out gB HB.out.size)
      replace HRr := Lib.hid (HRr.out.after gB)
      replace HRf := Lib.hid (HRf.out.after gB)
      replace HRg := Lib.hid (HRg.out.after gB)
      replace HRm := Lib.hid (HRm.out.after gB)
      clear hX gB cr0 cr1 ltr cf0 cf1 ltf cg0 cg1 ltg cm0 cm1 ltm
      refine (rotateY _ _ (x) KK _ HRok.out (by omega) (by omega) _ rfl HRr.out.2).mono ?_
      rintro e w15 ⟨ax15, kx15, rfl, o15, b15⟩
      replace HB := Lib.hid (bel_step HB.out b15 HB.out.size)
      replace HRr := Lib.hid (HRr.out.after b15)
      replace HRf := Lib.hid (HRf.out.after b15)
      replace HRg := Lib.hid (HRg.out.after b15)
      replace HRm := Lib.hid (HRm.out.after b15)
      have HO15 := Lib.hid o15
      clear o15
      clear b15
      have cr0 := HRr.out.1.c0
      have cr1 := HRr.out.1.c1
      have ltr := HRr.out.1.lt
      have cf0 := HRf.out.1.c0
      have cf1 := HRf.out.1.c1
      have ltf := HRf.out.1.lt
      have cg0 := HRg.out.1.c0
      have cg1 := HRg.out.1.c1
      have ltg := HRg.out.1.lt
      have cm0 := HRm.out.1.c0
      have cm1 := HRm.out.1.c1
      have ltm := HRm.out.1.lt
      go_wp2_with fail
      refine withWorld fun X16 hX => ?_
      have gB : Below w15.heap.size w15 X16 := (by rw [hX]; (repeat (first | (with_reducible exact (Below.refl _ _)) | (with_reducible refine bel_alloc ?_ _) | (with_reducible refine Below.drew ?_) | (with_reducible refine bel_drewN ?_ _) | (with_reducible refine Below.setCell ?_ (by simp) _))))
      have HRt : Hid (RH X16 w15.heap.size (N) (.slice ax15 (mapV (N) (x) 1 KK).length kx15) (mapV (N) (x) 1 KK)) := (by unfold Hid; rw [hX]; (repeat (first | exact RH.new HO15.out | (with_reducible refine RH.alloc ?_ _) | (with_reducible refine RH.drewN ?_ _))))
      replace HB := Lib.hid (bel_step HB.out gB HB.out.size)
      replace HRr := Lib.hid (HRr.out.after gB)
      replace HRf := Lib.hid (HRf.out.after gB)
      replace HRg := Lib.hid (HRg.out.after gB)
      replace HRm := Lib.hid (HRm.out.after gB)
      clear HO15
      clear hX gB cr0 cr1 ltr cf0 cf1 ltf cg0 cg1 ltg cm0 cm1 ltm
      refine (leastRotY _ _ (mapV (N) (x) 1 KK) _ HTR.out _ (leastV_rot HRok.out KK) HRt.out.2).mono ?_
      rintro e w16 ⟨ax16, kx16, rfl, o16, b16⟩
      replace HB := Lib.hid (bel_step HB.out b16 HB.out.size)
      replace HRr := Lib.hid (HRr.out.after b16)
      replace HRf := Lib.hid (HRf.out.after b16)
      replace HRg := Lib.hid (HRg.out.after b16)
      replace HRm := Lib.hid (HRm.out.after b16)
      replace HRt := Lib.hid (HRt.out.after b16)
      have HO16 := Lib.hid o16
      clear o16
      clear b16
      have cr0 := HRr.out.1.c0
      have cr1 := HRr.out.1.c1
      have ltr := HRr.out.1.lt
      have cf0 := HRf.out.1.c0
      have cf1 := HRf.out.1.c1
      have ltf := HRf.out.1.lt
      have cg0 := HRg.out.1.c0
      have cg1 := HRg.out.1.c1
      have ltg := HRg.out.1.lt
      have cm0 := HRm.out.1.c0
      have cm1 := HRm.out.1.c1
      have ltm := HRm.out.1.lt
      have ct0 := HRt.out.1.c0
      have ct1 := HRt.out.1.c1
      have ltt := HRt.out.1.lt
      go_wp2_with fail
      refine withWorld fun X17 hX => ?_
      have gB : Below w16.heap.size w16 X17 := (by rw [hX]; (repeat (first | (with_reducible exact (Below.refl _ _)) | (with_reducible refine bel_alloc ?_ _) | (with_reducible refine Below.drew ?_) | (with_reducible refine bel_drewN ?_ _) | (with_reducible refine Below.setCell ?_ (by simp) _))))
      have HRy : Hid (RH X17 w16.heap.size (N) (.slice ax16 (leastV (N) (x)).length kx16) (leastV (N) (x))) := (by unfold Hid; rw [hX]; (repeat (first | exact RH.new HO16.out | (with_reducible refine RH.alloc ?_ _) | (with_reducible refine RH.drewN ?_ _))))
      replace HB := Lib.hid (bel_step HB.out gB HB.out.size)
      replace HRr := Lib.hid (HRr.out.after gB)
      replace HRf := Lib.hid (HRf.out.after gB)
      replace HRg := Lib.hid (HRg.out.after gB)
      replace HRm := Lib.hid (HRm.out.after gB)
      replace HRt := Lib.hid (HRt.out.after gB)
      clear HO16
      clear hX gB cr0 cr1 ltr cf0 cf1 ltf cg0 cg1 ltg cm0 cm1 ltm ct0 ct1 ltt
      refine (leastFormY _ _ (mapV (N) (x) 1 KK) _ HTR.out _ (formV_rot HRok.out KK) HRt.out.2).mono ?_
      rintro e w17 ⟨ax17, kx17, rfl, o17, b17⟩
      replace HB := Lib.hid (bel_step HB.out b17 HB.out.size)
      replace HRr := Lib.hid (HRr.out.after b17)
      replace HRf := Lib.hid (HRf.out.after b17)
      replace HRg := Lib.hid (HRg.out.after b17)
      replace HRm := Lib.hid (HRm.out.after b17)
      replace HRt := Lib.hid (HRt.out.after b17)
      replace HRy := Lib.hid (HRy.out.after b17)
      have HO17 := Lib.hid o17
      clear o17
      clear b17
      have cr0 := HRr.out.1.c0
      have cr1 := HRr.out.1.c1
      have ltr := HRr.out.1.lt
      have cf0 := HRf.out.1.c0
      have cf1 := HRf.out.1.c1
      have ltf := HRf.out.1.lt
      have cg0 := HRg.out.1.c0
      have cg1 := HRg.out.1.c1
      have ltg := HRg.out.1.lt
      have cm0 := HRm.out.1.c0
      have cm1 := HRm.out.1.c1
      have ltm := HRm.out.1.lt
      have ct0 := HRt.out.1.c0
      have ct1 := HRt.out.1.c1
      have ltt := HRt.out.1.lt
      have cy0 := HRy.out.1.c0
      have cy1 := HRy.out.1.c1
      have lty := HRy.out.1.lt
      go_wp2_with fail
      refine withWorldC fun Y18 hY => ?_
      have gB : Below w17.heap.size w17 Y18 := (by rw [hY]; (repeat (first | (with_reducible exact (Below.refl _ _)) | (with_reducible refine bel_alloc ?_ _) | (with_reducible refine Below.drew ?_) | (with_reducible refine bel_drewN ?_ _) | (with_reducible refine Below.setCell ?_ (by simp) _))))
      have HRz : Hid (RH Y18 w17.heap.size (N) (.slice ax17 (formV (N) (x)).length kx17) (formV (N) (x))) := (by unfold Hid; rw [hY]; (repeat (first | exact RH.new HO17.out | (with_reducible refine RH.alloc ?_ _) | (with_reducible refine RH.drewN ?_ _))))
      replace HB := Lib.hid (bel_step HB.out gB HB.out.size)
      replace HRr := Lib.hid (HRr.out.after gB)
      replace HRf := Lib.hid (HRf.out.after gB)
      replace HRg := Lib.hid (HRg.out.after gB)
      replace HRm := Lib.hid (HRm.out.after gB)
      replace HRt := Lib.hid (HRt.out.after gB)
      replace HRy := Lib.hid (HRy.out.after gB)
      clear HO17
      clear hY gB cr0 cr1 ltr cf0 cf1 ltf cg0 cg1 ltg cm0 cm1 ltm ct0 ct1 ltt cy0 cy1 lty
      refine region_held (fun V => Below Y18.heap.size Y18 V) (by kernel_rfl) (by kernel_rfl) ((Below.refl _ _).drew) (fun V V' h1 h2 => bel_step h1 h2 h1.size) fun U val hne hv hcall => ?_
      have HC := Lib.hid hcall
      have zr0 : ∀ u, (val u).cell? ⟨w1.heap.size, 0, none⟩ = some (.int .i64 (N)) := fun u => ((bcell (hv u)).1 _ _ HRr.out.1.lt).trans HRr.out.1.c0
      have zr1 : ∀ u, (val u).cell? ⟨w1.heap.size, 1, none⟩ = some (.slice ax1 x.length kx1) := fun u => ((bcell (hv u)).1 _ _ HRr.out.1.lt).trans HRr.out.1.c1
      have zf0 : ∀ u, (val u).cell? ⟨w6.heap.size, 0, none⟩ = some (.int .i64 (N)) := fun u => ((bcell (hv u)).1 _ _ HRf.out.1.lt).trans HRf.out.1.c0
      have zf1 : ∀ u, (val u).cell? ⟨w6.heap.size, 1, none⟩ = some (.slice ax6 (leastV (N) (x)).length kx6) := fun u => ((bcell (hv u)).1 _ _ HRf.out.1.lt).trans HRf.out.1.c1
      have zg0 : ∀ u, (val u).cell? ⟨w7.heap.size, 0, none⟩ = some (.int .i64 (N)) := fun u => ((bcell (hv u)).1 _ _ HRg.out.1.lt).trans HRg.out.1.c0
      have zg1 : ∀ u, (val u).cell? ⟨w7.heap.size, 1, none⟩ = some (.slice ax7 (formV (N) (x)).length kx7) := fun u => ((bcell (hv u)).1 _ _ HRg.out.1.lt).trans HRg.out.1.c1
      have zm0 : ∀ u, (val u).cell? ⟨w8.heap.size, 0, none⟩ = some (.int .i64 (N)) := fun u => ((bcell (hv u)).1 _ _ HRm.out.1.lt).trans HRm.out.1.c0
      have zm1 : ∀ u, (val u).cell? ⟨w8.heap.size, 1, none⟩ = some (.slice ax8 (mapV (N) (x) (-1) 0).length kx8) := fun u => ((bcell (hv u)).1 _ _ HRm.out.1.lt).trans HRm.out.1.c1
      have zt0 : ∀ u, (val u).cell? ⟨w15.heap.size, 0, none⟩ = some (.int .i64 (N)) := fun u => ((bcell (hv u)).1 _ _ HRt.out.1.lt).trans HRt.out.1.c0
      have zt1 : ∀ u, (val u).cell? ⟨w15.heap.size, 1, none⟩ = some (.slice ax15 (mapV (N) (x) 1 KK).length kx15) := fun u => ((bcell (hv u)).1 _ _ HRt.out.1.lt).trans HRt.out.1.c1
      have zy0 : ∀ u, (val u).cell? ⟨w16.heap.size, 0, none⟩ = some (.int .i64 (N)) := fun u => ((bcell (hv u)).1 _ _ HRy.out.1.lt).trans HRy.out.1.c0
      have zy1 : ∀ u, (val u).cell? ⟨w16.heap.size, 1, none⟩ = some (.slice ax16 (leastV (N) (x)).length kx16) := fun u => ((bcell (hv u)).1 _ _ HRy.out.1.lt).trans HRy.out.1.c1
      have zz0 : ∀ u, (val u).cell? ⟨w17.heap.size, 0, none⟩ = some (.int .i64 (N)) := fun u => ((bcell (hv u)).1 _ _ HRz.out.1.lt).trans HRz.out.1.c0
      have zz1 : ∀ u, (val u).cell? ⟨w17.heap.size, 1, none⟩ = some (.slice ax17 (formV (N) (x)).length kx17) := fun u => ((bcell (hv u)).1 _ _ HRz.out.1.lt).trans HRz.out.1.c1
      have HV := Lib.hid hv
      clear hv hcall
      repeat (go_big_quiet_step ((first | (go_at_call 21; exact HC.out _ _ _ _ (lawRhythmsY _ _ _ (leastV (N) (x)) (leastV (N) (x)) _ rfl (HRy.out.2.ofBelow (HV.out _)) (HRf.out.2.ofBelow (HV.out _)))) | (go_at_call 21; exact HC.out _ _ _ _ (lawRhythmsY _ _ _ (formV (N) (x)) (formV (N) (x)) _ rfl (HRz.out.2.ofBelow (HV.out _)) (HRg.out.2.ofBelow (HV.out _)))) | (go_at_call 24; exact HC.out _ _ _ _ (rotToY _ _ _ (x) (mapV (N) (x) 1 KK) _ _ HRok.out HTR.out HTO.out (HRr.out.2.ofBelow (HV.out _)) (HRt.out.2.ofBelow (HV.out _)))) | (go_at_call 25; exact HC.out _ _ _ _ (areRotY _ _ _ (x) (leastV (N) (x)) true _ HRok.out HFR.out (least_rot HRok.out) (HRr.out.2.ofBelow (HV.out _)) (HRf.out.2.ofBelow (HV.out _)))) | (go_at_call 26; exact HC.out _ _ _ _ (areFormsY _ _ _ (x) (mapV (N) (x) (-1) 0) true _ HRok.out HMR.out (form_mir HRok.out) (HRr.out.2.ofBelow (HV.out _)) (HRm.out.2.ofBelow (HV.out _)))) | (go_at_call 26; exact HC.out _ _ _ _ (areFormsY _ _ _ (x) (formV (N) (x)) true _ HRok.out HGR.out (form_form HRok.out) (HRr.out.2.ofBelow (HV.out _)) (HRg.out.2.ofBelow (HV.out _)))) | (go_at_call 25; exact HC.out _ _ _ _ (areRotY _ _ _ (x) (mapV (N) (x) (-1) 0) false _ HRok.out HMR.out (mir_rotB HRok.out HMB.out) (HRr.out.2.ofBelow (HV.out _)) (HRm.out.2.ofBelow (HV.out _)))) | (go_at_call 19; exact HC.out _ _ _ _ (mirroredY _ _ (x) false _ HRok.out HMB.out (HRr.out.2.ofBelow (HV.out _)))) | (go_at_call 13; exact HC.out _ _ _ _ (periodY _ _ (mapV (N) (x) 1 KK) _ _ HTR.out HTP.out (HRt.out.2.ofBelow (HV.out _)))))))
      refine wpQuiet_nil ?_
      rintro _ ⟨u, rfl⟩
      have gu := HV.out u
      clear HC HV zr0 zr1 zf0 zf1 zg0 zg1 zm0 zm1 zt0 zt1 zy0 zy1 zz0 zz1
      generalize val u = w18 at gu ⊢
      clear u hne val
      replace HB := Lib.hid (bel_step HB.out gu HB.out.size)
      replace HRr := Lib.hid (HRr.out.after gu)
      replace HRf := Lib.hid (HRf.out.after gu)
      replace HRg := Lib.hid (HRg.out.after gu)
      replace HRm := Lib.hid (HRm.out.after gu)
      replace HRt := Lib.hid (HRt.out.after gu)
      replace HRy := Lib.hid (HRy.out.after gu)
      replace HRz := Lib.hid (HRz.out.after gu)
      clear gu
      have cr0 := HRr.out.1.c0
      have cr1 := HRr.out.1.c1
      have ltr := HRr.out.1.lt
      have cf0 := HRf.out.1.c0
      have cf1 := HRf.out.1.c1
      have ltf := HRf.out.1.lt
      have cg0 := HRg.out.1.c0
      have cg1 := HRg.out.1.c1
      have ltg := HRg.out.1.lt
      have cm0 := HRm.out.1.c0
      have cm1 := HRm.out.1.c1
      have ltm := HRm.out.1.lt
      have ct0 := HRt.out.1.c0
      have ct1 := HRt.out.1.c1
      have ltt := HRt.out.1.lt
      have cy0 := HRy.out.1.c0
      have cy1 := HRy.out.1.c1
      have lty := HRy.out.1.lt
      have cz0 := HRz.out.1.c0
      have cz1 := HRz.out.1.c1
      have ltz := HRz.out.1.lt
      go_wp2
      go_ret
      exact ⟨rfl, HB.out⟩
    · have ha1 : ((al : Int) != 0) = true := by simp; omega
      have ha2 : ((al : Int) != (N) / (pl : Int)) = false := by
        rcases HAC.out with h | h
        · omega
        · rw [h]; simp
      have HMB : Hid (decide (0 < (axTo (N) (x) (N).toNat).length) = true) := by unfold Hid; rw [HAL.out]; exact decide_eq_true ha0
      go_wp2_with fail
      refine withWorld fun X10 hX => ?_
      have gB : Below w9.heap.size w9 X10 := (by rw [hX]; (repeat (first | (with_reducible exact (Below.refl _ _)) | (with_reducible refine bel_alloc ?_ _) | (with_reducible refine Below.drew ?_) | (with_reducible refine bel_drewN ?_ _) | (with_reducible refine Below.setCell ?_ (by simp) _))))
      have HRh : Hid (RH X10 w9.heap.size (N) (.slice ax9 (formV (N) (x)).length kx9) (formV (N) (x))) := (by unfold Hid; rw [hX]; (repeat (first | exact RH.new HO9.out | (with_reducible refine RH.alloc ?_ _) | (with_reducible refine RH.drewN ?_ _))))
      replace HB := Lib.hid (bel_step HB.out gB HB.out.size)
      replace HRr := Lib.hid (HRr.out.after gB)
      replace HRf := Lib.hid (HRf.out.after gB)
      replace HRg := Lib.hid (HRg.out.after gB)
      replace HRm := Lib.hid (HRm.out.after gB)
      clear HO9
      clear hX gB cr0 cr1 ltr cf0 cf1 ltf cg0 cg1 ltg cm0 cm1 ltm
      refine (mirroredY _ _ (x) true _ HRok.out HMB.out HRr.out.2).mono ?_
      rintro e w10 ⟨rfl, b10⟩
      replace HB := Lib.hid (bel_step HB.out b10 HB.out.size)
      replace HRr := Lib.hid (HRr.out.after b10)
      replace HRf := Lib.hid (HRf.out.after b10)
      replace HRg := Lib.hid (HRg.out.after b10)
      replace HRm := Lib.hid (HRm.out.after b10)
      replace HRh := Lib.hid (HRh.out.after b10)
      clear b10
      have cr0 := HRr.out.1.c0
      have cr1 := HRr.out.1.c1
      have ltr := HRr.out.1.lt
      have cf0 := HRf.out.1.c0
      have cf1 := HRf.out.1.c1
      have ltf := HRf.out.1.lt
      have cg0 := HRg.out.1.c0
      have cg1 := HRg.out.1.c1
      have ltg := HRg.out.1.lt
      have cm0 := HRm.out.1.c0
      have cm1 := HRm.out.1.c1
      have ltm := HRm.out.1.lt
      have ch0 := HRh.out.1.c0
      have ch1 := HRh.out.1.c1
      have lth := HRh.out.1.lt
      go_wp2_with fail
      refine withWorld fun X11 hX => ?_
      have gB : Below w10.heap.size w10 X11 := (by rw [hX]; (repeat (first | (with_reducible exact (Below.refl _ _)) | (with_reducible refine bel_alloc ?_ _) | (with_reducible refine Below.drew ?_) | (with_reducible refine bel_drewN ?_ _) | (with_reducible refine Below.setCell ?_ (by simp) _))))
      replace HB := Lib.hid (bel_step HB.out gB HB.out.size)
      replace HRr := Lib.hid (HRr.out.after gB)
      replace HRf := Lib.hid (HRf.out.after gB)
      replace HRg := Lib.hid (HRg.out.after gB)
      replace HRm := Lib.hid (HRm.out.after gB)
      replace HRh := Lib.hid (HRh.out.after gB)
      clear hX gB cr0 cr1 ltr cf0 cf1 ltf cg0 cg1 ltg cm0 cm1 ltm ch0 ch1 lth
      refine (periodicY _ _ (x) _ _ HRok.out HPL.out HRr.out.2).mono ?_
      rintro e w11 ⟨rfl, b11⟩
      replace HB := Lib.hid (bel_step HB.out b11 HB.out.size)
      replace HRr := Lib.hid (HRr.out.after b11)
      replace HRf := Lib.hid (HRf.out.after b11)
      replace HRg := Lib.hid (HRg.out.after b11)
      replace HRm := Lib.hid (HRm.out.after b11)
      replace HRh := Lib.hid (HRh.out.after b11)
      clear b11
      have cr0 := HRr.out.1.c0
      have cr1 := HRr.out.1.c1
      have ltr := HRr.out.1.lt
      have cf0 := HRf.out.1.c0
      have cf1 := HRf.out.1.c1
      have ltf := HRf.out.1.lt
      have cg0 := HRg.out.1.c0
      have cg1 := HRg.out.1.c1
      have ltg := HRg.out.1.lt
      have cm0 := HRm.out.1.c0
      have cm1 := HRm.out.1.c1
      have ltm := HRm.out.1.lt
      have ch0 := HRh.out.1.c0
      have ch1 := HRh.out.1.c1
      have lth := HRh.out.1.lt
      go_wp2_with fail
      refine withWorld fun X12 hX => ?_
      have gB : Below w11.heap.size w11 X12 := (by rw [hX]; (repeat (first | (with_reducible exact (Below.refl _ _)) | (with_reducible refine bel_alloc ?_ _) | (with_reducible refine Below.drew ?_) | (with_reducible refine bel_drewN ?_ _) | (with_reducible refine Below.setCell ?_ (by simp) _))))
      replace HB := Lib.hid (bel_step HB.out gB HB.out.size)
      replace HRr := Lib.hid (HRr.out.after gB)
      replace HRf := Lib.hid (HRf.out.after gB)
      replace HRg := Lib.hid (HRg.out.after gB)
      replace HRm := Lib.hid (HRm.out.after gB)
      replace HRh := Lib.hid (HRh.out.after gB)
      clear hX gB cr0 cr1 ltr cf0 cf1 ltf cg0 cg1 ltg cm0 cm1 ltm ch0 ch1 lth
      refine (lawRhythmsY _ _ _ (formV (N) (x)) (formV (N) (x)) _ rfl HRg.out.2 HRh.out.2).mono ?_
      rintro e w12 ⟨rfl, b12⟩
      replace HB := Lib.hid (bel_step HB.out b12 HB.out.size)
      replace HRr := Lib.hid (HRr.out.after b12)
      replace HRf := Lib.hid (HRf.out.after b12)
      replace HRg := Lib.hid (HRg.out.after b12)
      replace HRm := Lib.hid (HRm.out.after b12)
      replace HRh := Lib.hid (HRh.out.after b12)
      clear b12
      have cr0 := HRr.out.1.c0
      have cr1 := HRr.out.1.c1
      have ltr := HRr.out.1.lt
      have cf0 := HRf.out.1.c0
      have cf1 := HRf.out.1.c1
      have ltf := HRf.out.1.lt
      have cg0 := HRg.out.1.c0
      have cg1 := HRg.out.1.c1
      have ltg := HRg.out.1.lt
      have cm0 := HRm.out.1.c0
      have cm1 := HRm.out.1.c1
      have ltm := HRm.out.1.lt
      have ch0 := HRh.out.1.c0
      have ch1 := HRh.out.1.c1
      have lth := HRh.out.1.lt
      go_wp2_with fail
      refine withWorld fun X13 hX => ?_
      have gB : Below w12.heap.size w12 X13 := (by rw [hX]; (repeat (first | (with_reducible exact (Below.refl _ _)) | (with_reducible refine bel_alloc ?_ _) | (with_reducible refine Below.drew ?_) | (with_reducible refine bel_drewN ?_ _) | (with_reducible refine Below.setCell ?_ (by simp) _))))
      replace HB := Lib.hid (bel_step HB.out gB HB.out.size)
      replace HRr := Lib.hid (HRr.out.after gB)
      replace HRf := Lib.hid (HRf.out.after gB)
      replace HRg := Lib.hid (HRg.out.after gB)
      replace HRm := Lib.hid (HRm.out.after gB)
      replace HRh := Lib.hid (HRh.out.after gB)
      clear hX gB cr0 cr1 ltr cf0 cf1 ltf cg0 cg1 ltg cm0 cm1 ltm ch0 ch1 lth
      refine (isLeastY _ _ (leastV (N) (x)) _ HFR.out (leastV_least HRok.out) HRf.out.2).mono ?_
      rintro e w13 ⟨rfl, b13⟩
      replace HB := Lib.hid (bel_step HB.out b13 HB.out.size)
      replace HRr := Lib.hid (HRr.out.after b13)
      replace HRf := Lib.hid (HRf.out.after b13)
      replace HRg := Lib.hid (HRg.out.after b13)
      replace HRm := Lib.hid (HRm.out.after b13)
      replace HRh := Lib.hid (HRh.out.after b13)
      clear b13
      have cr0 := HRr.out.1.c0
      have cr1 := HRr.out.1.c1
      have ltr := HRr.out.1.lt
      have cf0 := HRf.out.1.c0
      have cf1 := HRf.out.1.c1
      have ltf := HRf.out.1.lt
      have cg0 := HRg.out.1.c0
      have cg1 := HRg.out.1.c1
      have ltg := HRg.out.1.lt
      have cm0 := HRm.out.1.c0
      have cm1 := HRm.out.1.c1
      have ltm := HRm.out.1.lt
      have ch0 := HRh.out.1.c0
      have ch1 := HRh.out.1.c1
      have lth := HRh.out.1.lt
      clear HRh cr0 cr1 ltr cf0 cf1 ltf cg0 cg1 ltg cm0 cm1 ltm ch0 ch1 lth
      have cr0 := HRr.out.1.c0
      have cr1 := HRr.out.1.c1
      have ltr := HRr.out.1.lt
      have cf0 := HRf.out.1.c0
      have cf1 := HRf.out.1.c1
      have ltf := HRf.out.1.lt
      have cg0 := HRg.out.1.c0
      have cg1 := HRg.out.1.c1
      have ltg := HRg.out.1.lt
      have cm0 := HRm.out.1.c0
      have cm1 := HRm.out.1.c1
      have ltm := HRm.out.1.lt
      go_wp2_with fail
      refine withWorld fun X14 hX => ?_
      have gB : Below w13.heap.size w13 X14 := (by rw [hX]; (repeat (first | (with_reducible exact (Below.refl _ _)) | (with_reducible refine bel_alloc ?_ _) | (with_reducible refine Below.drew ?_) | (with_reducible refine bel_drewN ?_ _) | (with_reducible refine Below.setCell ?_ (by simp) _))))
      replace HB := Lib.hid (bel_step HB.out gB HB.out.size)
      replace HRr := Lib.hid (HRr.out.after gB)
      replace HRf := Lib.hid (HRf.out.after gB)
      replace HRg := Lib.hid (HRg.out.after gB)
      replace HRm := Lib.hid (HRm.out.after gB)
      clear hX gB cr0 cr1 ltr cf0 cf1 ltf cg0 cg1 ltg cm0 cm1 ltm
      refine (specMakeNum _ z0 34 _ hm0 (by decide) ((HH0.out.below HB.out).mono HB.out.size)).mono ?_
      rintro e w14 ⟨⟨r34, hs0, hs1, rfl⟩, b14⟩
      replace HB := Lib.hid (bel_step HB.out b14 HB.out.size)
      replace HRr := Lib.hid (HRr.out.after b14)
      replace HRf := Lib.hid (HRf.out.after b14)
      replace HRg := Lib.hid (HRg.out.after b14)
      replace HRm := Lib.hid (HRm.out.after b14)
      clear b14
      have cr0 := HRr.out.1.c0
      have cr1 := HRr.out.1.c1
      have ltr := HRr.out.1.lt
      have cf0 := HRf.out.1.c0
      have cf1 := HRf.out.1.c1
      have ltf := HRf.out.1.lt
      have cg0 := HRg.out.1.c0
      have cg1 := HRg.out.1.c1
      have ltg := HRg.out.1.lt
      have cm0 := HRm.out.1.c0
      have cm1 := HRm.out.1.c1
      have ltm := HRm.out.1.lt
      have hn0 : ((N) == 0) = false := by simp; omega
      have hn1 : ¬ (N) = 0 := by omega
      obtain ⟨KK, hk0, hk1, hKK⟩ : ∃ KK : Int, 0 ≤ KK ∧ KK < N ∧ r34 % (N) = KK := ⟨_, Int.emod_nonneg _ hn1, Int.emod_lt_of_pos _ (by omega), rfl⟩
      go_wp2_with fail
      try rw [hKK]
      clear hKK hs0 hs1
      have HTR := Lib.hid (mapV_rok hlo hhi (x) 1 KK)
      have HTP : Hid (per (N) (mapV (N) (x) 1 KK) = (pl : Int)) := by unfold Hid; rw [← HPL.out]; exact per_of HTR.out HRok.out (inv_map1 HRok.out KK)
      have HTO : Hid (rotTo (N) (x) (mapV (N) (x) 1 KK) = KK % (pl : Int)) := by unfold Hid; rw [← HPL.out]; exact rotTo_rot HRok.out
      refine withWorld fun X15 hX => ?_
      have gB : Below w14.heap.size w14 X15 := (by rw [hX]; (repeat (first | (with_reducible exact (Below.refl _ _)) | (with_reducible refine bel_alloc ?_ _) | (with_reducible refine Below.drew ?_) | (with_reducible refine bel_drewN ?_ _) | (with_reducible refine Below.setCell ?_ (by simp) _))))
      replace HB := Lib.hid (bel_step HB.out gB HB.out.size)
      replace HRr := Lib.hid (HRr.out.after gB)
      replace HRf := Lib.hid (HRf.out.after gB)
      replace HRg := Lib.hid (HRg.out.after gB)
      replace HRm := Lib.hid (HRm.out.after gB)
      clear hX gB cr0 cr1 ltr cf0 cf1 ltf cg0 cg1 ltg cm0 cm1 ltm
      refine (rotateY _ _ (x) KK _ HRok.out (by omega) (by omega) _ rfl HRr.out.2).mono ?_
      rintro e w15 ⟨ax15, kx15, rfl, o15, b15⟩
      replace HB := Lib.hid (bel_step HB.out b15 HB.out.size)
      replace HRr := Lib.hid (HRr.out.after b15)
      replace HRf := Lib.hid (HRf.out.after b15)
      replace HRg := Lib.hid (HRg.out.after b15)
      replace HRm := Lib.hid (HRm.out.after b15)
      have HO15 := Lib.hid o15
      clear o15
      clear b15
      have cr0 := HRr.out.1.c0
      have cr1 := HRr.out.1.c1
      have ltr := HRr.out.1.lt
      have cf0 := HRf.out.1.c0
      have cf1 := HRf.out.1.c1
      have ltf := HRf.out.1.lt
      have cg0 := HRg.out.1.c0
      have cg1 := HRg.out.1.c1
      have ltg := HRg.out.1.lt
      have cm0 := HRm.out.1.c0
      have cm1 := HRm.out.1.c1
      have ltm := HRm.out.1.lt
      go_wp2_with fail
      refine withWorld fun X16 hX => ?_
      have gB : Below w15.heap.size w15 X16 := (by rw [hX]; (repeat (first | (with_reducible exact (Below.refl _ _)) | (with_reducible refine bel_alloc ?_ _) | (with_reducible refine Below.drew ?_) | (with_reducible refine bel_drewN ?_ _) | (with_reducible refine Below.setCell ?_ (by simp) _))))
      have HRt : Hid (RH X16 w15.heap.size (N) (.slice ax15 (mapV (N) (x) 1 KK).length kx15) (mapV (N) (x) 1 KK)) := (by unfold Hid; rw [hX]; (repeat (first | exact RH.new HO15.out | (with_reducible refine RH.alloc ?_ _) | (with_reducible refine RH.drewN ?_ _))))
      replace HB := Lib.hid (bel_step HB.out gB HB.out.size)
      replace HRr := Lib.hid (HRr.out.after gB)
      replace HRf := Lib.hid (HRf.out.after gB)
      replace HRg := Lib.hid (HRg.out.after gB)
      replace HRm := Lib.hid (HRm.out.after gB)
      clear HO15
      clear hX gB cr0 cr1 ltr cf0 cf1 ltf cg0 cg1 ltg cm0 cm1 ltm
      refine (leastRotY _ _ (mapV (N) (x) 1 KK) _ HTR.out _ (leastV_rot HRok.out KK) HRt.out.2).mono ?_
      rintro e w16 ⟨ax16, kx16, rfl, o16, b16⟩
      replace HB := Lib.hid (bel_step HB.out b16 HB.out.size)
      replace HRr := Lib.hid (HRr.out.after b16)
      replace HRf := Lib.hid (HRf.out.after b16)
      replace HRg := Lib.hid (HRg.out.after b16)
      replace HRm := Lib.hid (HRm.out.after b16)
      replace HRt := Lib.hid (HRt.out.after b16)
      have HO16 := Lib.hid o16
      clear o16
      clear b16
      have cr0 := HRr.out.1.c0
      have cr1 := HRr.out.1.c1
      have ltr := HRr.out.1.lt
      have cf0 := HRf.out.1.c0
      have cf1 := HRf.out.1.c1
      have ltf := HRf.out.1.lt
      have cg0 := HRg.out.1.c0
      have cg1 := HRg.out.1.c1
      have ltg := HRg.out.1.lt
      have cm0 := HRm.out.1.c0
      have cm1 := HRm.out.1.c1
      have ltm := HRm.out.1.lt
      have ct0 := HRt.out.1.c0
      have ct1 := HRt.out.1.c1
      have ltt := HRt.out.1.lt
      go_wp2_with fail
      refine withWorld fun X17 hX => ?_
      have gB : Below w16.heap.size w16 X17 := (by rw [hX]; (repeat (first | (with_reducible exact (Below.refl _ _)) | (with_reducible refine bel_alloc ?_ _) | (with_reducible refine Below.drew ?_) | (with_reducible refine bel_drewN ?_ _) | (with_reducible refine Below.setCell ?_ (by simp) _))))
      have HRy : Hid (RH X17 w16.heap.size (N) (.slice ax16 (leastV (N) (x)).length kx16) (leastV (N) (x))) := (by unfold Hid; rw [hX]; (repeat (first | exact RH.new HO16.out | (with_reducible refine RH.alloc ?_ _) | (with_reducible refine RH.drewN ?_ _))))
      replace HB := Lib.hid (bel_step HB.out gB HB.out.size)
      replace HRr := Lib.hid (HRr.out.after gB)
      replace HRf := Lib.hid (HRf.out.after gB)
      replace HRg := Lib.hid (HRg.out.after gB)
      replace HRm := Lib.hid (HRm.out.after gB)
      replace HRt := Lib.hid (HRt.out.after gB)
      clear HO16
      clear hX gB cr0 cr1 ltr cf0 cf1 ltf cg0 cg1 ltg cm0 cm1 ltm ct0 ct1 ltt
      refine (leastFormY _ _ (mapV (N) (x) 1 KK) _ HTR.out _ (formV_rot HRok.out KK) HRt.out.2).mono ?_
      rintro e w17 ⟨ax17, kx17, rfl, o17, b17⟩
      replace HB := Lib.hid (bel_step HB.out b17 HB.out.size)
      replace HRr := Lib.hid (HRr.out.after b17)
      replace HRf := Lib.hid (HRf.out.after b17)
      replace HRg := Lib.hid (HRg.out.after b17)
      replace HRm := Lib.hid (HRm.out.after b17)
      replace HRt := Lib.hid (HRt.out.after b17)
      replace HRy := Lib.hid (HRy.out.after b17)
      have HO17 := Lib.hid o17
      clear o17
      clear b17
      have cr0 := HRr.out.1.c0
      have cr1 := HRr.out.1.c1
      have ltr := HRr.out.1.lt
      have cf0 := HRf.out.1.c0
      have cf1 := HRf.out.1.c1
      have ltf := HRf.out.1.lt
      have cg0 := HRg.out.1.c0
      have cg1 := HRg.out.1.c1
      have ltg := HRg.out.1.lt
      have cm0 := HRm.out.1.c0
      have cm1 := HRm.out.1.c1
      have ltm := HRm.out.1.lt
      have ct0 := HRt.out.1.c0
      have ct1 := HRt.out.1.c1
      have ltt := HRt.out.1.lt
      have cy0 := HRy.out.1.c0
      have cy1 := HRy.out.1.c1
      have lty := HRy.out.1.lt
      go_wp2_with fail
      refine withWorldC fun Y18 hY => ?_
      have gB : Below w17.heap.size w17 Y18 := (by rw [hY]; (repeat (first | (with_reducible exact (Below.refl _ _)) | (with_reducible refine bel_alloc ?_ _) | (with_reducible refine Below.drew ?_) | (with_reducible refine bel_drewN ?_ _) | (with_reducible refine Below.setCell ?_ (by simp) _))))
      have HRz : Hid (RH Y18 w17.heap.size (N) (.slice ax17 (formV (N) (x)).length kx17) (formV (N) (x))) := (by unfold Hid; rw [hY]; (repeat (first | exact RH.new HO17.out | (with_reducible refine RH.alloc ?_ _) | (with_reducible refine RH.drewN ?_ _))))
      replace HB := Lib.hid (bel_step HB.out gB HB.out.size)
      replace HRr := Lib.hid (HRr.out.after gB)
      replace HRf := Lib.hid (HRf.out.after gB)
      replace HRg := Lib.hid (HRg.out.after gB)
      replace HRm := Lib.hid (HRm.out.after gB)
      replace HRt := Lib.hid (HRt.out.after gB)
      replace HRy := Lib.hid (HRy.out.after gB)
      clear HO17
      clear hY gB cr0 cr1 ltr cf0 cf1 ltf cg0 cg1 ltg cm0 cm1 ltm ct0 ct1 ltt cy0 cy1 lty
      refine region_held (fun V => Below Y18.heap.size Y18 V) (by kernel_rfl) (by kernel_rfl) ((Below.refl _ _).drew) (fun V V' h1 h2 => bel_step h1 h2 h1.size) fun U val hne hv hcall => ?_
      have HC := Lib.hid hcall
      have zr0 : ∀ u, (val u).cell? ⟨w1.heap.size, 0, none⟩ = some (.int .i64 (N)) := fun u => ((bcell (hv u)).1 _ _ HRr.out.1.lt).trans HRr.out.1.c0
      have zr1 : ∀ u, (val u).cell? ⟨w1.heap.size, 1, none⟩ = some (.slice ax1 x.length kx1) := fun u => ((bcell (hv u)).1 _ _ HRr.out.1.lt).trans HRr.out.1.c1
      have zf0 : ∀ u, (val u).cell? ⟨w6.heap.size, 0, none⟩ = some (.int .i64 (N)) := fun u => ((bcell (hv u)).1 _ _ HRf.out.1.lt).trans HRf.out.1.c0
      have zf1 : ∀ u, (val u).cell? ⟨w6.heap.size, 1, none⟩ = some (.slice ax6 (leastV (N) (x)).length kx6) := fun u => ((bcell (hv u)).1 _ _ HRf.out.1.lt).trans HRf.out.1.c1
      have zg0 : ∀ u, (val u).cell? ⟨w7.heap.size, 0, none⟩ = some (.int .i64 (N)) := fun u => ((bcell (hv u)).1 _ _ HRg.out.1.lt).trans HRg.out.1.c0
      have zg1 : ∀ u, (val u).cell? ⟨w7.heap.size, 1, none⟩ = some (.slice ax7 (formV (N) (x)).length kx7) := fun u => ((bcell (hv u)).1 _ _ HRg.out.1.lt).trans HRg.out.1.c1
      have zm0 : ∀ u, (val u).cell? ⟨w8.heap.size, 0, none⟩ = some (.int .i64 (N)) := fun u => ((bcell (hv u)).1 _ _ HRm.out.1.lt).trans HRm.out.1.c0
      have zm1 : ∀ u, (val u).cell? ⟨w8.heap.size, 1, none⟩ = some (.slice ax8 (mapV (N) (x) (-1) 0).length kx8) := fun u => ((bcell (hv u)).1 _ _ HRm.out.1.lt).trans HRm.out.1.c1
      have zt0 : ∀ u, (val u).cell? ⟨w15.heap.size, 0, none⟩ = some (.int .i64 (N)) := fun u => ((bcell (hv u)).1 _ _ HRt.out.1.lt).trans HRt.out.1.c0
      have zt1 : ∀ u, (val u).cell? ⟨w15.heap.size, 1, none⟩ = some (.slice ax15 (mapV (N) (x) 1 KK).length kx15) := fun u => ((bcell (hv u)).1 _ _ HRt.out.1.lt).trans HRt.out.1.c1
      have zy0 : ∀ u, (val u).cell? ⟨w16.heap.size, 0, none⟩ = some (.int .i64 (N)) := fun u => ((bcell (hv u)).1 _ _ HRy.out.1.lt).trans HRy.out.1.c0
      have zy1 : ∀ u, (val u).cell? ⟨w16.heap.size, 1, none⟩ = some (.slice ax16 (leastV (N) (x)).length kx16) := fun u => ((bcell (hv u)).1 _ _ HRy.out.1.lt).trans HRy.out.1.c1
      have zz0 : ∀ u, (val u).cell? ⟨w17.heap.size, 0, none⟩ = some (.int .i64 (N)) := fun u => ((bcell (hv u)).1 _ _ HRz.out.1.lt).trans HRz.out.1.c0
      have zz1 : ∀ u, (val u).cell? ⟨w17.heap.size, 1, none⟩ = some (.slice ax17 (formV (N) (x)).length kx17) := fun u => ((bcell (hv u)).1 _ _ HRz.out.1.lt).trans HRz.out.1.c1
      have HV := Lib.hid hv
      clear hv hcall
      repeat (go_big_quiet_step ((first | (go_at_call 21; exact HC.out _ _ _ _ (lawRhythmsY _ _ _ (leastV (N) (x)) (leastV (N) (x)) _ rfl (HRy.out.2.ofBelow (HV.out _)) (HRf.out.2.ofBelow (HV.out _)))) | (go_at_call 21; exact HC.out _ _ _ _ (lawRhythmsY _ _ _ (formV (N) (x)) (formV (N) (x)) _ rfl (HRz.out.2.ofBelow (HV.out _)) (HRg.out.2.ofBelow (HV.out _)))) | (go_at_call 24; exact HC.out _ _ _ _ (rotToY _ _ _ (x) (mapV (N) (x) 1 KK) _ _ HRok.out HTR.out HTO.out (HRr.out.2.ofBelow (HV.out _)) (HRt.out.2.ofBelow (HV.out _)))) | (go_at_call 25; exact HC.out _ _ _ _ (areRotY _ _ _ (x) (leastV (N) (x)) true _ HRok.out HFR.out (least_rot HRok.out) (HRr.out.2.ofBelow (HV.out _)) (HRf.out.2.ofBelow (HV.out _)))) | (go_at_call 26; exact HC.out _ _ _ _ (areFormsY _ _ _ (x) (mapV (N) (x) (-1) 0) true _ HRok.out HMR.out (form_mir HRok.out) (HRr.out.2.ofBelow (HV.out _)) (HRm.out.2.ofBelow (HV.out _)))) | (go_at_call 26; exact HC.out _ _ _ _ (areFormsY _ _ _ (x) (formV (N) (x)) true _ HRok.out HGR.out (form_form HRok.out) (HRr.out.2.ofBelow (HV.out _)) (HRg.out.2.ofBelow (HV.out _)))) | (go_at_call 25; exact HC.out _ _ _ _ (areRotY _ _ _ (x) (mapV (N) (x) (-1) 0) true _ HRok.out HMR.out (mir_rotB HRok.out HMB.out) (HRr.out.2.ofBelow (HV.out _)) (HRm.out.2.ofBelow (HV.out _)))) | (go_at_call 19; exact HC.out _ _ _ _ (mirroredY _ _ (x) true _ HRok.out HMB.out (HRr.out.2.ofBelow (HV.out _)))) | (go_at_call 13; exact HC.out _ _ _ _ (periodY _ _ (mapV (N) (x) 1 KK) _ _ HTR.out HTP.out (HRt.out.2.ofBelow (HV.out _)))))))
      refine wpQuiet_nil ?_
      rintro _ ⟨u, rfl⟩
      have gu := HV.out u
      clear HC HV zr0 zr1 zf0 zf1 zg0 zg1 zm0 zm1 zt0 zt1 zy0 zy1 zz0 zz1
      generalize val u = w18 at gu ⊢
      clear u hne val
      replace HB := Lib.hid (bel_step HB.out gu HB.out.size)
      replace HRr := Lib.hid (HRr.out.after gu)
      replace HRf := Lib.hid (HRf.out.after gu)
      replace HRg := Lib.hid (HRg.out.after gu)
      replace HRm := Lib.hid (HRm.out.after gu)
      replace HRt := Lib.hid (HRt.out.after gu)
      replace HRy := Lib.hid (HRy.out.after gu)
      replace HRz := Lib.hid (HRz.out.after gu)
      clear gu
      have cr0 := HRr.out.1.c0
      have cr1 := HRr.out.1.c1
      have ltr := HRr.out.1.lt
      have cf0 := HRf.out.1.c0
      have cf1 := HRf.out.1.c1
      have ltf := HRf.out.1.lt
      have cg0 := HRg.out.1.c0
      have cg1 := HRg.out.1.c1
      have ltg := HRg.out.1.lt
      have cm0 := HRm.out.1.c0
      have cm1 := HRm.out.1.c1
      have ltm := HRm.out.1.lt
      have ct0 := HRt.out.1.c0
      have ct1 := HRt.out.1.c1
      have ltt := HRt.out.1.lt
      have cy0 := HRy.out.1.c0
      have cy1 := HRy.out.1.c1
      have lty := HRy.out.1.lt
      have cz0 := HRz.out.1.c0
      have cz1 := HRz.out.1.c1
      have ltz := HRz.out.1.lt
      go_wp2
      go_ret
      exact ⟨rfl, HB.out⟩
end Go.Proofs.Ytopfenhphnmfkaa.fnForms
