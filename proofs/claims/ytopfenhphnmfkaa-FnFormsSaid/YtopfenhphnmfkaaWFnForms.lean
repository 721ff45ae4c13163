/-
  The walk of FnForms: it returns true and writes nothing that was there.
  Conditions: the arguments lie in memory as the statement's reading says.
-/
import Derived.Test.YtopfenhphnmfkaaL2
import Derived.BigGuardPart
import Derived.Deep.DeepCutAuto
import Derived.Test.YtopfenhphnmfkaaB0
set_option linter.unusedVariables false
set_option linter.unusedSimpArgs false
namespace Go.Proofs.Ytopfenhphnmfkaa.fnForms
open Go.RowKit
set_option linter.unusedVariables false

set_option maxRecDepth 20000 in
set_option maxHeartbeats 64000000 in
theorem walk (w : World) (v0 : Value) (z0 : Nat) (h0 : Bytes w w.heap.size v0 z0) :
    Calls Try.prog 3 #[v0] w fun e w' => e = .returned (.bool true) ∧ Below w.heap.size w w' := by
  have h0' := h0
  obtain ⟨ad0, cap0, rfl, -⟩ := h0'
  by_cases s0 : 1048576 < z0
  · go_enter Try.func3, Try.ntmps3
    go_wp2
    go_ret
    exact ⟨rfl, Below.refl _ _⟩
  have hm0 : z0 ≤ 1048576 := by omega
  have HH0 := Lib.hid h0
  clear h0
  have HB : Hid (Below w.heap.size w w) := Below.refl _ _
  go_enter Try.func3, Try.ntmps3
  go_wp2_with fail
  refine withWorld fun X1 hX => ?_
  have gB : Below w.heap.size w X1 := (by rw [hX]; (repeat (first | (with_reducible exact (Below.refl _ _)) | (with_reducible refine bel_alloc ?_ _) | (with_reducible refine Below.drew ?_) | (with_reducible refine bel_drewN ?_ _) | (with_reducible refine Below.setCell ?_ (by simp) _))))
  replace HB := Lib.hid (bel_step HB.out gB HB.out.size)
  clear hX gB
  refine (specMakeRhythm _ z0 0 14 _ hm0 (by decide) (by decide) (by decide) ((HH0.out.below HB.out).mono HB.out.size)).mono ?_
  rintro e w1 ⟨N, x, ax1, kx1, rfl, hN14, hR, o1, b1⟩
  replace HB := Lib.hid (bel_step HB.out b1 HB.out.size)
  have HO1 := Lib.hid o1
  clear o1
  clear b1
  have hw1 : w.heap.size ≤ w1.heap.size := HB.out.size
  have HRok := Lib.hid hR
  clear hR hN14
  go_wp2_with fail
  refine withWorld fun X2 hX => ?_
  have gB : Below w1.heap.size w1 X2 := (by rw [hX]; (repeat (first | (with_reducible exact (Below.refl _ _)) | (with_reducible refine bel_alloc ?_ _) | (with_reducible refine Below.drew ?_) | (with_reducible refine bel_drewN ?_ _) | (with_reducible refine Below.setCell ?_ (by simp) _))))
  have HRr : Hid (RH X2 w1.heap.size (N) (.slice ax1 x.length kx1) (x)) := (by unfold Hid; rw [hX]; (repeat (first | exact RH.new HO1.out | (with_reducible refine RH.alloc ?_ _) | (with_reducible refine RH.drewN ?_ _))))
  replace HB := Lib.hid (bel_step HB.out gB HB.out.size)
  clear HO1
  clear hX gB
  refine (specMakeNum _ z0 30 _ hm0 (by decide) ((HH0.out.below HB.out).mono HB.out.size)).mono ?_
  rintro e w2 ⟨⟨r30, hr0, hr1, rfl⟩, b2⟩
  replace HB := Lib.hid (bel_step HB.out b2 HB.out.size)
  replace HRr := Lib.hid (HRr.out.after b2)
  clear b2
  have cr0 := HRr.out.1.c0
  have cr1 := HRr.out.1.c1
  have ltr := HRr.out.1.lt
  go_upto_if 33 with fail
  go_cut [4] (fun u wx => ∃ (N' : Int) (x' : List Int) (a' : Option Addr) (k' : Nat), RH wx w1.heap.size N' (.slice a' x'.length k') x' ∧ Rok N' x' ∧ Below w.heap.size w wx)
  case first =>
    by_cases h3 : r30 % 3 = 0
    · have h3b : (r30 % 3 == 0) = true := by rw [h3]; rfl
      go_wp2_with fail
      refine withWorld fun X3 hX => ?_
      have gB : Below w2.heap.size w2 X3 := (by rw [hX]; (repeat (first | (with_reducible exact (Below.refl _ _)) | (with_reducible refine bel_alloc ?_ _) | (with_reducible refine Below.drew ?_) | (with_reducible refine bel_drewN ?_ _) | (with_reducible refine Below.setCell ?_ (by simp) _))))
      replace HB := Lib.hid (bel_step HB.out gB HB.out.size)
      replace HRr := Lib.hid (HRr.out.after gB)
      clear hX gB cr0 cr1 ltr
      refine (specMakeRhythm _ z0 0 6 _ hm0 (by decide) (by decide) (by decide) ((HH0.out.below HB.out).mono HB.out.size)).mono ?_
      rintro e w3 ⟨N6, x6, ax3, kx3, rfl, hN6, hR6, o3, b3⟩
      replace HB := Lib.hid (bel_step HB.out b3 HB.out.size)
      replace HRr := Lib.hid (HRr.out.after b3)
      clear b3
      have cr0 := HRr.out.1.c0
      have cr1 := HRr.out.1.c1
      have ltr := HRr.out.1.lt
      have HQ := Lib.hid (o3.ints)
      clear o3
      have HR6 := Lib.hid hR6
      clear hR6 h3 h3b hr0 hr1
      go_wp2_with fail
      refine withWorld fun X4 hX => ?_
      have gB : Below w3.heap.size w3 X4 := (by rw [hX]; (repeat (first | (with_reducible exact (Below.refl _ _)) | (with_reducible refine bel_alloc ?_ _) | (with_reducible refine Below.drew ?_) | (with_reducible refine bel_drewN ?_ _) | (with_reducible refine Below.setCell ?_ (by simp) _))))
      replace HB := Lib.hid (bel_step HB.out gB HB.out.size)
      replace HRr := Lib.hid (HRr.out.after gB)
      replace HQ := Lib.hid (HQ.out.ofBelow gB)
      clear hX gB cr0 cr1 ltr
      refine (specMakeNum _ z0 32 _ hm0 (by decide) ((HH0.out.below HB.out).mono HB.out.size)).mono ?_
      rintro e w4 ⟨⟨r32, hs0, hs1, rfl⟩, b4⟩
      replace HB := Lib.hid (bel_step HB.out b4 HB.out.size)
      replace HRr := Lib.hid (HRr.out.after b4)
      replace HQ := Lib.hid (HQ.out.ofBelow b4)
      clear b4
      have cr0 := HRr.out.1.c0
      have cr1 := HRr.out.1.c1
      have ltr := HRr.out.1.lt
      obtain ⟨kk, hk0, hk1, hkk⟩ : ∃ kk : Int, 1 ≤ kk ∧ kk ≤ 4 ∧ 1 + r32 % 4 = kk := ⟨_, by omega, by omega, rfl⟩
      go_wp2_with fail
      try rw [hkk]
      clear hkk hs0 hs1
      refine withWorld fun X5 hX => ?_
      have gB : Below w4.heap.size w4 X5 := (by rw [hX]; (repeat (first | (with_reducible exact (Below.refl _ _)) | (with_reducible refine bel_alloc ?_ _) | (with_reducible refine Below.drew ?_) | (with_reducible refine bel_drewN ?_ _) | (with_reducible refine Below.setCell ?_ (by simp) _))))
      replace HB := Lib.hid (bel_step HB.out gB HB.out.size)
      replace HRr := Lib.hid (HRr.out.after gB)
      replace HQ := Lib.hid (HQ.out.ofBelow gB)
      clear hX gB cr0 cr1 ltr
      have hqY : w1.heap.size < X5.heap.size := HRr.out.1.lt
      refine (repeatS _ _ x6 kk _ HR6.out hk0 hk1 HQ.out).mono ?_
      rintro e w5 ⟨Nd, y, b, hby, ax5, kx5, rfl, o5, b5⟩
      replace HB := Lib.hid (bel_step HB.out b5 HB.out.size)
      replace HRr := Lib.hid (HRr.out.after b5)
      replace HQ := Lib.hid (HQ.out.ofBelow b5)
      have HO5 := Lib.hid o5
      have HBY := Lib.hid hby
      clear o5 b5 hby HQ HR6
      have cr0 := HRr.out.1.c0
      have cr1 := HRr.out.1.c1
      have ltr := HRr.out.1.lt
      cases b with
      | false =>
        go_wp2
        go_meet
        case rel => exact ⟨N, x, _, _, HRr.out.alloc _, HRok.out, bel_alloc HB.out _⟩
      | true =>
        have hq1 : w.heap.size ≤ w1.heap.size := hw1
        have fr0 := HRr.out.1.f 0
        have fr1 := HRr.out.1.f 1
        go_wp2
        go_meet
        case rel => exact ⟨Nd, y, _, _, ⟨((HRr.out.1.set0 _).set1 _).alloc _, (((HO5.out.setc hqY _).setc hqY _).alloc _).ints⟩, HBY.out (by first | rfl | trivial), (by repeat (first | (with_reducible exact HB.out) | (with_reducible refine bel_alloc ?_ _) | (with_reducible refine Below.setCell ?_ (by simp; omega) _) | (with_reducible refine Below.drew ?_)))⟩
    · have h3b : (r30 % 3 == 0) = false := by simpa using h3
      go_wp2
      go_meet
      case rel => exact ⟨N, x, _, _, HRr.out, HRok.out, HB.out⟩
  rename World => w9
  clear HRr HRok HB hw1 cr0 cr1 ltr
  obtain ⟨N2, x2, a9, k9, hRr, hRk, hB9⟩ := hcut
  have HRr := Lib.hid hRr
  have HRok := Lib.hid hRk
  have HB := Lib.hid hB9
  clear hRr hRk hB9
  have cr0 := HRr.out.1.c0
  have cr1 := HRr.out.1.c1
  have ltr := HRr.out.1.lt
  obtain ⟨pl, hpl, hp1, hpn, hpd⟩ : ∃ pl : Nat, per (N2) (x2) = (pl : Int) ∧ 1 ≤ pl ∧ (pl : Int) ≤ N2 ∧ (N2) % (pl : Int) = 0 := by
    have h1 := per_bd (x := x2) HRok.out.lo
    have h2 := per_dvd HRok.out
    refine ⟨(per (N2) (x2)).toNat, by omega, by omega, by omega, ?_⟩
    rw [show (((per (N2) (x2)).toNat : Nat) : Int) = per (N2) (x2) by omega]; exact h2
  obtain ⟨al, hal, halc⟩ : ∃ al : Nat, (axTo (N2) (x2) (N2).toNat).length = al ∧ (al = 0 ∨ (al : Int) = (N2) / (pl : Int)) := ⟨_, rfl, by rw [← hpl]; exact axes_len HRok.out⟩
  have HPL := Lib.hid hpl
  have HAL := Lib.hid hal
  have HAC := Lib.hid halc
  have HPD := Lib.hid hpd
  clear hpl hal halc hpd
  have hlo := HRok.out.lo
  have hhi := HRok.out.hi
  have HFR := Lib.hid (leastV_rok hlo hhi (x2))
  have HGR := Lib.hid (formV_rok hlo hhi (x2))
  have HMR := Lib.hid (mapV_rok hlo hhi (x2) (-1) 0)
  go_wp2_with fail
  refine withWorld fun X21 hX => ?_
  have gB : Below w9.heap.size w9 X21 := (by rw [hX]; (repeat (first | (with_reducible exact (Below.refl _ _)) | (with_reducible refine bel_alloc ?_ _) | (with_reducible refine Below.drew ?_) | (with_reducible refine bel_drewN ?_ _) | (with_reducible refine Below.setCell ?_ (by simp) _))))
  replace HB := Lib.hid (bel_step HB.out gB HB.out.size)
  replace HRr := Lib.hid (HRr.out.after gB)
  clear hX gB cr0 cr1 ltr
  refine (periodY _ _ (x2) _ _ HRok.out HPL.out HRr.out.2).mono ?_
  rintro e w21 ⟨rfl, b21⟩
  replace HB := Lib.hid (bel_step HB.out b21 HB.out.size)
  replace HRr := Lib.hid (HRr.out.after b21)
  clear b21
  have cr0 := HRr.out.1.c0
  have cr1 := HRr.out.1.c1
  have ltr := HRr.out.1.lt
  go_wp2_with fail
  refine withWorld fun X22 hX => ?_
  have gB : Below w21.heap.size w21 X22 := (by rw [hX]; (repeat (first | (with_reducible exact (Below.refl _ _)) | (with_reducible refine bel_alloc ?_ _) | (with_reducible refine Below.drew ?_) | (with_reducible refine bel_drewN ?_ _) | (with_reducible refine Below.setCell ?_ (by simp) _))))
  replace HB := Lib.hid (bel_step HB.out gB HB.out.size)
  replace HRr := Lib.hid (HRr.out.after gB)
  clear hX gB cr0 cr1 ltr
  refine (axesY _ _ (x2) _ _ HRok.out HAL.out HRr.out.2).mono ?_
  rintro e w22 ⟨⟨aa22, ca22, rfl⟩, b22⟩
  replace HB := Lib.hid (bel_step HB.out b22 HB.out.size)
  replace HRr := Lib.hid (HRr.out.after b22)
  clear b22
  have cr0 := HRr.out.1.c0
  have cr1 := HRr.out.1.c1
  have ltr := HRr.out.1.lt
  go_wp2_with fail
  refine withWorld fun X23 hX => ?_
  have gB : Below w22.heap.size w22 X23 := (by rw [hX]; (repeat (first | (with_reducible exact (Below.refl _ _)) | (with_reducible refine bel_alloc ?_ _) | (with_reducible refine Below.drew ?_) | (with_reducible refine bel_drewN ?_ _) | (with_reducible refine Below.setCell ?_ (by simp) _))))
  replace HB := Lib.hid (bel_step HB.out gB HB.out.size)
  replace HRr := Lib.hid (HRr.out.after gB)
  clear hX gB cr0 cr1 ltr
  refine (rotationsY _ _ (x2) _ _ HRok.out HPL.out HRr.out.2).mono ?_
  rintro e w23 ⟨⟨aa23, ca23, rfl⟩, b23⟩
  replace HB := Lib.hid (bel_step HB.out b23 HB.out.size)
  replace HRr := Lib.hid (HRr.out.after b23)
  clear b23
  have cr0 := HRr.out.1.c0
  have cr1 := HRr.out.1.c1
  have ltr := HRr.out.1.lt
  go_wp2_with fail
  refine withWorld fun X24 hX => ?_
  have gB : Below w23.heap.size w23 X24 := (by rw [hX]; (repeat (first | (with_reducible exact (Below.refl _ _)) | (with_reducible refine bel_alloc ?_ _) | (with_reducible refine Below.drew ?_) | (with_reducible refine bel_drewN ?_ _) | (with_reducible refine Below.setCell ?_ (by simp) _))))
  replace HB := Lib.hid (bel_step HB.out gB HB.out.size)
  replace HRr := Lib.hid (HRr.out.after gB)
  clear hX gB cr0 cr1 ltr
  refine (leastRotY _ _ (x2) _ HRok.out _ rfl HRr.out.2).mono ?_
  rintro e w24 ⟨ax24, kx24, rfl, o24, b24⟩
  replace HB := Lib.hid (bel_step HB.out b24 HB.out.size)
  replace HRr := Lib.hid (HRr.out.after b24)
  have HO24 := Lib.hid o24
  clear o24
  clear b24
  have cr0 := HRr.out.1.c0
  have cr1 := HRr.out.1.c1
  have ltr := HRr.out.1.lt
  go_wp2_with fail
  refine withWorld fun X25 hX => ?_
  have gB : Below w24.heap.size w24 X25 := (by rw [hX]; (repeat (first | (with_reducible exact (Below.refl _ _)) | (with_reducible refine bel_alloc ?_ _) | (with_reducible refine Below.drew ?_) | (with_reducible refine bel_drewN ?_ _) | (with_reducible refine Below.setCell ?_ (by simp) _))))
  have HRf : Hid (RH X25 w24.heap.size (N2) (.slice ax24 (leastV (N2) (x2)).length kx24) (leastV (N2) (x2))) := (by unfold Hid; rw [hX]; (repeat (first | exact RH.new HO24.out | (with_reducible refine RH.alloc ?_ _) | (with_reducible refine RH.drewN ?_ _))))
  replace HB := Lib.hid (bel_step HB.out gB HB.out.size)
  replace HRr := Lib.hid (HRr.out.after gB)
  clear HO24
  clear hX gB cr0 cr1 ltr
  refine (leastFormY _ _ (x2) _ HRok.out _ rfl HRr.out.2).mono ?_
  rintro e w25 ⟨ax25, kx25, rfl, o25, b25⟩
  replace HB := Lib.hid (bel_step HB.out b25 HB.out.size)
  replace HRr := Lib.hid (HRr.out.after b25)
  replace HRf := Lib.hid (HRf.out.after b25)
  have HO25 := Lib.hid o25
  clear o25
  clear b25
  have cr0 := HRr.out.1.c0
  have cr1 := HRr.out.1.c1
  have ltr := HRr.out.1.lt
  have cf0 := HRf.out.1.c0
  have cf1 := HRf.out.1.c1
  have ltf := HRf.out.1.lt
  go_wp2_with fail
  refine withWorld fun X26 hX => ?_
  have gB : Below w25.heap.size w25 X26 := (by rw [hX]; (repeat (first | (with_reducible exact (Below.refl _ _)) | (with_reducible refine bel_alloc ?_ _) | (with_reducible refine Below.drew ?_) | (with_reducible refine bel_drewN ?_ _) | (with_reducible refine Below.setCell ?_ (by simp) _))))
  have HRg : Hid (RH X26 w25.heap.size (N2) (.slice ax25 (formV (N2) (x2)).length kx25) (formV (N2) (x2))) := (by unfold Hid; rw [hX]; (repeat (first | exact RH.new HO25.out | (with_reducible refine RH.alloc ?_ _) | (with_reducible refine RH.drewN ?_ _))))
  replace HB := Lib.hid (bel_step HB.out gB HB.out.size)
  replace HRr := Lib.hid (HRr.out.after gB)
  replace HRf := Lib.hid (HRf.out.after gB)
  clear HO25
  clear hX gB cr0 cr1 ltr cf0 cf1 ltf
  refine (mirrorY _ _ (x2) _ HRok.out _ rfl HRr.out.2).mono ?_
  rintro e w26 ⟨ax26, kx26, rfl, o26, b26⟩
  replace HB := Lib.hid (bel_step HB.out b26 HB.out.size)
  replace HRr := Lib.hid (HRr.out.after b26)
  replace HRf := Lib.hid (HRf.out.after b26)
  replace HRg := Lib.hid (HRg.out.after b26)
  have HO26 := Lib.hid o26
  clear o26
  clear b26
  have cr0 := HRr.out.1.c0
  have cr1 := HRr.out.1.c1
  have ltr := HRr.out.1.lt
  have cf0 := HRf.out.1.c0
  have cf1 := HRf.out.1.c1
  have ltf := HRf.out.1.lt
  have cg0 := HRg.out.1.c0
  have cg1 := HRg.out.1.c1
  have ltg := HRg.out.1.lt
  go_wp2_with fail
  refine withWorld fun X27 hX => ?_
  have gB : Below w26.heap.size w26 X27 := (by rw [hX]; (repeat (first | (with_reducible exact (Below.refl _ _)) | (with_reducible refine bel_alloc ?_ _) | (with_reducible refine Below.drew ?_) | (with_reducible refine bel_drewN ?_ _) | (with_reducible refine Below.setCell ?_ (by simp) _))))
  have HRm : Hid (RH X27 w26.heap.size (N2) (.slice ax26 (mapV (N2) (x2) (-1) 0).length kx26) (mapV (N2) (x2) (-1) 0)) := (by unfold Hid; rw [hX]; (repeat (first | exact RH.new HO26.out | (with_reducible refine RH.alloc ?_ _) | (with_reducible refine RH.drewN ?_ _))))
  replace HB := Lib.hid (bel_step HB.out gB HB.out.size)
  replace HRr := Lib.hid (HRr.out.after gB)
  replace HRf := Lib.hid (HRf.out.after gB)
  replace HRg := Lib.hid (HRg.out.after gB)
  clear HO26
  clear hX gB cr0 cr1 ltr cf0 cf1 ltf cg0 cg1 ltg
  refine (leastFormY _ _ (mapV (N2) (x2) (-1) 0) _ HMR.out _ (formV_mir HRok.out) HRm.out.2).mono ?_
  rintro e w27 ⟨ax27, kx27, rfl, o27, b27⟩
  replace HB := Lib.hid (bel_step HB.out b27 HB.out.size)
  replace HRr := Lib.hid (HRr.out.after b27)
  replace HRf := Lib.hid (HRf.out.after b27)
  replace HRg := Lib.hid (HRg.out.after b27)
  replace HRm := Lib.hid (HRm.out.after b27)
  have HO27 := Lib.hid o27
  clear o27
  clear b27
  have cr0 := HRr.out.1.c0
  have cr1 := HRr.out.1.c1
  have ltr := HRr.out.1.lt
  have cf0 := HRf.out.1.c0
  have cf1 := HRf.out.1.c1
  have ltf := HRf.out.1.lt
  have cg0 := HRg.out.1.c0
  have cg1 := HRg.out.1.c1
  have ltg := HRg.out.1.lt
  have cm0 := HRm.out.1.c0
  have cm1 := HRm.out.1.c1
  have ltm := HRm.out.1.lt
  have hd1 : ((N2) % (pl : Int) != 0) = false := by rw [HPD.out]; rfl
  have hd2 : ((pl : Int) == 0) = false := by simp; omega
  have hd3 : ¬ (pl : Int) = 0 := by omega
  have hd4 : ¬ (pl : Int) < 1 := by omega
  rcases Nat.eq_zero_or_pos al with ha0 | ha0
  · subst ha0
    have HMB : Hid (decide (0 < (axTo (N2) (x2) (N2).toNat).length) = false) := by unfold Hid; rw [HAL.out]; rfl
    go_wp2_with fail
    refine withWorld fun X28 hX => ?_
    have gB : Below w27.heap.size w27 X28 := (by rw [hX]; (repeat (first | (with_reducible exact (Below.refl _ _)) | (with_reducible refine bel_alloc ?_ _) | (with_reducible refine Below.drew ?_) | (with_reducible refine bel_drewN ?_ _) | (with_reducible refine Below.setCell ?_ (by simp) _))))
    have HRh : Hid (RH X28 w27.heap.size (N2) (.slice ax27 (formV (N2) (x2)).length kx27) (formV (N2) (x2))) := (by unfold Hid; rw [hX]; (repeat (first | exact RH.new HO27.out | (with_reducible refine RH.alloc ?_ _) | (with_reducible refine RH.drewN ?_ _))))
    replace HB := Lib.hid (bel_step HB.out gB HB.out.size)
    replace HRr := Lib.hid (HRr.out.after gB)
    replace HRf := Lib.hid (HRf.out.after gB)
    replace HRg := Lib.hid (HRg.out.after gB)
    replace HRm := Lib.hid (HRm.out.after gB)
    clear HO27
    clear hX gB cr0 cr1 ltr cf0 cf1 ltf cg0 cg1 ltg cm0 cm1 ltm
    refine (mirroredY _ _ (x2) false _ HRok.out HMB.out HRr.out.2).mono ?_
    rintro e w28 ⟨rfl, b28⟩
    replace HB := Lib.hid (bel_step HB.out b28 HB.out.size)
    replace HRr := Lib.hid (HRr.out.after b28)
    replace HRf := Lib.hid (HRf.out.after b28)
    replace HRg := Lib.hid (HRg.out.after b28)
    replace HRm := Lib.hid (HRm.out.after b28)
    replace HRh := Lib.hid (HRh.out.after b28)
    clear b28
    have cr0 := HRr.out.1.c0
    have cr1 := HRr.out.1.c1
    have ltr := HRr.out.1.lt
    have cf0 := HRf.out.1.c0
    have cf1 := HRf.out.1.c1
    have ltf := HRf.out.1.lt
    have cg0 := HRg.out.1.c0
    have cg1 := HRg.out.1.c1
    have ltg := HRg.out.1.lt
    have cm0 := HRm.out.1.c0
    have cm1 := HRm.out.1.c1
    have ltm := HRm.out.1.lt
    have ch0 := HRh.out.1.c0
    have ch1 := HRh.out.1.c1
    have lth := HRh.out.1.lt
    go_wp2_with fail
    refine withWorld fun X29 hX => ?_
    have gB : Below w28.heap.size w28 X29 := (by rw [hX]; (repeat (first | (with_reducible exact (Below.refl _ _)) | (with_reducible refine bel_alloc ?_ _) | (with_reducible refine Below.drew ?_) | (with_reducible refine bel_drewN ?_ _) | (with_reducible refine Below.setCell ?_ (by simp) _))))
    replace HB := Lib.hid (bel_step HB.out gB HB.out.size)
    replace HRr := Lib.hid (HRr.out.after gB)
    replace HRf := Lib.hid (HRf.out.after gB)
    replace HRg := Lib.hid (HRg.out.after gB)
    replace HRm := Lib.hid (HRm.out.after gB)
    replace HRh := Lib.hid (HRh.out.after gB)
    clear hX gB cr0 cr1 ltr cf0 cf1 ltf cg0 cg1 ltg cm0 cm1 ltm ch0 ch1 lth
    refine (periodicY _ _ (x2) _ _ HRok.out HPL.out HRr.out.2).mono ?_
    rintro e w29 ⟨rfl, b29⟩
    replace HB := Lib.hid (bel_step HB.out b29 HB.out.size)
    replace HRr := Lib.hid (HRr.out.after b29)
    replace HRf := Lib.hid (HRf.out.after b29)
    replace HRg := Lib.hid (HRg.out.after b29)
    replace HRm := Lib.hid (HRm.out.after b29)
    replace HRh := Lib.hid (HRh.out.after b29)
    clear b29
    have cr0 := HRr.out.1.c0
    have cr1 := HRr.out.1.c1
    have ltr := HRr.out.1.lt
    have cf0 := HRf.out.1.c0
    have cf1 := HRf.out.1.c1
    have ltf := HRf.out.1.lt
    have cg0 := HRg.out.1.c0
    have cg1 := HRg.out.1.c1
    have ltg := HRg.out.1.lt
    have cm0 := HRm.out.1.c0
    have cm1 := HRm.out.1.c1
    have ltm := HRm.out.1.lt
    have ch0 := HRh.out.1.c0
    have ch1 := HRh.out.1.c1
    have lth := HRh.out.1.lt
    go_wp2_with fail
    refine withWorld fun X30 hX => ?_
    have gB : Below w29.heap.size w29 X30 := (by rw [hX]; (repeat (first | (with_reducible exact (Below.refl _ _)) | (with_reducible refine bel_alloc ?_ _) | (with_reducible refine Below.drew ?_) | (with_reducible refine bel_drewN ?_ _) | (with_reducible refine Below.setCell ?_ (by simp) _))))
    replace HB := Lib.hid (bel_step HB.out gB HB.out.size)
    replace HRr := Lib.hid (HRr.out.after gB)
    replace HRf := Lib.hid (HRf.out.after gB)
    replace HRg := Lib.hid (HRg.out.after gB)
    replace HRm := Lib.hid (HRm.out.after gB)
    replace HRh := Lib.hid (HRh.out.after gB)
    clear hX gB cr0 cr1 ltr cf0 cf1 ltf cg0 cg1 ltg cm0 cm1 ltm ch0 ch1 lth
    refine (lawRhythmsY _ _ _ (formV (N2) (x2)) (formV (N2) (x2)) _ rfl HRg.out.2 HRh.out.2).mono ?_
    rintro e w30 ⟨rfl, b30⟩
    replace HB := Lib.hid (bel_step HB.out b30 HB.out.size)
    replace HRr := Lib.hid (HRr.out.after b30)
    replace HRf := Lib.hid (HRf.out.after b30)
    replace HRg := Lib.hid (HRg.out.after b30)
    replace HRm := Lib.hid (HRm.out.after b30)
    replace HRh := Lib.hid (HRh.out.after b30)
    clear b30
    have cr0 := HRr.out.1.c0
    have cr1 := HRr.out.1.c1
    have ltr := HRr.out.1.lt
    have cf0 := HRf.out.1.c0
    have cf1 := HRf.out.1.c1
    have ltf := HRf.out.1.lt
    have cg0 := HRg.out.1.c0
    have cg1 := HRg.out.1.c1
    have ltg := HRg.out.1.lt
    have cm0 := HRm.out.1.c0
    have cm1 := HRm.out.1.c1
    have ltm := HRm.out.1.lt
    have ch0 := HRh.out.1.c0
    have ch1 := HRh.out.1.c1
    have lth := HRh.out.1.lt
    go_wp2_with fail
    refine withWorld fun X31 hX => ?_
    have gB : Below w30.heap.size w30 X31 := (by rw [hX]; (repeat (first | (with_reducible exact (Below.refl _ _)) | (with_reducible refine bel_alloc ?_ _) | (with_reducible refine Below.drew ?_) | (with_reducible refine bel_drewN ?_ _) | (with_reducible refine Below.setCell ?_ (by simp) _))))
    replace HB := Lib.hid (bel_step HB.out gB HB.out.size)
    replace HRr := Lib.hid (HRr.out.after gB)
    replace HRf := Lib.hid (HRf.out.after gB)
    replace HRg := Lib.hid (HRg.out.after gB)
    replace HRm := Lib.hid (HRm.out.after gB)
    replace HRh := Lib.hid (HRh.out.after gB)
    clear hX gB cr0 cr1 ltr cf0 cf1 ltf cg0 cg1 ltg cm0 cm1 ltm ch0 ch1 lth
    refine (isLeastY _ _ (leastV (N2) (x2)) _ HFR.out (leastV_least HRok.out) HRf.out.2).mono ?_
    rintro e w31 ⟨rfl, b31⟩
    replace HB := Lib.hid (bel_step HB.out b31 HB.out.size)
    replace HRr := Lib.hid (HRr.out.after b31)
    replace HRf := Lib.hid (HRf.out.after b31)
    replace HRg := Lib.hid (HRg.out.after b31)
    replace HRm := Lib.hid (HRm.out.after b31)
    replace HRh := Lib.hid (HRh.out.after b31)
    clear b31
    have cr0 := HRr.out.1.c0
    have cr1 := HRr.out.1.c1
    have ltr := HRr.out.1.lt
    have cf0 := HRf.out.1.c0
    have cf1 := HRf.out.1.c1
    have ltf := HRf.out.1.lt
    have cg0 := HRg.out.1.c0
    have cg1 := HRg.out.1.c1
    have ltg := HRg.out.1.lt
    have cm0 := HRm.out.1.c0
    have cm1 := HRm.out.1.c1
    have ltm := HRm.out.1.lt
    have ch0 := HRh.out.1.c0
    have ch1 := HRh.out.1.c1
    have lth := HRh.out.1.lt
    clear HRh cr0 cr1 ltr cf0 cf1 ltf cg0 cg1 ltg cm0 cm1 ltm ch0 ch1 lth
    have cr0 := HRr.out.1.c0
    have cr1 := HRr.out.1.c1
    have ltr := HRr.out.1.lt
    have cf0 := HRf.out.1.c0
    have cf1 := HRf.out.1.c1
    have ltf := HRf.out.1.lt
    have cg0 := HRg.out.1.c0
    have cg1 := HRg.out.1.c1
    have ltg := HRg.out.1.lt
    have cm0 := HRm.out.1.c0
    have cm1 := HRm.out.1.c1
    have ltm := HRm.out.1.lt
    go_wp2_with fail
    refine withWorld fun X32 hX => ?_
    have gB : Below w31.heap.size w31 X32 := (by rw [hX]; (repeat (first | (with_reducible exact (Below.refl _ _)) | (with_reducible refine bel_alloc ?_ _) | (with_reducible refine Below.drew ?_) | (with_reducible refine bel_drewN ?_ _) | (with_reducible refine Below.setCell ?_ (by simp) _))))
    replace HB := Lib.hid (bel_step HB.out gB HB.out.size)
    replace HRr := Lib.hid (HRr.out.after gB)
    replace HRf := Lib.hid (HRf.out.after gB)
    replace HRg := Lib.hid (HRg.out.after gB)
    replace HRm := Lib.hid (HRm.out.after gB)
    clear hX gB cr0 cr1 ltr cf0 cf1 ltf cg0 cg1 ltg cm0 cm1 ltm
    refine (specMakeNum _ z0 34 _ hm0 (by decide) ((HH0.out.below HB.out).mono HB.out.size)).mono ?_
    rintro e w32 ⟨⟨r34, hs0, hs1, rfl⟩, b32⟩
    replace HB := Lib.hid (bel_step HB.out b32 HB.out.size)
    replace HRr := Lib.hid (HRr.out.after b32)
    replace HRf := Lib.hid (HRf.out.after b32)
    replace HRg := Lib.hid (HRg.out.after b32)
    replace HRm := Lib.hid (HRm.out.after b32)
    clear b32
    have cr0 := HRr.out.1.c0
    have cr1 := HRr.out.1.c1
    have ltr := HRr.out.1.lt
    have cf0 := HRf.out.1.c0
    have cf1 := HRf.out.1.c1
    have ltf := HRf.out.1.lt
    have cg0 := HRg.out.1.c0
    have cg1 := HRg.out.1.c1
    have ltg := HRg.out.1.lt
    have cm0 := HRm.out.1.c0
    have cm1 := HRm.out.1.c1
    have ltm := HRm.out.1.lt
    have hn0 : ((N2) == 0) = false := by simp; omega
    have hn1 : ¬ (N2) = 0 := by omega
    obtain ⟨KK, hk0, hk1, hKK⟩ : ∃ KK : Int, 0 ≤ KK ∧ KK < N2 ∧ r34 % (N2) = KK := ⟨_, Int.emod_nonneg _ hn1, Int.emod_lt_of_pos _ (by omega), rfl⟩
    go_wp2_with fail
    try rw [hKK]
    clear hKK hs0 hs1
    have HTR := Lib.hid (mapV_rok hlo hhi (x2) 1 KK)
    have HTP : Hid (per (N2) (mapV (N2) (x2) 1 KK) = (pl : Int)) := by unfold Hid; rw [← HPL.out]; exact per_of HTR.out HRok.out (inv_map1 HRok.out KK)
    have HTO : Hid (rotTo (N2) (x2) (mapV (N2) (x2) 1 KK) = KK % (pl : Int)) := by unfold Hid; rw [← HPL.out]; exact rotTo_rot HRok.out
    refine withWorld fun X33 hX => ?_
    have gB : Below w32.heap.size w32 X33 := (by rw [hX]; (repeat (first | (with_reducible exact (Below.refl _ _)) | (with_reducible refine bel_alloc ?_ _) | (with_reducible refine Below.drew ?_) | (with_reducible refine bel_drewN ?_ _) | (with_reducible refine Below.setCell ?_ (by simp) _))))
    replace HB := Lib.hid (bel_step HB.out gB HB.out.size)
    replace HRr := Lib.hid (HRr.out.after gB)
    replace HRf := Lib.hid (HRf.out.after gB)
    replace HRg := Lib.hid (HRg.out.after gB)
    replace HRm := Lib.hid (HRm.out.after gB)
    clear hX gB cr0 cr1 ltr cf0 cf1 ltf cg0 cg1 ltg cm0 cm1 ltm
    refine (rotateY _ _ (x2) KK _ HRok.out (by omega) (by omega) _ rfl HRr.out.2).mono ?_
    rintro e w33 ⟨ax33, kx33, rfl, o33, b33⟩
    replace HB := Lib.hid (bel_step HB.out b33 HB.out.size)
    replace HRr := Lib.hid (HRr.out.after b33)
    replace HRf := Lib.hid (HRf.out.after b33)
    replace HRg := Lib.hid (HRg.out.after b33)
    replace HRm := Lib.hid (HRm.out.after b33)
    have HO33 := Lib.hid o33
    clear o33
    clear b33
    have cr0 := HRr.out.1.c0
    have cr1 := HRr.out.1.c1
    have ltr := HRr.out.1.lt
    have cf0 := HRf.out.1.c0
    have cf1 := HRf.out.1.c1
    have ltf := HRf.out.1.lt
    have cg0 := HRg.out.1.c0
    have cg1 := HRg.out.1.c1
    have ltg := HRg.out.1.lt
    have cm0 := HRm.out.1.c0
    have cm1 := HRm.out.1.c1
    have ltm := HRm.out.1.lt
    go_wp2_with fail
    refine withWorld fun X34 hX => ?_
    have gB : Below w33.heap.size w33 X34 := (by rw [hX]; (repeat (first | (with_reducible exact (Below.refl _ _)) | (with_reducible refine bel_alloc ?_ _) | (with_reducible refine Below.drew ?_) | (with_reducible refine bel_drewN ?_ _) | (with_reducible refine Below.setCell ?_ (by simp) _))))
    have HRt : Hid (RH X34 w33.heap.size (N2) (.slice ax33 (mapV (N2) (x2) 1 KK).length kx33) (mapV (N2) (x2) 1 KK)) := (by unfold Hid; rw [hX]; (repeat (first | exact RH.new HO33.out | (with_reducible refine RH.alloc ?_ _) | (with_reducible refine RH.drewN ?_ _))))
    replace HB := Lib.hid (bel_step HB.out gB HB.out.size)
    replace HRr := Lib.hid (HRr.out.after gB)
    replace HRf := Lib.hid (HRf.out.after gB)
    replace HRg := Lib.hid (HRg.out.after gB)
    replace HRm := Lib.hid (HRm.out.after gB)
    clear HO33
    clear hX gB cr0 cr1 ltr cf0 cf1 ltf cg0 cg1 ltg cm0 cm1 ltm
    refine (leastRotY _ _ (mapV (N2) (x2) 1 KK) _ HTR.out _ (leastV_rot HRok.out KK) HRt.out.2).mono ?_
    rintro e w34 ⟨ax34, kx34, rfl, o34, b34⟩
    replace HB := Lib.hid (bel_step HB.out b34 HB.out.size)
    replace HRr := Lib.hid (HRr.out.after b34)
    replace HRf := Lib.hid (HRf.out.after b34)
    replace HRg := Lib.hid (HRg.out.after b34)
    replace HRm := Lib.hid (HRm.out.after b34)
    replace HRt := Lib.hid (HRt.out.after b34)
    have HO34 := Lib.hid o34
    clear o34
    clear b34
    have cr0 := HRr.out.1.c0
    have cr1 := HRr.out.1.c1
    have ltr := HRr.out.1.lt
    have cf0 := HRf.out.1.c0
    have cf1 := HRf.out.1.c1
    have ltf := HRf.out.1.lt
    have cg0 := HRg.out.1.c0
    have cg1 := HRg.out.1.c1
    have ltg := HRg.out.1.lt
    have cm0 := HRm.out.1.c0
    have cm1 := HRm.out.1.c1
    have ltm := HRm.out.1.lt
    have ct0 := HRt.out.1.c0
    have ct1 := HRt.out.1.c1
    have ltt := HRt.out.1.lt
    go_wp2_with fail
    refine withWorld fun X35 hX => ?_
    have gB : Below w34.heap.size w34 X35 := (by rw [hX]; (repeat (first | (with_reducible exact (Below.refl _ _)) | (with_reducible refine bel_alloc ?_ _) | (with_reducible refine Below.drew ?_) | (with_reducible refine bel_drewN ?_ _) | (with_reducible refine Below.setCell ?_ (by simp) _))))
    have HRy : Hid (RH X35 w34.heap.size (N2) (.slice ax34 (leastV (N2) (x2)).length kx34) (leastV (N2) (x2))) := (by unfold Hid; rw [hX]; (repeat (first | exact RH.new HO34.out | (with_reducible refine RH.alloc ?_ _) | (with_reducible refine RH.drewN ?_ _))))
    replace HB := Lib.hid (bel_step HB.out gB HB.out.size)
    replace HRr := Lib.hid (HRr.out.after gB)
    replace HRf := Lib.hid (HRf.out.after gB)
    replace HRg := Lib.hid (HRg.out.after gB)
    replace HRm := Lib.hid (HRm.out.after gB)
    replace HRt := Lib.hid (HRt.out.after gB)
    clear HO34
    clear hX gB cr0 cr1 ltr cf0 cf1 ltf cg0 cg1 ltg cm0 cm1 ltm ct0 ct1 ltt
    refine (leastFormY _ _ (mapV (N2) (x2) 1 KK) _ HTR.out _ (formV_rot HRok.out KK) HRt.out.2).mono ?_
    rintro e w35 ⟨ax35, kx35, rfl, o35, b35⟩
    replace HB := Lib.hid (bel_step HB.out b35 HB.out.size)
    replace HRr := Lib.hid (HRr.out.after b35)
    replace HRf := Lib.hid (HRf.out.after b35)
    replace HRg := Lib.hid (HRg.out.after b35)
    replace HRm := Lib.hid (HRm.out.after b35)
    replace HRt := Lib.hid (HRt.out.after b35)
    replace HRy := Lib.hid (HRy.out.after b35)
    have HO35 := Lib.hid o35
    clear o35
    clear b35
    have cr0 := HRr.out.1.c0
    have cr1 := HRr.out.1.c1
    have ltr := HRr.out.1.lt
    have cf0 := HRf.out.1.c0
    have cf1 := HRf.out.1.c1
    have ltf := HRf.out.1.lt
    have cg0 := HRg.out.1.c0
    have cg1 := HRg.out.1.c1
    have ltg := HRg.out.1.lt
    have cm0 := HRm.out.1.c0
    have cm1 := HRm.out.1.c1
    have ltm := HRm.out.1.lt
    have ct0 := HRt.out.1.c0
    have ct1 := HRt.out.1.c1
    have ltt := HRt.out.1.lt
    have cy0 := HRy.out.1.c0
    have cy1 := HRy.out.1.c1
    have lty := HRy.out.1.lt
    go_wp2_with fail
    refine withWorldC fun Y36 hY => ?_
    have gB : Below w35.heap.size w35 Y36 := (by rw [hY]; (repeat (first | (with_reducible exact (Below.refl _ _)) | (with_reducible refine bel_alloc ?_ _) | (with_reducible refine Below.drew ?_) | (with_reducible refine bel_drewN ?_ _) | (with_reducible refine Below.setCell ?_ (by simp) _))))
    have HRz : Hid (RH Y36 w35.heap.size (N2) (.slice ax35 (formV (N2) (x2)).length kx35) (formV (N2) (x2))) := (by unfold Hid; rw [hY]; (repeat (first | exact RH.new HO35.out | (with_reducible refine RH.alloc ?_ _) | (with_reducible refine RH.drewN ?_ _))))
    replace HB := Lib.hid (bel_step HB.out gB HB.out.size)
    replace HRr := Lib.hid (HRr.out.after gB)
    replace HRf := Lib.hid (HRf.out.after gB)
    replace HRg := Lib.hid (HRg.out.after gB)
    replace HRm := Lib.hid (HRm.out.after gB)
    replace HRt := Lib.hid (HRt.out.after gB)
    replace HRy := Lib.hid (HRy.out.after gB)
    clear HO35
    clear hY gB cr0 cr1 ltr cf0 cf1 ltf cg0 cg1 ltg cm0 cm1 ltm ct0 ct1 ltt cy0 cy1 lty
    refine region_held (fun V => Below Y36.heap.size Y36 V) (by kernel_rfl) (by kernel_rfl) ((Below.refl _ _).drew) (fun V V' h1 h2 => bel_step h1 h2 h1.size) fun U val hne hv hcall => ?_
    have HC := Lib.hid hcall
    have zr0 : ∀ u, (val u).cell? ⟨w1.heap.size, 0, none⟩ = some (.int .i64 (N2)) := fun u => ((bcell (hv u)).1 _ _ HRr.out.1.lt).trans HRr.out.1.c0
    have zr1 : ∀ u, (val u).cell? ⟨w1.heap.size, 1, none⟩ = some (.slice a9 x2.length k9) := fun u => ((bcell (hv u)).1 _ _ HRr.out.1.lt).trans HRr.out.1.c1
    have zf0 : ∀ u, (val u).cell? ⟨w24.heap.size, 0, none⟩ = some (.int .i64 (N2)) := fun u => ((bcell (hv u)).1 _ _ HRf.out.1.lt).trans HRf.out.1.c0
    have zf1 : ∀ u, (val u).cell? ⟨w24.heap.size, 1, none⟩ = some (.slice ax24 (leastV (N2) (x2)).length kx24) := fun u => ((bcell (hv u)).1 _ _ HRf.out.1.lt).trans HRf.out.1.c1
    have zg0 : ∀ u, (val u).cell? ⟨w25.heap.size, 0, none⟩ = some (.int .i64 (N2)) := fun u => ((bcell (hv u)).1 _ _ HRg.out.1.lt).trans HRg.out.1.c0
    have zg1 : ∀ u, (val u).cell? ⟨w25.heap.size, 1, none⟩ = some (.slice ax25 (formV (N2) (x2)).length kx25) := fun u => ((bcell (hv u)).1 _ _ HRg.out.1.lt).trans HRg.out.1.c1
    have zm0 : ∀ u, (val u).cell? ⟨w26.heap.size, 0, none⟩ = some (.int .i64 (N2)) := fun u => ((bcell (hv u)).1 _ _ HRm.out.1.lt).trans HRm.out.1.c0
    have zm1 : ∀ u, (val u).cell? ⟨w26.heap.size, 1, none⟩ = some (.slice ax26 (mapV (N2) (x2) (-1) 0).length kx26) := fun u => ((bcell (hv u)).1 _ _ HRm.out.1.lt).trans HRm.out.1.c1
    have zt0 : ∀ u, (val u).cell? ⟨w33.heap.size, 0, none⟩ = some (.int .i64 (N2)) := fun u => ((bcell (hv u)).1 _ _ HRt.out.1.lt).trans HRt.out.1.c0
    have zt1 : ∀ u, (val u).cell? ⟨w33.heap.size, 1, none⟩ = some (.slice ax33 (mapV (N2) (x2) 1 KK).length kx33) := fun u => ((bcell (hv u)).1 _ _ HRt.out.1.lt).trans HRt.out.1.c1
    have zy0 : ∀ u, (val u).cell? ⟨w34.heap.size, 0, none⟩ = some (.int .i64 (N2)) := fun u => ((bcell (hv u)).1 _ _ HRy.out.1.lt).trans HRy.out.1.c0
    have zy1 : ∀ u, (val u).cell? ⟨w34.heap.size, 1, none⟩ = some (.slice ax34 (leastV (N2) (x2)).length kx34) := fun u => ((bcell (hv u)).1 _ _ HRy.out.1.lt).trans HRy.out.1.c1
    have zz0 : ∀ u, (val u).cell? ⟨w35.heap.size, 0, none⟩ = some (.int .i64 (N2)) := fun u => ((bcell (hv u)).1 _ _ HRz.out.1.lt).trans HRz.out.1.c0
    have zz1 : ∀ u, (val u).cell? ⟨w35.heap.size, 1, none⟩ = some (.slice ax35 (formV (N2) (x2)).length kx35) := fun u => ((bcell (hv u)).1 _ _ HRz.out.1.lt).trans HRz.out.1.c1
    have HV := Lib.hid hv
    clear hv hcall
    repeat (go_big_quiet_step ((first | (go_at_call 21; exact HC.out _ _ _ _ (lawRhythmsY _ _ _ (leastV (N2) (x2)) (leastV (N2) (x2)) _ rfl (HRy.out.2.ofBelow (HV.out _)) (HRf.out.2.ofBelow (HV.out _)))) | (go_at_call 21; exact HC.out _ _ _ _ (lawRhythmsY _ _ _ (formV (N2) (x2)) (formV (N2) (x2)) _ rfl (HRz.out.2.ofBelow (HV.out _)) (HRg.out.2.ofBelow (HV.out _)))) | (go_at_call 24; exact HC.out _ _ _ _ (rotToY _ _ _ (x2) (mapV (N2) (x2) 1 KK) _ _ HRok.out HTR.out HTO.out (HRr.out.2.ofBelow (HV.out _)) (HRt.out.2.ofBelow (HV.out _)))) | (go_at_call 25; exact HC.out _ _ _ _ (areRotY _ _ _ (x2) (leastV (N2) (x2)) true _ HRok.out HFR.out (least_rot HRok.out) (HRr.out.2.ofBelow (HV.out _)) (HRf.out.2.ofBelow (HV.out _)))) | (go_at_call 26; exact HC.out _ _ _ _ (areFormsY _ _ _ (x2) (mapV (N2) (x2) (-1) 0) true _ HRok.out HMR.out (form_mir HRok.out) (HRr.out.2.ofBelow (HV.out _)) (HRm.out.2.ofBelow (HV.out _)))) | (go_at_call 26; exact HC.out _ _ _ _ (areFormsY _ _ _ (x2) (formV (N2) (x2)) true _ HRok.out HGR.out (form_form HRok.out) (HRr.out.2.ofBelow (HV.out _)) (HRg.out.2.ofBelow (HV.out _)))) | (go_at_call 25; exact HC.out _ _ _ _ (areRotY _ _ _ (x2) (mapV (N2) (x2) (-1) 0) false _ HRok.out HMR.out (mir_rotB HRok.out HMB.out) (HRr.out.2.ofBelow (HV.out _)) (HRm.out.2.ofBelow (HV.out _)))) | (go_at_call 19; exact HC.out _ _ _ _ (mirroredY _ _ (x2) false _ HRok.out HMB.out (HRr.out.2.ofBelow (HV.out _)))) | (go_at_call 13; exact HC.out _ _ _ _ (periodY _ _ (mapV (N2) (x2) 1 KK) _ _ HTR.out HTP.out (HRt.out.2.ofBelow (HV.out _)))))))
    refine wpQuiet_nil ?_
    rintro _ ⟨u, rfl⟩
    have gu := HV.out u
    clear HC HV zr0 zr1 zf0 zf1 zg0 zg1 zm0 zm1 zt0 zt1 zy0 zy1 zz0 zz1 
    generalize val u = w36 at gu ⊢
    clear u hne val
    replace HB := Lib.hid (bel_step HB.out gu HB.out.size)
    replace HRr := Lib.hid (HRr.out.after gu)
    replace HRf := Lib.hid (HRf.out.after gu)
    replace HRg := Lib.hid (HRg.out.after gu)
    replace HRm := Lib.hid (HRm.out.after gu)
    replace HRt := Lib.hid (HRt.out.after gu)
    replace HRy := Lib.hid (HRy.out.after gu)
    replace HRz := Lib.hid (HRz.out.after gu)
    clear gu
    have cr0 := HRr.out.1.c0
    have cr1 := HRr.out.1.c1
    have ltr := HRr.out.1.lt
    have cf0 := HRf.out.1.c0
    have cf1 := HRf.out.1.c1
    have ltf := HRf.out.1.lt
    have cg0 := HRg.out.1.c0
    have cg1 := HRg.out.1.c1
    have ltg := HRg.out.1.lt
    have cm0 := HRm.out.1.c0
    have cm1 := HRm.out.1.c1
    have ltm := HRm.out.1.lt
    have ct0 := HRt.out.1.c0
    have ct1 := HRt.out.1.c1
    have ltt := HRt.out.1.lt
    have cy0 := HRy.out.1.c0
    have cy1 := HRy.out.1.c1
    have lty := HRy.out.1.lt
    have cz0 := HRz.out.1.c0
    have cz1 := HRz.out.1.c1
    have ltz := HRz.out.1.lt
    go_wp2
    go_ret
    exact ⟨rfl, HB.out⟩
  · have ha1 : ((al : Int) != 0) = true := by simp; omega
    have ha2 : ((al : Int) != (N2) / (pl : Int)) = false := by
      rcases HAC.out with h | h
      · omega
      · rw [h]; simp
    have HMB : Hid (decide (0 < (axTo (N2) (x2) (N2).toNat).length) = true) := by unfold Hid; rw [HAL.out]; exact decide_eq_true ha0
    go_wp2_with fail
    refine withWorld fun X28 hX => ?_
    have gB : Below w27.heap.size w27 X28 := (by rw [hX]; (repeat (first | (with_reducible exact (Below.refl _ _)) | (with_reducible refine bel_alloc ?_ _) | (with_reducible refine Below.drew ?_) | (with_reducible refine bel_drewN ?_ _) | (with_reducible refine Below.setCell ?_ (by simp) _))))
    have HRh : Hid (RH X28 w27.heap.size (N2) (.slice ax27 (formV (N2) (x2)).length kx27) (formV (N2) (x2))) := (by unfold Hid; rw [hX]; (repeat (first | exact RH.new HO27.out | (with_reducible refine RH.alloc ?_ _) | (with_reducible refine RH.drewN ?_ _))))
    replace HB := Lib.hid (bel_step HB.out gB HB.out.size)
    replace HRr := Lib.hid (HRr.out.after gB)
    replace HRf := Lib.hid (HRf.out.after gB)
    replace HRg := Lib.hid (HRg.out.after gB)
    replace HRm := Lib.hid (HRm.out.after gB)
    clear HO27
    clear hX gB cr0 cr1 ltr cf0 cf1 ltf cg0 cg1 ltg cm0 cm1 ltm
    refine (mirroredY _ _ (x2) true _ HRok.out HMB.out HRr.out.2).mono ?_
    rintro e w28 ⟨rfl, b28⟩
    replace HB := Lib.hid (bel_step HB.out b28 HB.out.size)
    replace HRr := Lib.hid (HRr.out.after b28)
    replace HRf := Lib.hid (HRf.out.after b28)
    replace HRg := Lib.hid (HRg.out.after b28)
    replace HRm := Lib.hid (HRm.out.after b28)
    replace HRh := Lib.hid (HRh.out.after b28)
    clear b28
    have cr0 := HRr.out.1.c0
    have cr1 := HRr.out.1.c1
    have ltr := HRr.out.1.lt
    have cf0 := HRf.out.1.c0
    have cf1 := HRf.out.1.c1
    have ltf := HRf.out.1.lt
    have cg0 := HRg.out.1.c0
    have cg1 := HRg.out.1.c1
    have ltg := HRg.out.1.lt
    have cm0 := HRm.out.1.c0
    have cm1 := HRm.out.1.c1
    have ltm := HRm.out.1.lt
    have ch0 := HRh.out.1.c0
    have ch1 := HRh.out.1.c1
    have lth := HRh.out.1.lt
    go_wp2_with fail
    refine withWorld fun X29 hX => ?_
    have gB : Below w28.heap.size w28 X29 := (by rw [hX]; (repeat (first | (with_reducible exact (Below.refl _ _)) | (with_reducible refine bel_alloc ?_ _) | (with_reducible refine Below.drew ?_) | (with_reducible refine bel_drewN ?_ _) | (with_reducible refine Below.setCell ?_ (by simp) _))))
    replace HB := Lib.hid (bel_step HB.out gB HB.out.size)
    replace HRr := Lib.hid (HRr.out.after gB)
    replace HRf := Lib.hid (HRf.out.after gB)
    replace HRg := Lib.hid (HRg.out.after gB)
    replace HRm := Lib.hid (HRm.out.after gB)
    replace HRh := Lib.hid (HRh.out.after gB)
    clear hX gB cr0 cr1 ltr cf0 cf1 ltf cg0 cg1 ltg cm0 cm1 ltm ch0 ch1 lth
    refine (periodicY _ _ (x2) _ _ HRok.out HPL.out HRr.out.2).mono ?_
    rintro e w29 ⟨rfl, b29⟩
    replace HB := Lib.hid (bel_step HB.out b29 HB.out.size)
    replace HRr := Lib.hid (HRr.out.after b29)
    replace HRf := Lib.hid (HRf.out.after b29)
    replace HRg := Lib.hid (HRg.out.after b29)
    replace HRm := Lib.hid (HRm.out.after b29)
    replace HRh := Lib.hid (HRh.out.after b29)
    clear b29
    have cr0 := HRr.out.1.c0
    have cr1 := HRr.out.1.c1
    have ltr := HRr.out.1.lt
    have cf0 := HRf.out.1.c0
    have cf1 := HRf.out.1.c1
    have ltf := HRf.out.1.lt
    have cg0 := HRg.out.1.c0
    have cg1 := HRg.out.1.c1
    have ltg := HRg.out.1.lt
    have cm0 := HRm.out.1.c0
    have cm1 := HRm.out.1.c1
    have ltm := HRm.out.1.lt
    have ch0 := HRh.out.1.c0
    have ch1 := HRh.out.1.c1
    have lth := HRh.out.1.lt
    go_wp2_with fail
    refine withWorld fun X30 hX => ?_
    have gB : Below w29.heap.size w29 X30 := (by rw [hX]; (repeat (first | (with_reducible exact (Below.refl _ _)) | (with_reducible refine bel_alloc ?_ _) | (with_reducible refine Below.drew ?_) | (with_reducible refine bel_drewN ?_ _) | (with_reducible refine Below.setCell ?_ (by simp) _))))
    replace HB := Lib.hid (bel_step HB.out gB HB.out.size)
    replace HRr := Lib.hid (HRr.out.after gB)
    replace HRf := Lib.hid (HRf.out.after gB)
    replace HRg := Lib.hid (HRg.out.after gB)
    replace HRm := Lib.hid (HRm.out.after gB)
    replace HRh := Lib.hid (HRh.out.after gB)
    clear hX gB cr0 cr1 ltr cf0 cf1 ltf cg0 cg1 ltg cm0 cm1 ltm ch0 ch1 lth
    refine (lawRhythmsY _ _ _ (formV (N2) (x2)) (formV (N2) (x2)) _ rfl HRg.out.2 HRh.out.2).mono ?_
    rintro e w30 ⟨rfl, b30⟩
    replace HB := Lib.hid (bel_step HB.out b30 HB.out.size)
    replace HRr := Lib.hid (HRr.out.after b30)
    replace HRf := Lib.hid (HRf.out.after b30)
    replace HRg := Lib.hid (HRg.out.after b30)
    replace HRm := Lib.hid (HRm.out.after b30)
    replace HRh := Lib.hid (HRh.out.after b30)
    clear b30
    have cr0 := HRr.out.1.c0
    have cr1 := HRr.out.1.c1
    have ltr := HRr.out.1.lt
    have cf0 := HRf.out.1.c0
    have cf1 := HRf.out.1.c1
    have ltf := HRf.out.1.lt
    have cg0 := HRg.out.1.c0
    have cg1 := HRg.out.1.c1
    have ltg := HRg.out.1.lt
    have cm0 := HRm.out.1.c0
    have cm1 := HRm.out.1.c1
    have ltm := HRm.out.1.lt
    have ch0 := HRh.out.1.c0
    have ch1 := HRh.out.1.c1
    have lth := HRh.out.1.lt
    go_wp2_with fail
    refine withWorld fun X31 hX => ?_
    have gB : Below w30.heap.size w30 X31 := (by rw [hX]; (repeat (first | (with_reducible exact (Below.refl _ _)) | (with_reducible refine bel_alloc ?_ _) | (with_reducible refine Below.drew ?_) | (with_reducible refine bel_drewN ?_ _) | (with_reducible refine Below.setCell ?_ (by simp) _))))
    replace HB := Lib.hid (bel_step HB.out gB HB.out.size)
    replace HRr := Lib.hid (HRr.out.after gB)
    replace HRf := Lib.hid (HRf.out.after gB)
    replace HRg := Lib.hid (HRg.out.after gB)
    replace HRm := Lib.hid (HRm.out.after gB)
    replace HRh := Lib.hid (HRh.out.after gB)
    clear hX gB cr0 cr1 ltr cf0 cf1 ltf cg0 cg1 ltg cm0 cm1 ltm ch0 ch1 lth
    refine (isLeastY _ _ (leastV (N2) (x2)) _ HFR.out (leastV_least HRok.out) HRf.out.2).mono ?_
    rintro e w31 ⟨rfl, b31⟩
    replace HB := Lib.hid (bel_step HB.out b31 HB.out.size)
    replace HRr := Lib.hid (HRr.out.after b31)
    replace HRf := Lib.hid (HRf.out.after b31)
    replace HRg := Lib.hid (HRg.out.after b31)
    replace HRm := Lib.hid (HRm.out.after b31)
    replace HRh := Lib.hid (HRh.out.after b31)
    clear b31
    have cr0 := HRr.out.1.c0
    have cr1 := HRr.out.1.c1
    have ltr := HRr.out.1.lt
    have cf0 := HRf.out.1.c0
    have cf1 := HRf.out.1.c1
    have ltf := HRf.out.1.lt
    have cg0 := HRg.out.1.c0
    have cg1 := HRg.out.1.c1
    have ltg := HRg.out.1.lt
    have cm0 := HRm.out.1.c0
    have cm1 := HRm.out.1.c1
    have ltm := HRm.out.1.lt
    have ch0 := HRh.out.1.c0
    have ch1 := HRh.out.1.c1
    have lth := HRh.out.1.lt
    clear HRh cr0 cr1 ltr cf0 cf1 ltf cg0 cg1 ltg cm0 cm1 ltm ch0 ch1 lth
    have cr0 := HRr.out.1.c0
    have cr1 := HRr.out.1.c1
    have ltr := HRr.out.1.lt
    have cf0 := HRf.out.1.c0
    have cf1 := HRf.out.1.c1
    have ltf := HRf.out.1.lt
    have cg0 := HRg.out.1.c0
    have cg1 := HRg.out.1.c1
    have ltg := HRg.out.1.lt
    have cm0 := HRm.out.1.c0
    have cm1 := HRm.out.1.c1
    have ltm := HRm.out.1.lt
    go_wp2_with fail
    refine withWorld fun X32 hX => ?_
    have gB : Below w31.heap.size w31 X32 := (by rw [hX]; (repeat (first | (with_reducible exact (Below.refl _ _)) | (with_reducible refine bel_alloc ?_ _) | (with_reducible refine Below.drew ?_) | (with_reducible refine bel_drewN ?_ _) | (with_reducible refine Below.setCell ?_ (by simp) _))))
    replace HB := Lib.hid (bel_step HB.out gB HB.out.size)
    replace HRr := Lib.hid (HRr.out.after gB)
    replace HRf := Lib.hid (HRf.out.after gB)
    replace HRg := Lib.hid (HRg.out.after gB)
    replace HRm := Lib.hid (HRm.out.after gB)
    clear hX gB cr0 cr1 ltr cf0 cf1 ltf cg0 cg1 ltg cm0 cm1 ltm
    refine (specMakeNum _ z0 34 _ hm0 (by decide) ((HH0.out.below HB.out).mono HB.out.size)).mono ?_
    rintro e w32 ⟨⟨r34, hs0, hs1, rfl⟩, b32⟩
    replace HB := Lib.hid (bel_step HB.out b32 HB.out.size)
    replace HRr := Lib.hid (HRr.out.after b32)
    replace HRf := Lib.hid (HRf.out.after b32)
    replace HRg := Lib.hid (HRg.out.after b32)
    replace HRm := Lib.hid (HRm.out.after b32)
    clear b32
    have cr0 := HRr.out.1.c0
    have cr1 := HRr.out.1.c1
    have ltr := HRr.out.1.lt
    have cf0 := HRf.out.1.c0
    have cf1 := HRf.out.1.c1
    have ltf := HRf.out.1.lt
    have cg0 := HRg.out.1.c0
    have cg1 := HRg.out.1.c1
    have ltg := HRg.out.1.lt
    have cm0 := HRm.out.1.c0
    have cm1 := HRm.out.1.c1
    have ltm := HRm.out.1.lt
    have hn0 : ((N2) == 0) = false := by simp; omega
    have hn1 : ¬ (N2) = 0 := by omega
    obtain ⟨KK, hk0, hk1, hKK⟩ : ∃ KK : Int, 0 ≤ KK ∧ KK < N2 ∧ r34 % (N2) = KK := ⟨_, Int.emod_nonneg _ hn1, Int.emod_lt_of_pos _ (by omega), rfl⟩
    go_wp2_with fail
    try rw [hKK]
    clear hKK hs0 hs1
    have HTR := Lib.hid (mapV_rok hlo hhi (x2) 1 KK)
    have HTP : Hid (per (N2) (mapV (N2) (x2) 1 KK) = (pl : Int)) := by unfold Hid; rw [← HPL.out]; exact per_of HTR.out HRok.out (inv_map1 HRok.out KK)
    have HTO : Hid (rotTo (N2) (x2) (mapV (N2) (x2) 1 KK) = KK % (pl : Int)) := by unfold Hid; rw [← HPL.out]; exact rotTo_rot HRok.out
    refine withWorld fun X33 hX => ?_
    have gB : Below w32.heap.size w32 X33 := (by rw [hX]; (repeat (first | (with_reducible exact (Below.refl _ _)) | (with_reducible refine bel_alloc ?_ _) | (with_reducible refine Below.drew ?_) | (with_reducible refine bel_drewN ?_ _) | (with_reducible refine Below.setCell ?_ (by simp) _))))
    replace HB := Lib.hid (bel_step HB.out gB HB.out.size)
    replace HRr := Lib.hid (HRr.out.after gB)
    replace HRf := Lib.hid (HRf.out.after gB)
    replace HRg := Lib.hid (HRg.out.after gB)
    replace HRm := Lib.hid (HRm.out.after gB)
    clear hX gB cr0 cr1 ltr cf0 cf1 ltf cg0 cg1 ltg cm0 cm1 ltm
    refine (rotateY _ _ (x2) KK _ HRok.out (by omega) (by omega) _ rfl HRr.out.2).mono ?_
    rintro e w33 ⟨ax33, kx33, rfl, o33, b33⟩
    replace HB := Lib.hid (bel_step HB.out b33 HB.out.size)
    replace HRr := Lib.hid (HRr.out.after b33)
    replace HRf := Lib.hid (HRf.out.after b33)
    replace HRg := Lib.hid (HRg.out.after b33)
    replace HRm := Lib.hid (HRm.out.after b33)
    have HO33 := Lib.hid o33
    clear o33
    clear b33
    have cr0 := HRr.out.1.c0
    have cr1 := HRr.out.1.c1
    have ltr := HRr.out.1.lt
    have cf0 := HRf.out.1.c0
    have cf1 := HRf.out.1.c1
    have ltf := HRf.out.1.lt
    have cg0 := HRg.out.1.c0
    have cg1 := HRg.out.1.c1
    have ltg := HRg.out.1.lt
    have cm0 := HRm.out.1.c0
    have cm1 := HRm.out.1.c1
    have ltm := HRm.out.1.lt
    go_wp2_with fail
    refine withWorld fun X34 hX => ?_
    have gB : Below w33.heap.size w33 X34 := (by rw [hX]; (repeat (first | (with_reducible exact (Below.refl _ _)) | (with_reducible refine bel_alloc ?_ _) | (with_reducible refine Below.drew ?_) | (with_reducible refine bel_drewN ?_ _) | (with_reducible refine Below.setCell ?_ (by simp) _))))
    have HRt : Hid (RH X34 w33.heap.size (N2) (.slice ax33 (mapV (N2) (x2) 1 KK).length kx33) (mapV (N2) (x2) 1 KK)) := (by unfold Hid; rw [hX]; (repeat (first | exact RH.new HO33.out | (with_reducible refine RH.alloc ?_ _) | (with_reducible refine RH.drewN ?_ _))))
    replace HB := Lib.hid (bel_step HB.out gB HB.out.size)
    replace HRr := Lib.hid (HRr.out.after gB)
    replace HRf := Lib.hid (HRf.out.after gB)
    replace HRg := Lib.hid (HRg.out.after gB)
    replace HRm := Lib.hid (HRm.out.after gB)
    clear HO33
    clear hX gB cr0 cr1 ltr cf0 cf1 ltf cg0 cg1 ltg cm0 cm1 ltm
    refine (leastRotY _ _ (mapV (N2) (x2) 1 KK) _ HTR.out _ (leastV_rot HRok.out KK) HRt.out.2).mono ?_
    rintro e w34 ⟨ax34, kx34, rfl, o34, b34⟩
    replace HB := Lib.hid (bel_step HB.out b34 HB.out.size)
    replace HRr := Lib.hid (HRr.out.after b34)
    replace HRf := Lib.hid (HRf.out.after b34)
    replace HRg := Lib.hid (HRg.out.after b34)
    replace HRm := Lib.hid (HRm.out.after b34)
    replace HRt := Lib.hid (HRt.out.after b34)
    have HO34 := Lib.hid o34
    clear o34
    clear b34
    have cr0 := HRr.out.1.c0
    have cr1 := HRr.out.1.c1
    have ltr := HRr.out.1.lt
    have cf0 := HRf.out.1.c0
    have cf1 := HRf.out.1.c1
    have ltf := HRf.out.1.lt
    have cg0 := HRg.out.1.c0
    have cg1 := HRg.out.1.c1
    have ltg := HRg.out.1.lt
    have cm0 := HRm.out.1.c0
    have cm1 := HRm.out.1.c1
    have ltm := HRm.out.1.lt
    have ct0 := HRt.out.1.c0
    have ct1 := HRt.out.1.c1
    have ltt := HRt.out.1.lt
    go_wp2_with fail
    refine withWorld fun X35 hX => ?_
    have gB : Below w34.heap.size w34 X35 := (by rw [hX]; (repeat (first | (with_reducible exact (Below.refl _ _)) | (with_reducible refine bel_alloc ?_ _) | (with_reducible refine Below.drew ?_) | (with_reducible refine bel_drewN ?_ _) | (with_reducible refine Below.setCell ?_ (by simp) _))))
    have HRy : Hid (RH X35 w34.heap.size (N2) (.slice ax34 (leastV (N2) (x2)).length kx34) (leastV (N2) (x2))) := (by unfold Hid; rw [hX]; (repeat (first | exact RH.new HO34.out | (with_reducible refine RH.alloc ?_ _) | (with_reducible refine RH.drewN ?_ _))))
    replace HB := Lib.hid (bel_step HB.out gB HB.out.size)
    replace HRr := Lib.hid (HRr.out.after gB)
    replace HRf := Lib.hid (HRf.out.after gB)
    replace HRg := Lib.hid (HRg.out.after gB)
    replace HRm := Lib.hid (HRm.out.after gB)
    replace HRt := Lib.hid (HRt.out.after gB)
    clear HO34
    clear hX gB cr0 cr1 ltr cf0 cf1 ltf cg0 cg1 ltg cm0 cm1 ltm ct0 ct1 ltt
    refine (leastFormY _ _ (mapV (N2) (x2) 1 KK) _ HTR.out _ (formV_rot HRok.out KK) HRt.out.2).mono ?_
    rintro e w35 ⟨ax35, kx35, rfl, o35, b35⟩
    replace HB := Lib.hid (bel_step HB.out b35 HB.out.size)
    replace HRr := Lib.hid (HRr.out.after b35)
    replace HRf := Lib.hid (HRf.out.after b35)
    replace HRg := Lib.hid (HRg.out.after b35)
    replace HRm := Lib.hid (HRm.out.after b35)
    replace HRt := Lib.hid (HRt.out.after b35)
    replace HRy := Lib.hid (HRy.out.after b35)
    have HO35 := Lib.hid o35
    clear o35
    clear b35
    have cr0 := HRr.out.1.c0
    have cr1 := HRr.out.1.c1
    have ltr := HRr.out.1.lt
    have cf0 := HRf.out.1.c0
    have cf1 := HRf.out.1.c1
    have ltf := HRf.out.1.lt
    have cg0 := HRg.out.1.c0
    have cg1 := HRg.out.1.c1
    have ltg := HRg.out.1.lt
    have cm0 := HRm.out.1.c0
    have cm1 := HRm.out.1.c1
    have ltm := HRm.out.1.lt
    have ct0 := HRt.out.1.c0
    have ct1 := HRt.out.1.c1
    have ltt := HRt.out.1.lt
    have cy0 := HRy.out.1.c0
    have cy1 := HRy.out.1.c1
    have lty := HRy.out.1.lt
    go_wp2_with fail
    refine withWorldC fun Y36 hY => ?_
    have gB : Below w35.heap.size w35 Y36 := (by rw [hY]; (repeat (first | (with_reducible exact (Below.refl _ _)) | (with_reducible refine bel_alloc ?_ _) | (with_reducible refine Below.drew ?_) | (with_reducible refine bel_drewN ?_ _) | (with_reducible refine Below.setCell ?_ (by simp) _))))
    have HRz : Hid (RH Y36 w35.heap.size (N2) (.slice ax35 (formV (N2) (x2)).length kx35) (formV (N2) (x2))) := (by unfold Hid; rw [hY]; (repeat (first | exact RH.new HO35.out | (with_reducible refine RH.alloc ?_ _) | (with_reducible refine RH.drewN ?_ _))))
    replace HB := Lib.hid (bel_step HB.out gB HB.out.size)
    replace HRr := Lib.hid (HRr.out.after gB)
    replace HRf := Lib.hid (HRf.out.after gB)
    replace HRg := Lib.hid (HRg.out.after gB)
    replace HRm := Lib.hid (HRm.out.after gB)
    replace HRt := Lib.hid (HRt.out.after gB)
    replace HRy := Lib.hid (HRy.out.after gB)
    clear HO35
    clear hY gB cr0 cr1 ltr cf0 cf1 ltf cg0 cg1 ltg cm0 cm1 ltm ct0 ct1 ltt cy0 cy1 lty
    refine region_held (fun V => Below Y36.heap.size Y36 V) (by kernel_rfl) (by kernel_rfl) ((Below.refl _ _).drew) (fun V V' h1 h2 => bel_step h1 h2 h1.size) fun U val hne hv hcall => ?_
    have HC := Lib.hid hcall
    have zr0 : ∀ u, (val u).cell? ⟨w1.heap.size, 0, none⟩ = some (.int .i64 (N2)) := fun u => ((bcell (hv u)).1 _ _ HRr.out.1.lt).trans HRr.out.1.c0
    have zr1 : ∀ u, (val u).cell? ⟨w1.heap.size, 1, none⟩ = some (.slice a9 x2.length k9) := fun u => ((bcell (hv u)).1 _ _ HRr.out.1.lt).trans HRr.out.1.c1
    have zf0 : ∀ u, (val u).cell? ⟨w24.heap.size, 0, none⟩ = some (.int .i64 (N2)) := fun u => ((bcell (hv u)).1 _ _ HRf.out.1.lt).trans HRf.out.1.c0
    have zf1 : ∀ u, (val u).cell? ⟨w24.heap.size, 1, none⟩ = some (.slice ax24 (leastV (N2) (x2)).length kx24) := fun u => ((bcell (hv u)).1 _ _ HRf.out.1.lt).trans HRf.out.1.c1
    have zg0 : ∀ u, (val u).cell? ⟨w25.heap.size, 0, none⟩ = some (.int .i64 (N2)) := fun u => ((bcell (hv u)).1 _ _ HRg.out.1.lt).trans HRg.out.1.c0
    have zg1 : ∀ u, (val u).cell? ⟨w25.heap.size, 1, none⟩ = some (.slice ax25 (formV (N2) (x2)).length kx25) := fun u => ((bcell (hv u)).1 _ _ HRg.out.1.lt).trans HRg.out.1.c1
    have zm0 : ∀ u, (val u).cell? ⟨w26.heap.size, 0, none⟩ = some (.int .i64 (N2)) := fun u => ((bcell (hv u)).1 _ _ HRm.out.1.lt).trans HRm.out.1.c0
    have zm1 : ∀ u, (val u).cell? ⟨w26.heap.size, 1, none⟩ = some (.slice ax26 (mapV (N2) (x2) (-1) 0).length kx26) := fun u => ((bcell (hv u)).1 _ _ HRm.out.1.lt).trans HRm.out.1.c1
    have zt0 : ∀ u, (val u).cell? ⟨w33.heap.size, 0, none⟩ = some (.int .i64 (N2)) := fun u => ((bcell (hv u)).1 _ _ HRt.out.1.lt).trans HRt.out.1.c0
    have zt1 : ∀ u, (val u).cell? ⟨w33.heap.size, 1, none⟩ = some (.slice ax33 (mapV (N2) (x2) 1 KK).length kx33) := fun u => ((bcell (hv u)).1 _ _ HRt.out.1.lt).trans HRt.out.1.c1
    have zy0 : ∀ u, (val u).cell? ⟨w34.heap.size, 0, none⟩ = some (.int .i64 (N2)) := fun u => ((bcell (hv u)).1 _ _ HRy.out.1.lt).trans HRy.out.1.c0
    have zy1 : ∀ u, (val u).cell? ⟨w34.heap.size, 1, none⟩ = some (.slice ax34 (leastV (N2) (x2)).length kx34) := fun u => ((bcell (hv u)).1 _ _ HRy.out.1.lt).trans HRy.out.1.c1
    have zz0 : ∀ u, (val u).cell? ⟨w35.heap.size, 0, none⟩ = some (.int .i64 (N2)) := fun u => ((bcell (hv u)).1 _ _ HRz.out.1.lt).trans HRz.out.1.c0
    have zz1 : ∀ u, (val u).cell? ⟨w35.heap.size, 1, none⟩ = some (.slice ax35 (formV (N2) (x2)).length kx35) := fun u => ((bcell (hv u)).1 _ _ HRz.out.1.lt).trans HRz.out.1.c1
    have HV := Lib.hid hv
    clear hv hcall
    repeat (go_big_quiet_step ((first | (go_at_call 21; exact HC.out _ _ _ _ (lawRhythmsY _ _ _ (leastV (N2) (x2)) (leastV (N2) (x2)) _ rfl (HRy.out.2.ofBelow (HV.out _)) (HRf.out.2.ofBelow (HV.out _)))) | (go_at_call 21; exact HC.out _ _ _ _ (lawRhythmsY _ _ _ (formV (N2) (x2)) (formV (N2) (x2)) _ rfl (HRz.out.2.ofBelow (HV.out _)) (HRg.out.2.ofBelow (HV.out _)))) | (go_at_call 24; exact HC.out _ _ _ _ (rotToY _ _ _ (x2) (mapV (N2) (x2) 1 KK) _ _ HRok.out HTR.out HTO.out (HRr.out.2.ofBelow (HV.out _)) (HRt.out.2.ofBelow (HV.out _)))) | (go_at_call 25; exact HC.out _ _ _ _ (areRotY _ _ _ (x2) (leastV (N2) (x2)) true _ HRok.out HFR.out (least_rot HRok.out) (HRr.out.2.ofBelow (HV.out _)) (HRf.out.2.ofBelow (HV.out _)))) | (go_at_call 26; exact HC.out _ _ _ _ (areFormsY _ _ _ (x2) (mapV (N2) (x2) (-1) 0) true _ HRok.out HMR.out (form_mir HRok.out) (HRr.out.2.ofBelow (HV.out _)) (HRm.out.2.ofBelow (HV.out _)))) | (go_at_call 26; exact HC.out _ _ _ _ (areFormsY _ _ _ (x2) (formV (N2) (x2)) true _ HRok.out HGR.out (form_form HRok.out) (HRr.out.2.ofBelow (HV.out _)) (HRg.out.2.ofBelow (HV.out _)))) | (go_at_call 25; exact HC.out _ _ _ _ (areRotY _ _ _ (x2) (mapV (N2) (x2) (-1) 0) true _ HRok.out HMR.out (mir_rotB HRok.out HMB.out) (HRr.out.2.ofBelow (HV.out _)) (HRm.out.2.ofBelow (HV.out _)))) | (go_at_call 19; exact HC.out _ _ _ _ (mirroredY _ _ (x2) true _ HRok.out HMB.out (HRr.out.2.ofBelow (HV.out _)))) | (go_at_call 13; exact HC.out _ _ _ _ (periodY _ _ (mapV (N2) (x2) 1 KK) _ _ HTR.out HTP.out (HRt.out.2.ofBelow (HV.out _)))))))
    refine wpQuiet_nil ?_
    rintro _ ⟨u, rfl⟩
    have gu := HV.out u
    clear HC HV zr0 zr1 zf0 zf1 zg0 zg1 zm0 zm1 zt0 zt1 zy0 zy1 zz0 zz1 
    generalize val u = w36 at gu ⊢
    clear u hne val
    replace HB := Lib.hid (bel_step HB.out gu HB.out.size)
    replace HRr := Lib.hid (HRr.out.after gu)
    replace HRf := Lib.hid (HRf.out.after gu)
    replace HRg := Lib.hid (HRg.out.after gu)
    replace HRm := Lib.hid (HRm.out.after gu)
    replace HRt := Lib.hid (HRt.out.after gu)
    replace HRy := Lib.hid (HRy.out.after gu)
    replace HRz := Lib.hid (HRz.out.after gu)
    clear gu
    have cr0 := HRr.out.1.c0
    have cr1 := HRr.out.1.c1
    have ltr := HRr.out.1.lt
    have cf0 := HRf.out.1.c0
    have cf1 := HRf.out.1.c1
    have ltf := HRf.out.1.lt
    have cg0 := HRg.out.1.c0
    have cg1 := HRg.out.1.c1
    have ltg := HRg.out.1.lt
    have cm0 := HRm.out.1.c0
    have cm1 := HRm.out.1.c1
    have ltm := HRm.out.1.lt
    have ct0 := HRt.out.1.c0
    have ct1 := HRt.out.1.c1
    have ltt := HRt.out.1.lt
    have cy0 := HRy.out.1.c0
    have cy1 := HRy.out.1.c1
    have lty := HRy.out.1.lt
    have cz0 := HRz.out.1.c0
    have cz1 := HRz.out.1.c1
    have ltz := HRz.out.1.lt
    go_wp2
    go_ret
    exact ⟨rfl, HB.out⟩
end Go.Proofs.Ytopfenhphnmfkaa.fnForms
