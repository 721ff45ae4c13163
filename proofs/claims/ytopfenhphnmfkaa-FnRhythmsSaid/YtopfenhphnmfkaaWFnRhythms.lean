/-
  The walk of FnRhythms: it returns true and writes nothing that was there.
  Conditions: the arguments lie in memory as the statement's reading says.
-/
import Derived.Test.YtopfenhphnmfkaaL1
import Derived.Test.YtopfenhphnmfkaaE3
import Derived.Test.YtopfenhphnmfkaaB0
set_option linter.unusedVariables false
set_option linter.unusedSimpArgs false
namespace Go.Proofs.Ytopfenhphnmfkaa.fnRhythms
open Go.RowKit
set_option linter.unusedVariables false

set_option maxRecDepth 20000 in
set_option maxHeartbeats 4000000 in
theorem walk (w : World) (v0 : Value) (z0 : Nat) (h0 : Bytes w w.heap.size v0 z0) :
    Calls Try.prog 7 #[v0] w fun e w' => e = .returned (.bool true) ∧ Below w.heap.size w w' := by
  have h0' := h0
  obtain ⟨ad0, cap0, rfl, -⟩ := h0'
  by_cases s0 : 1048576 < z0
  · go_enter Try.func7, Try.ntmps7
    go_wp2
    go_ret
    exact ⟨rfl, Below.refl _ _⟩
  have hm0 : z0 ≤ 1048576 := by omega
  have HH0 := Lib.hid h0
  clear h0
  have HB : Hid (Below w.heap.size w w) := Below.refl _ _
  go_enter Try.func7, Try.ntmps7
  go_wp2_with fail
  refine withWorld fun X1 hX => ?_
  have gB : Below w.heap.size w X1 := (by rw [hX]; (repeat (first | (with_reducible exact (Below.refl _ _)) | (with_reducible refine bel_alloc ?_ _) | (with_reducible refine Below.drew ?_) | (with_reducible refine bel_drewN ?_ _) | (with_reducible refine Below.setCell ?_ (by simp) _))))
  replace HB := Lib.hid (bel_step HB.out gB HB.out.size)
  clear hX gB
  refine (specMakeRhythm _ z0 0 16 _ hm0 (by decide) (by decide) (by decide) ((HH0.out.below HB.out).mono HB.out.size)).mono ?_
  rintro e w1 ⟨N, x, ax1, kx1, rfl, hN16, hR, o1, b1⟩
  replace HB := Lib.hid (bel_step HB.out b1 HB.out.size)
  have HO1 := Lib.hid o1
  clear o1
  clear b1
  have hlo := hR.lo
  go_wp2_with fail
  refine withWorld fun X2 hX => ?_
  have gB : Below w1.heap.size w1 X2 := (by rw [hX]; (repeat (first | (with_reducible exact (Below.refl _ _)) | (with_reducible refine bel_alloc ?_ _) | (with_reducible refine Below.drew ?_) | (with_reducible refine bel_drewN ?_ _) | (with_reducible refine Below.setCell ?_ (by simp) _))))
  have HRr : Hid (RH X2 w1.heap.size (N) (.slice ax1 x.length kx1) (x)) := (by unfold Hid; rw [hX]; (repeat (first | exact RH.new HO1.out | (with_reducible refine RH.alloc ?_ _) | (with_reducible refine RH.drewN ?_ _))))
  replace HB := Lib.hid (bel_step HB.out gB HB.out.size)
  clear HO1
  clear hX gB
  refine (specMakeNum _ z0 30 _ hm0 (by decide) ((HH0.out.below HB.out).mono HB.out.size)).mono ?_
  rintro e w2 ⟨⟨r30, hr0, hr1, rfl⟩, b2⟩
  replace HB := Lib.hid (bel_step HB.out b2 HB.out.size)
  replace HRr := Lib.hid (HRr.out.after b2)
  clear b2
  have cr0 := HRr.out.1.c0
  have cr1 := HRr.out.1.c1
  have ltr := HRr.out.1.lt
  obtain ⟨K, hK⟩ : ∃ K : Int, r30 % 40 - 20 = K := ⟨_, rfl⟩
  have hK0 : -20 ≤ K := by omega
  have hK1 : K ≤ 20 := by omega
  have hA := mapV_rok hlo hR.hi x 1 K
  have hM := mapV_rok hlo hR.hi x (-1) 0
  have hO := oth_rok hlo hR.hi x
  have HRok := Lib.hid hR
  have HA := Lib.hid hA
  have HM := Lib.hid hM
  have HO := Lib.hid hO
  clear hA hM hO
  go_wp2_with fail
  clear hK hr0 hr1
  refine withWorld fun X3 hX => ?_
  have gB : Below w2.heap.size w2 X3 := (by rw [hX]; (repeat (first | (with_reducible exact (Below.refl _ _)) | (with_reducible refine bel_alloc ?_ _) | (with_reducible refine Below.drew ?_) | (with_reducible refine bel_drewN ?_ _) | (with_reducible refine Below.setCell ?_ (by simp) _))))
  replace HB := Lib.hid (bel_step HB.out gB HB.out.size)
  replace HRr := Lib.hid (HRr.out.after gB)
  clear hX gB cr0 cr1 ltr
  refine (rotateY _ _ x K _ HRok.out (by omega) (by omega) _ rfl HRr.out.2).mono ?_
  rintro e w3 ⟨ax3, kx3, rfl, o3, b3⟩
  replace HB := Lib.hid (bel_step HB.out b3 HB.out.size)
  replace HRr := Lib.hid (HRr.out.after b3)
  have HO3 := Lib.hid o3
  clear o3
  clear b3
  have cr0 := HRr.out.1.c0
  have cr1 := HRr.out.1.c1
  have ltr := HRr.out.1.lt
  go_wp2_with fail
  refine withWorld fun X4 hX => ?_
  have gB : Below w3.heap.size w3 X4 := (by rw [hX]; (repeat (first | (with_reducible exact (Below.refl _ _)) | (with_reducible refine bel_alloc ?_ _) | (with_reducible refine Below.drew ?_) | (with_reducible refine bel_drewN ?_ _) | (with_reducible refine Below.setCell ?_ (by simp) _))))
  have HRa : Hid (RH X4 w3.heap.size (N) (.slice ax3 (mapV N x 1 K).length kx3) (mapV N x 1 K)) := (by unfold Hid; rw [hX]; (repeat (first | exact RH.new HO3.out | (with_reducible refine RH.alloc ?_ _) | (with_reducible refine RH.drewN ?_ _))))
  replace HB := Lib.hid (bel_step HB.out gB HB.out.size)
  replace HRr := Lib.hid (HRr.out.after gB)
  clear HO3
  clear hX gB cr0 cr1 ltr
  refine (rotateY _ _ (mapV N x 1 K) _ _ HA.out (by omega) (by omega) x (rot_back HRok.out K) HRa.out.2).mono ?_
  rintro e w4 ⟨ax4, kx4, rfl, o4, b4⟩
  replace HB := Lib.hid (bel_step HB.out b4 HB.out.size)
  replace HRr := Lib.hid (HRr.out.after b4)
  replace HRa := Lib.hid (HRa.out.after b4)
  have HO4 := Lib.hid o4
  clear o4
  clear b4
  have cr0 := HRr.out.1.c0
  have cr1 := HRr.out.1.c1
  have ltr := HRr.out.1.lt
  have ca0 := HRa.out.1.c0
  have ca1 := HRa.out.1.c1
  have lta := HRa.out.1.lt
  go_wp2_with fail
  refine withWorld fun X5 hX => ?_
  have gB : Below w4.heap.size w4 X5 := (by rw [hX]; (repeat (first | (with_reducible exact (Below.refl _ _)) | (with_reducible refine bel_alloc ?_ _) | (with_reducible refine Below.drew ?_) | (with_reducible refine bel_drewN ?_ _) | (with_reducible refine Below.setCell ?_ (by simp) _))))
  have HRb : Hid (RH X5 w4.heap.size (N) (.slice ax4 x.length kx4) (x)) := (by unfold Hid; rw [hX]; (repeat (first | exact RH.new HO4.out | (with_reducible refine RH.alloc ?_ _) | (with_reducible refine RH.drewN ?_ _))))
  replace HB := Lib.hid (bel_step HB.out gB HB.out.size)
  replace HRr := Lib.hid (HRr.out.after gB)
  replace HRa := Lib.hid (HRa.out.after gB)
  clear HO4
  clear hX gB cr0 cr1 ltr ca0 ca1 lta
  refine (mirrorY _ _ x _ HRok.out _ rfl HRr.out.2).mono ?_
  rintro e w5 ⟨ax5, kx5, rfl, o5, b5⟩
  replace HB := Lib.hid (bel_step HB.out b5 HB.out.size)
  replace HRr := Lib.hid (HRr.out.after b5)
  replace HRa := Lib.hid (HRa.out.after b5)
  replace HRb := Lib.hid (HRb.out.after b5)
  have HO5 := Lib.hid o5
  clear o5
  clear b5
  have cr0 := HRr.out.1.c0
  have cr1 := HRr.out.1.c1
  have ltr := HRr.out.1.lt
  have ca0 := HRa.out.1.c0
  have ca1 := HRa.out.1.c1
  have lta := HRa.out.1.lt
  have cb0 := HRb.out.1.c0
  have cb1 := HRb.out.1.c1
  have ltb := HRb.out.1.lt
  go_wp2_with fail
  refine withWorld fun X6 hX => ?_
  have gB : Below w5.heap.size w5 X6 := (by rw [hX]; (repeat (first | (with_reducible exact (Below.refl _ _)) | (with_reducible refine bel_alloc ?_ _) | (with_reducible refine Below.drew ?_) | (with_reducible refine bel_drewN ?_ _) | (with_reducible refine Below.setCell ?_ (by simp) _))))
  have HRm : Hid (RH X6 w5.heap.size (N) (.slice ax5 (mapV N x (-1) 0).length kx5) (mapV N x (-1) 0)) := (by unfold Hid; rw [hX]; (repeat (first | exact RH.new HO5.out | (with_reducible refine RH.alloc ?_ _) | (with_reducible refine RH.drewN ?_ _))))
  replace HB := Lib.hid (bel_step HB.out gB HB.out.size)
  replace HRr := Lib.hid (HRr.out.after gB)
  replace HRa := Lib.hid (HRa.out.after gB)
  replace HRb := Lib.hid (HRb.out.after gB)
  clear HO5
  clear hX gB cr0 cr1 ltr ca0 ca1 lta cb0 cb1 ltb
  refine (mirrorY _ _ (mapV N x (-1) 0) _ HM.out x (mir_back HRok.out) HRm.out.2).mono ?_
  rintro e w6 ⟨ax6, kx6, rfl, o6, b6⟩
  replace HB := Lib.hid (bel_step HB.out b6 HB.out.size)
  replace HRr := Lib.hid (HRr.out.after b6)
  replace HRa := Lib.hid (HRa.out.after b6)
  replace HRb := Lib.hid (HRb.out.after b6)
  replace HRm := Lib.hid (HRm.out.after b6)
  have HO6 := Lib.hid o6
  clear o6
  clear b6
  have cr0 := HRr.out.1.c0
  have cr1 := HRr.out.1.c1
  have ltr := HRr.out.1.lt
  have ca0 := HRa.out.1.c0
  have ca1 := HRa.out.1.c1
  have lta := HRa.out.1.lt
  have cb0 := HRb.out.1.c0
  have cb1 := HRb.out.1.c1
  have ltb := HRb.out.1.lt
  have cm0 := HRm.out.1.c0
  have cm1 := HRm.out.1.c1
  have ltm := HRm.out.1.lt
  go_wp2_with fail
  refine withWorld fun X7 hX => ?_
  have gB : Below w6.heap.size w6 X7 := (by rw [hX]; (repeat (first | (with_reducible exact (Below.refl _ _)) | (with_reducible refine bel_alloc ?_ _) | (with_reducible refine Below.drew ?_) | (with_reducible refine bel_drewN ?_ _) | (with_reducible refine Below.setCell ?_ (by simp) _))))
  have HRw : Hid (RH X7 w6.heap.size (N) (.slice ax6 x.length kx6) (x)) := (by unfold Hid; rw [hX]; (repeat (first | exact RH.new HO6.out | (with_reducible refine RH.alloc ?_ _) | (with_reducible refine RH.drewN ?_ _))))
  replace HB := Lib.hid (bel_step HB.out gB HB.out.size)
  replace HRr := Lib.hid (HRr.out.after gB)
  replace HRa := Lib.hid (HRa.out.after gB)
  replace HRb := Lib.hid (HRb.out.after gB)
  replace HRm := Lib.hid (HRm.out.after gB)
  clear HO6
  clear hX gB cr0 cr1 ltr ca0 ca1 lta cb0 cb1 ltb cm0 cm1 ltm
  refine (otherY _ _ x _ HRok.out _ rfl HRr.out.2).mono ?_
  rintro e w7 ⟨ax7, kx7, rfl, o7, b7⟩
  replace HB := Lib.hid (bel_step HB.out b7 HB.out.size)
  replace HRr := Lib.hid (HRr.out.after b7)
  replace HRa := Lib.hid (HRa.out.after b7)
  replace HRb := Lib.hid (HRb.out.after b7)
  replace HRm := Lib.hid (HRm.out.after b7)
  replace HRw := Lib.hid (HRw.out.after b7)
  have HO7 := Lib.hid o7
  clear o7
  clear b7
  have cr0 := HRr.out.1.c0
  have cr1 := HRr.out.1.c1
  have ltr := HRr.out.1.lt
  have ca0 := HRa.out.1.c0
  have ca1 := HRa.out.1.c1
  have lta := HRa.out.1.lt
  have cb0 := HRb.out.1.c0
  have cb1 := HRb.out.1.c1
  have ltb := HRb.out.1.lt
  have cm0 := HRm.out.1.c0
  have cm1 := HRm.out.1.c1
  have ltm := HRm.out.1.lt
  have cw0 := HRw.out.1.c0
  have cw1 := HRw.out.1.c1
  have ltw := HRw.out.1.lt
  go_wp2_with fail
  refine withWorld fun X8 hX => ?_
  have gB : Below w7.heap.size w7 X8 := (by rw [hX]; (repeat (first | (with_reducible exact (Below.refl _ _)) | (with_reducible refine bel_alloc ?_ _) | (with_reducible refine Below.drew ?_) | (with_reducible refine bel_drewN ?_ _) | (with_reducible refine Below.setCell ?_ (by simp) _))))
  have HRo : Hid (RH X8 w7.heap.size (N) (.slice ax7 (othTo x N.toNat).length kx7) (othTo x N.toNat)) := (by unfold Hid; rw [hX]; (repeat (first | exact RH.new HO7.out | (with_reducible refine RH.alloc ?_ _) | (with_reducible refine RH.drewN ?_ _))))
  replace HB := Lib.hid (bel_step HB.out gB HB.out.size)
  replace HRr := Lib.hid (HRr.out.after gB)
  replace HRa := Lib.hid (HRa.out.after gB)
  replace HRb := Lib.hid (HRb.out.after gB)
  replace HRm := Lib.hid (HRm.out.after gB)
  replace HRw := Lib.hid (HRw.out.after gB)
  clear HO7
  clear hX gB cr0 cr1 ltr ca0 ca1 lta cb0 cb1 ltb cm0 cm1 ltm cw0 cw1 ltw
  refine (otherY _ _ (othTo x N.toNat) _ HO.out x (oth_oth HRok.out) HRo.out.2).mono ?_
  rintro e w8 ⟨ax8, kx8, rfl, o8, b8⟩
  replace HB := Lib.hid (bel_step HB.out b8 HB.out.size)
  replace HRr := Lib.hid (HRr.out.after b8)
  replace HRa := Lib.hid (HRa.out.after b8)
  replace HRb := Lib.hid (HRb.out.after b8)
  replace HRm := Lib.hid (HRm.out.after b8)
  replace HRw := Lib.hid (HRw.out.after b8)
  replace HRo := Lib.hid (HRo.out.after b8)
  have HO8 := Lib.hid o8
  clear o8
  clear b8
  have cr0 := HRr.out.1.c0
  have cr1 := HRr.out.1.c1
  have ltr := HRr.out.1.lt
  have ca0 := HRa.out.1.c0
  have ca1 := HRa.out.1.c1
  have lta := HRa.out.1.lt
  have cb0 := HRb.out.1.c0
  have cb1 := HRb.out.1.c1
  have ltb := HRb.out.1.lt
  have cm0 := HRm.out.1.c0
  have cm1 := HRm.out.1.c1
  have ltm := HRm.out.1.lt
  have cw0 := HRw.out.1.c0
  have cw1 := HRw.out.1.c1
  have ltw := HRw.out.1.lt
  have co0 := HRo.out.1.c0
  have co1 := HRo.out.1.c1
  have lto := HRo.out.1.lt
  have hl1 : (othTo x N.toNat).length ≤ 24 := HO.out.len24
  have hl2 : x.length ≤ 24 := HRok.out.len24
  have hsum : ((((othTo x N.toNat).length : Nat) : Int) + ((x.length : Nat) : Int) != N) = false := by have := oth_len HRok.out; simp; omega
  go_wp2_with fail
  refine withWorldC fun Y9 hY => ?_
  have gB : Below w8.heap.size w8 Y9 := (by rw [hY]; (repeat (first | (with_reducible exact (Below.refl _ _)) | (with_reducible refine bel_alloc ?_ _) | (with_reducible refine Below.drew ?_) | (with_reducible refine bel_drewN ?_ _) | (with_reducible refine Below.setCell ?_ (by simp) _))))
  have HRv : Hid (RH Y9 w8.heap.size (N) (.slice ax8 x.length kx8) (x)) := (by unfold Hid; rw [hY]; (repeat (first | exact RH.new HO8.out | (with_reducible refine RH.alloc ?_ _) | (with_reducible refine RH.drewN ?_ _))))
  replace HB := Lib.hid (bel_step HB.out gB HB.out.size)
  replace HRr := Lib.hid (HRr.out.after gB)
  replace HRa := Lib.hid (HRa.out.after gB)
  replace HRb := Lib.hid (HRb.out.after gB)
  replace HRm := Lib.hid (HRm.out.after gB)
  replace HRw := Lib.hid (HRw.out.after gB)
  replace HRo := Lib.hid (HRo.out.after gB)
  clear HO8
  clear hY gB cr0 cr1 ltr ca0 ca1 lta cb0 cb1 ltb cm0 cm1 ltm cw0 cw1 ltw co0 co1 lto
  refine region_held (fun V => Below Y9.heap.size Y9 V) (by kernel_rfl) (by kernel_rfl) ((Below.refl _ _).drew) (fun V V' h1 h2 => bel_step h1 h2 h1.size) fun U val hne hv hcall => ?_
  have HC := Lib.hid hcall
  have zb0 : ∀ u, (val u).cell? ⟨w4.heap.size, 0, none⟩ = some (.int .i64 (N)) := fun u => ((bcell (hv u)).1 _ _ HRb.out.1.lt).trans HRb.out.1.c0
  have zb1 : ∀ u, (val u).cell? ⟨w4.heap.size, 1, none⟩ = some (.slice ax4 x.length kx4) := fun u => ((bcell (hv u)).1 _ _ HRb.out.1.lt).trans HRb.out.1.c1
  have zr0 : ∀ u, (val u).cell? ⟨w1.heap.size, 0, none⟩ = some (.int .i64 (N)) := fun u => ((bcell (hv u)).1 _ _ HRr.out.1.lt).trans HRr.out.1.c0
  have zr1 : ∀ u, (val u).cell? ⟨w1.heap.size, 1, none⟩ = some (.slice ax1 x.length kx1) := fun u => ((bcell (hv u)).1 _ _ HRr.out.1.lt).trans HRr.out.1.c1
  have zw0 : ∀ u, (val u).cell? ⟨w6.heap.size, 0, none⟩ = some (.int .i64 (N)) := fun u => ((bcell (hv u)).1 _ _ HRw.out.1.lt).trans HRw.out.1.c0
  have zw1 : ∀ u, (val u).cell? ⟨w6.heap.size, 1, none⟩ = some (.slice ax6 x.length kx6) := fun u => ((bcell (hv u)).1 _ _ HRw.out.1.lt).trans HRw.out.1.c1
  have zv0 : ∀ u, (val u).cell? ⟨w8.heap.size, 0, none⟩ = some (.int .i64 (N)) := fun u => ((bcell (hv u)).1 _ _ HRv.out.1.lt).trans HRv.out.1.c0
  have zv1 : ∀ u, (val u).cell? ⟨w8.heap.size, 1, none⟩ = some (.slice ax8 x.length kx8) := fun u => ((bcell (hv u)).1 _ _ HRv.out.1.lt).trans HRv.out.1.c1
  have za0 : ∀ u, (val u).cell? ⟨w3.heap.size, 0, none⟩ = some (.int .i64 (N)) := fun u => ((bcell (hv u)).1 _ _ HRa.out.1.lt).trans HRa.out.1.c0
  have za1 : ∀ u, (val u).cell? ⟨w3.heap.size, 1, none⟩ = some (.slice ax3 (mapV N x 1 K).length kx3) := fun u => ((bcell (hv u)).1 _ _ HRa.out.1.lt).trans HRa.out.1.c1
  have zo0 : ∀ u, (val u).cell? ⟨w7.heap.size, 0, none⟩ = some (.int .i64 (N)) := fun u => ((bcell (hv u)).1 _ _ HRo.out.1.lt).trans HRo.out.1.c0
  have zo1 : ∀ u, (val u).cell? ⟨w7.heap.size, 1, none⟩ = some (.slice ax7 (othTo x N.toNat).length kx7) := fun u => ((bcell (hv u)).1 _ _ HRo.out.1.lt).trans HRo.out.1.c1
  have HV := Lib.hid hv
  clear hv hcall
  repeat (go_big_quiet_step ((first | (go_at_call 21; exact HC.out _ _ _ _ (lawRhythmsY _ _ _ x x _ rfl (HRb.out.2.ofBelow (HV.out _)) (HRr.out.2.ofBelow (HV.out _)))) | (go_at_call 21; exact HC.out _ _ _ _ (lawRhythmsY _ _ _ x x _ rfl (HRw.out.2.ofBelow (HV.out _)) (HRr.out.2.ofBelow (HV.out _)))) | (go_at_call 21; exact HC.out _ _ _ _ (lawRhythmsY _ _ _ x x _ rfl (HRv.out.2.ofBelow (HV.out _)) (HRr.out.2.ofBelow (HV.out _)))) | (go_at_call 43; exact HC.out _ _ _ _ (countY _ _ (mapV N x 1 K) x.length _ HA.out (rot_length HRok.out K) (HRa.out.2.ofBelow (HV.out _)))) | (go_at_call 43; exact HC.out _ _ _ _ (countY _ _ (othTo x N.toNat) _ _ HO.out rfl (HRo.out.2.ofBelow (HV.out _)))))))
  refine wpQuiet_nil ?_
  rintro _ ⟨u, rfl⟩
  have gu := HV.out u
  clear HC HV zb0 zb1 zr0 zr1 zw0 zw1 zv0 zv1 za0 za1 zo0 zo1
  generalize val u = w9 at gu ⊢
  clear u hne val
  replace HB := Lib.hid (bel_step HB.out gu HB.out.size)
  replace HRr := Lib.hid (HRr.out.after gu)
  replace HRa := Lib.hid (HRa.out.after gu)
  replace HRb := Lib.hid (HRb.out.after gu)
  replace HRm := Lib.hid (HRm.out.after gu)
  replace HRw := Lib.hid (HRw.out.after gu)
  replace HRo := Lib.hid (HRo.out.after gu)
  replace HRv := Lib.hid (HRv.out.after gu)
  clear gu
  have cr0 := HRr.out.1.c0
  have cr1 := HRr.out.1.c1
  have ltr := HRr.out.1.lt
  have ca0 := HRa.out.1.c0
  have ca1 := HRa.out.1.c1
  have lta := HRa.out.1.lt
  have cb0 := HRb.out.1.c0
  have cb1 := HRb.out.1.c1
  have ltb := HRb.out.1.lt
  have cm0 := HRm.out.1.c0
  have cm1 := HRm.out.1.c1
  have ltm := HRm.out.1.lt
  have cw0 := HRw.out.1.c0
  have cw1 := HRw.out.1.c1
  have ltw := HRw.out.1.lt
  have co0 := HRo.out.1.c0
  have co1 := HRo.out.1.c1
  have lto := HRo.out.1.lt
  have cv0 := HRv.out.1.c0
  have cv1 := HRv.out.1.c1
  have ltv := HRv.out.1.lt
  clear hsum hl1 hl2 cr0 cr1 ltr ca0 ca1 lta cb0 cb1 ltb cm0 cm1 ltm cw0 cw1 ltw co0 co1 lto cv0 cv1 ltv
  go_wp2_with fail
  clear HRb
  clear HRw
  clear HRv
  have HL : Hid (Below w9.heap.size w9 w9) := Below.refl _ _
  go_loopw [18] (fun i wr => ∃ p : Nat, (p : Int) ≤ N ∧ i = .int .i64 p ∧ Below w9.heap.size w9 wr) (fun i _ => (N - intOf i).toNat)
  case atStart => exact ⟨0, by omega, rfl, Below.refl _ _⟩
  case round =>
    obtain ⟨p, hp, rfl, gu⟩ := hrel
    replace HB := Lib.hid (bel_step HB.out gu HB.out.size)
    replace HRr := Lib.hid (HRr.out.after gu)
    replace HRa := Lib.hid (HRa.out.after gu)
    replace HRm := Lib.hid (HRm.out.after gu)
    replace HRo := Lib.hid (HRo.out.after gu)
    replace HL := Lib.hid (bel_step HL.out gu HL.out.size)
    clear gu
    by_cases hlt : (p : Int) < N
    · cases hB : hasL x (mo (p : Int) N) with
      | true =>
        have H1 := Lib.hid hB
        have H2 := Lib.hid ((has_rot HRok.out K (p : Int)).trans hB)
        have H3 := Lib.hid ((has_mir HRok.out (p : Int)).trans hB)
        have H4 : Hid (hasL (othTo x N.toNat) (mo (p : Int) N) = false) := by have := has_oth HRok.out (p : Int); rw [hB] at this; exact this
        clear hB
        have cr0 := HRr.out.1.c0
        have cr1 := HRr.out.1.c1
        have ltr := HRr.out.1.lt
        have ca0 := HRa.out.1.c0
        have ca1 := HRa.out.1.c1
        have lta := HRa.out.1.lt
        have cm0 := HRm.out.1.c0
        have cm1 := HRm.out.1.c1
        have ltm := HRm.out.1.lt
        have co0 := HRo.out.1.c0
        have co1 := HRo.out.1.c1
        have lto := HRo.out.1.lt
        go_wp2_with fail
        refine withWorldC fun Y10 hY => ?_
        have gB : Below wr.heap.size wr Y10 := (by rw [hY]; (repeat (first | (with_reducible exact (Below.refl _ _)) | (with_reducible refine bel_alloc ?_ _) | (with_reducible refine Below.drew ?_) | (with_reducible refine bel_drewN ?_ _) | (with_reducible refine Below.setCell ?_ (by simp) _))))
        replace HB := Lib.hid (bel_step HB.out gB HB.out.size)
        replace HRr := Lib.hid (HRr.out.after gB)
        replace HRa := Lib.hid (HRa.out.after gB)
        replace HRm := Lib.hid (HRm.out.after gB)
        replace HRo := Lib.hid (HRo.out.after gB)
        replace HL := Lib.hid (bel_step HL.out gB HL.out.size)
        clear hY gB cr0 cr1 ltr ca0 ca1 lta cm0 cm1 ltm co0 co1 lto
        refine region_held (fun V => Below Y10.heap.size Y10 V) (by kernel_rfl) (by kernel_rfl) ((Below.refl _ _).drew) (fun V V' h1 h2 => bel_step h1 h2 h1.size) fun U val hne hv hcall => ?_
        have HC := Lib.hid hcall
        have zr0 : ∀ u, (val u).cell? ⟨w1.heap.size, 0, none⟩ = some (.int .i64 (N)) := fun u => ((bcell (hv u)).1 _ _ HRr.out.1.lt).trans HRr.out.1.c0
        have zr1 : ∀ u, (val u).cell? ⟨w1.heap.size, 1, none⟩ = some (.slice ax1 x.length kx1) := fun u => ((bcell (hv u)).1 _ _ HRr.out.1.lt).trans HRr.out.1.c1
        have za0 : ∀ u, (val u).cell? ⟨w3.heap.size, 0, none⟩ = some (.int .i64 (N)) := fun u => ((bcell (hv u)).1 _ _ HRa.out.1.lt).trans HRa.out.1.c0
        have za1 : ∀ u, (val u).cell? ⟨w3.heap.size, 1, none⟩ = some (.slice ax3 (mapV N x 1 K).length kx3) := fun u => ((bcell (hv u)).1 _ _ HRa.out.1.lt).trans HRa.out.1.c1
        have zm0 : ∀ u, (val u).cell? ⟨w5.heap.size, 0, none⟩ = some (.int .i64 (N)) := fun u => ((bcell (hv u)).1 _ _ HRm.out.1.lt).trans HRm.out.1.c0
        have zm1 : ∀ u, (val u).cell? ⟨w5.heap.size, 1, none⟩ = some (.slice ax5 (mapV N x (-1) 0).length kx5) := fun u => ((bcell (hv u)).1 _ _ HRm.out.1.lt).trans HRm.out.1.c1
        have zo0 : ∀ u, (val u).cell? ⟨w7.heap.size, 0, none⟩ = some (.int .i64 (N)) := fun u => ((bcell (hv u)).1 _ _ HRo.out.1.lt).trans HRo.out.1.c0
        have zo1 : ∀ u, (val u).cell? ⟨w7.heap.size, 1, none⟩ = some (.slice ax7 (othTo x N.toNat).length kx7) := fun u => ((bcell (hv u)).1 _ _ HRo.out.1.lt).trans HRo.out.1.c1
        have HV := Lib.hid hv
        clear hv hcall
        repeat (go_big_quiet_step ((first | (go_at_call 44; exact HC.out _ _ _ _ (hasY _ _ x _ true _ HRok.out ⟨by omega, by omega⟩ H1.out (HRr.out.2.ofBelow (HV.out _)))) | (go_at_call 44; exact HC.out _ _ _ _ (hasY _ _ (mapV N x 1 K) _ true _ HA.out ⟨by omega, by omega⟩ H2.out (HRa.out.2.ofBelow (HV.out _)))) | (go_at_call 44; exact HC.out _ _ _ _ (hasY _ _ (mapV N x (-1) 0) _ true _ HM.out ⟨by omega, by omega⟩ H3.out (HRm.out.2.ofBelow (HV.out _)))) | (go_at_call 44; exact HC.out _ _ _ _ (hasY _ _ (othTo x N.toNat) _ false _ HO.out ⟨by omega, by omega⟩ H4.out (HRo.out.2.ofBelow (HV.out _)))))))
        refine wpQuiet_nil ?_
        rintro _ ⟨u, rfl⟩
        have gu := HV.out u
        clear HC HV zr0 zr1 za0 za1 zm0 zm1 zo0 zo1
        generalize val u = w10 at gu ⊢
        clear u hne val
        replace HB := Lib.hid (bel_step HB.out gu HB.out.size)
        replace HRr := Lib.hid (HRr.out.after gu)
        replace HRa := Lib.hid (HRa.out.after gu)
        replace HRm := Lib.hid (HRm.out.after gu)
        replace HRo := Lib.hid (HRo.out.after gu)
        replace HL := Lib.hid (bel_step HL.out gu HL.out.size)
        clear gu
        have cr0 := HRr.out.1.c0
        have cr1 := HRr.out.1.c1
        have ltr := HRr.out.1.lt
        have ca0 := HRa.out.1.c0
        have ca1 := HRa.out.1.c1
        have lta := HRa.out.1.lt
        have cm0 := HRm.out.1.c0
        have cm1 := HRm.out.1.c1
        have ltm := HRm.out.1.lt
        have co0 := HRo.out.1.c0
        have co1 := HRo.out.1.c1
        have lto := HRo.out.1.lt
        go_wp2
        go_roundw
        case rel => exact ⟨p + 1, by omega, by go_num, HL.out⟩
        case measure => simp [intOf]; omega
      | false =>
        have H1 := Lib.hid hB
        have H2 := Lib.hid ((has_rot HRok.out K (p : Int)).trans hB)
        have H3 := Lib.hid ((has_mir HRok.out (p : Int)).trans hB)
        have H4 : Hid (hasL (othTo x N.toNat) (mo (p : Int) N) = true) := by have := has_oth HRok.out (p : Int); rw [hB] at this; exact this
        clear hB
        have cr0 := HRr.out.1.c0
        have cr1 := HRr.out.1.c1
        have ltr := HRr.out.1.lt
        have ca0 := HRa.out.1.c0
        have ca1 := HRa.out.1.c1
        have lta := HRa.out.1.lt
        have cm0 := HRm.out.1.c0
        have cm1 := HRm.out.1.c1
        have ltm := HRm.out.1.lt
        have co0 := HRo.out.1.c0
        have co1 := HRo.out.1.c1
        have lto := HRo.out.1.lt
        go_wp2_with fail
        refine withWorldC fun Y10 hY => ?_
        have gB : Below wr.heap.size wr Y10 := (by rw [hY]; (repeat (first | (with_reducible exact (Below.refl _ _)) | (with_reducible refine bel_alloc ?_ _) | (with_reducible refine Below.drew ?_) | (with_reducible refine bel_drewN ?_ _) | (with_reducible refine Below.setCell ?_ (by simp) _))))
        replace HB := Lib.hid (bel_step HB.out gB HB.out.size)
        replace HRr := Lib.hid (HRr.out.after gB)
        replace HRa := Lib.hid (HRa.out.after gB)
        replace HRm := Lib.hid (HRm.out.after gB)
        replace HRo := Lib.hid (HRo.out.after gB)
        replace HL := Lib.hid (bel_step HL.out gB HL.out.size)
        clear hY gB cr0 cr1 ltr ca0 ca1 lta cm0 cm1 ltm co0 co1 lto
        refine region_held (fun V => Below Y10.heap.size Y10 V) (by kernel_rfl) (by kernel_rfl) ((Below.refl _ _).drew) (fun V V' h1 h2 => bel_step h1 h2 h1.size) fun U val hne hv hcall => ?_
        have HC := Lib.hid hcall
        have zr0 : ∀ u, (val u).cell? ⟨w1.heap.size, 0, none⟩ = some (.int .i64 (N)) := fun u => ((bcell (hv u)).1 _ _ HRr.out.1.lt).trans HRr.out.1.c0
        have zr1 : ∀ u, (val u).cell? ⟨w1.heap.size, 1, none⟩ = some (.slice ax1 x.length kx1) := fun u => ((bcell (hv u)).1 _ _ HRr.out.1.lt).trans HRr.out.1.c1
        have za0 : ∀ u, (val u).cell? ⟨w3.heap.size, 0, none⟩ = some (.int .i64 (N)) := fun u => ((bcell (hv u)).1 _ _ HRa.out.1.lt).trans HRa.out.1.c0
        have za1 : ∀ u, (val u).cell? ⟨w3.heap.size, 1, none⟩ = some (.slice ax3 (mapV N x 1 K).length kx3) := fun u => ((bcell (hv u)).1 _ _ HRa.out.1.lt).trans HRa.out.1.c1
        have zm0 : ∀ u, (val u).cell? ⟨w5.heap.size, 0, none⟩ = some (.int .i64 (N)) := fun u => ((bcell (hv u)).1 _ _ HRm.out.1.lt).trans HRm.out.1.c0
        have zm1 : ∀ u, (val u).cell? ⟨w5.heap.size, 1, none⟩ = some (.slice ax5 (mapV N x (-1) 0).length kx5) := fun u => ((bcell (hv u)).1 _ _ HRm.out.1.lt).trans HRm.out.1.c1
        have zo0 : ∀ u, (val u).cell? ⟨w7.heap.size, 0, none⟩ = some (.int .i64 (N)) := fun u => ((bcell (hv u)).1 _ _ HRo.out.1.lt).trans HRo.out.1.c0
        have zo1 : ∀ u, (val u).cell? ⟨w7.heap.size, 1, none⟩ = some (.slice ax7 (othTo x N.toNat).length kx7) := fun u => ((bcell (hv u)).1 _ _ HRo.out.1.lt).trans HRo.out.1.c1
        have HV := Lib.hid hv
        clear hv hcall
        repeat (go_big_quiet_step ((first | (go_at_call 44; exact HC.out _ _ _ _ (hasY _ _ x _ false _ HRok.out ⟨by omega, by omega⟩ H1.out (HRr.out.2.ofBelow (HV.out _)))) | (go_at_call 44; exact HC.out _ _ _ _ (hasY _ _ (mapV N x 1 K) _ false _ HA.out ⟨by omega, by omega⟩ H2.out (HRa.out.2.ofBelow (HV.out _)))) | (go_at_call 44; exact HC.out _ _ _ _ (hasY _ _ (mapV N x (-1) 0) _ false _ HM.out ⟨by omega, by omega⟩ H3.out (HRm.out.2.ofBelow (HV.out _)))) | (go_at_call 44; exact HC.out _ _ _ _ (hasY _ _ (othTo x N.toNat) _ true _ HO.out ⟨by omega, by omega⟩ H4.out (HRo.out.2.ofBelow (HV.out _)))))))
        refine wpQuiet_nil ?_
        rintro _ ⟨u, rfl⟩
        have gu := HV.out u
        clear HC HV zr0 zr1 za0 za1 zm0 zm1 zo0 zo1
        generalize val u = w10 at gu ⊢
        clear u hne val
        replace HB := Lib.hid (bel_step HB.out gu HB.out.size)
        replace HRr := Lib.hid (HRr.out.after gu)
        replace HRa := Lib.hid (HRa.out.after gu)
        replace HRm := Lib.hid (HRm.out.after gu)
        replace HRo := Lib.hid (HRo.out.after gu)
        replace HL := Lib.hid (bel_step HL.out gu HL.out.size)
        clear gu
        have cr0 := HRr.out.1.c0
        have cr1 := HRr.out.1.c1
        have ltr := HRr.out.1.lt
        have ca0 := HRa.out.1.c0
        have ca1 := HRa.out.1.c1
        have lta := HRa.out.1.lt
        have cm0 := HRm.out.1.c0
        have cm1 := HRm.out.1.c1
        have ltm := HRm.out.1.lt
        have co0 := HRo.out.1.c0
        have co1 := HRo.out.1.c1
        have lto := HRo.out.1.lt
        go_wp2
        go_roundw
        case rel => exact ⟨p + 1, by omega, by go_num, HL.out⟩
        case measure => simp [intOf]; omega
    · have e : N = (p : Int) := by omega
      have HE := Lib.hid e
      clear e HL
      have cr0 := HRr.out.1.c0
      have cr1 := HRr.out.1.c1
      have ltr := HRr.out.1.lt
      have ca0 := HRa.out.1.c0
      have ca1 := HRa.out.1.c1
      have lta := HRa.out.1.lt
      have cm0 := HRm.out.1.c0
      have cm1 := HRm.out.1.c1
      have ltm := HRm.out.1.lt
      have co0 := HRo.out.1.c0
      have co1 := HRo.out.1.c1
      have lto := HRo.out.1.lt
      go_wp2_with fail
      refine withWorld fun X10 hX => ?_
      have gB : Below wr.heap.size wr X10 := (by rw [hX]; (repeat (first | (with_reducible exact (Below.refl _ _)) | (with_reducible refine bel_alloc ?_ _) | (with_reducible refine Below.drew ?_) | (with_reducible refine bel_drewN ?_ _) | (with_reducible refine Below.setCell ?_ (by simp) _))))
      replace HB := Lib.hid (bel_step HB.out gB HB.out.size)
      replace HRr := Lib.hid (HRr.out.after gB)
      replace HRa := Lib.hid (HRa.out.after gB)
      replace HRm := Lib.hid (HRm.out.after gB)
      replace HRo := Lib.hid (HRo.out.after gB)
      clear hX gB cr0 cr1 ltr ca0 ca1 lta cm0 cm1 ltm co0 co1 lto
      refine (joinY _ _ _ x (othTo x N.toNat) _ HRok.out HO.out HRr.out.2 HRo.out.2).mono ?_
      rintro e w10 ⟨ax10, kx10, rfl, o10, b10⟩
      replace HB := Lib.hid (bel_step HB.out b10 HB.out.size)
      replace HRr := Lib.hid (HRr.out.after b10)
      replace HRa := Lib.hid (HRa.out.after b10)
      replace HRm := Lib.hid (HRm.out.after b10)
      replace HRo := Lib.hid (HRo.out.after b10)
      have HO10 := Lib.hid o10
      clear o10
      clear b10
      have cr0 := HRr.out.1.c0
      have cr1 := HRr.out.1.c1
      have ltr := HRr.out.1.lt
      have ca0 := HRa.out.1.c0
      have ca1 := HRa.out.1.c1
      have lta := HRa.out.1.lt
      have cm0 := HRm.out.1.c0
      have cm1 := HRm.out.1.c1
      have ltm := HRm.out.1.lt
      have co0 := HRo.out.1.c0
      have co1 := HRo.out.1.c1
      have lto := HRo.out.1.lt
      go_wp2_with fail
      refine withWorld fun X11 hX => ?_
      have gB : Below w10.heap.size w10 X11 := (by rw [hX]; (repeat (first | (with_reducible exact (Below.refl _ _)) | (with_reducible refine bel_alloc ?_ _) | (with_reducible refine Below.drew ?_) | (with_reducible refine bel_drewN ?_ _) | (with_reducible refine Below.setCell ?_ (by simp) _))))
      have HRj : Hid (RH X11 w10.heap.size (N) (.slice ax10 (ofMo N (x ++ othTo x N.toNat)).length kx10) (ofMo N (x ++ othTo x N.toNat))) := (by unfold Hid; rw [hX]; (repeat (first | exact RH.new HO10.out | (with_reducible refine RH.alloc ?_ _) | (with_reducible refine RH.drewN ?_ _))))
      replace HB := Lib.hid (bel_step HB.out gB HB.out.size)
      replace HRr := Lib.hid (HRr.out.after gB)
      replace HRa := Lib.hid (HRa.out.after gB)
      replace HRm := Lib.hid (HRm.out.after gB)
      replace HRo := Lib.hid (HRo.out.after gB)
      clear HO10
      clear hX gB cr0 cr1 ltr ca0 ca1 lta cm0 cm1 ltm co0 co1 lto
      refine (specMakeNum _ z0 32 _ hm0 (by decide) ((HH0.out.below HB.out).mono HB.out.size)).mono ?_
      rintro e w11 ⟨⟨r32, hr0, hr1, rfl⟩, b11⟩
      replace HB := Lib.hid (bel_step HB.out b11 HB.out.size)
      replace HRr := Lib.hid (HRr.out.after b11)
      replace HRa := Lib.hid (HRa.out.after b11)
      replace HRm := Lib.hid (HRm.out.after b11)
      replace HRo := Lib.hid (HRo.out.after b11)
      replace HRj := Lib.hid (HRj.out.after b11)
      clear b11
      have cr0 := HRr.out.1.c0
      have cr1 := HRr.out.1.c1
      have ltr := HRr.out.1.lt
      have ca0 := HRa.out.1.c0
      have ca1 := HRa.out.1.c1
      have lta := HRa.out.1.lt
      have cm0 := HRm.out.1.c0
      have cm1 := HRm.out.1.c1
      have ltm := HRm.out.1.lt
      have co0 := HRo.out.1.c0
      have co1 := HRo.out.1.c1
      have lto := HRo.out.1.lt
      have cj0 := HRj.out.1.c0
      have cj1 := HRj.out.1.c1
      have ltj := HRj.out.1.lt
      obtain ⟨su, hu0, hu1, hu2, hu⟩ : ∃ su : Int, 1 ≤ su ∧ su ≤ max (N - 1) 1 ∧ su ≤ 24 ∧ wrap64 (1 + r32 % max 1 (N - 1)) = su := by
        have hM1 : 1 ≤ max 1 (N - 1) := by omega
        have hM2 : max 1 (N - 1) ≤ max (N - 1) 1 := by omega
        have hM3 : max 1 (N - 1) ≤ 24 := by omega
        have h3 := Int.emod_nonneg r32 (show max 1 (N - 1) ≠ 0 by omega)
        have h4 := Int.emod_lt_of_pos r32 (show 0 < max 1 (N - 1) by omega)
        generalize max 1 (N - 1) = M at *
        exact ⟨1 + r32 % M, by omega, by omega, by omega, IntWalk.wrap64_in _ ⟨by omega, by omega⟩⟩
      have hin : inU su N = true := by simp only [inU, Bool.and_eq_true, decide_eq_true_eq]; exact ⟨hu0, hu1⟩
      have hub := unitB_yes hin
      clear hin hu1
      go_wp2_with fail
      try rw [hu]
      have HUU := Lib.hid hu
      clear hu hr0 hr1
      have HJ := Lib.hid (ofMo_rok hlo HRok.out.hi (x ++ othTo x N.toNat))
      obtain ⟨nt, hNt, hJl⟩ : ∃ nt : Nat, (((nt : Nat) : Int) != N) = false ∧ Hid ((ofMo N (x ++ othTo x N.toNat)).length = nt) := ⟨N.toNat, (by have h9 : ((N.toNat : Nat) : Int) = N := Int.toNat_of_nonneg (by omega); rw [h9]; simp), join_all HRok.out⟩
      have hl2 : x.length ≤ 24 := HRok.out.len24
      have hNhi : N ≤ 24 := HRok.out.hi
      cases hU : unitB su N with
      | true =>
        rw [hU] at hub
        have HU := Lib.hid hU
        have hg1 : gcdI su N = 1 := by simpa using hub.symm
        have HG := Lib.hid hg1
        clear hub hU hg1
        have HSR := Lib.hid (mapV_rok hlo HRok.out.hi x su 0)
        have HSL := Lib.hid (mapV_length HRok.out 0 hu0 HG.out)
        refine withWorld fun X12 hX => ?_
        have gB : Below w11.heap.size w11 X12 := (by rw [hX]; (repeat (first | (with_reducible exact (Below.refl _ _)) | (with_reducible refine bel_alloc ?_ _) | (with_reducible refine Below.drew ?_) | (with_reducible refine bel_drewN ?_ _) | (with_reducible refine Below.setCell ?_ (by simp) _))))
        replace HB := Lib.hid (bel_step HB.out gB HB.out.size)
        replace HRr := Lib.hid (HRr.out.after gB)
        replace HRa := Lib.hid (HRa.out.after gB)
        replace HRm := Lib.hid (HRm.out.after gB)
        replace HRo := Lib.hid (HRo.out.after gB)
        replace HRj := Lib.hid (HRj.out.after gB)
        clear hX gB cr0 cr1 ltr ca0 ca1 lta cm0 cm1 ltm co0 co1 lto cj0 cj1 ltj
        refine (stretchY _ _ x su _ HRok.out ⟨by omega, by omega⟩ HU.out HRr.out.2).mono ?_
        rintro e w12 ⟨ax12, kx12, rfl, o12, b12⟩
        replace HB := Lib.hid (bel_step HB.out b12 HB.out.size)
        replace HRr := Lib.hid (HRr.out.after b12)
        replace HRa := Lib.hid (HRa.out.after b12)
        replace HRm := Lib.hid (HRm.out.after b12)
        replace HRo := Lib.hid (HRo.out.after b12)
        replace HRj := Lib.hid (HRj.out.after b12)
        have HO12 := Lib.hid o12
        clear o12
        clear b12
        have cr0 := HRr.out.1.c0
        have cr1 := HRr.out.1.c1
        have ltr := HRr.out.1.lt
        have ca0 := HRa.out.1.c0
        have ca1 := HRa.out.1.c1
        have lta := HRa.out.1.lt
        have cm0 := HRm.out.1.c0
        have cm1 := HRm.out.1.c1
        have ltm := HRm.out.1.lt
        have co0 := HRo.out.1.c0
        have co1 := HRo.out.1.c1
        have lto := HRo.out.1.lt
        have cj0 := HRj.out.1.c0
        have cj1 := HRj.out.1.c1
        have ltj := HRj.out.1.lt
        go_wp2_with fail
        refine withWorldC fun Y13 hY => ?_
        have gB : Below w12.heap.size w12 Y13 := (by rw [hY]; (repeat (first | (with_reducible exact (Below.refl _ _)) | (with_reducible refine bel_alloc ?_ _) | (with_reducible refine Below.drew ?_) | (with_reducible refine bel_drewN ?_ _) | (with_reducible refine Below.setCell ?_ (by simp) _))))
        have HRs : Hid (RH Y13 w12.heap.size (N) (.slice ax12 (mapV N x su 0).length kx12) (mapV N x su 0)) := (by unfold Hid; rw [hY]; (repeat (first | exact RH.new HO12.out | (with_reducible refine RH.alloc ?_ _) | (with_reducible refine RH.drewN ?_ _))))
        replace HB := Lib.hid (bel_step HB.out gB HB.out.size)
        replace HRr := Lib.hid (HRr.out.after gB)
        replace HRa := Lib.hid (HRa.out.after gB)
        replace HRm := Lib.hid (HRm.out.after gB)
        replace HRo := Lib.hid (HRo.out.after gB)
        replace HRj := Lib.hid (HRj.out.after gB)
        clear HO12
        clear hY gB cr0 cr1 ltr ca0 ca1 lta cm0 cm1 ltm co0 co1 lto cj0 cj1 ltj
        refine region_held (fun V => Below Y13.heap.size Y13 V) (by kernel_rfl) (by kernel_rfl) ((Below.refl _ _).drew) (fun V V' h1 h2 => bel_step h1 h2 h1.size) fun U val hne hv hcall => ?_
        have HC := Lib.hid hcall
        have zr0 : ∀ u, (val u).cell? ⟨w1.heap.size, 0, none⟩ = some (.int .i64 (N)) := fun u => ((bcell (hv u)).1 _ _ HRr.out.1.lt).trans HRr.out.1.c0
        have zr1 : ∀ u, (val u).cell? ⟨w1.heap.size, 1, none⟩ = some (.slice ax1 x.length kx1) := fun u => ((bcell (hv u)).1 _ _ HRr.out.1.lt).trans HRr.out.1.c1
        have zj0 : ∀ u, (val u).cell? ⟨w10.heap.size, 0, none⟩ = some (.int .i64 (N)) := fun u => ((bcell (hv u)).1 _ _ HRj.out.1.lt).trans HRj.out.1.c0
        have zj1 : ∀ u, (val u).cell? ⟨w10.heap.size, 1, none⟩ = some (.slice ax10 (ofMo N (x ++ othTo x N.toNat)).length kx10) := fun u => ((bcell (hv u)).1 _ _ HRj.out.1.lt).trans HRj.out.1.c1
        have zs0 : ∀ u, (val u).cell? ⟨w12.heap.size, 0, none⟩ = some (.int .i64 (N)) := fun u => ((bcell (hv u)).1 _ _ HRs.out.1.lt).trans HRs.out.1.c0
        have zs1 : ∀ u, (val u).cell? ⟨w12.heap.size, 1, none⟩ = some (.slice ax12 (mapV N x su 0).length kx12) := fun u => ((bcell (hv u)).1 _ _ HRs.out.1.lt).trans HRs.out.1.c1
        have HV := Lib.hid hv
        clear hv hcall
        repeat (go_big_quiet_step ((first | (go_at_call 43; exact HC.out _ _ _ _ (countY _ _ (ofMo N (x ++ othTo x N.toNat)) nt _ HJ.out hJl.out (HRj.out.2.ofBelow (HV.out _)))) | (go_at_call 47; exact HC.out _ _ _ _ (gcdY su N 1 _ (by omega) (by omega) (by omega) (by omega) HG.out)) | (go_at_call 43; exact HC.out _ _ _ _ (countY _ _ (mapV N x su 0) x.length _ HSR.out HSL.out (HRs.out.2.ofBelow (HV.out _)))))))
        refine wpQuiet_nil ?_
        rintro _ ⟨u, rfl⟩
        have gu := HV.out u
        clear HC HV zr0 zr1 zj0 zj1 zs0 zs1
        generalize val u = w13 at gu ⊢
        clear u hne val
        replace HB := Lib.hid (bel_step HB.out gu HB.out.size)
        replace HRr := Lib.hid (HRr.out.after gu)
        replace HRa := Lib.hid (HRa.out.after gu)
        replace HRm := Lib.hid (HRm.out.after gu)
        replace HRo := Lib.hid (HRo.out.after gu)
        replace HRj := Lib.hid (HRj.out.after gu)
        replace HRs := Lib.hid (HRs.out.after gu)
        clear gu
        have cr0 := HRr.out.1.c0
        have cr1 := HRr.out.1.c1
        have ltr := HRr.out.1.lt
        have ca0 := HRa.out.1.c0
        have ca1 := HRa.out.1.c1
        have lta := HRa.out.1.lt
        have cm0 := HRm.out.1.c0
        have cm1 := HRm.out.1.c1
        have ltm := HRm.out.1.lt
        have co0 := HRo.out.1.c0
        have co1 := HRo.out.1.c1
        have lto := HRo.out.1.lt
        have cj0 := HRj.out.1.c0
        have cj1 := HRj.out.1.c1
        have ltj := HRj.out.1.lt
        have cs0 := HRs.out.1.c0
        have cs1 := HRs.out.1.c1
        have lts := HRs.out.1.lt
        clear HRj HRs HRa HRm HRo
        clear cr0 cr1 ltr ca0 ca1 lta cm0 cm1 ltm co0 co1 lto cj0 cj1 ltj cs0 cs1 lts
        have cr0 := HRr.out.1.c0
        have cr1 := HRr.out.1.c1
        have ltr := HRr.out.1.lt
        by_cases h2 : 2 * N ≤ 24
        · have HXR := Lib.hid (rep2_rok HRok.out h2)
          have HXP := Lib.hid (rep2_per HRok.out h2)
          have h2d : (true == decide (2 * N ≤ 24)) = true := by simp [h2]
          have hlen2 : ((((2 * x.length : Nat)) : Int) == 2 * ((x.length : Nat) : Int)) = true := by simp
          go_wp2_with fail
          refine withWorld fun X14 hX => ?_
          have gB : Below w13.heap.size w13 X14 := (by rw [hX]; (repeat (first | (with_reducible exact (Below.refl _ _)) | (with_reducible refine bel_alloc ?_ _) | (with_reducible refine Below.drew ?_) | (with_reducible refine bel_drewN ?_ _) | (with_reducible refine Below.setCell ?_ (by simp) _))))
          replace HB := Lib.hid (bel_step HB.out gB HB.out.size)
          replace HRr := Lib.hid (HRr.out.after gB)
          clear hX gB cr0 cr1 ltr
          refine (repeatY _ _ x _ HRok.out h2 HRr.out.2).mono ?_
          rintro e w14 ⟨ax14, kx14, rfl, o14, b14⟩
          replace HB := Lib.hid (bel_step HB.out b14 HB.out.size)
          replace HRr := Lib.hid (HRr.out.after b14)
          have HO14 := Lib.hid o14
          clear o14
          clear b14
          have cr0 := HRr.out.1.c0
          have cr1 := HRr.out.1.c1
          have ltr := HRr.out.1.lt
          go_wp2_with fail
          refine withWorldC fun Y15 hY => ?_
          have gB : Below w14.heap.size w14 Y15 := (by rw [hY]; (repeat (first | (with_reducible exact (Below.refl _ _)) | (with_reducible refine bel_alloc ?_ _) | (with_reducible refine Below.drew ?_) | (with_reducible refine bel_drewN ?_ _) | (with_reducible refine Below.setCell ?_ (by simp) _))))
          have HRd : Hid (RH Y15 w14.heap.size (2 * N) (.slice ax14 (repTo N x 2).length kx14) (repTo N x 2)) := (by unfold Hid; rw [hY]; (repeat (first | exact RH.new HO14.out | (with_reducible refine RH.alloc ?_ _) | (with_reducible refine RH.drewN ?_ _))))
          replace HB := Lib.hid (bel_step HB.out gB HB.out.size)
          replace HRr := Lib.hid (HRr.out.after gB)
          clear HO14
          clear hY gB cr0 cr1 ltr
          refine region_held (fun V => Below Y15.heap.size Y15 V) (by kernel_rfl) (by kernel_rfl) ((Below.refl _ _).drew) (fun V V' h1 h2 => bel_step h1 h2 h1.size) fun U val hne hv hcall => ?_
          have HC := Lib.hid hcall
          have zr0 : ∀ u, (val u).cell? ⟨w1.heap.size, 0, none⟩ = some (.int .i64 (N)) := fun u => ((bcell (hv u)).1 _ _ HRr.out.1.lt).trans HRr.out.1.c0
          have zr1 : ∀ u, (val u).cell? ⟨w1.heap.size, 1, none⟩ = some (.slice ax1 x.length kx1) := fun u => ((bcell (hv u)).1 _ _ HRr.out.1.lt).trans HRr.out.1.c1
          have zd0 : ∀ u, (val u).cell? ⟨w14.heap.size, 0, none⟩ = some (.int .i64 (2 * N)) := fun u => ((bcell (hv u)).1 _ _ HRd.out.1.lt).trans HRd.out.1.c0
          have zd1 : ∀ u, (val u).cell? ⟨w14.heap.size, 1, none⟩ = some (.slice ax14 (repTo N x 2).length kx14) := fun u => ((bcell (hv u)).1 _ _ HRd.out.1.lt).trans HRd.out.1.c1
          have HV := Lib.hid hv
          clear hv hcall
          repeat (go_big_quiet_step ((first | (go_at_call 43; exact HC.out _ _ _ _ (countY _ _ (repTo N x 2) (2 * x.length) _ HXR.out (rep2_len N x) (HRd.out.2.ofBelow (HV.out _)))) | (go_at_call 13; exact HC.out _ _ _ _ (periodY _ _ (repTo N x 2) (per N x) _ HXR.out HXP.out (HRd.out.2.ofBelow (HV.out _)))) | (go_at_call 13; exact HC.out _ _ _ _ (periodY _ _ x (per N x) _ HRok.out rfl (HRr.out.2.ofBelow (HV.out _)))) | (go_at_call 49; exact HC.out _ _ _ _ (okY _ _ x _ HRok.out (HRr.out.2.ofBelow (HV.out _)))))))
          refine wpQuiet_nil ?_
          rintro _ ⟨u, rfl⟩
          have gu := HV.out u
          clear HC HV zr0 zr1 zd0 zd1
          generalize val u = w15 at gu ⊢
          clear u hne val
          replace HB := Lib.hid (bel_step HB.out gu HB.out.size)
          replace HRr := Lib.hid (HRr.out.after gu)
          replace HRd := Lib.hid (HRd.out.after gu)
          clear gu
          have cr0 := HRr.out.1.c0
          have cr1 := HRr.out.1.c1
          have ltr := HRr.out.1.lt
          have cd0 := HRd.out.1.c0
          have cd1 := HRd.out.1.c1
          have ltd := HRd.out.1.lt
          go_wp2
          go_ret
          exact ⟨rfl, HB.out⟩
        · have h24 : 24 < 2 * N := by omega
          have h2d : (false == decide (2 * N ≤ 24)) = true := by simp [h2]
          go_wp2_with fail
          refine withWorld fun X14 hX => ?_
          have gB : Below w13.heap.size w13 X14 := (by rw [hX]; (repeat (first | (with_reducible exact (Below.refl _ _)) | (with_reducible refine bel_alloc ?_ _) | (with_reducible refine Below.drew ?_) | (with_reducible refine bel_drewN ?_ _) | (with_reducible refine Below.setCell ?_ (by simp) _))))
          replace HB := Lib.hid (bel_step HB.out gB HB.out.size)
          replace HRr := Lib.hid (HRr.out.after gB)
          clear hX gB cr0 cr1 ltr
          refine (repeatN _ _ x _ HRok.out h24 HRr.out.2).mono ?_
          rintro e w14 ⟨ax14, kx14, rfl, o14, b14⟩
          replace HB := Lib.hid (bel_step HB.out b14 HB.out.size)
          replace HRr := Lib.hid (HRr.out.after b14)
          have HO14 := Lib.hid o14
          clear o14
          clear b14
          have cr0 := HRr.out.1.c0
          have cr1 := HRr.out.1.c1
          have ltr := HRr.out.1.lt
          go_wp2_with fail
          refine withWorldC fun Y15 hY => ?_
          have gB : Below w14.heap.size w14 Y15 := (by rw [hY]; (repeat (first | (with_reducible exact (Below.refl _ _)) | (with_reducible refine bel_alloc ?_ _) | (with_reducible refine Below.drew ?_) | (with_reducible refine bel_drewN ?_ _) | (with_reducible refine Below.setCell ?_ (by simp) _))))
          have HRd : Hid (RH Y15 w14.heap.size (0) (.slice ax14 ([] : List Int).length kx14) (([] : List Int))) := (by unfold Hid; rw [hY]; (repeat (first | exact RH.new HO14.out | (with_reducible refine RH.alloc ?_ _) | (with_reducible refine RH.drewN ?_ _))))
          replace HB := Lib.hid (bel_step HB.out gB HB.out.size)
          replace HRr := Lib.hid (HRr.out.after gB)
          clear HO14
          clear hY gB cr0 cr1 ltr
          refine region_held (fun V => Below Y15.heap.size Y15 V) (by kernel_rfl) (by kernel_rfl) ((Below.refl _ _).drew) (fun V V' h1 h2 => bel_step h1 h2 h1.size) fun U val hne hv hcall => ?_
          have HC := Lib.hid hcall
          have zr0 : ∀ u, (val u).cell? ⟨w1.heap.size, 0, none⟩ = some (.int .i64 (N)) := fun u => ((bcell (hv u)).1 _ _ HRr.out.1.lt).trans HRr.out.1.c0
          have zr1 : ∀ u, (val u).cell? ⟨w1.heap.size, 1, none⟩ = some (.slice ax1 x.length kx1) := fun u => ((bcell (hv u)).1 _ _ HRr.out.1.lt).trans HRr.out.1.c1
          have zd0 : ∀ u, (val u).cell? ⟨w14.heap.size, 0, none⟩ = some (.int .i64 (0)) := fun u => ((bcell (hv u)).1 _ _ HRd.out.1.lt).trans HRd.out.1.c0
          have zd1 : ∀ u, (val u).cell? ⟨w14.heap.size, 1, none⟩ = some (.slice ax14 ([] : List Int).length kx14) := fun u => ((bcell (hv u)).1 _ _ HRd.out.1.lt).trans HRd.out.1.c1
          have HV := Lib.hid hv
          clear hv hcall
          repeat (go_big_quiet_step ((first | (go_at_call 49; exact HC.out _ _ _ _ (okY _ _ x _ HRok.out (HRr.out.2.ofBelow (HV.out _)))))))
          refine wpQuiet_nil ?_
          rintro _ ⟨u, rfl⟩
          have gu := HV.out u
          clear HC HV zr0 zr1 zd0 zd1
          generalize val u = w15 at gu ⊢
          clear u hne val
          replace HB := Lib.hid (bel_step HB.out gu HB.out.size)
          replace HRr := Lib.hid (HRr.out.after gu)
          replace HRd := Lib.hid (HRd.out.after gu)
          clear gu
          have cr0 := HRr.out.1.c0
          have cr1 := HRr.out.1.c1
          have ltr := HRr.out.1.lt
          have cd0 := HRd.out.1.c0
          have cd1 := HRd.out.1.c1
          have ltd := HRd.out.1.lt
          go_wp2
          go_ret
          exact ⟨rfl, HB.out⟩
      | false =>
        rw [hU] at hub
        have HU := Lib.hid hU
        obtain ⟨gv, hgv⟩ : ∃ gv : Int, gcdI su N = gv := ⟨_, rfl⟩
        rw [hgv] at hub
        have HG := Lib.hid hgv
        clear hgv
        have hg1 : (gv == 1) = false := hub.symm
        clear hub hU
        refine withWorld fun X12 hX => ?_
        have gB : Below w11.heap.size w11 X12 := (by rw [hX]; (repeat (first | (with_reducible exact (Below.refl _ _)) | (with_reducible refine bel_alloc ?_ _) | (with_reducible refine Below.drew ?_) | (with_reducible refine bel_drewN ?_ _) | (with_reducible refine Below.setCell ?_ (by simp) _))))
        replace HB := Lib.hid (bel_step HB.out gB HB.out.size)
        replace HRr := Lib.hid (HRr.out.after gB)
        replace HRa := Lib.hid (HRa.out.after gB)
        replace HRm := Lib.hid (HRm.out.after gB)
        replace HRo := Lib.hid (HRo.out.after gB)
        replace HRj := Lib.hid (HRj.out.after gB)
        clear hX gB cr0 cr1 ltr ca0 ca1 lta cm0 cm1 ltm co0 co1 lto cj0 cj1 ltj
        refine (stretchN _ _ x su _ HRok.out ⟨by omega, by omega⟩ HU.out HRr.out.2).mono ?_
        rintro e w12 ⟨ax12, kx12, rfl, o12, b12⟩
        replace HB := Lib.hid (bel_step HB.out b12 HB.out.size)
        replace HRr := Lib.hid (HRr.out.after b12)
        replace HRa := Lib.hid (HRa.out.after b12)
        replace HRm := Lib.hid (HRm.out.after b12)
        replace HRo := Lib.hid (HRo.out.after b12)
        replace HRj := Lib.hid (HRj.out.after b12)
        have HO12 := Lib.hid o12
        clear o12
        clear b12
        have cr0 := HRr.out.1.c0
        have cr1 := HRr.out.1.c1
        have ltr := HRr.out.1.lt
        have ca0 := HRa.out.1.c0
        have ca1 := HRa.out.1.c1
        have lta := HRa.out.1.lt
        have cm0 := HRm.out.1.c0
        have cm1 := HRm.out.1.c1
        have ltm := HRm.out.1.lt
        have co0 := HRo.out.1.c0
        have co1 := HRo.out.1.c1
        have lto := HRo.out.1.lt
        have cj0 := HRj.out.1.c0
        have cj1 := HRj.out.1.c1
        have ltj := HRj.out.1.lt
        go_wp2_with fail
        refine withWorldC fun Y13 hY => ?_
        have gB : Below w12.heap.size w12 Y13 := (by rw [hY]; (repeat (first | (with_reducible exact (Below.refl _ _)) | (with_reducible refine bel_alloc ?_ _) | (with_reducible refine Below.drew ?_) | (with_reducible refine bel_drewN ?_ _) | (with_reducible refine Below.setCell ?_ (by simp) _))))
        have HRs : Hid (RH Y13 w12.heap.size (0) (.slice ax12 ([] : List Int).length kx12) (([] : List Int))) := (by unfold Hid; rw [hY]; (repeat (first | exact RH.new HO12.out | (with_reducible refine RH.alloc ?_ _) | (with_reducible refine RH.drewN ?_ _))))
        replace HB := Lib.hid (bel_step HB.out gB HB.out.size)
        replace HRr := Lib.hid (HRr.out.after gB)
        replace HRa := Lib.hid (HRa.out.after gB)
        replace HRm := Lib.hid (HRm.out.after gB)
        replace HRo := Lib.hid (HRo.out.after gB)
        replace HRj := Lib.hid (HRj.out.after gB)
        clear HO12
        clear hY gB cr0 cr1 ltr ca0 ca1 lta cm0 cm1 ltm co0 co1 lto cj0 cj1 ltj
        refine region_held (fun V => Below Y13.heap.size Y13 V) (by kernel_rfl) (by kernel_rfl) ((Below.refl _ _).drew) (fun V V' h1 h2 => bel_step h1 h2 h1.size) fun U val hne hv hcall => ?_
        have HC := Lib.hid hcall
        have zr0 : ∀ u, (val u).cell? ⟨w1.heap.size, 0, none⟩ = some (.int .i64 (N)) := fun u => ((bcell (hv u)).1 _ _ HRr.out.1.lt).trans HRr.out.1.c0
        have zr1 : ∀ u, (val u).cell? ⟨w1.heap.size, 1, none⟩ = some (.slice ax1 x.length kx1) := fun u => ((bcell (hv u)).1 _ _ HRr.out.1.lt).trans HRr.out.1.c1
        have zj0 : ∀ u, (val u).cell? ⟨w10.heap.size, 0, none⟩ = some (.int .i64 (N)) := fun u => ((bcell (hv u)).1 _ _ HRj.out.1.lt).trans HRj.out.1.c0
        have zj1 : ∀ u, (val u).cell? ⟨w10.heap.size, 1, none⟩ = some (.slice ax10 (ofMo N (x ++ othTo x N.toNat)).length kx10) := fun u => ((bcell (hv u)).1 _ _ HRj.out.1.lt).trans HRj.out.1.c1
        have zs0 : ∀ u, (val u).cell? ⟨w12.heap.size, 0, none⟩ = some (.int .i64 (0)) := fun u => ((bcell (hv u)).1 _ _ HRs.out.1.lt).trans HRs.out.1.c0
        have zs1 : ∀ u, (val u).cell? ⟨w12.heap.size, 1, none⟩ = some (.slice ax12 ([] : List Int).length kx12) := fun u => ((bcell (hv u)).1 _ _ HRs.out.1.lt).trans HRs.out.1.c1
        have HV := Lib.hid hv
        clear hv hcall
        repeat (go_big_quiet_step ((first | (go_at_call 43; exact HC.out _ _ _ _ (countY _ _ (ofMo N (x ++ othTo x N.toNat)) nt _ HJ.out hJl.out (HRj.out.2.ofBelow (HV.out _)))) | (go_at_call 47; exact HC.out _ _ _ _ (gcdY su N gv _ (by omega) (by omega) (by omega) (by omega) HG.out)))))
        refine wpQuiet_nil ?_
        rintro _ ⟨u, rfl⟩
        have gu := HV.out u
        clear HC HV zr0 zr1 zj0 zj1 zs0 zs1
        generalize val u = w13 at gu ⊢
        clear u hne val
        replace HB := Lib.hid (bel_step HB.out gu HB.out.size)
        replace HRr := Lib.hid (HRr.out.after gu)
        replace HRa := Lib.hid (HRa.out.after gu)
        replace HRm := Lib.hid (HRm.out.after gu)
        replace HRo := Lib.hid (HRo.out.after gu)
        replace HRj := Lib.hid (HRj.out.after gu)
        replace HRs := Lib.hid (HRs.out.after gu)
        clear gu
        have cr0 := HRr.out.1.c0
        have cr1 := HRr.out.1.c1
        have ltr := HRr.out.1.lt
        have ca0 := HRa.out.1.c0
        have ca1 := HRa.out.1.c1
        have lta := HRa.out.1.lt
        have cm0 := HRm.out.1.c0
        have cm1 := HRm.out.1.c1
        have ltm := HRm.out.1.lt
        have co0 := HRo.out.1.c0
        have co1 := HRo.out.1.c1
        have lto := HRo.out.1.lt
        have cj0 := HRj.out.1.c0
        have cj1 := HRj.out.1.c1
        have ltj := HRj.out.1.lt
        have cs0 := HRs.out.1.c0
        have cs1 := HRs.out.1.c1
        have lts := HRs.out.1.lt
        clear HRj HRs HRa HRm HRo
        clear cr0 cr1 ltr ca0 ca1 lta cm0 cm1 ltm co0 co1 lto cj0 cj1 ltj cs0 cs1 lts
        have cr0 := HRr.out.1.c0
        have cr1 := HRr.out.1.c1
        have ltr := HRr.out.1.lt
        by_cases h2 : 2 * N ≤ 24
        · have HXR := Lib.hid (rep2_rok HRok.out h2)
          have HXP := Lib.hid (rep2_per HRok.out h2)
          have h2d : (true == decide (2 * N ≤ 24)) = true := by simp [h2]
          have hlen2 : ((((2 * x.length : Nat)) : Int) == 2 * ((x.length : Nat) : Int)) = true := by simp
          go_wp2_with fail
          refine withWorld fun X14 hX => ?_
          have gB : Below w13.heap.size w13 X14 := (by rw [hX]; (repeat (first | (with_reducible exact (Below.refl _ _)) | (with_reducible refine bel_alloc ?_ _) | (with_reducible refine Below.drew ?_) | (with_reducible refine bel_drewN ?_ _) | (with_reducible refine Below.setCell ?_ (by simp) _))))
          replace HB := Lib.hid (bel_step HB.out gB HB.out.size)
          replace HRr := Lib.hid (HRr.out.after gB)
          clear hX gB cr0 cr1 ltr
          refine (repeatY _ _ x _ HRok.out h2 HRr.out.2).mono ?_
          rintro e w14 ⟨ax14, kx14, rfl, o14, b14⟩
          replace HB := Lib.hid (bel_step HB.out b14 HB.out.size)
          replace HRr := Lib.hid (HRr.out.after b14)
          have HO14 := Lib.hid o14
          clear o14
          clear b14
          have cr0 := HRr.out.1.c0
          have cr1 := HRr.out.1.c1
          have ltr := HRr.out.1.lt
          go_wp2_with fail
          refine withWorldC fun Y15 hY => ?_
          have gB : Below w14.heap.size w14 Y15 := (by rw [hY]; (repeat (first | (with_reducible exact (Below.refl _ _)) | (with_reducible refine bel_alloc ?_ _) | (with_reducible refine Below.drew ?_) | (with_reducible refine bel_drewN ?_ _) | (with_reducible refine Below.setCell ?_ (by simp) _))))
          have HRd : Hid (RH Y15 w14.heap.size (2 * N) (.slice ax14 (repTo N x 2).length kx14) (repTo N x 2)) := (by unfold Hid; rw [hY]; (repeat (first | exact RH.new HO14.out | (with_reducible refine RH.alloc ?_ _) | (with_reducible refine RH.drewN ?_ _))))
          replace HB := Lib.hid (bel_step HB.out gB HB.out.size)
          replace HRr := Lib.hid (HRr.out.after gB)
          clear HO14
          clear hY gB cr0 cr1 ltr
          refine region_held (fun V => Below Y15.heap.size Y15 V) (by kernel_rfl) (by kernel_rfl) ((Below.refl _ _).drew) (fun V V' h1 h2 => bel_step h1 h2 h1.size) fun U val hne hv hcall => ?_
          have HC := Lib.hid hcall
          have zr0 : ∀ u, (val u).cell? ⟨w1.heap.size, 0, none⟩ = some (.int .i64 (N)) := fun u => ((bcell (hv u)).1 _ _ HRr.out.1.lt).trans HRr.out.1.c0
          have zr1 : ∀ u, (val u).cell? ⟨w1.heap.size, 1, none⟩ = some (.slice ax1 x.length kx1) := fun u => ((bcell (hv u)).1 _ _ HRr.out.1.lt).trans HRr.out.1.c1
          have zd0 : ∀ u, (val u).cell? ⟨w14.heap.size, 0, none⟩ = some (.int .i64 (2 * N)) := fun u => ((bcell (hv u)).1 _ _ HRd.out.1.lt).trans HRd.out.1.c0
          have zd1 : ∀ u, (val u).cell? ⟨w14.heap.size, 1, none⟩ = some (.slice ax14 (repTo N x 2).length kx14) := fun u => ((bcell (hv u)).1 _ _ HRd.out.1.lt).trans HRd.out.1.c1
          have HV := Lib.hid hv
          clear hv hcall
          repeat (go_big_quiet_step ((first | (go_at_call 43; exact HC.out _ _ _ _ (countY _ _ (repTo N x 2) (2 * x.length) _ HXR.out (rep2_len N x) (HRd.out.2.ofBelow (HV.out _)))) | (go_at_call 13; exact HC.out _ _ _ _ (periodY _ _ (repTo N x 2) (per N x) _ HXR.out HXP.out (HRd.out.2.ofBelow (HV.out _)))) | (go_at_call 13; exact HC.out _ _ _ _ (periodY _ _ x (per N x) _ HRok.out rfl (HRr.out.2.ofBelow (HV.out _)))) | (go_at_call 49; exact HC.out _ _ _ _ (okY _ _ x _ HRok.out (HRr.out.2.ofBelow (HV.out _)))))))
          refine wpQuiet_nil ?_
          rintro _ ⟨u, rfl⟩
          have gu := HV.out u
          clear HC HV zr0 zr1 zd0 zd1
          generalize val u = w15 at gu ⊢
          clear u hne val
          replace HB := Lib.hid (bel_step HB.out gu HB.out.size)
          replace HRr := Lib.hid (HRr.out.after gu)
          replace HRd := Lib.hid (HRd.out.after gu)
          clear gu
          have cr0 := HRr.out.1.c0
          have cr1 := HRr.out.1.c1
          have ltr := HRr.out.1.lt
          have cd0 := HRd.out.1.c0
          have cd1 := HRd.out.1.c1
          have ltd := HRd.out.1.lt
          go_wp2
          go_ret
          exact ⟨rfl, HB.out⟩
        · have h24 : 24 < 2 * N := by omega
          have h2d : (false == decide (2 * N ≤ 24)) = true := by simp [h2]
          go_wp2_with fail
          refine withWorld fun X14 hX => ?_
          have gB : Below w13.heap.size w13 X14 := (by rw [hX]; (repeat (first | (with_reducible exact (Below.refl _ _)) | (with_reducible refine bel_alloc ?_ _) | (with_reducible refine Below.drew ?_) | (with_reducible refine bel_drewN ?_ _) | (with_reducible refine Below.setCell ?_ (by simp) _))))
          replace HB := Lib.hid (bel_step HB.out gB HB.out.size)
          replace HRr := Lib.hid (HRr.out.after gB)
          clear hX gB cr0 cr1 ltr
          refine (repeatN _ _ x _ HRok.out h24 HRr.out.2).mono ?_
          rintro e w14 ⟨ax14, kx14, rfl, o14, b14⟩
          replace HB := Lib.hid (bel_step HB.out b14 HB.out.size)
          replace HRr := Lib.hid (HRr.out.after b14)
          have HO14 := Lib.hid o14
          clear o14
          clear b14
          have cr0 := HRr.out.1.c0
          have cr1 := HRr.out.1.c1
          have ltr := HRr.out.1.lt
          go_wp2_with fail
          refine withWorldC fun Y15 hY => ?_
          have gB : Below w14.heap.size w14 Y15 := (by rw [hY]; (repeat (first | (with_reducible exact (Below.refl _ _)) | (with_reducible refine bel_alloc ?_ _) | (with_reducible refine Below.drew ?_) | (with_reducible refine bel_drewN ?_ _) | (with_reducible refine Below.setCell ?_ (by simp) _))))
          have HRd : Hid (RH Y15 w14.heap.size (0) (.slice ax14 ([] : List Int).length kx14) (([] : List Int))) := (by unfold Hid; rw [hY]; (repeat (first | exact RH.new HO14.out | (with_reducible refine RH.alloc ?_ _) | (with_reducible refine RH.drewN ?_ _))))
          replace HB := Lib.hid (bel_step HB.out gB HB.out.size)
          replace HRr := Lib.hid (HRr.out.after gB)
          clear HO14
          clear hY gB cr0 cr1 ltr
          refine region_held (fun V => Below Y15.heap.size Y15 V) (by kernel_rfl) (by kernel_rfl) ((Below.refl _ _).drew) (fun V V' h1 h2 => bel_step h1 h2 h1.size) fun U val hne hv hcall => ?_
          have HC := Lib.hid hcall
          have zr0 : ∀ u, (val u).cell? ⟨w1.heap.size, 0, none⟩ = some (.int .i64 (N)) := fun u => ((bcell (hv u)).1 _ _ HRr.out.1.lt).trans HRr.out.1.c0
          have zr1 : ∀ u, (val u).cell? ⟨w1.heap.size, 1, none⟩ = some (.slice ax1 x.length kx1) := fun u => ((bcell (hv u)).1 _ _ HRr.out.1.lt).trans HRr.out.1.c1
          have zd0 : ∀ u, (val u).cell? ⟨w14.heap.size, 0, none⟩ = some (.int .i64 (0)) := fun u => ((bcell (hv u)).1 _ _ HRd.out.1.lt).trans HRd.out.1.c0
          have zd1 : ∀ u, (val u).cell? ⟨w14.heap.size, 1, none⟩ = some (.slice ax14 ([] : List Int).length kx14) := fun u => ((bcell (hv u)).1 _ _ HRd.out.1.lt).trans HRd.out.1.c1
          have HV := Lib.hid hv
          clear hv hcall
          repeat (go_big_quiet_step ((first | (go_at_call 49; exact HC.out _ _ _ _ (okY _ _ x _ HRok.out (HRr.out.2.ofBelow (HV.out _)))))))
          refine wpQuiet_nil ?_
          rintro _ ⟨u, rfl⟩
          have gu := HV.out u
          clear HC HV zr0 zr1 zd0 zd1
          generalize val u = w15 at gu ⊢
          clear u hne val
          replace HB := Lib.hid (bel_step HB.out gu HB.out.size)
          replace HRr := Lib.hid (HRr.out.after gu)
          replace HRd := Lib.hid (HRd.out.after gu)
          clear gu
          have cr0 := HRr.out.1.c0
          have cr1 := HRr.out.1.c1
          have ltr := HRr.out.1.lt
          have cd0 := HRd.out.1.c0
          have cd1 := HRd.out.1.c1
          have ltd := HRd.out.1.lt
          go_wp2
          go_ret
          exact ⟨rfl, HB.out⟩
end Go.Proofs.Ytopfenhphnmfkaa.fnRhythms
