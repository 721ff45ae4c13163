/-
  For every code, the twins of the rhythm made of it are twins and no forms of it, stand by falling codes, and so are their other pulses; the known rhythms are as said. Condition: none beyond the given statement.
-/
import Derived.Test.YtopfenhphnmfkaaK3
import Derived.Test.YtopfenhphnmfkaaB0
import Derived.Test.YtopfenhphnmfkaaRows
import Derived.Test.YtopfenhphnmfkaaS1
import Derived.Test.YtopfenhphnmfkaaS2
set_option linter.unusedVariables false
set_option linter.unusedSimpArgs false
namespace Go.Proofs.Ytopfenhphnmfkaa.fnTwins
open Go.RowKit

set_option maxRecDepth 20000 in
set_option maxHeartbeats 8000000 in
theorem walk (w : World) (v0 : Value) (z0 : Nat) (h0 : Bytes w w.heap.size v0 z0) :
    Calls Try.prog 8 #[v0] w fun e w' => e = .returned (.bool true) ∧ Below w.heap.size w w' := by
  have h0' := h0
  obtain ⟨ad0, cap0, rfl, -⟩ := h0'
  by_cases s0 : 1048576 < z0
  · go_enter Try.func8, Try.ntmps8
    go_wp2
    go_ret
    exact ⟨rfl, Below.refl _ _⟩
  have hm0 : z0 ≤ 1048576 := by omega
  have HH0 := Lib.hid h0
  clear h0
  have HB : Hid (Below w.heap.size w w) := Below.refl _ _
  go_enter Try.func8, Try.ntmps8
  go_wp2_with fail
  refine withWorld fun X1 hX => ?_
  have gB : Below w.heap.size w X1 := (by rw [hX]; (repeat (first | (with_reducible exact (Below.refl _ _)) | (with_reducible refine bel_alloc ?_ _) | (with_reducible refine Below.drew ?_) | (with_reducible refine bel_drewN ?_ _) | (with_reducible refine Below.setCell ?_ (by simp) _))))
  replace HB := Lib.hid (bel_step HB.out gB HB.out.size)
  clear hX gB
  refine (specMakeRhythm _ z0 0 9 _ hm0 (by decide) (by decide) (by decide) ((HH0.out.below HB.out).mono HB.out.size)).mono ?_
  rintro e w1 ⟨N, x, ax1, kx1, rfl, hN9, hR, o1, b1⟩
  replace HB := Lib.hid (bel_step HB.out b1 HB.out.size)
  have HO1 := Lib.hid o1
  clear o1
  clear b1
  have HRok := Lib.hid hR
  have hlo := hR.lo
  have hhi := hR.hi
  clear hR
  obtain ⟨T, hT⟩ : ∃ T : List Rh, T = twTo N x (2 ^ N.toNat) (2 ^ N.toNat) := ⟨_, rfl⟩
  have hTl : T.length ≤ 4096 := by rw [hT]; exact Nat.le_trans (twTo_len _ _ _ _) (pow12 (by omega))
  have HT := Lib.hid hT
  clear hT
  go_wp2_with fail
  refine withWorld fun X2 hX => ?_
  have gB : Below w1.heap.size w1 X2 := (by rw [hX]; (repeat (first | (with_reducible exact (Below.refl _ _)) | (with_reducible refine bel_alloc ?_ _) | (with_reducible refine Below.drew ?_) | (with_reducible refine bel_drewN ?_ _) | (with_reducible refine Below.setCell ?_ (by simp) _))))
  have HRr : Hid (RH X2 w1.heap.size (N) (.slice ax1 x.length kx1) (x)) := (by unfold Hid; rw [hX]; (repeat (first | exact RH.new HO1.out | (with_reducible refine RH.alloc ?_ _) | (with_reducible refine RH.drewN ?_ _))))
  replace HB := Lib.hid (bel_step HB.out gB HB.out.size)
  clear HO1
  clear hX gB
  refine (twinsY _ _ x T _ HRok.out (by omega) HT.out HRr.out.2).mono ?_
  rintro e w2 ⟨at2, ct2, rfl, o2, b2⟩
  replace HB := Lib.hid (bel_step HB.out b2 HB.out.size)
  replace HRr := Lib.hid (HRr.out.after b2)
  clear b2
  have cr0 := HRr.out.1.c0
  have cr1 := HRr.out.1.c1
  have ltr := HRr.out.1.lt
  obtain ⟨lo, hi, HS⟩ : ∃ lo hi, Hid (SegR w2 lo hi (.slice at2 T.length ct2) T) := ⟨_, _, Lib.hid o2⟩
  clear o2
  go_wp2_with fail
  have HL : Hid (Below w2.heap.size w2 w2) := Below.refl _ _
  clear cr0 cr1 ltr
  go_loopw [28] (fun i wr => ∃ p : Nat, p ≤ T.length ∧ i = .int .i64 p ∧ Below w2.heap.size w2 wr) (fun i _ => T.length - (intOf i).toNat)
  case atStart => exact ⟨0, Nat.zero_le _, rfl, Below.refl _ _⟩
  case round =>
    obtain ⟨p, hp, rfl, gu⟩ := hrel
    replace HB := Lib.hid (bel_step HB.out gu HB.out.size)
    replace HRr := Lib.hid (HRr.out.after gu)
    replace HS := Lib.hid (HS.out.after gu)
    replace HL := Lib.hid (bel_step HL.out gu HL.out.size)
    clear gu
    by_cases hlt : p < T.length
    · rcases HS.out.open with ⟨q1, -⟩ | ⟨bb, cap, g, hv, -, -, hbl, -, ho, hseg, -⟩
      · rw [q1] at hlt; exact absurd hlt (Nat.not_lt_zero _)
      injection hv with e1 e2 e3
      subst e1
      subst e3
      have HO := Lib.hid ho
      have HG := Lib.hid hseg
      clear ho hseg e2 HS
      obtain ⟨eN, hTw⟩ := tw_at HRok.out HT.out hlt
      have ⟨c0, c1⟩ := rowCells HO.out hlt
      rw [eN] at c0
      have hox := (HG.out p hlt).1
      obtain ⟨y, hy⟩ : ∃ y, rhX T p = y := ⟨_, rfl⟩
      rw [hy] at hTw hox
      obtain ⟨ay, ky, sy⟩ := hox.shape
      rw [sy] at hox c1
      have HTw := Lib.hid hTw
      have HY := Lib.hid hy
      have HOx := Lib.hid hox
      clear eN hTw hy hox sy
      have cr0 := HRr.out.1.c0
      have cr1 := HRr.out.1.c1
      have ltr := HRr.out.1.lt
      go_wp2_with fail
      refine withWorld fun X3 hX => ?_
      have gB : Below wr.heap.size wr X3 := (by rw [hX]; (repeat (first | (with_reducible exact (Below.refl _ _)) | (with_reducible refine bel_alloc ?_ _) | (with_reducible refine Below.drew ?_) | (with_reducible refine bel_drewN ?_ _) | (with_reducible refine Below.setCell ?_ (by simp) _))))
      have HRx : Hid (RH X3 wr.heap.size (N) (.slice ay y.length ky) (y)) := (by unfold Hid; rw [hX]; (repeat (first | exact RH.new HOx.out | (with_reducible refine RH.alloc ?_ _) | (with_reducible refine RH.drewN ?_ _))))
      replace HB := Lib.hid (bel_step HB.out gB HB.out.size)
      replace HRr := Lib.hid (HRr.out.after gB)
      replace HL := Lib.hid (bel_step HL.out gB HL.out.size)
      replace HO := Lib.hid (ownR_below HO.out gB)
      replace HG := Lib.hid (fun i hi => (HG.out i hi).after gB)
      clear HOx
      clear hX gB cr0 cr1 ltr c0 c1
      refine (leastFormY _ _ y _ HTw.out.rok _ HTw.out.form HRx.out.2).mono ?_
      rintro e w3 ⟨ax3, kx3, rfl, o3, b3⟩
      replace HB := Lib.hid (bel_step HB.out b3 HB.out.size)
      replace HRr := Lib.hid (HRr.out.after b3)
      replace HRx := Lib.hid (HRx.out.after b3)
      replace HL := Lib.hid (bel_step HL.out b3 HL.out.size)
      replace HO := Lib.hid (ownR_below HO.out b3)
      replace HG := Lib.hid (fun i hi => (HG.out i hi).after b3)
      have HO3 := Lib.hid o3
      clear o3
      clear b3
      have cr0 := HRr.out.1.c0
      have cr1 := HRr.out.1.c1
      have ltr := HRr.out.1.lt
      have cx0 := HRx.out.1.c0
      have cx1 := HRx.out.1.c1
      have ltx := HRx.out.1.lt
      go_wp2_with fail
      refine withWorld fun X4 hX => ?_
      have gB : Below w3.heap.size w3 X4 := (by rw [hX]; (repeat (first | (with_reducible exact (Below.refl _ _)) | (with_reducible refine bel_alloc ?_ _) | (with_reducible refine Below.drew ?_) | (with_reducible refine bel_drewN ?_ _) | (with_reducible refine Below.setCell ?_ (by simp) _))))
      have HRf : Hid (RH X4 w3.heap.size (N) (.slice ax3 (y).length kx3) (y)) := (by unfold Hid; rw [hX]; (repeat (first | exact RH.new HO3.out | (with_reducible refine RH.alloc ?_ _) | (with_reducible refine RH.drewN ?_ _))))
      replace HB := Lib.hid (bel_step HB.out gB HB.out.size)
      replace HRr := Lib.hid (HRr.out.after gB)
      replace HRx := Lib.hid (HRx.out.after gB)
      replace HL := Lib.hid (bel_step HL.out gB HL.out.size)
      replace HO := Lib.hid (ownR_below HO.out gB)
      replace HG := Lib.hid (fun i hi => (HG.out i hi).after gB)
      clear HO3
      clear hX gB cr0 cr1 ltr cx0 cx1 ltx
      refine (otherY _ _ x _ HRok.out _ rfl HRr.out.2).mono ?_
      rintro e w4 ⟨ax4, kx4, rfl, o4, b4⟩
      replace HB := Lib.hid (bel_step HB.out b4 HB.out.size)
      replace HRr := Lib.hid (HRr.out.after b4)
      replace HRx := Lib.hid (HRx.out.after b4)
      replace HRf := Lib.hid (HRf.out.after b4)
      replace HL := Lib.hid (bel_step HL.out b4 HL.out.size)
      replace HO := Lib.hid (ownR_below HO.out b4)
      replace HG := Lib.hid (fun i hi => (HG.out i hi).after b4)
      have HO4 := Lib.hid o4
      clear o4
      clear b4
      have cr0 := HRr.out.1.c0
      have cr1 := HRr.out.1.c1
      have ltr := HRr.out.1.lt
      have cx0 := HRx.out.1.c0
      have cx1 := HRx.out.1.c1
      have ltx := HRx.out.1.lt
      have cf0 := HRf.out.1.c0
      have cf1 := HRf.out.1.c1
      have ltf := HRf.out.1.lt
      go_wp2_with fail
      refine withWorld fun X5 hX => ?_
      have gB : Below w4.heap.size w4 X5 := (by rw [hX]; (repeat (first | (with_reducible exact (Below.refl _ _)) | (with_reducible refine bel_alloc ?_ _) | (with_reducible refine Below.drew ?_) | (with_reducible refine bel_drewN ?_ _) | (with_reducible refine Below.setCell ?_ (by simp) _))))
      have HRa : Hid (RH X5 w4.heap.size (N) (.slice ax4 (othTo x N.toNat).length kx4) (othTo x N.toNat)) := (by unfold Hid; rw [hX]; (repeat (first | exact RH.new HO4.out | (with_reducible refine RH.alloc ?_ _) | (with_reducible refine RH.drewN ?_ _))))
      replace HB := Lib.hid (bel_step HB.out gB HB.out.size)
      replace HRr := Lib.hid (HRr.out.after gB)
      replace HRx := Lib.hid (HRx.out.after gB)
      replace HRf := Lib.hid (HRf.out.after gB)
      replace HL := Lib.hid (bel_step HL.out gB HL.out.size)
      replace HO := Lib.hid (ownR_below HO.out gB)
      replace HG := Lib.hid (fun i hi => (HG.out i hi).after gB)
      clear HO4
      clear hX gB cr0 cr1 ltr cx0 cx1 ltx cf0 cf1 ltf
      refine (otherY _ _ y _ HTw.out.rok _ rfl HRx.out.2).mono ?_
      rintro e w5 ⟨ax5, kx5, rfl, o5, b5⟩
      replace HB := Lib.hid (bel_step HB.out b5 HB.out.size)
      replace HRr := Lib.hid (HRr.out.after b5)
      replace HRx := Lib.hid (HRx.out.after b5)
      replace HRf := Lib.hid (HRf.out.after b5)
      replace HRa := Lib.hid (HRa.out.after b5)
      replace HL := Lib.hid (bel_step HL.out b5 HL.out.size)
      replace HO := Lib.hid (ownR_below HO.out b5)
      replace HG := Lib.hid (fun i hi => (HG.out i hi).after b5)
      have HO5 := Lib.hid o5
      clear o5
      clear b5
      have cr0 := HRr.out.1.c0
      have cr1 := HRr.out.1.c1
      have ltr := HRr.out.1.lt
      have cx0 := HRx.out.1.c0
      have cx1 := HRx.out.1.c1
      have ltx := HRx.out.1.lt
      have cf0 := HRf.out.1.c0
      have cf1 := HRf.out.1.c1
      have ltf := HRf.out.1.lt
      have ca0 := HRa.out.1.c0
      have ca1 := HRa.out.1.c1
      have lta := HRa.out.1.lt
      have HOa := Lib.hid (oth_rok hlo hhi x)
      have HOb := Lib.hid (oth_rok hlo hhi y)
      by_cases hp0 : 0 < p
      · obtain ⟨q, hq⟩ : ∃ q, p = q + 1 := ⟨p - 1, by omega⟩
        have hql : q < T.length := by omega
        have hg0 : decide (0 < (p : Int)) = true := by simp; omega
        have hg1 : (0 : Int) < (p : Int) := by omega
        have hwr : IntKind.i64.wrap ((p : Int) - 1) = (q : Int) := by rw [show (p : Int) - 1 = (q : Int) by omega]; exact IntWalk.i64_in _ (by omega)
        have hgt := tw_gt HRok.out HT.out (i := q) (by omega)
        rw [← hq, HY.out] at hgt
        obtain ⟨eq, hTq⟩ := tw_at HRok.out HT.out hql
        obtain ⟨z, hz⟩ : ∃ z, rhX T q = z := ⟨_, rfl⟩
        rw [hz] at hgt hTq
        have hoz := (HG.out q hql).1
        rw [hz] at hoz
        obtain ⟨az, kz, sz⟩ := hoz.shape
        rw [sz] at hoz
        have HQ := Lib.hid hoz.ints
        obtain ⟨t1, ht1⟩ : ∃ t, tx z N.toNat = t := ⟨_, rfl⟩
        obtain ⟨t2, ht2⟩ : ∃ t, tx y N.toNat = t := ⟨_, rfl⟩
        have hcmp : (Op.bytesLess t1.toList t2.toList || t1.toList == t2.toList) = false := by rw [← ht1, ← ht2, Lib.toList_data, Lib.toList_data]; exact hgt
        have HTq := Lib.hid hTq.rok
        have HEQ := Lib.hid eq
        have HSZ := Lib.hid sz
        have HT1 := Lib.hid ht1
        have HT2 := Lib.hid ht2
        clear hgt eq hTq hz hoz sz ht1 ht2 hq
        go_wp2_with fail
        refine withWorldC fun Y6 hY => ?_
        have gB : Below w5.heap.size w5 Y6 := (by rw [hY]; (repeat (first | (with_reducible exact (Below.refl _ _)) | (with_reducible refine bel_alloc ?_ _) | (with_reducible refine Below.drew ?_) | (with_reducible refine bel_drewN ?_ _) | (with_reducible refine Below.setCell ?_ (by simp) _))))
        have HRb : Hid (RH Y6 w5.heap.size (N) (.slice ax5 (othTo y N.toNat).length kx5) (othTo y N.toNat)) := (by unfold Hid; rw [hY]; (repeat (first | exact RH.new HO5.out | (with_reducible refine RH.alloc ?_ _) | (with_reducible refine RH.drewN ?_ _))))
        replace HB := Lib.hid (bel_step HB.out gB HB.out.size)
        replace HRr := Lib.hid (HRr.out.after gB)
        replace HRx := Lib.hid (HRx.out.after gB)
        replace HRf := Lib.hid (HRf.out.after gB)
        replace HRa := Lib.hid (HRa.out.after gB)
        replace HL := Lib.hid (bel_step HL.out gB HL.out.size)
        replace HO := Lib.hid (ownR_below HO.out gB)
        replace HG := Lib.hid (fun i hi => (HG.out i hi).after gB)
        replace HQ := Lib.hid ((HQ.out.below gB).mono gB.size)
        clear HO5
        clear hY gB cr0 cr1 ltr cx0 cx1 ltx cf0 cf1 ltf ca0 ca1 lta
        refine region_held (fun V => Below Y6.heap.size Y6 V) (by kernel_rfl) (by kernel_rfl) ((Below.refl _ _).drew) (fun V V' h1 h2 => bel_step h1 h2 h1.size) fun U val hne hv hcall => ?_
        have HC := Lib.hid hcall
        have zr0 : ∀ u, (val u).cell? ⟨w1.heap.size, 0, none⟩ = some (.int .i64 (N)) := fun u => ((bcell (hv u)).1 _ _ HRr.out.1.lt).trans HRr.out.1.c0
        have zr1 : ∀ u, (val u).cell? ⟨w1.heap.size, 1, none⟩ = some (.slice ax1 x.length kx1) := fun u => ((bcell (hv u)).1 _ _ HRr.out.1.lt).trans HRr.out.1.c1
        have zx0 : ∀ u, (val u).cell? ⟨wr.heap.size, 0, none⟩ = some (.int .i64 (N)) := fun u => ((bcell (hv u)).1 _ _ HRx.out.1.lt).trans HRx.out.1.c0
        have zx1 : ∀ u, (val u).cell? ⟨wr.heap.size, 1, none⟩ = some (.slice ay y.length ky) := fun u => ((bcell (hv u)).1 _ _ HRx.out.1.lt).trans HRx.out.1.c1
        have zf0 : ∀ u, (val u).cell? ⟨w3.heap.size, 0, none⟩ = some (.int .i64 (N)) := fun u => ((bcell (hv u)).1 _ _ HRf.out.1.lt).trans HRf.out.1.c0
        have zf1 : ∀ u, (val u).cell? ⟨w3.heap.size, 1, none⟩ = some (.slice ax3 (y).length kx3) := fun u => ((bcell (hv u)).1 _ _ HRf.out.1.lt).trans HRf.out.1.c1
        have za0 : ∀ u, (val u).cell? ⟨w4.heap.size, 0, none⟩ = some (.int .i64 (N)) := fun u => ((bcell (hv u)).1 _ _ HRa.out.1.lt).trans HRa.out.1.c0
        have za1 : ∀ u, (val u).cell? ⟨w4.heap.size, 1, none⟩ = some (.slice ax4 (othTo x N.toNat).length kx4) := fun u => ((bcell (hv u)).1 _ _ HRa.out.1.lt).trans HRa.out.1.c1
        have zb0 : ∀ u, (val u).cell? ⟨w5.heap.size, 0, none⟩ = some (.int .i64 (N)) := fun u => ((bcell (hv u)).1 _ _ HRb.out.1.lt).trans HRb.out.1.c0
        have zb1 : ∀ u, (val u).cell? ⟨w5.heap.size, 1, none⟩ = some (.slice ax5 (othTo y N.toNat).length kx5) := fun u => ((bcell (hv u)).1 _ _ HRb.out.1.lt).trans HRb.out.1.c1
        have ⟨d0, d1⟩ := rowCells HO.out hql
        rw [HEQ.out] at d0
        rw [HSZ.out] at d1
        have hbl2 := World.block_lt_of_cell? _ _ d0
        have zp0 : ∀ u, (val u).cell? ⟨bb, q * 2, none⟩ = some (.int .i64 N) := fun u => ((bcell (hv u)).1 _ _ hbl2).trans d0
        have zp1 : ∀ u, (val u).cell? ⟨bb, q * 2 + 1, none⟩ = some (.slice az z.length kz) := fun u => ((bcell (hv u)).1 _ _ hbl2).trans d1
        clear d0 d1 hbl2
        have HV := Lib.hid hv
        clear hv hcall
        repeat (go_big_quiet_step ((first | (go_at_call 37; exact HC.out _ _ _ _ (areTwinsY _ _ _ x y true _ HRok.out HTw.out.rok HTw.out.t1 (HRr.out.2.ofBelow (HV.out _)) (HRx.out.2.ofBelow (HV.out _)))) | (go_at_call 37; exact HC.out _ _ _ _ (areTwinsY _ _ _ y x true _ HTw.out.rok HRok.out HTw.out.t2 (HRx.out.2.ofBelow (HV.out _)) (HRr.out.2.ofBelow (HV.out _)))) | (go_at_call 21; exact HC.out _ _ _ _ (lawRhythmsY _ _ _ y y _ rfl (HRf.out.2.ofBelow (HV.out _)) (HRx.out.2.ofBelow (HV.out _)))) | (go_at_call 26; exact HC.out _ _ _ _ (areFormsY _ _ _ x y false _ HRok.out HTw.out.rok HTw.out.nf (HRr.out.2.ofBelow (HV.out _)) (HRx.out.2.ofBelow (HV.out _)))) | (go_at_call 37; exact HC.out _ _ _ _ (areTwinsY _ _ _ (othTo x N.toNat) (othTo y N.toNat) true _ HOa.out HOb.out HTw.out.t3 (HRa.out.2.ofBelow (HV.out _)) (HRb.out.2.ofBelow (HV.out _)))) | (go_at_call 51; exact HC.out _ _ _ _ (textY _ _ z t1 _ HTq.out HT1.out (HQ.out.ofBelow (HV.out _)))) | (go_at_call 51; exact HC.out _ _ _ _ (textY _ _ y t2 _ HTw.out.rok HT2.out (HRx.out.2.ofBelow (HV.out _)))))))
        refine wpQuiet_nil ?_
        rintro _ ⟨u, rfl⟩
        have gu := HV.out u
        clear HC HV zr0 zr1 zx0 zx1 zf0 zf1 za0 za1 zb0 zb1 zp0 zp1
        generalize val u = w6 at gu ⊢
        clear u hne val
        replace HB := Lib.hid (bel_step HB.out gu HB.out.size)
        replace HRr := Lib.hid (HRr.out.after gu)
        replace HRx := Lib.hid (HRx.out.after gu)
        replace HRf := Lib.hid (HRf.out.after gu)
        replace HRa := Lib.hid (HRa.out.after gu)
        replace HRb := Lib.hid (HRb.out.after gu)
        replace HL := Lib.hid (bel_step HL.out gu HL.out.size)
        replace HO := Lib.hid (ownR_below HO.out gu)
        replace HG := Lib.hid (fun i hi => (HG.out i hi).after gu)
        replace HQ := Lib.hid ((HQ.out.below gu).mono gu.size)
        clear gu
        have cr0 := HRr.out.1.c0
        have cr1 := HRr.out.1.c1
        have ltr := HRr.out.1.lt
        have cx0 := HRx.out.1.c0
        have cx1 := HRx.out.1.c1
        have ltx := HRx.out.1.lt
        have cf0 := HRf.out.1.c0
        have cf1 := HRf.out.1.c1
        have ltf := HRf.out.1.lt
        have ca0 := HRa.out.1.c0
        have ca1 := HRa.out.1.c1
        have lta := HRa.out.1.lt
        have cb0 := HRb.out.1.c0
        have cb1 := HRb.out.1.c1
        have ltb := HRb.out.1.lt
        clear cr0 cr1 ltr cx0 cx1 ltx cf0 cf1 ltf ca0 ca1 lta cb0 cb1 ltb
        go_wp2
        go_roundw
        case rel => exact ⟨p + 1, by omega, by go_num, HL.out⟩
        case measure => simp [intOf]; omega
      · have hg0 : decide (0 < (p : Int)) = false := by simp; omega
        have hg1 : ¬ (0 : Int) < (p : Int) := by omega
        go_wp2_with fail
        refine withWorldC fun Y6 hY => ?_
        have gB : Below w5.heap.size w5 Y6 := (by rw [hY]; (repeat (first | (with_reducible exact (Below.refl _ _)) | (with_reducible refine bel_alloc ?_ _) | (with_reducible refine Below.drew ?_) | (with_reducible refine bel_drewN ?_ _) | (with_reducible refine Below.setCell ?_ (by simp) _))))
        have HRb : Hid (RH Y6 w5.heap.size (N) (.slice ax5 (othTo y N.toNat).length kx5) (othTo y N.toNat)) := (by unfold Hid; rw [hY]; (repeat (first | exact RH.new HO5.out | (with_reducible refine RH.alloc ?_ _) | (with_reducible refine RH.drewN ?_ _))))
        replace HB := Lib.hid (bel_step HB.out gB HB.out.size)
        replace HRr := Lib.hid (HRr.out.after gB)
        replace HRx := Lib.hid (HRx.out.after gB)
        replace HRf := Lib.hid (HRf.out.after gB)
        replace HRa := Lib.hid (HRa.out.after gB)
        replace HL := Lib.hid (bel_step HL.out gB HL.out.size)
        replace HO := Lib.hid (ownR_below HO.out gB)
        replace HG := Lib.hid (fun i hi => (HG.out i hi).after gB)
        clear HO5
        clear hY gB cr0 cr1 ltr cx0 cx1 ltx cf0 cf1 ltf ca0 ca1 lta
        refine region_held (fun V => Below Y6.heap.size Y6 V) (by kernel_rfl) (by kernel_rfl) ((Below.refl _ _).drew) (fun V V' h1 h2 => bel_step h1 h2 h1.size) fun U val hne hv hcall => ?_
        have HC := Lib.hid hcall
        have zr0 : ∀ u, (val u).cell? ⟨w1.heap.size, 0, none⟩ = some (.int .i64 (N)) := fun u => ((bcell (hv u)).1 _ _ HRr.out.1.lt).trans HRr.out.1.c0
        have zr1 : ∀ u, (val u).cell? ⟨w1.heap.size, 1, none⟩ = some (.slice ax1 x.length kx1) := fun u => ((bcell (hv u)).1 _ _ HRr.out.1.lt).trans HRr.out.1.c1
        have zx0 : ∀ u, (val u).cell? ⟨wr.heap.size, 0, none⟩ = some (.int .i64 (N)) := fun u => ((bcell (hv u)).1 _ _ HRx.out.1.lt).trans HRx.out.1.c0
        have zx1 : ∀ u, (val u).cell? ⟨wr.heap.size, 1, none⟩ = some (.slice ay y.length ky) := fun u => ((bcell (hv u)).1 _ _ HRx.out.1.lt).trans HRx.out.1.c1
        have zf0 : ∀ u, (val u).cell? ⟨w3.heap.size, 0, none⟩ = some (.int .i64 (N)) := fun u => ((bcell (hv u)).1 _ _ HRf.out.1.lt).trans HRf.out.1.c0
        have zf1 : ∀ u, (val u).cell? ⟨w3.heap.size, 1, none⟩ = some (.slice ax3 (y).length kx3) := fun u => ((bcell (hv u)).1 _ _ HRf.out.1.lt).trans HRf.out.1.c1
        have za0 : ∀ u, (val u).cell? ⟨w4.heap.size, 0, none⟩ = some (.int .i64 (N)) := fun u => ((bcell (hv u)).1 _ _ HRa.out.1.lt).trans HRa.out.1.c0
        have za1 : ∀ u, (val u).cell? ⟨w4.heap.size, 1, none⟩ = some (.slice ax4 (othTo x N.toNat).length kx4) := fun u => ((bcell (hv u)).1 _ _ HRa.out.1.lt).trans HRa.out.1.c1
        have zb0 : ∀ u, (val u).cell? ⟨w5.heap.size, 0, none⟩ = some (.int .i64 (N)) := fun u => ((bcell (hv u)).1 _ _ HRb.out.1.lt).trans HRb.out.1.c0
        have zb1 : ∀ u, (val u).cell? ⟨w5.heap.size, 1, none⟩ = some (.slice ax5 (othTo y N.toNat).length kx5) := fun u => ((bcell (hv u)).1 _ _ HRb.out.1.lt).trans HRb.out.1.c1
        have HV := Lib.hid hv
        clear hv hcall
        repeat (go_big_quiet_step ((first | (go_at_call 37; exact HC.out _ _ _ _ (areTwinsY _ _ _ x y true _ HRok.out HTw.out.rok HTw.out.t1 (HRr.out.2.ofBelow (HV.out _)) (HRx.out.2.ofBelow (HV.out _)))) | (go_at_call 37; exact HC.out _ _ _ _ (areTwinsY _ _ _ y x true _ HTw.out.rok HRok.out HTw.out.t2 (HRx.out.2.ofBelow (HV.out _)) (HRr.out.2.ofBelow (HV.out _)))) | (go_at_call 21; exact HC.out _ _ _ _ (lawRhythmsY _ _ _ y y _ rfl (HRf.out.2.ofBelow (HV.out _)) (HRx.out.2.ofBelow (HV.out _)))) | (go_at_call 26; exact HC.out _ _ _ _ (areFormsY _ _ _ x y false _ HRok.out HTw.out.rok HTw.out.nf (HRr.out.2.ofBelow (HV.out _)) (HRx.out.2.ofBelow (HV.out _)))) | (go_at_call 37; exact HC.out _ _ _ _ (areTwinsY _ _ _ (othTo x N.toNat) (othTo y N.toNat) true _ HOa.out HOb.out HTw.out.t3 (HRa.out.2.ofBelow (HV.out _)) (HRb.out.2.ofBelow (HV.out _)))))))
        refine wpQuiet_nil ?_
        rintro _ ⟨u, rfl⟩
        have gu := HV.out u
        clear HC HV zr0 zr1 zx0 zx1 zf0 zf1 za0 za1 zb0 zb1 
        generalize val u = w6 at gu ⊢
        clear u hne val
        replace HB := Lib.hid (bel_step HB.out gu HB.out.size)
        replace HRr := Lib.hid (HRr.out.after gu)
        replace HRx := Lib.hid (HRx.out.after gu)
        replace HRf := Lib.hid (HRf.out.after gu)
        replace HRa := Lib.hid (HRa.out.after gu)
        replace HRb := Lib.hid (HRb.out.after gu)
        replace HL := Lib.hid (bel_step HL.out gu HL.out.size)
        replace HO := Lib.hid (ownR_below HO.out gu)
        replace HG := Lib.hid (fun i hi => (HG.out i hi).after gu)
        clear gu
        have cr0 := HRr.out.1.c0
        have cr1 := HRr.out.1.c1
        have ltr := HRr.out.1.lt
        have cx0 := HRx.out.1.c0
        have cx1 := HRx.out.1.c1
        have ltx := HRx.out.1.lt
        have cf0 := HRf.out.1.c0
        have cf1 := HRf.out.1.c1
        have ltf := HRf.out.1.lt
        have ca0 := HRa.out.1.c0
        have ca1 := HRa.out.1.c1
        have lta := HRa.out.1.lt
        have cb0 := HRb.out.1.c0
        have cb1 := HRb.out.1.c1
        have ltb := HRb.out.1.lt
        clear cr0 cr1 ltr cx0 cx1 ltx cf0 cf1 ltf ca0 ca1 lta cb0 cb1 ltb
        go_wp2
        go_roundw
        case rel => exact ⟨p + 1, by omega, by go_num, HL.out⟩
        case measure => simp [intOf]; omega
    · clear HS HL HT hTl
      have cr0 := HRr.out.1.c0
      have cr1 := HRr.out.1.c1
      have ltr := HRr.out.1.lt
      go_wp2_with fail
      refine withWorldC fun Y3 hY => ?_
      have HRu : Hid (RH Y3 (wr.heap.size + 1) 8 (.slice (some ⟨wr.heap.size, 0, none⟩) 4 4) [0, 1, 2, 5]) := by
        have h := RH.new (n := 8) (Own.litL wr [0, 1, 2, 5] (by decide))
        rw [World.size_alloc] at h
        unfold Hid; rw [hY]
        exact (h.alloc _).alloc _
      have HRv : Hid (RH Y3 (wr.heap.size + 1 + 1 + 1) 8 (.slice (some ⟨wr.heap.size + 1 + 1, 0, none⟩) 4 4) [0, 1, 3, 4]) := by
        have h : ∀ Z : World, Z.heap.size = wr.heap.size + 1 + 1 → RH ((Z.alloc (.cells #[.int .i64 0, .int .i64 1, .int .i64 3, .int .i64 4] 3)).alloc (.cells #[.int .i64 8, .slice (some ⟨wr.heap.size + 1 + 1, 0, none⟩) 4 4] 25)) (wr.heap.size + 1 + 1 + 1) 8 (.slice (some ⟨wr.heap.size + 1 + 1, 0, none⟩) 4 4) [0, 1, 3, 4] := fun Z hZ => by
          have h := RH.new (n := 8) (Own.litL Z [0, 1, 3, 4] (by decide))
          rw [World.size_alloc, hZ] at h
          exact h
        unfold Hid; rw [hY]
        exact h _ (by simp)
      have gB : Below wr.heap.size wr Y3 := (by rw [hY]; (repeat (first | (with_reducible exact (Below.refl _ _)) | (with_reducible refine bel_alloc ?_ _) | (with_reducible refine Below.drew ?_) | (with_reducible refine bel_drewN ?_ _) | (with_reducible refine Below.setCell ?_ (by simp) _))))
      replace HB := Lib.hid (bel_step HB.out gB HB.out.size)
      replace HRr := Lib.hid (HRr.out.after gB)
      clear hY gB cr0 cr1 ltr
      have hn0 : (N == 0) = false := by simp; omega
      have hn1 : ¬ N = 0 := by omega
      have cr0 := HRr.out.1.c0
      have cr1 := HRr.out.1.c1
      have ltr := HRr.out.1.lt
      have cu0 := HRu.out.1.c0
      have cu1 := HRu.out.1.c1
      have ltu := HRu.out.1.lt
      have cv0 := HRv.out.1.c0
      have cv1 := HRv.out.1.c1
      have ltv := HRv.out.1.lt
      go_cut [15] (fun u wx => (∃ P : Int, 0 ≤ P ∧ P < N ∧ u = .int .i64 P) ∧ Below Y3.heap.size Y3 wx)
      case first =>
        go_region_with (go_at_call 11; refine (specMakeNum _ z0 30 _ hm0 (by decide) ((HH0.out.below HB.out.drew).mono HB.out.drew.size)).mono ?_; rintro e w4 ⟨⟨rr, hr0, hr1, rfl⟩, b4⟩; have HR4 := Lib.hid (RH.after (V := Y3.drew) HRr.out b4); have d0 := HR4.out.1.c0)
        all_goals
          go_wp2
          go_meet
          case rel => exact ⟨⟨rr.tmod N, by rw [Int.tmod_eq_emod_of_nonneg hr0]; exact Int.emod_nonneg _ hn1, by rw [Int.tmod_eq_emod_of_nonneg hr0]; exact Int.emod_lt_of_pos _ (by omega), rfl⟩, (Below.drew (Below.refl _ _)).trans b4⟩
      rename World => w4
      obtain ⟨⟨P, hP0, hP1, rfl⟩, b4⟩ := hcut
      clear cr0 cr1 ltr cu0 cu1 ltu cv0 cv1 ltv
      replace HB := Lib.hid (bel_step HB.out b4 HB.out.size)
      replace HRr := Lib.hid (HRr.out.after b4)
      replace HRu := Lib.hid (HRu.out.after b4)
      replace HRv := Lib.hid (HRv.out.after b4)
      clear b4
      have cr0 := HRr.out.1.c0
      have cr1 := HRr.out.1.c1
      have ltr := HRr.out.1.lt
      have cu0 := HRu.out.1.c0
      have cu1 := HRu.out.1.c1
      have ltu := HRu.out.1.lt
      have cv0 := HRv.out.1.c0
      have cv1 := HRv.out.1.c1
      have ltv := HRv.out.1.lt
      go_wp2_with fail
      clear cr0 cr1 ltr cu0 cu1 ltu cv0 cv1 ltv
      have cr0 := HRr.out.1.c0
      have cr1 := HRr.out.1.c1
      have ltr := HRr.out.1.lt
      have cu0 := HRu.out.1.c0
      have cu1 := HRu.out.1.c1
      have ltu := HRu.out.1.lt
      have cv0 := HRv.out.1.c0
      have cv1 := HRv.out.1.c1
      have ltv := HRv.out.1.lt
      go_cut [16] (fun u wx => (∃ P : Int, 0 ≤ P ∧ P < N ∧ u = .int .i64 P) ∧ Below w4.heap.size w4 wx)
      case first =>
        go_region_with (go_at_call 11; refine (specMakeNum _ z0 32 _ hm0 (by decide) ((HH0.out.below HB.out.drew).mono HB.out.drew.size)).mono ?_; rintro e w5 ⟨⟨rr, hr0, hr1, rfl⟩, b5⟩; have HR4 := Lib.hid (RH.after (V := w4.drew) HRr.out b5); have d0 := HR4.out.1.c0)
        all_goals
          go_wp2
          go_meet
          case rel => exact ⟨⟨rr.tmod N, by rw [Int.tmod_eq_emod_of_nonneg hr0]; exact Int.emod_nonneg _ hn1, by rw [Int.tmod_eq_emod_of_nonneg hr0]; exact Int.emod_lt_of_pos _ (by omega), rfl⟩, (Below.drew (Below.refl _ _)).trans b5⟩
      rename World => w5
      obtain ⟨⟨Q, hQ0, hQ1, rfl⟩, b5⟩ := hcut
      clear cr0 cr1 ltr cu0 cu1 ltu cv0 cv1 ltv
      replace HB := Lib.hid (bel_step HB.out b5 HB.out.size)
      replace HRr := Lib.hid (HRr.out.after b5)
      replace HRu := Lib.hid (HRu.out.after b5)
      replace HRv := Lib.hid (HRv.out.after b5)
      clear b5
      have cr0 := HRr.out.1.c0
      have cr1 := HRr.out.1.c1
      have ltr := HRr.out.1.lt
      have cu0 := HRu.out.1.c0
      have cu1 := HRu.out.1.c1
      have ltu := HRu.out.1.lt
      have cv0 := HRv.out.1.c0
      have cv1 := HRv.out.1.c1
      have ltv := HRv.out.1.lt
      have hPP : mo P N = P := mo_id hP0 hP1
      have hQQ : mo Q N = Q := mo_id hQ0 hQ1
      have HPP := Lib.hid hPP
      have HQQ := Lib.hid hQQ
      clear hPP hQQ
      cases hp1 : hasL x P with
      | false =>
        obtain ⟨d, hd, hd1⟩ : ∃ d, valIntervalBetween N x P Q = d ∧ d = -1 := ⟨_, rfl, valIntervalBetween_no (.inr (.inl hp1))⟩
        have HD0 := Lib.hid hd
        have HP : Hid (hasL x (mo P N) = false) := by unfold Hid; rw [HPP.out]; exact hp1
        clear hd hp1
        have hdn : ¬ 0 ≤ d := by omega
        have hdm : d < 0 := by omega
        have hdf : decide (0 ≤ d) = false := decide_eq_false hdn
        clear hd1
        go_wp2_with fail
        refine withWorld fun X6 hX => ?_
        have gB : Below w5.heap.size w5 X6 := (by rw [hX]; (repeat (first | (with_reducible exact (Below.refl _ _)) | (with_reducible refine bel_alloc ?_ _) | (with_reducible refine Below.drew ?_) | (with_reducible refine bel_drewN ?_ _) | (with_reducible refine Below.setCell ?_ (by simp) _))))
        replace HB := Lib.hid (bel_step HB.out gB HB.out.size)
        replace HRr := Lib.hid (HRr.out.after gB)
        replace HRu := Lib.hid (HRu.out.after gB)
        replace HRv := Lib.hid (HRv.out.after gB)
        clear hX gB cr0 cr1 ltr cu0 cu1 ltu cv0 cv1 ltv
        refine (betweenY _ _ x P Q d _ HRok.out ⟨by omega, by omega⟩ ⟨by omega, by omega⟩ HD0.out HRr.out.2).mono ?_
        rintro e w6 ⟨rfl, b6⟩
        replace HB := Lib.hid (bel_step HB.out b6 HB.out.size)
        replace HRr := Lib.hid (HRr.out.after b6)
        replace HRu := Lib.hid (HRu.out.after b6)
        replace HRv := Lib.hid (HRv.out.after b6)
        clear b6
        have cr0 := HRr.out.1.c0
        have cr1 := HRr.out.1.c1
        have ltr := HRr.out.1.lt
        have cu0 := HRu.out.1.c0
        have cu1 := HRu.out.1.c1
        have ltu := HRu.out.1.lt
        have cv0 := HRv.out.1.c0
        have cv1 := HRv.out.1.c1
        have ltv := HRv.out.1.lt
        go_wp2_with fail
        refine withWorld fun X7 hX => ?_
        have gB : Below w6.heap.size w6 X7 := (by rw [hX]; (repeat (first | (with_reducible exact (Below.refl _ _)) | (with_reducible refine bel_alloc ?_ _) | (with_reducible refine Below.drew ?_) | (with_reducible refine bel_drewN ?_ _) | (with_reducible refine Below.setCell ?_ (by simp) _))))
        replace HB := Lib.hid (bel_step HB.out gB HB.out.size)
        replace HRr := Lib.hid (HRr.out.after gB)
        replace HRu := Lib.hid (HRu.out.after gB)
        replace HRv := Lib.hid (HRv.out.after gB)
        clear hX gB cr0 cr1 ltr cu0 cu1 ltu cv0 cv1 ltv
        refine (hasY _ _ x P false _ HRok.out ⟨by omega, by omega⟩ HP.out HRr.out.2).mono ?_
        rintro e w7 ⟨rfl, b7⟩
        replace HB := Lib.hid (bel_step HB.out b7 HB.out.size)
        replace HRr := Lib.hid (HRr.out.after b7)
        replace HRu := Lib.hid (HRu.out.after b7)
        replace HRv := Lib.hid (HRv.out.after b7)
        clear b7
        have cr0 := HRr.out.1.c0
        have cr1 := HRr.out.1.c1
        have ltr := HRr.out.1.lt
        have cu0 := HRu.out.1.c0
        have cu1 := HRu.out.1.c1
        have ltu := HRu.out.1.lt
        have cv0 := HRv.out.1.c0
        have cv1 := HRv.out.1.c1
        have ltv := HRv.out.1.lt
        go_wp2_with fail
        refine withWorld fun X8 hX => ?_
        have gB : Below w7.heap.size w7 X8 := (by rw [hX]; (repeat (first | (with_reducible exact (Below.refl _ _)) | (with_reducible refine bel_alloc ?_ _) | (with_reducible refine Below.drew ?_) | (with_reducible refine bel_drewN ?_ _) | (with_reducible refine Below.setCell ?_ (by simp) _))))
        replace HB := Lib.hid (bel_step HB.out gB HB.out.size)
        replace HRr := Lib.hid (HRr.out.after gB)
        replace HRu := Lib.hid (HRu.out.after gB)
        replace HRv := Lib.hid (HRv.out.after gB)
        clear hX gB cr0 cr1 ltr cu0 cu1 ltu cv0 cv1 ltv
        refine (areTwinsY _ _ _ [0, 1, 2, 5] [0, 1, 3, 4] true _ rokA rokB known_twins HRu.out.2 HRv.out.2).mono ?_
        rintro e w8 ⟨rfl, b8⟩
        replace HB := Lib.hid (bel_step HB.out b8 HB.out.size)
        replace HRr := Lib.hid (HRr.out.after b8)
        replace HRu := Lib.hid (HRu.out.after b8)
        replace HRv := Lib.hid (HRv.out.after b8)
        clear b8
        have cr0 := HRr.out.1.c0
        have cr1 := HRr.out.1.c1
        have ltr := HRr.out.1.lt
        have cu0 := HRu.out.1.c0
        have cu1 := HRu.out.1.c1
        have ltu := HRu.out.1.lt
        have cv0 := HRv.out.1.c0
        have cv1 := HRv.out.1.c1
        have ltv := HRv.out.1.lt
        go_wp2_with fail
        refine withWorld fun X9 hX => ?_
        have HD9 : Hid (Ints X9 X9.heap.size (.slice (some ⟨w8.heap.size, 0, none⟩) 7 7) [0, 2, 4, 5, 7, 9, 11]) := by unfold Hid; rw [hX]; exact (Own.litL w8 [0, 2, 4, 5, 7, 9, 11] (by decide)).ints
        have gB : Below w8.heap.size w8 X9 := (by rw [hX]; (repeat (first | (with_reducible exact (Below.refl _ _)) | (with_reducible refine bel_alloc ?_ _) | (with_reducible refine Below.drew ?_) | (with_reducible refine bel_drewN ?_ _) | (with_reducible refine Below.setCell ?_ (by simp) _))))
        replace HB := Lib.hid (bel_step HB.out gB HB.out.size)
        replace HRr := Lib.hid (HRr.out.after gB)
        replace HRu := Lib.hid (HRu.out.after gB)
        replace HRv := Lib.hid (HRv.out.after gB)
        clear hX gB cr0 cr1 ltr cu0 cu1 ltu cv0 cv1 ltv
        refine (deepY 12 _ [0, 2, 4, 5, 7, 9, 11] true _ ⟨by decide, by decide⟩ known_deep HD9.out).mono ?_
        rintro e w10 ⟨rfl, b10⟩
        replace HB := Lib.hid (bel_step HB.out b10 HB.out.size)
        replace HRr := Lib.hid (HRr.out.after b10)
        replace HRu := Lib.hid (HRu.out.after b10)
        replace HRv := Lib.hid (HRv.out.after b10)
        clear b10
        have cr0 := HRr.out.1.c0
        have cr1 := HRr.out.1.c1
        have ltr := HRr.out.1.lt
        have cu0 := HRu.out.1.c0
        have cu1 := HRu.out.1.c1
        have ltu := HRu.out.1.lt
        have cv0 := HRv.out.1.c0
        have cv1 := HRv.out.1.c1
        have ltv := HRv.out.1.lt
        go_wp2_with fail
        refine withWorld fun X11 hX => ?_
        have HD11 : Hid (Ints X11 X11.heap.size (.slice (some ⟨w10.heap.size, 0, none⟩) 3 3) [0, 1, 3]) := by unfold Hid; rw [hX]; exact (Own.litL w10 [0, 1, 3] (by decide)).ints
        have gB : Below w10.heap.size w10 X11 := (by rw [hX]; (repeat (first | (with_reducible exact (Below.refl _ _)) | (with_reducible refine bel_alloc ?_ _) | (with_reducible refine Below.drew ?_) | (with_reducible refine bel_drewN ?_ _) | (with_reducible refine Below.setCell ?_ (by simp) _))))
        replace HB := Lib.hid (bel_step HB.out gB HB.out.size)
        replace HRr := Lib.hid (HRr.out.after gB)
        replace HRu := Lib.hid (HRu.out.after gB)
        replace HRv := Lib.hid (HRv.out.after gB)
        clear hX gB cr0 cr1 ltr cu0 cu1 ltu cv0 cv1 ltv
        refine (flatY 7 _ [0, 1, 3] true _ ⟨by decide, by decide⟩ known_flat HD11.out).mono ?_
        rintro e w12 ⟨rfl, b12⟩
        replace HB := Lib.hid (bel_step HB.out b12 HB.out.size)
        replace HRr := Lib.hid (HRr.out.after b12)
        replace HRu := Lib.hid (HRu.out.after b12)
        replace HRv := Lib.hid (HRv.out.after b12)
        clear b12
        have cr0 := HRr.out.1.c0
        have cr1 := HRr.out.1.c1
        have ltr := HRr.out.1.lt
        have cu0 := HRu.out.1.c0
        have cu1 := HRu.out.1.c1
        have ltu := HRu.out.1.lt
        have cv0 := HRv.out.1.c0
        have cv1 := HRv.out.1.c1
        have ltv := HRv.out.1.lt
        go_wp2
        go_ret
        exact ⟨rfl, HB.out⟩
      | true =>
        cases hq1 : hasL x Q with
        | false =>
          obtain ⟨d, hd, hd1⟩ : ∃ d, valIntervalBetween N x P Q = d ∧ d = -1 := ⟨_, rfl, valIntervalBetween_no (.inr (.inr hq1))⟩
          have HD0 := Lib.hid hd
          have HP : Hid (hasL x (mo P N) = true) := by unfold Hid; rw [HPP.out]; exact hp1
          have HQ : Hid (hasL x (mo Q N) = false) := by unfold Hid; rw [HQQ.out]; exact hq1
          clear hd hp1 hq1
          have hdn : ¬ 0 ≤ d := by omega
          have hdm : d < 0 := by omega
          have hdf : decide (0 ≤ d) = false := decide_eq_false hdn
          clear hd1
          go_wp2_with fail
          refine withWorld fun X6 hX => ?_
          have gB : Below w5.heap.size w5 X6 := (by rw [hX]; (repeat (first | (with_reducible exact (Below.refl _ _)) | (with_reducible refine bel_alloc ?_ _) | (with_reducible refine Below.drew ?_) | (with_reducible refine bel_drewN ?_ _) | (with_reducible refine Below.setCell ?_ (by simp) _))))
          replace HB := Lib.hid (bel_step HB.out gB HB.out.size)
          replace HRr := Lib.hid (HRr.out.after gB)
          replace HRu := Lib.hid (HRu.out.after gB)
          replace HRv := Lib.hid (HRv.out.after gB)
          clear hX gB cr0 cr1 ltr cu0 cu1 ltu cv0 cv1 ltv
          refine (betweenY _ _ x P Q d _ HRok.out ⟨by omega, by omega⟩ ⟨by omega, by omega⟩ HD0.out HRr.out.2).mono ?_
          rintro e w6 ⟨rfl, b6⟩
          replace HB := Lib.hid (bel_step HB.out b6 HB.out.size)
          replace HRr := Lib.hid (HRr.out.after b6)
          replace HRu := Lib.hid (HRu.out.after b6)
          replace HRv := Lib.hid (HRv.out.after b6)
          clear b6
          have cr0 := HRr.out.1.c0
          have cr1 := HRr.out.1.c1
          have ltr := HRr.out.1.lt
          have cu0 := HRu.out.1.c0
          have cu1 := HRu.out.1.c1
          have ltu := HRu.out.1.lt
          have cv0 := HRv.out.1.c0
          have cv1 := HRv.out.1.c1
          have ltv := HRv.out.1.lt
          go_wp2_with fail
          refine withWorld fun X7 hX => ?_
          have gB : Below w6.heap.size w6 X7 := (by rw [hX]; (repeat (first | (with_reducible exact (Below.refl _ _)) | (with_reducible refine bel_alloc ?_ _) | (with_reducible refine Below.drew ?_) | (with_reducible refine bel_drewN ?_ _) | (with_reducible refine Below.setCell ?_ (by simp) _))))
          replace HB := Lib.hid (bel_step HB.out gB HB.out.size)
          replace HRr := Lib.hid (HRr.out.after gB)
          replace HRu := Lib.hid (HRu.out.after gB)
          replace HRv := Lib.hid (HRv.out.after gB)
          clear hX gB cr0 cr1 ltr cu0 cu1 ltu cv0 cv1 ltv
          refine (hasY _ _ x P true _ HRok.out ⟨by omega, by omega⟩ HP.out HRr.out.2).mono ?_
          rintro e w7 ⟨rfl, b7⟩
          replace HB := Lib.hid (bel_step HB.out b7 HB.out.size)
          replace HRr := Lib.hid (HRr.out.after b7)
          replace HRu := Lib.hid (HRu.out.after b7)
          replace HRv := Lib.hid (HRv.out.after b7)
          clear b7
          have cr0 := HRr.out.1.c0
          have cr1 := HRr.out.1.c1
          have ltr := HRr.out.1.lt
          have cu0 := HRu.out.1.c0
          have cu1 := HRu.out.1.c1
          have ltu := HRu.out.1.lt
          have cv0 := HRv.out.1.c0
          have cv1 := HRv.out.1.c1
          have ltv := HRv.out.1.lt
          go_wp2_with fail
          refine withWorld fun X8 hX => ?_
          have gB : Below w7.heap.size w7 X8 := (by rw [hX]; (repeat (first | (with_reducible exact (Below.refl _ _)) | (with_reducible refine bel_alloc ?_ _) | (with_reducible refine Below.drew ?_) | (with_reducible refine bel_drewN ?_ _) | (with_reducible refine Below.setCell ?_ (by simp) _))))
          replace HB := Lib.hid (bel_step HB.out gB HB.out.size)
          replace HRr := Lib.hid (HRr.out.after gB)
          replace HRu := Lib.hid (HRu.out.after gB)
          replace HRv := Lib.hid (HRv.out.after gB)
          clear hX gB cr0 cr1 ltr cu0 cu1 ltu cv0 cv1 ltv
          refine (hasY _ _ x Q false _ HRok.out ⟨by omega, by omega⟩ HQ.out HRr.out.2).mono ?_
          rintro e w8 ⟨rfl, b8⟩
          replace HB := Lib.hid (bel_step HB.out b8 HB.out.size)
          replace HRr := Lib.hid (HRr.out.after b8)
          replace HRu := Lib.hid (HRu.out.after b8)
          replace HRv := Lib.hid (HRv.out.after b8)
          clear b8
          have cr0 := HRr.out.1.c0
          have cr1 := HRr.out.1.c1
          have ltr := HRr.out.1.lt
          have cu0 := HRu.out.1.c0
          have cu1 := HRu.out.1.c1
          have ltu := HRu.out.1.lt
          have cv0 := HRv.out.1.c0
          have cv1 := HRv.out.1.c1
          have ltv := HRv.out.1.lt
          go_wp2_with fail
          refine withWorld fun X9 hX => ?_
          have gB : Below w8.heap.size w8 X9 := (by rw [hX]; (repeat (first | (with_reducible exact (Below.refl _ _)) | (with_reducible refine bel_alloc ?_ _) | (with_reducible refine Below.drew ?_) | (with_reducible refine bel_drewN ?_ _) | (with_reducible refine Below.setCell ?_ (by simp) _))))
          replace HB := Lib.hid (bel_step HB.out gB HB.out.size)
          replace HRr := Lib.hid (HRr.out.after gB)
          replace HRu := Lib.hid (HRu.out.after gB)
          replace HRv := Lib.hid (HRv.out.after gB)
          clear hX gB cr0 cr1 ltr cu0 cu1 ltu cv0 cv1 ltv
          refine (areTwinsY _ _ _ [0, 1, 2, 5] [0, 1, 3, 4] true _ rokA rokB known_twins HRu.out.2 HRv.out.2).mono ?_
          rintro e w9 ⟨rfl, b9⟩
          replace HB := Lib.hid (bel_step HB.out b9 HB.out.size)
          replace HRr := Lib.hid (HRr.out.after b9)
          replace HRu := Lib.hid (HRu.out.after b9)
          replace HRv := Lib.hid (HRv.out.after b9)
          clear b9
          have cr0 := HRr.out.1.c0
          have cr1 := HRr.out.1.c1
          have ltr := HRr.out.1.lt
          have cu0 := HRu.out.1.c0
          have cu1 := HRu.out.1.c1
          have ltu := HRu.out.1.lt
          have cv0 := HRv.out.1.c0
          have cv1 := HRv.out.1.c1
          have ltv := HRv.out.1.lt
          go_wp2_with fail
          refine withWorld fun X10 hX => ?_
          have HD10 : Hid (Ints X10 X10.heap.size (.slice (some ⟨w9.heap.size, 0, none⟩) 7 7) [0, 2, 4, 5, 7, 9, 11]) := by unfold Hid; rw [hX]; exact (Own.litL w9 [0, 2, 4, 5, 7, 9, 11] (by decide)).ints
          have gB : Below w9.heap.size w9 X10 := (by rw [hX]; (repeat (first | (with_reducible exact (Below.refl _ _)) | (with_reducible refine bel_alloc ?_ _) | (with_reducible refine Below.drew ?_) | (with_reducible refine bel_drewN ?_ _) | (with_reducible refine Below.setCell ?_ (by simp) _))))
          replace HB := Lib.hid (bel_step HB.out gB HB.out.size)
          replace HRr := Lib.hid (HRr.out.after gB)
          replace HRu := Lib.hid (HRu.out.after gB)
          replace HRv := Lib.hid (HRv.out.after gB)
          clear hX gB cr0 cr1 ltr cu0 cu1 ltu cv0 cv1 ltv
          refine (deepY 12 _ [0, 2, 4, 5, 7, 9, 11] true _ ⟨by decide, by decide⟩ known_deep HD10.out).mono ?_
          rintro e w11 ⟨rfl, b11⟩
          replace HB := Lib.hid (bel_step HB.out b11 HB.out.size)
          replace HRr := Lib.hid (HRr.out.after b11)
          replace HRu := Lib.hid (HRu.out.after b11)
          replace HRv := Lib.hid (HRv.out.after b11)
          clear b11
          have cr0 := HRr.out.1.c0
          have cr1 := HRr.out.1.c1
          have ltr := HRr.out.1.lt
          have cu0 := HRu.out.1.c0
          have cu1 := HRu.out.1.c1
          have ltu := HRu.out.1.lt
          have cv0 := HRv.out.1.c0
          have cv1 := HRv.out.1.c1
          have ltv := HRv.out.1.lt
          go_wp2_with fail
          refine withWorld fun X12 hX => ?_
          have HD12 : Hid (Ints X12 X12.heap.size (.slice (some ⟨w11.heap.size, 0, none⟩) 3 3) [0, 1, 3]) := by unfold Hid; rw [hX]; exact (Own.litL w11 [0, 1, 3] (by decide)).ints
          have gB : Below w11.heap.size w11 X12 := (by rw [hX]; (repeat (first | (with_reducible exact (Below.refl _ _)) | (with_reducible refine bel_alloc ?_ _) | (with_reducible refine Below.drew ?_) | (with_reducible refine bel_drewN ?_ _) | (with_reducible refine Below.setCell ?_ (by simp) _))))
          replace HB := Lib.hid (bel_step HB.out gB HB.out.size)
          replace HRr := Lib.hid (HRr.out.after gB)
          replace HRu := Lib.hid (HRu.out.after gB)
          replace HRv := Lib.hid (HRv.out.after gB)
          clear hX gB cr0 cr1 ltr cu0 cu1 ltu cv0 cv1 ltv
          refine (flatY 7 _ [0, 1, 3] true _ ⟨by decide, by decide⟩ known_flat HD12.out).mono ?_
          rintro e w13 ⟨rfl, b13⟩
          replace HB := Lib.hid (bel_step HB.out b13 HB.out.size)
          replace HRr := Lib.hid (HRr.out.after b13)
          replace HRu := Lib.hid (HRu.out.after b13)
          replace HRv := Lib.hid (HRv.out.after b13)
          clear b13
          have cr0 := HRr.out.1.c0
          have cr1 := HRr.out.1.c1
          have ltr := HRr.out.1.lt
          have cu0 := HRu.out.1.c0
          have cu1 := HRu.out.1.c1
          have ltu := HRu.out.1.lt
          have cv0 := HRv.out.1.c0
          have cv1 := HRv.out.1.c1
          have ltv := HRv.out.1.lt
          go_wp2
          go_ret
          exact ⟨rfl, HB.out⟩
        | true =>
          obtain ⟨d, hd, hd0, hd2⟩ : ∃ d, ivl N P Q = d ∧ 0 ≤ d ∧ 2 * d ≤ N := ⟨_, rfl, ivl_bd hlo⟩
          have HD0 : Hid (valIntervalBetween N x P Q = d) := by unfold Hid; rw [← hd]; exact valIntervalBetween_yes ((rok_iff N x).2 HRok.out) hp1 hq1
          have HD1 : Hid (valIntervalBetween N x Q P = d) := by unfold Hid; rw [← hd, ivl_comm N P Q]; exact valIntervalBetween_yes ((rok_iff N x).2 HRok.out) hq1 hp1
          have HP : Hid (hasL x (mo P N) = true) := by unfold Hid; rw [HPP.out]; exact hp1
          have HQ : Hid (hasL x (mo Q N) = true) := by unfold Hid; rw [HQQ.out]; exact hq1
          clear hd hp1 hq1
          go_wp2_with fail
          refine withWorld fun X6 hX => ?_
          have gB : Below w5.heap.size w5 X6 := (by rw [hX]; (repeat (first | (with_reducible exact (Below.refl _ _)) | (with_reducible refine bel_alloc ?_ _) | (with_reducible refine Below.drew ?_) | (with_reducible refine bel_drewN ?_ _) | (with_reducible refine Below.setCell ?_ (by simp) _))))
          replace HB := Lib.hid (bel_step HB.out gB HB.out.size)
          replace HRr := Lib.hid (HRr.out.after gB)
          replace HRu := Lib.hid (HRu.out.after gB)
          replace HRv := Lib.hid (HRv.out.after gB)
          clear hX gB cr0 cr1 ltr cu0 cu1 ltu cv0 cv1 ltv
          refine (betweenY _ _ x P Q d _ HRok.out ⟨by omega, by omega⟩ ⟨by omega, by omega⟩ HD0.out HRr.out.2).mono ?_
          rintro e w6 ⟨rfl, b6⟩
          replace HB := Lib.hid (bel_step HB.out b6 HB.out.size)
          replace HRr := Lib.hid (HRr.out.after b6)
          replace HRu := Lib.hid (HRu.out.after b6)
          replace HRv := Lib.hid (HRv.out.after b6)
          clear b6
          have cr0 := HRr.out.1.c0
          have cr1 := HRr.out.1.c1
          have ltr := HRr.out.1.lt
          have cu0 := HRu.out.1.c0
          have cu1 := HRu.out.1.c1
          have ltu := HRu.out.1.lt
          have cv0 := HRv.out.1.c0
          have cv1 := HRv.out.1.c1
          have ltv := HRv.out.1.lt
          go_wp2_with fail
          refine withWorld fun X7 hX => ?_
          have gB : Below w6.heap.size w6 X7 := (by rw [hX]; (repeat (first | (with_reducible exact (Below.refl _ _)) | (with_reducible refine bel_alloc ?_ _) | (with_reducible refine Below.drew ?_) | (with_reducible refine bel_drewN ?_ _) | (with_reducible refine Below.setCell ?_ (by simp) _))))
          replace HB := Lib.hid (bel_step HB.out gB HB.out.size)
          replace HRr := Lib.hid (HRr.out.after gB)
          replace HRu := Lib.hid (HRu.out.after gB)
          replace HRv := Lib.hid (HRv.out.after gB)
          clear hX gB cr0 cr1 ltr cu0 cu1 ltu cv0 cv1 ltv
          refine (hasY _ _ x P true _ HRok.out ⟨by omega, by omega⟩ HP.out HRr.out.2).mono ?_
          rintro e w7 ⟨rfl, b7⟩
          replace HB := Lib.hid (bel_step HB.out b7 HB.out.size)
          replace HRr := Lib.hid (HRr.out.after b7)
          replace HRu := Lib.hid (HRu.out.after b7)
          replace HRv := Lib.hid (HRv.out.after b7)
          clear b7
          have cr0 := HRr.out.1.c0
          have cr1 := HRr.out.1.c1
          have ltr := HRr.out.1.lt
          have cu0 := HRu.out.1.c0
          have cu1 := HRu.out.1.c1
          have ltu := HRu.out.1.lt
          have cv0 := HRv.out.1.c0
          have cv1 := HRv.out.1.c1
          have ltv := HRv.out.1.lt
          go_wp2_with fail
          refine withWorld fun X8 hX => ?_
          have gB : Below w7.heap.size w7 X8 := (by rw [hX]; (repeat (first | (with_reducible exact (Below.refl _ _)) | (with_reducible refine bel_alloc ?_ _) | (with_reducible refine Below.drew ?_) | (with_reducible refine bel_drewN ?_ _) | (with_reducible refine Below.setCell ?_ (by simp) _))))
          replace HB := Lib.hid (bel_step HB.out gB HB.out.size)
          replace HRr := Lib.hid (HRr.out.after gB)
          replace HRu := Lib.hid (HRu.out.after gB)
          replace HRv := Lib.hid (HRv.out.after gB)
          clear hX gB cr0 cr1 ltr cu0 cu1 ltu cv0 cv1 ltv
          refine (hasY _ _ x Q true _ HRok.out ⟨by omega, by omega⟩ HQ.out HRr.out.2).mono ?_
          rintro e w8 ⟨rfl, b8⟩
          replace HB := Lib.hid (bel_step HB.out b8 HB.out.size)
          replace HRr := Lib.hid (HRr.out.after b8)
          replace HRu := Lib.hid (HRu.out.after b8)
          replace HRv := Lib.hid (HRv.out.after b8)
          clear b8
          have cr0 := HRr.out.1.c0
          have cr1 := HRr.out.1.c1
          have ltr := HRr.out.1.lt
          have cu0 := HRu.out.1.c0
          have cu1 := HRu.out.1.c1
          have ltu := HRu.out.1.lt
          have cv0 := HRv.out.1.c0
          have cv1 := HRv.out.1.c1
          have ltv := HRv.out.1.lt
          go_wp2_with fail
          refine withWorld fun X9 hX => ?_
          have gB : Below w8.heap.size w8 X9 := (by rw [hX]; (repeat (first | (with_reducible exact (Below.refl _ _)) | (with_reducible refine bel_alloc ?_ _) | (with_reducible refine Below.drew ?_) | (with_reducible refine bel_drewN ?_ _) | (with_reducible refine Below.setCell ?_ (by simp) _))))
          replace HB := Lib.hid (bel_step HB.out gB HB.out.size)
          replace HRr := Lib.hid (HRr.out.after gB)
          replace HRu := Lib.hid (HRu.out.after gB)
          replace HRv := Lib.hid (HRv.out.after gB)
          clear hX gB cr0 cr1 ltr cu0 cu1 ltu cv0 cv1 ltv
          refine (areTwinsY _ _ _ [0, 1, 2, 5] [0, 1, 3, 4] true _ rokA rokB known_twins HRu.out.2 HRv.out.2).mono ?_
          rintro e w9 ⟨rfl, b9⟩
          replace HB := Lib.hid (bel_step HB.out b9 HB.out.size)
          replace HRr := Lib.hid (HRr.out.after b9)
          replace HRu := Lib.hid (HRu.out.after b9)
          replace HRv := Lib.hid (HRv.out.after b9)
          clear b9
          have cr0 := HRr.out.1.c0
          have cr1 := HRr.out.1.c1
          have ltr := HRr.out.1.lt
          have cu0 := HRu.out.1.c0
          have cu1 := HRu.out.1.c1
          have ltu := HRu.out.1.lt
          have cv0 := HRv.out.1.c0
          have cv1 := HRv.out.1.c1
          have ltv := HRv.out.1.lt
          go_wp2_with fail
          refine withWorld fun X10 hX => ?_
          have gB : Below w9.heap.size w9 X10 := (by rw [hX]; (repeat (first | (with_reducible exact (Below.refl _ _)) | (with_reducible refine bel_alloc ?_ _) | (with_reducible refine Below.drew ?_) | (with_reducible refine bel_drewN ?_ _) | (with_reducible refine Below.setCell ?_ (by simp) _))))
          replace HB := Lib.hid (bel_step HB.out gB HB.out.size)
          replace HRr := Lib.hid (HRr.out.after gB)
          replace HRu := Lib.hid (HRu.out.after gB)
          replace HRv := Lib.hid (HRv.out.after gB)
          clear hX gB cr0 cr1 ltr cu0 cu1 ltu cv0 cv1 ltv
          refine (betweenY _ _ x Q P d _ HRok.out ⟨by omega, by omega⟩ ⟨by omega, by omega⟩ HD1.out HRr.out.2).mono ?_
          rintro e w10 ⟨rfl, b10⟩
          replace HB := Lib.hid (bel_step HB.out b10 HB.out.size)
          replace HRr := Lib.hid (HRr.out.after b10)
          replace HRu := Lib.hid (HRu.out.after b10)
          replace HRv := Lib.hid (HRv.out.after b10)
          clear b10
          have cr0 := HRr.out.1.c0
          have cr1 := HRr.out.1.c1
          have ltr := HRr.out.1.lt
          have cu0 := HRu.out.1.c0
          have cu1 := HRu.out.1.c1
          have ltu := HRu.out.1.lt
          have cv0 := HRv.out.1.c0
          have cv1 := HRv.out.1.c1
          have ltv := HRv.out.1.lt
          go_wp2_with fail
          refine withWorld fun X11 hX => ?_
          have HD11 : Hid (Ints X11 X11.heap.size (.slice (some ⟨w10.heap.size, 0, none⟩) 7 7) [0, 2, 4, 5, 7, 9, 11]) := by unfold Hid; rw [hX]; exact (Own.litL w10 [0, 2, 4, 5, 7, 9, 11] (by decide)).ints
          have gB : Below w10.heap.size w10 X11 := (by rw [hX]; (repeat (first | (with_reducible exact (Below.refl _ _)) | (with_reducible refine bel_alloc ?_ _) | (with_reducible refine Below.drew ?_) | (with_reducible refine bel_drewN ?_ _) | (with_reducible refine Below.setCell ?_ (by simp) _))))
          replace HB := Lib.hid (bel_step HB.out gB HB.out.size)
          replace HRr := Lib.hid (HRr.out.after gB)
          replace HRu := Lib.hid (HRu.out.after gB)
          replace HRv := Lib.hid (HRv.out.after gB)
          clear hX gB cr0 cr1 ltr cu0 cu1 ltu cv0 cv1 ltv
          refine (deepY 12 _ [0, 2, 4, 5, 7, 9, 11] true _ ⟨by decide, by decide⟩ known_deep HD11.out).mono ?_
          rintro e w12 ⟨rfl, b12⟩
          replace HB := Lib.hid (bel_step HB.out b12 HB.out.size)
          replace HRr := Lib.hid (HRr.out.after b12)
          replace HRu := Lib.hid (HRu.out.after b12)
          replace HRv := Lib.hid (HRv.out.after b12)
          clear b12
          have cr0 := HRr.out.1.c0
          have cr1 := HRr.out.1.c1
          have ltr := HRr.out.1.lt
          have cu0 := HRu.out.1.c0
          have cu1 := HRu.out.1.c1
          have ltu := HRu.out.1.lt
          have cv0 := HRv.out.1.c0
          have cv1 := HRv.out.1.c1
          have ltv := HRv.out.1.lt
          go_wp2_with fail
          refine withWorld fun X13 hX => ?_
          have HD13 : Hid (Ints X13 X13.heap.size (.slice (some ⟨w12.heap.size, 0, none⟩) 3 3) [0, 1, 3]) := by unfold Hid; rw [hX]; exact (Own.litL w12 [0, 1, 3] (by decide)).ints
          have gB : Below w12.heap.size w12 X13 := (by rw [hX]; (repeat (first | (with_reducible exact (Below.refl _ _)) | (with_reducible refine bel_alloc ?_ _) | (with_reducible refine Below.drew ?_) | (with_reducible refine bel_drewN ?_ _) | (with_reducible refine Below.setCell ?_ (by simp) _))))
          replace HB := Lib.hid (bel_step HB.out gB HB.out.size)
          replace HRr := Lib.hid (HRr.out.after gB)
          replace HRu := Lib.hid (HRu.out.after gB)
          replace HRv := Lib.hid (HRv.out.after gB)
          clear hX gB cr0 cr1 ltr cu0 cu1 ltu cv0 cv1 ltv
          refine (flatY 7 _ [0, 1, 3] true _ ⟨by decide, by decide⟩ known_flat HD13.out).mono ?_
          rintro e w14 ⟨rfl, b14⟩
          replace HB := Lib.hid (bel_step HB.out b14 HB.out.size)
          replace HRr := Lib.hid (HRr.out.after b14)
          replace HRu := Lib.hid (HRu.out.after b14)
          replace HRv := Lib.hid (HRv.out.after b14)
          clear b14
          have cr0 := HRr.out.1.c0
          have cr1 := HRr.out.1.c1
          have ltr := HRr.out.1.lt
          have cu0 := HRu.out.1.c0
          have cu1 := HRu.out.1.c1
          have ltu := HRu.out.1.lt
          have cv0 := HRv.out.1.c0
          have cv1 := HRv.out.1.c1
          have ltv := HRv.out.1.lt
          go_wp2
          go_ret
          exact ⟨rfl, HB.out⟩
end Go.Proofs.Ytopfenhphnmfkaa.fnTwins

namespace Go.Proofs.Ytopfenhphnmfkaa.fnTwins
open Go.ChangeShapes Go.WideShapes Go.ChangeAt Go.RowKit
open Go.ChangeMaps (open_string shut_string)

theorem own : ownKnob Try.prog.godebug = none := by kernel_rfl
theorem laidOut : laidOutB Try.prog = true := by kernel_rfl

set_option maxRecDepth 100000 in
theorem lifted (os : Os) (started : os.Started) (H : Type) (enc : TypeId × Value → H) :
    ReturnsInHanded {} Try.checked os 8 .any (Rows.fnTwinsSpec.pre6 enc Try.prog Try.f8 Rows.fnTwinsRow.domain false) (Rows.fnTwinsSpec.post enc Try.prog Try.f8 false true false false) := by
  refine returnsInHanded_of_change (C := Try.checked) own started (by kernel_rfl) Try.func8
    (ChangeSpec.witness6 (enc := enc) (C := Try.checked) false ⟨#[], #[.slice none 0 0], []⟩ 8 (by kernel_rfl) (by kernel_rfl) (by kernel_rfl) (by kernel_rfl)) ?_
  intro W base args ds gs before hval0 hW hcnd _
  have hval : ∀ (j : Nat) t v, Try.f8.params[j]? = some t → args[j]? = some v → Value.okWide Try.prog W .any base t v := hval0
  have hW' := hW
  obtain ⟨p, q, hA0, hV, rfl, hfz, hnd⟩ := hW
  have hA : DataW.TrodAll enc Try.prog W 0 (fun _ => true) true Try.f8.params.toList args.toList ds p := hA0
  rw [Try.params8] at hA hval
  obtain ⟨v0, vs0, d0, ds0, p0, q0, hargs, rfl, rfl, h0, r0⟩ := trodAll_cons hA
  obtain ⟨rfl, rfl, rfl⟩ := trodAll_nil r0
  obtain rfl : args = #[v0] := by cases args; simp_all
  obtain ⟨rfl, rfl⟩ := trodVars_none hV
  have k0 := h0
  have lt0 : ∀ x ∈ p0, x.block < W.heap.size := by obtain ⟨m, hm⟩ := k0; exact DataW.trod_lt m _ _ _ hm
  obtain ⟨z0, i0⟩ := openBytes (hval 0 22 v0 rfl rfl) h0
  clear hA0 hval0
  refine (walk W v0 z0 i0).mono fun e W' ⟨he, bel⟩ => ?_
  subst he
  exact ⟨_, rfl, _, _, _, [], _, [], hW', trodAll_mk1 (shut_bool Try.underlying4 _), (trodAll_cons_mk (Below.trod laidOut (by kernel_rfl) (of_decide_eq_true (by kernel_rfl)) k0 bel lt0) trodAll_mk0), rfl, bel.frame _, fun h => by cases h⟩

theorem over : Rows.fnTwinsRow.holds Try.pinned (OpenSpec.ofChange Rows.fnTwinsSpec) :=
  OpenClaim.holds_of_wide 8 Try.f8 rfl rfl rfl rfl rfl rfl rfl ⟨rfl, rfl, rfl, rfl, rfl⟩ rfl rfl rfl rfl rfl (by kernel_rfl) Try.func8 (by kernel_rfl)
    (of_decide_eq_true (by kernel_rfl)) (by unfold Func.isWrapper; first | (rw [if_pos (by decide +kernel)]; kernel_rfl) | (rw [if_neg (by decide +kernel)]; exact ⟨rfl, rfl⟩))
    (fun os started H enc _ => lifted os started H enc)

theorem proved : Rows.FnTwinsSaid := over
#print axioms proved
end Go.Proofs.Ytopfenhphnmfkaa.fnTwins
