/-
  Contracts of LeastRotation, LeastForm and IsLeastRotation, in the program and in the reference.
  Conditions: the rhythm's beats lie in memory.
-/
import Derived.Test.YtopfenhphnmfkaaN10
set_option linter.unusedVariables false
set_option linter.unusedSimpArgs false
namespace Go.Proofs.Ytopfenhphnmfkaa
open Go.RowKit

set_option maxHeartbeats 2000000 in
theorem specLeast (n : Int) (v : Value) (x : List Int) (w : World) (hR : Rok n x) (h : Ints w w.heap.size v x) :
    Calls Try.prog 124 #[.agg #[.int .i64 n, v]] w (RetRhythm w n (leastV n x)) := by
  have hlo := hR.lo
  have hhi := hR.hi
  have h' := h
  obtain ⟨a, cap, rfl, -⟩ := h'
  go_enter Try.func124, Try.ntmps124
  go_wp2_with fail
  refine withWorld fun X hX => ?_
  have hB : Below w.heap.size w X := by rw [hX]; (repeat (first | (with_reducible exact (Below.refl _ _)) | (with_reducible refine bel_alloc ?_ _) | (with_reducible refine Below.drew ?_) | (with_reducible refine bel_drewN ?_ _) | (with_reducible refine Below.setCell ?_ (by simp) _)))
  have hx : Bx X w.heap.size (.int .i64 n) (.slice a x.length cap) 25 := by rw [hX]; (repeat (first | (with_reducible refine Bx.newAt _ _ _ _ ?_; simp; done) | (with_reducible refine Bx.alloc ?_ _) | (with_reducible refine Bx.drew ?_) | (with_reducible refine Bx.drewN ?_ _)))
  have hr : Bx X (w.heap.size + 1) (.int .i64 0) (.slice none 0 0) 25 := by rw [hX]; (repeat (first | (with_reducible refine Bx.newAt _ _ _ _ ?_; simp; done) | (with_reducible refine Bx.alloc ?_ _) | (with_reducible refine Bx.drew ?_) | (with_reducible refine Bx.drewN ?_ _)))
  clear hX
  refine (specL02Map _ _ x _ _ _ hR (by omega) (by omega) (by omega) (by omega) (Ints.ofBelow h hB)).mono ?_
  rintro e w1 ⟨a1, c1, rfl, o1, b1⟩
  have hx1 := hx.below b1 hx.lt
  have hr1 := hr.below b1 hr.lt
  have HB1 := Lib.hid (bel_step hB b1 hB.size)
  have HO1 := Lib.hid (o1.mono (show w.heap.size + 2 ≤ X.heap.size from hr.lt))
  have hne1 : ∀ k, (Value.slice a1 (mapV n x 1 0).length c1).ownBlock = some k → k ≠ w1.heap.size := fun k hk => by have := (o1.lt k hk).2; omega
  have HNE1 := Lib.hid hne1
  have HX1 := Lib.hid hx1
  have HR1 := Lib.hid hr1
  have y0 := hx1.lt
  have q0 := hx1.c0
  clear o1 b1 hB hx hr hx1 hr1 hne1
  go_wp2_with fail
  obtain ⟨P, hP⟩ : ∃ P, P = w1.heap.size := ⟨_, rfl⟩
  have hPr : w.heap.size + 1 < P := by rw [hP]; exact HR1.out.lt
  rw [← hP]
  go_loopw [4] (fun i wr => ∃ k : Nat, 1 ≤ k ∧ (k : Int) ≤ n ∧ i = .int .i64 k ∧ (∃ a' c', Bx wr P (.int .i64 n) (.slice a' (lrTo n x k).length c') 25 ∧ Own wr (w.heap.size + 2) (.slice a' (lrTo n x k).length c') (lrTo n x k) ∧ ∀ j, (Value.slice a' (lrTo n x k).length c').ownBlock = some j → j ≠ P) ∧ Bx wr w.heap.size (.int .i64 n) (.slice a x.length cap) 25 ∧ Bx wr (w.heap.size + 1) (.int .i64 0) (.slice none 0 0) 25 ∧ Below w.heap.size w wr) (fun i _ => (n - intOf i).toNat)
  case atStart => exact ⟨1, by omega, by omega, rfl, ⟨a1, c1, by rw [hP, lrTo_one]; exact Bx.new _ _ _ _, by rw [lrTo_one]; exact HO1.out.alloc _, by rw [hP, lrTo_one]; exact HNE1.out⟩, HX1.out.alloc _, HR1.out.alloc _, bel_alloc HB1.out _⟩
  case round =>
    clear HO1 HNE1 HX1 HR1 HB1 q0 hP y0
    obtain ⟨k, hk1, hk, rfl, ⟨a', c', hp, hown, hne⟩, hbx, hres, hbel⟩ := hrel
    have HP := Lib.hid hp
    have HO := Lib.hid hown
    have HNE := Lib.hid hne
    have HX := Lib.hid hbx
    have HRs := Lib.hid hres
    have HB := Lib.hid hbel
    have q0 := hbx.c0
    have q1 := hbx.c1
    have q2 := hp.c0
    have q3 := hp.c1
    have hz0 : w.heap.size + 2 ≤ wr.heap.size := hres.lt
    have hLk := lrTo_rok hlo hhi x k
    have hMk := mapV_rok hlo hhi x 1 k
    by_cases hlt : (k : Int) < n
    · by_cases hlt2 : codeN n (lrTo n x k) < codeN n (mapV n x 1 k)
      · have Haft : Hid (aft n (mapV n x 1 k) (lrTo n x k) = true) := by unfold Hid; rw [aft_code hMk hLk]; simpa using hlt2
        have Hlr : Hid (lrTo n x (k + 1) = mapV n x 1 k) := latL_yes hlt2
        clear hown hne hbx hres hp hbel hlt2
        go_wp2_with fail
        refine (specL02Map _ _ x _ _ _ hR (by omega) (by omega) (by omega) (by omega) (Ints.ofBelow h HB.out)).mono ?_
        rintro e w2 ⟨a2, c2, rfl, o2, b2⟩
        have HB2 := Lib.hid (bel_step HB.out b2 HB.out.size)
        have HP2 := Lib.hid (HP.out.below b2 HP.out.lt)
        have HX2 := Lib.hid (HX.out.below b2 HX.out.lt)
        have HR2 := Lib.hid (HRs.out.below b2 HRs.out.lt)
        have HO2 := Lib.hid (HO.out.below b2)
        have HNW := Lib.hid (own_ne o2 HP.out.lt)
        have HM2 := Lib.hid (o2.mono hz0)
        have m0 := HP2.out.c0
        have m1 := HP2.out.c1
        have yP := HP2.out.lt
        have yX := HX2.out.lt
        clear o2 b2 q0 q1 q2 q3
        go_wp2_with fail
        refine withWorld fun Y hY => ?_
        have hB3 : Below w.heap.size w Y := by rw [hY]; exact bel_alloc HB2.out _
        have hP3 : Bx Y P (.int .i64 n) (Value.slice a' (lrTo n x k).length c') 25 := by rw [hY]; exact HP2.out.alloc _
        have hX3 : Bx Y w.heap.size (.int .i64 n) (Value.slice a x.length cap) 25 := by rw [hY]; exact HX2.out.alloc _
        have hR3 : Bx Y (w.heap.size + 1) (.int .i64 0) (.slice none 0 0) 25 := by rw [hY]; exact HR2.out.alloc _
        have hO3 : Own Y (w.heap.size + 2) (Value.slice a' (lrTo n x k).length c') (lrTo n x k) := by rw [hY]; exact HO2.out.alloc _
        have hM3 : Own Y (w.heap.size + 2) (Value.slice a2 (mapV n x 1 (k : Int)).length c2) (mapV n x 1 k) := by rw [hY]; exact HM2.out.alloc _
        have hQ3 : Bx Y w2.heap.size (.int .i64 n) (Value.slice a2 (mapV n x 1 (k : Int)).length c2) 25 := by rw [hY]; exact Bx.new _ _ _ _
        clear hY HB2 HP2 HX2 HR2 HO2 HM2 m0 m1 yX
        refine (specL04After _ _ (mapV n x 1 k) _ (lrTo n x k) _ hlo hhi hM3.ints hO3.ints).mono ?_
        rintro e w3 ⟨rfl, b3⟩
        rw [Haft.out]
        have HB3 := Lib.hid (bel_step hB3 b3 hB3.size)
        have HP3 := Lib.hid (hP3.below b3 hP3.lt)
        have HX3 := Lib.hid (hX3.below b3 hX3.lt)
        have HR3 := Lib.hid (hR3.below b3 hR3.lt)
        have HO3 := Lib.hid (hO3.below b3)
        have HM3 := Lib.hid (hM3.below b3)
        have hQ4 := hQ3.below b3 hQ3.lt
        have t0 := hQ4.c0
        have t1 := hQ4.c1
        have s0 := HP3.out.c0
        have s1 := HP3.out.c1
        have g0 := HP3.out.f 0
        have g1 := HP3.out.f 1
        clear hB3 hP3 hX3 hR3 hO3 hM3 hQ3 hQ4 b3
        have HP4 := Lib.hid ((HP3.out.set0 (.int .i64 n)).set1 (Value.slice a2 (mapV n x 1 (k : Int)).length c2))
        have HO4 := Lib.hid ((HM3.out.setOther (a := ⟨P, 0, none⟩) HNW.out (.int .i64 n)).setOther (a := ⟨P, 1, none⟩) HNW.out (Value.slice a2 (mapV n x 1 (k : Int)).length c2))
        have HX4 := Lib.hid ((HX3.out.set_other (a := ⟨P, 0, none⟩) (by (first | omega | (simp; done) | (simp; omega))) (.int .i64 n)).set_other (a := ⟨P, 1, none⟩) (by (first | omega | (simp; done) | (simp; omega))) (Value.slice a2 (mapV n x 1 (k : Int)).length c2))
        have HR4 := Lib.hid ((HR3.out.set_other (a := ⟨P, 0, none⟩) (by (first | omega | (simp; done) | (simp; omega))) (.int .i64 n)).set_other (a := ⟨P, 1, none⟩) (by (first | omega | (simp; done) | (simp; omega))) (Value.slice a2 (mapV n x 1 (k : Int)).length c2))
        have HB4 : Hid (Below w.heap.size w ((w3.setCell ⟨P, 0, none⟩ (.int .i64 n)).setCell ⟨P, 1, none⟩ (Value.slice a2 (mapV n x 1 (k : Int)).length c2))) := (HB3.out.setCell (by (first | omega | (simp; done) | (simp; omega))) _).setCell (by (first | omega | (simp; done) | (simp; omega))) _
        go_wp2_with fail
        go_roundw
        case rel => exact ⟨k + 1, by omega, by omega, by go_num, ⟨a2, c2, by rw [Hlr.out]; exact HP4.out, by rw [Hlr.out]; exact HO4.out, by rw [Hlr.out]; exact HNW.out⟩, HX4.out, HR4.out, HB4.out⟩
        case measure => simp [intOf]; omega
      · have Haft : Hid (aft n (mapV n x 1 k) (lrTo n x k) = false) := by unfold Hid; rw [aft_code hMk hLk]; simpa using hlt2
        have Hlr : Hid (lrTo n x (k + 1) = lrTo n x k) := latL_no hlt2
        clear hown hne hbx hres hp hbel hlt2
        go_wp2_with fail
        refine (specL02Map _ _ x _ _ _ hR (by omega) (by omega) (by omega) (by omega) (Ints.ofBelow h HB.out)).mono ?_
        rintro e w2 ⟨a2, c2, rfl, o2, b2⟩
        have HB2 := Lib.hid (bel_step HB.out b2 HB.out.size)
        have HP2 := Lib.hid (HP.out.below b2 HP.out.lt)
        have HX2 := Lib.hid (HX.out.below b2 HX.out.lt)
        have HR2 := Lib.hid (HRs.out.below b2 HRs.out.lt)
        have HO2 := Lib.hid (HO.out.below b2)
        have HNW := Lib.hid (own_ne o2 HP.out.lt)
        have HM2 := Lib.hid (o2.mono hz0)
        have m0 := HP2.out.c0
        have m1 := HP2.out.c1
        have yP := HP2.out.lt
        have yX := HX2.out.lt
        clear o2 b2 q0 q1 q2 q3
        go_wp2_with fail
        refine withWorld fun Y hY => ?_
        have hB3 : Below w.heap.size w Y := by rw [hY]; exact bel_alloc HB2.out _
        have hP3 : Bx Y P (.int .i64 n) (Value.slice a' (lrTo n x k).length c') 25 := by rw [hY]; exact HP2.out.alloc _
        have hX3 : Bx Y w.heap.size (.int .i64 n) (Value.slice a x.length cap) 25 := by rw [hY]; exact HX2.out.alloc _
        have hR3 : Bx Y (w.heap.size + 1) (.int .i64 0) (.slice none 0 0) 25 := by rw [hY]; exact HR2.out.alloc _
        have hO3 : Own Y (w.heap.size + 2) (Value.slice a' (lrTo n x k).length c') (lrTo n x k) := by rw [hY]; exact HO2.out.alloc _
        have hM3 : Own Y (w.heap.size + 2) (Value.slice a2 (mapV n x 1 (k : Int)).length c2) (mapV n x 1 k) := by rw [hY]; exact HM2.out.alloc _
        have hQ3 : Bx Y w2.heap.size (.int .i64 n) (Value.slice a2 (mapV n x 1 (k : Int)).length c2) 25 := by rw [hY]; exact Bx.new _ _ _ _
        clear hY HB2 HP2 HX2 HR2 HO2 HM2 m0 m1 yX
        refine (specL04After _ _ (mapV n x 1 k) _ (lrTo n x k) _ hlo hhi hM3.ints hO3.ints).mono ?_
        rintro e w3 ⟨rfl, b3⟩
        rw [Haft.out]
        have HB3 := Lib.hid (bel_step hB3 b3 hB3.size)
        have HP3 := Lib.hid (hP3.below b3 hP3.lt)
        have HX3 := Lib.hid (hX3.below b3 hX3.lt)
        have HR3 := Lib.hid (hR3.below b3 hR3.lt)
        have HO3 := Lib.hid (hO3.below b3)
        have HM3 := Lib.hid (hM3.below b3)
        have hQ4 := hQ3.below b3 hQ3.lt
        have t0 := hQ4.c0
        have t1 := hQ4.c1
        have s0 := HP3.out.c0
        have s1 := HP3.out.c1
        have g0 := HP3.out.f 0
        have g1 := HP3.out.f 1
        clear hB3 hP3 hX3 hR3 hO3 hM3 hQ3 hQ4 b3
        go_wp2_with fail
        go_roundw
        case rel => exact ⟨k + 1, by omega, by omega, by go_num, ⟨a', c', by rw [Hlr.out]; exact HP3.out, by rw [Hlr.out]; exact HO3.out, by rw [Hlr.out]; exact HNE.out⟩, HX3.out, HR3.out, HB3.out⟩
        case measure => simp [intOf]; omega
    · have e : n = (k : Int) := by omega
      have HE : Hid (leastV n x = lrTo n x k) := by unfold Hid leastV; rw [show n.toNat = k by omega]
      have p0 := hres.c0
      have p1 := hres.c1
      have f0 := hres.f 0
      have f1 := hres.f 1
      have hfin := (hres.set0 (.int .i64 n)).set1 (.slice a' (lrTo n x k).length c')
      have r0 := hfin.c0
      have r1 := hfin.c1
      clear hown hne hbx hres hp hbel hfin e
      go_wp2
      refine bodyPost_ret (v := .agg #[.int .i64 n, .slice a' (lrTo n x k).length c']) ?_ rfl ?_
      · simp [results, Try.results124, go_sem, r0, r1]
      · rw [HE.out]
        exact ⟨a', c', rfl, ((HO.out.setc (by (first | omega | (simp; done) | (simp; omega))) _).setc (by (first | omega | (simp; done) | (simp; omega))) _).mono (by omega), (HB.out.setCell (by (first | omega | (simp; done) | (simp; omega))) _).setCell (by (first | omega | (simp; done) | (simp; omega))) _⟩

set_option maxHeartbeats 800000 in
theorem implLeastRotationC (n : Int) (v : Value) (x : List Int) (c : I64 n) (w : World) (h : Ints w w.heap.size v x) :
    Calls Try.prog 16 #[.agg #[.int .i64 n, v]] w (RetRhythm2 w (numLeastRotation n x) (lstLeastRotation n x) (okLeastRotation n x)) := by
  have h' := h
  obtain ⟨a, cap, rfl, -⟩ := h'
  cases hr : rok n x with
  | false =>
    have Hr := Lib.hid hr
    have Hs := Lib.hid (leastRotation_no hr)
    clear hr
    go_enter Try.func16, Try.ntmps16
    go_wp2_with (go_at_call 49; refine (implRhythmOk _ _ x _ _ c.1 c.2 ((h.alloc (Nat.le_refl _) _).alloc (by simp) _)).mono ?_; rintro e w' ⟨rfl, rfl⟩; rw [Hr.out])
    refine bodyPost_ret (v := .tuple #[.agg #[.int .i64 0, .slice none 0 0], .bool false]) ?_ rfl ?_
    · simp [results, Try.results16, go_sem]
    · exact .zero rfl (by (repeat (first | (with_reducible exact (Below.refl _ _)) | (with_reducible refine bel_alloc ?_ _) | (with_reducible refine Below.drew ?_) | (with_reducible refine bel_drewN ?_ _) | (with_reducible refine Below.setCell ?_ (by simp) _)))) Hs.out.1 Hs.out.2.1 Hs.out.2.2
  | true =>
    have Hr := Lib.hid hr
    have hR := (rok_iff n x).1 hr
    have hlo := hR.lo
    have hhi := hR.hi
    have Hs := Lib.hid (leastRotation_yes hr)
    clear hr
    go_enter Try.func16, Try.ntmps16
    go_wp2_with (go_at_call 49; refine (implRhythmOk _ _ x _ _ c.1 c.2 ((h.alloc (Nat.le_refl _) _).alloc (by simp) _)).mono ?_; rintro e w' ⟨rfl, rfl⟩; rw [Hr.out])
    refine withWorld fun X hX => ?_
    have hB : Below w.heap.size w X := by rw [hX]; (repeat (first | (with_reducible exact (Below.refl _ _)) | (with_reducible refine bel_alloc ?_ _) | (with_reducible refine Below.drew ?_) | (with_reducible refine bel_drewN ?_ _) | (with_reducible refine Below.setCell ?_ (by simp) _)))
    have hx : Bx X (w.heap.size + 1) (.int .i64 0) (.slice none 0 0) 25 := by rw [hX]; (repeat (first | (with_reducible refine Bx.newAt _ _ _ _ ?_; simp; done) | (with_reducible refine Bx.alloc ?_ _) | (with_reducible refine Bx.drew ?_) | (with_reducible refine Bx.drewN ?_ _)))
    clear hX
    refine (implLeast _ _ x _ hR (Ints.ofBelow h hB)).mono ?_
    rintro e w1 ⟨b1, c1, rfl, ho1, hb1⟩
    have hx1 := hx.below hb1 hx.lt
    have p0 := hx1.c0
    have p1 := hx1.c1
    have f0 := hx1.f 0
    have f1 := hx1.f 1
    have hfin := (hx1.set0 (.int .i64 n)).set1 (.slice b1 (leastV n x).length c1)
    have r0 := hfin.c0
    have r1 := hfin.c1
    have HO1 := Lib.hid (ho1.mono (show w.heap.size + 2 ≤ X.heap.size from hx.lt))
    have HB1 := Lib.hid (bel_step hB hb1 hB.size)
    clear ho1 hb1 hx hx1 hfin hB
    go_wp2
    refine bodyPost_ret (v := .tuple #[.agg #[.int .i64 n, .slice b1 (leastV n x).length c1], .bool true]) ?_ rfl ?_
    · simp [results, Try.results16, go_sem, r0, r1]
    · exact .one rfl (((HO1.out.setc (by simp) _).setc (by simp) _).mono (by omega)) rfl ((HB1.out.setCell (by simp) _).setCell (by simp) _) Hs.out.1 Hs.out.2.1 Hs.out.2.2


set_option maxHeartbeats 800000 in
theorem implLeastFormC (n : Int) (v : Value) (x : List Int) (c : I64 n) (w : World) (h : Ints w w.heap.size v x) :
    Calls Try.prog 17 #[.agg #[.int .i64 n, v]] w (RetRhythm2 w (numLeastForm n x) (lstLeastForm n x) (okLeastForm n x)) := by
  have h' := h
  obtain ⟨a, cap, rfl, -⟩ := h'
  cases hr : rok n x with
  | false =>
    have Hr := Lib.hid hr
    have Hs := Lib.hid (leastForm_no hr)
    clear hr
    go_enter Try.func17, Try.ntmps17
    go_wp2_with (go_at_call 49; refine (implRhythmOk _ _ x _ _ c.1 c.2 ((h.alloc (Nat.le_refl _) _).alloc (by simp) _)).mono ?_; rintro e w' ⟨rfl, rfl⟩; rw [Hr.out])
    refine bodyPost_ret (v := .tuple #[.agg #[.int .i64 0, .slice none 0 0], .bool false]) ?_ rfl ?_
    · simp [results, Try.results17, go_sem]
    · exact .zero rfl (by (repeat (first | (with_reducible exact (Below.refl _ _)) | (with_reducible refine bel_alloc ?_ _) | (with_reducible refine Below.drew ?_) | (with_reducible refine bel_drewN ?_ _) | (with_reducible refine Below.setCell ?_ (by simp) _)))) Hs.out.1 Hs.out.2.1 Hs.out.2.2
  | true =>
    have Hr := Lib.hid hr
    have hR := (rok_iff n x).1 hr
    have hlo := hR.lo
    have hhi := hR.hi
    have Hs := Lib.hid (leastForm_yes hr)
    clear hr
    go_enter Try.func17, Try.ntmps17
    go_wp2_with (go_at_call 49; refine (implRhythmOk _ _ x _ _ c.1 c.2 ((h.alloc (Nat.le_refl _) _).alloc (by simp) _)).mono ?_; rintro e w' ⟨rfl, rfl⟩; rw [Hr.out])
    refine withWorld fun X hX => ?_
    have hB : Below w.heap.size w X := by rw [hX]; (repeat (first | (with_reducible exact (Below.refl _ _)) | (with_reducible refine bel_alloc ?_ _) | (with_reducible refine Below.drew ?_) | (with_reducible refine bel_drewN ?_ _) | (with_reducible refine Below.setCell ?_ (by simp) _)))
    have hx : Bx X (w.heap.size + 1) (.int .i64 0) (.slice none 0 0) 25 := by rw [hX]; (repeat (first | (with_reducible refine Bx.newAt _ _ _ _ ?_; simp; done) | (with_reducible refine Bx.alloc ?_ _) | (with_reducible refine Bx.drew ?_) | (with_reducible refine Bx.drewN ?_ _)))
    clear hX
    refine (implForm _ _ x _ hR (Ints.ofBelow h hB)).mono ?_
    rintro e w1 ⟨b1, c1, rfl, ho1, hb1⟩
    have hx1 := hx.below hb1 hx.lt
    have p0 := hx1.c0
    have p1 := hx1.c1
    have f0 := hx1.f 0
    have f1 := hx1.f 1
    have hfin := (hx1.set0 (.int .i64 n)).set1 (.slice b1 (formV n x).length c1)
    have r0 := hfin.c0
    have r1 := hfin.c1
    have HO1 := Lib.hid (ho1.mono (show w.heap.size + 2 ≤ X.heap.size from hx.lt))
    have HB1 := Lib.hid (bel_step hB hb1 hB.size)
    clear ho1 hb1 hx hx1 hfin hB
    go_wp2
    refine bodyPost_ret (v := .tuple #[.agg #[.int .i64 n, .slice b1 (formV n x).length c1], .bool true]) ?_ rfl ?_
    · simp [results, Try.results17, go_sem, r0, r1]
    · exact .one rfl (((HO1.out.setc (by simp) _).setc (by simp) _).mono (by omega)) rfl ((HB1.out.setCell (by simp) _).setCell (by simp) _) Hs.out.1 Hs.out.2.1 Hs.out.2.2

set_option maxHeartbeats 1600000 in
theorem specLeastFormC (n : Int) (v : Value) (x : List Int) (c : I64 n) (w : World) (h : Ints w w.heap.size v x) :
    Calls Try.prog 98 #[.agg #[.int .i64 n, v]] w (RetRhythm2 w (numLeastForm n x) (lstLeastForm n x) (okLeastForm n x)) := by
  have h' := h
  obtain ⟨a, cap, rfl, -⟩ := h'
  cases hr : rok n x with
  | false =>
    have Hr := Lib.hid hr
    have Hs := Lib.hid (leastForm_no hr)
    clear hr
    go_enter Try.func98, Try.ntmps98
    go_wp2_with (go_at_call 59; refine (specRhythmOk _ _ x _ _ c.1 c.2 ((h.alloc (Nat.le_refl _) _).alloc (by simp) _)).mono ?_; rintro e w' ⟨rfl, rfl⟩; rw [Hr.out])
    refine bodyPost_ret (v := .tuple #[.agg #[.int .i64 0, .slice none 0 0], .bool false]) ?_ rfl ?_
    · simp [results, Try.results98, go_sem]
    · exact .zero rfl (by (repeat (first | (with_reducible exact (Below.refl _ _)) | (with_reducible refine bel_alloc ?_ _) | (with_reducible refine Below.drew ?_) | (with_reducible refine bel_drewN ?_ _) | (with_reducible refine Below.setCell ?_ (by simp) _)))) Hs.out.1 Hs.out.2.1 Hs.out.2.2
  | true =>
    have Hr := Lib.hid hr
    have hR := (rok_iff n x).1 hr
    have hlo := hR.lo
    have hhi := hR.hi
    have hM := mapV_rok hlo hhi x (-1) 0
    have hL1 := leastV_rok hlo hhi x
    have hL2 := leastV_rok hlo hhi (mapV n x (-1) 0)
    have Hs := Lib.hid (leastForm_yes hr)
    clear hr
    by_cases hlt2 : codeN n (leastV n x) < codeN n (leastV n (mapV n x (-1) 0))
    · have Haft : Hid (aft n (leastV n (mapV n x (-1) 0)) (leastV n x) = true) := by unfold Hid; rw [aft_code hL2 hL1]; simpa using hlt2
      have Hlr : Hid (formV n x = leastV n (mapV n x (-1) 0)) := latL_yes hlt2
      clear hlt2
      go_enter Try.func98, Try.ntmps98
      go_wp2_with (go_at_call 59; refine (specRhythmOk _ _ x _ _ c.1 c.2 ((h.alloc (Nat.le_refl _) _).alloc (by simp) _)).mono ?_; rintro e w' ⟨rfl, rfl⟩; rw [Hr.out])
      refine withWorld fun X hX => ?_
      have hB : Below w.heap.size w X := by rw [hX]; (repeat (first | (with_reducible exact (Below.refl _ _)) | (with_reducible refine bel_alloc ?_ _) | (with_reducible refine Below.drew ?_) | (with_reducible refine bel_drewN ?_ _) | (with_reducible refine Below.setCell ?_ (by simp) _)))
      have hx : Bx X w.heap.size (.int .i64 n) (.slice a x.length cap) 25 := by rw [hX]; (repeat (first | (with_reducible refine Bx.newAt _ _ _ _ ?_; simp; done) | (with_reducible refine Bx.alloc ?_ _) | (with_reducible refine Bx.drew ?_) | (with_reducible refine Bx.drewN ?_ _)))
      have hr : Bx X (w.heap.size + 1) (.int .i64 0) (.slice none 0 0) 25 := by rw [hX]; (repeat (first | (with_reducible refine Bx.newAt _ _ _ _ ?_; simp; done) | (with_reducible refine Bx.alloc ?_ _) | (with_reducible refine Bx.drew ?_) | (with_reducible refine Bx.drewN ?_ _)))
      clear hX
      refine (specLeast _ _ x _ hR (Ints.ofBelow h hB)).mono ?_
      rintro e w1 ⟨a1, c1, rfl, o1, b1⟩
      have HB1 := Lib.hid (bel_step hB b1 hB.size)
      have HX1 := Lib.hid (hx.below b1 hx.lt)
      have HR1 := Lib.hid (hr.below b1 hr.lt)
      have HO1 := Lib.hid (o1.mono (show w.heap.size + 2 ≤ X.heap.size from hr.lt))
      have q0 := HX1.out.c0
      have q1 := HX1.out.c1
      have y0 := HX1.out.lt
      clear o1 b1 hB hx hr
      go_wp2_with fail
      refine withWorld fun Y hY => ?_
      have hB : Below w.heap.size w Y := by rw [hY]; exact bel_alloc HB1.out _
      have hR2 : Bx Y (w.heap.size + 1) (.int .i64 0) (.slice none 0 0) 25 := by rw [hY]; exact HR1.out.alloc _
      have hO2 : Own Y (w.heap.size + 2) (Value.slice a1 (leastV n x).length c1) (leastV n x) := by rw [hY]; exact HO1.out.alloc _
      have hP2 : Bx Y w1.heap.size (.int .i64 n) (Value.slice a1 (leastV n x).length c1) 25 := by rw [hY]; exact Bx.new _ _ _ _
      clear hY HB1 HX1 HR1 HO1 q0 q1 y0
      refine (specL02Map _ _ x _ _ _ hR (by omega) (by omega) (by omega) (by omega) (Ints.ofBelow h hB)).mono ?_
      rintro e w2 ⟨a2, c2, rfl, o2, b2⟩
      have HB2 := Lib.hid (bel_step hB b2 hB.size)
      have HR2 := Lib.hid (hR2.below b2 hR2.lt)
      have HO2 := Lib.hid (hO2.below b2)
      have HP2 := Lib.hid (hP2.below b2 hP2.lt)
      have HI2 := Lib.hid o2.ints
      clear hB hR2 hO2 hP2 o2 b2
      go_wp2_with fail
      refine (specLeast _ _ (mapV n x (-1) 0) _ hM HI2.out).mono ?_
      rintro e w3 ⟨a3, c3, rfl, o3, b3⟩
      have HB3 := Lib.hid (bel_step HB2.out b3 HB2.out.size)
      have HR3 := Lib.hid (HR2.out.below b3 HR2.out.lt)
      have HO3 := Lib.hid (HO2.out.below b3)
      have HP3 := Lib.hid (HP2.out.below b3 HP2.out.lt)
      have HM3 := Lib.hid (o3.mono (show w.heap.size + 2 ≤ w2.heap.size from HR2.out.lt))
      have m0 := HP3.out.c0
      have m1 := HP3.out.c1
      have yP := HP3.out.lt
      clear o3 b3 HB2 HR2 HO2 HP2 HI2
      go_wp2_with fail
      refine withWorld fun Z hZ => ?_
      have hB4 : Below w.heap.size w Z := by rw [hZ]; exact bel_alloc HB3.out _
      have hR4 : Bx Z (w.heap.size + 1) (.int .i64 0) (.slice none 0 0) 25 := by rw [hZ]; exact HR3.out.alloc _
      have hO4 : Own Z (w.heap.size + 2) (Value.slice a1 (leastV n x).length c1) (leastV n x) := by rw [hZ]; exact HO3.out.alloc _
      have hP4 : Bx Z w1.heap.size (.int .i64 n) (Value.slice a1 (leastV n x).length c1) 25 := by rw [hZ]; exact HP3.out.alloc _
      have hM4 : Own Z (w.heap.size + 2) (Value.slice a3 (leastV n (mapV n x (-1) 0)).length c3) (leastV n (mapV n x (-1) 0)) := by rw [hZ]; exact HM3.out.alloc _
      have hQ4 : Bx Z w3.heap.size (.int .i64 n) (Value.slice a3 (leastV n (mapV n x (-1) 0)).length c3) 25 := by rw [hZ]; exact Bx.new _ _ _ _
      clear hZ HB3 HR3 HO3 HP3 HM3 m0 m1 yP
      refine (specL04After _ _ (leastV n (mapV n x (-1) 0)) _ (leastV n x) _ hlo hhi hM4.ints hO4.ints).mono ?_
      rintro e w5 ⟨rfl, b5⟩
      rw [Haft.out]
      have HB5 := Lib.hid (bel_step hB4 b5 hB4.size)
      have hR5 := hR4.below b5 hR4.lt
      have HM5 := Lib.hid (hM4.below b5)
      have hQ5 := hQ4.below b5 hQ4.lt
      have t0 := hQ5.c0
      have t1 := hQ5.c1
      have p0 := hR5.c0
      have p1 := hR5.c1
      have f0 := hR5.f 0
      have f1 := hR5.f 1
      have hfin := (hR5.set0 (.int .i64 n)).set1 (.slice a3 (leastV n (mapV n x (-1) 0)).length c3)
      have r0 := hfin.c0
      have r1 := hfin.c1
      clear hB4 hR4 hO4 hP4 hM4 hQ4 hR5 hQ5 hfin b5
      go_wp2
      refine bodyPost_ret (v := .tuple #[.agg #[.int .i64 n, .slice a3 (leastV n (mapV n x (-1) 0)).length c3], .bool true]) ?_ rfl ?_
      · simp [results, Try.results98, go_sem, r0, r1]
      · exact .one rfl (((HM5.out.setc (by (first | omega | (simp; done) | (simp; omega))) _).setc (by (first | omega | (simp; done) | (simp; omega))) _).mono (by omega)) rfl ((HB5.out.setCell (by (first | omega | (simp; done) | (simp; omega))) _).setCell (by (first | omega | (simp; done) | (simp; omega))) _) Hs.out.1 (Hs.out.2.1.trans Hlr.out) Hs.out.2.2
    · have Haft : Hid (aft n (leastV n (mapV n x (-1) 0)) (leastV n x) = false) := by unfold Hid; rw [aft_code hL2 hL1]; simpa using hlt2
      have Hlr : Hid (formV n x = leastV n x) := latL_no hlt2
      clear hlt2
      go_enter Try.func98, Try.ntmps98
      go_wp2_with (go_at_call 59; refine (specRhythmOk _ _ x _ _ c.1 c.2 ((h.alloc (Nat.le_refl _) _).alloc (by simp) _)).mono ?_; rintro e w' ⟨rfl, rfl⟩; rw [Hr.out])
      refine withWorld fun X hX => ?_
      have hB : Below w.heap.size w X := by rw [hX]; (repeat (first | (with_reducible exact (Below.refl _ _)) | (with_reducible refine bel_alloc ?_ _) | (with_reducible refine Below.drew ?_) | (with_reducible refine bel_drewN ?_ _) | (with_reducible refine Below.setCell ?_ (by simp) _)))
      have hx : Bx X w.heap.size (.int .i64 n) (.slice a x.length cap) 25 := by rw [hX]; (repeat (first | (with_reducible refine Bx.newAt _ _ _ _ ?_; simp; done) | (with_reducible refine Bx.alloc ?_ _) | (with_reducible refine Bx.drew ?_) | (with_reducible refine Bx.drewN ?_ _)))
      have hr : Bx X (w.heap.size + 1) (.int .i64 0) (.slice none 0 0) 25 := by rw [hX]; (repeat (first | (with_reducible refine Bx.newAt _ _ _ _ ?_; simp; done) | (with_reducible refine Bx.alloc ?_ _) | (with_reducible refine Bx.drew ?_) | (with_reducible refine Bx.drewN ?_ _)))
      clear hX
      refine (specLeast _ _ x _ hR (Ints.ofBelow h hB)).mono ?_
      rintro e w1 ⟨a1, c1, rfl, o1, b1⟩
      have HB1 := Lib.hid (bel_step hB b1 hB.size)
      have HX1 := Lib.hid (hx.below b1 hx.lt)
      have HR1 := Lib.hid (hr.below b1 hr.lt)
      have HO1 := Lib.hid (o1.mono (show w.heap.size + 2 ≤ X.heap.size from hr.lt))
      have q0 := HX1.out.c0
      have q1 := HX1.out.c1
      have y0 := HX1.out.lt
      clear o1 b1 hB hx hr
      go_wp2_with fail
      refine withWorld fun Y hY => ?_
      have hB : Below w.heap.size w Y := by rw [hY]; exact bel_alloc HB1.out _
      have hR2 : Bx Y (w.heap.size + 1) (.int .i64 0) (.slice none 0 0) 25 := by rw [hY]; exact HR1.out.alloc _
      have hO2 : Own Y (w.heap.size + 2) (Value.slice a1 (leastV n x).length c1) (leastV n x) := by rw [hY]; exact HO1.out.alloc _
      have hP2 : Bx Y w1.heap.size (.int .i64 n) (Value.slice a1 (leastV n x).length c1) 25 := by rw [hY]; exact Bx.new _ _ _ _
      clear hY HB1 HX1 HR1 HO1 q0 q1 y0
      refine (specL02Map _ _ x _ _ _ hR (by omega) (by omega) (by omega) (by omega) (Ints.ofBelow h hB)).mono ?_
      rintro e w2 ⟨a2, c2, rfl, o2, b2⟩
      have HB2 := Lib.hid (bel_step hB b2 hB.size)
      have HR2 := Lib.hid (hR2.below b2 hR2.lt)
      have HO2 := Lib.hid (hO2.below b2)
      have HP2 := Lib.hid (hP2.below b2 hP2.lt)
      have HI2 := Lib.hid o2.ints
      clear hB hR2 hO2 hP2 o2 b2
      go_wp2_with fail
      refine (specLeast _ _ (mapV n x (-1) 0) _ hM HI2.out).mono ?_
      rintro e w3 ⟨a3, c3, rfl, o3, b3⟩
      have HB3 := Lib.hid (bel_step HB2.out b3 HB2.out.size)
      have HR3 := Lib.hid (HR2.out.below b3 HR2.out.lt)
      have HO3 := Lib.hid (HO2.out.below b3)
      have HP3 := Lib.hid (HP2.out.below b3 HP2.out.lt)
      have HM3 := Lib.hid (o3.mono (show w.heap.size + 2 ≤ w2.heap.size from HR2.out.lt))
      have m0 := HP3.out.c0
      have m1 := HP3.out.c1
      have yP := HP3.out.lt
      clear o3 b3 HB2 HR2 HO2 HP2 HI2
      go_wp2_with fail
      refine withWorld fun Z hZ => ?_
      have hB4 : Below w.heap.size w Z := by rw [hZ]; exact bel_alloc HB3.out _
      have hR4 : Bx Z (w.heap.size + 1) (.int .i64 0) (.slice none 0 0) 25 := by rw [hZ]; exact HR3.out.alloc _
      have hO4 : Own Z (w.heap.size + 2) (Value.slice a1 (leastV n x).length c1) (leastV n x) := by rw [hZ]; exact HO3.out.alloc _
      have hP4 : Bx Z w1.heap.size (.int .i64 n) (Value.slice a1 (leastV n x).length c1) 25 := by rw [hZ]; exact HP3.out.alloc _
      have hM4 : Own Z (w.heap.size + 2) (Value.slice a3 (leastV n (mapV n x (-1) 0)).length c3) (leastV n (mapV n x (-1) 0)) := by rw [hZ]; exact HM3.out.alloc _
      have hQ4 : Bx Z w3.heap.size (.int .i64 n) (Value.slice a3 (leastV n (mapV n x (-1) 0)).length c3) 25 := by rw [hZ]; exact Bx.new _ _ _ _
      clear hZ HB3 HR3 HO3 HP3 HM3 m0 m1 yP
      refine (specL04After _ _ (leastV n (mapV n x (-1) 0)) _ (leastV n x) _ hlo hhi hM4.ints hO4.ints).mono ?_
      rintro e w5 ⟨rfl, b5⟩
      rw [Haft.out]
      have HB5 := Lib.hid (bel_step hB4 b5 hB4.size)
      have hR5 := hR4.below b5 hR4.lt
      have HO5 := Lib.hid (hO4.below b5)
      have hP5 := hP4.below b5 hP4.lt
      have t0 := hP5.c0
      have t1 := hP5.c1
      have p0 := hR5.c0
      have p1 := hR5.c1
      have f0 := hR5.f 0
      have f1 := hR5.f 1
      have hfin := (hR5.set0 (.int .i64 n)).set1 (.slice a1 (leastV n x).length c1)
      have r0 := hfin.c0
      have r1 := hfin.c1
      clear hB4 hR4 hO4 hP4 hM4 hQ4 hR5 hP5 hfin b5
      go_wp2
      refine bodyPost_ret (v := .tuple #[.agg #[.int .i64 n, .slice a1 (leastV n x).length c1], .bool true]) ?_ rfl ?_
      · simp [results, Try.results98, go_sem, r0, r1]
      · exact .one rfl (((HO5.out.setc (by (first | omega | (simp; done) | (simp; omega))) _).setc (by (first | omega | (simp; done) | (simp; omega))) _).mono (by omega)) rfl ((HB5.out.setCell (by (first | omega | (simp; done) | (simp; omega))) _).setCell (by (first | omega | (simp; done) | (simp; omega))) _) Hs.out.1 (Hs.out.2.1.trans Hlr.out) Hs.out.2.2

set_option maxHeartbeats 2000000 in
theorem implIsLeastRotationC (n : Int) (v : Value) (x : List Int) (c : I64 n) (w : World) (h : Ints w w.heap.size v x) :
    Calls Try.prog 22 #[.agg #[.int .i64 n, v]] w fun e w' => e = .returned (.bool (valIsLeastRotation n x)) ∧ Below w.heap.size w w' := by
  have h' := h
  obtain ⟨a, cap, rfl, -⟩ := h'
  have H0 := Lib.hid (Held1.new w (.int .i64 n) (.slice a x.length cap) 25)
  cases hr : rok n x with
  | false =>
    have Hr := Lib.hid hr
    have Hf := Lib.hid (isLeast_no hr)
    clear hr
    go_enter Try.func22, Try.ntmps22
    go_wp2_with fail
    refine region_held (Held1 w (.int .i64 n) (.slice a x.length cap)) (by kernel_rfl) (by kernel_rfl) (Held1.new w _ _ _).drew (Held1.keeps _ _ _) fun U val hne hv hcall => ?_
    have HC := Lib.hid hcall
    have q0 : ∀ u, (val u).cell? ⟨w.heap.size, 0, none⟩ = some (.int .i64 n) := fun u => (hv u).2.1
    have q1 : ∀ u, (val u).cell? ⟨w.heap.size, 1, none⟩ = some (.slice a x.length cap) := fun u => (hv u).2.2
    have HV := Lib.hid hv
    clear hv hcall
    repeat (go_big_quiet_step ((first | (go_at_call 49; exact HC.out _ _ _ _ (retB (implRhythmOkC _ _ x c _ (Ints.ofBelow h (HV.out _).1)) Hr.out)))))
    refine wpQuiet_nil ?_
    rintro _ ⟨u, rfl⟩
    have HB := Lib.hid (HV.out u).1
    go_wp2
    go_ret
    exact ⟨ret_bool Hf.out.symm, HB.out⟩
  | true =>
    have Hr := Lib.hid hr
    have Hf := Lib.hid (isLeast_yes hr)
    have hR := (rok_iff n x).1 hr
    clear hr
    have hfld := runField1
    go_enter Try.func22, Try.ntmps22
    go_wp2_with fail
    have H1 := Lib.hid H0.out.drew
    obtain ⟨q0, q1⟩ := H1.out.2
    go_region_with (first
      | (go_at_call 49; refine (implRhythmOkC _ _ x c _ (Ints.ofBelow h H1.out.1)).mono ?_; rintro e w1 ⟨rfl, b1⟩; rw [Hr.out]; have H2 := Lib.hid (H1.out.after b1); obtain ⟨p0, p1⟩ := H2.out.2)
      | (go_at_call 65; refine (implLeast _ _ x _ hR (Ints.ofBelow h H2.out.1)).mono ?_; rintro e w2 ⟨a2, c2, rfl, o2, b2⟩; have H3 := Lib.hid (H2.out.after b2); obtain ⟨s0, s1⟩ := H3.out.2)
      | (go_at_call 64; refine (implEqualsC _ _ _ _ (leastV n x) x _ o2.ints (Ints.ofBelow h H3.out.1)).mono ?_; rintro e w3 ⟨rfl, b3⟩; rw [eqR_same]; have H4 := Lib.hid (H3.out.after b3)))
    all_goals
      go_wp2
      go_ret
      exact ⟨ret_bool Hf.out.symm, H4.out.1⟩

end Go.Proofs.Ytopfenhphnmfkaa
