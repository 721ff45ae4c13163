/-
  Contracts of LeastRotation, LeastForm and IsLeastRotation, in the program and in the reference.
  Conditions: the rhythm's beats lie in memory.
-/
import Derived.Test.YtopfenhphnmfkaaN9
import Derived.Test.YtopfenhphnmfkaaG2
import Derived.Test.YtopfenhphnmfkaaE2
import Derived.Deep.RegionHeld3
import Derived.Deep.RegionWith
set_option linter.unusedVariables false
set_option linter.unusedSimpArgs false
namespace Go.Proofs.Ytopfenhphnmfkaa
open Go.RowKit

theorem Ints.full10 {W : World} {C : Nat} {v : Value} {xs : List Int} (h : Ints W C v xs) : Ints W W.heap.size v xs := by
  rcases h.open with ⟨rfl, a, cap, rfl⟩ | ⟨b, o, cap, rfl, hm, hpos, hB, hlt, hc⟩
  · obtain ⟨a', cap', hv, h1, h2, -⟩ := h
    cases hv
    exact ⟨_, _, rfl, h1, h2, .inl rfl⟩
  · obtain ⟨a', cap', hv, h1, h2, -⟩ := h
    cases hv
    exact ⟨_, _, rfl, h1, h2, .inr ⟨b, o, rfl, hlt, hc⟩⟩
theorem latL_case (n : Int) (x y : List Int) (v u : Value) (h : codeN n x < codeN n y) : (if codeN n x < codeN n y then v else u) = v ∧ latL n x y = y := ⟨if_pos h, latL_yes h⟩
theorem latL_case' (n : Int) (x y : List Int) (v u : Value) (h : ¬ codeN n x < codeN n y) : (if codeN n x < codeN n y then v else u) = u ∧ latL n x y = x := ⟨if_neg h, latL_no h⟩
theorem own_ne {W : World} {B p : Nat} {v : Value} {xs : List Int} (h : Own W B v xs) (hp : p < B) : ∀ k, v.ownBlock = some k → k ≠ p := fun k hk => by have := (h.lt k hk).1; omega

set_option maxHeartbeats 2000000 in
theorem implLeast (n : Int) (v : Value) (x : List Int) (w : World) (hR : Rok n x) (h : Ints w w.heap.size v x) :
    Calls Try.prog 65 #[.agg #[.int .i64 n, v]] w (RetRhythm w n (leastV n x)) := by
  have hlo := hR.lo
  have hhi := hR.hi
  have h' := h
  obtain ⟨a, cap, rfl, -⟩ := h'
  go_enter Try.func65, Try.ntmps65
  go_wp2_with fail
  refine withWorld fun X hX => ?_
  have hB : Below w.heap.size w X := by rw [hX]; (repeat (first | (with_reducible exact (Below.refl _ _)) | (with_reducible refine bel_alloc ?_ _) | (with_reducible refine Below.drew ?_) | (with_reducible refine bel_drewN ?_ _) | (with_reducible refine Below.setCell ?_ (by simp) _)))
  have hx : Bx X w.heap.size (.int .i64 n) (.slice a x.length cap) 25 := by rw [hX]; (repeat (first | (with_reducible refine Bx.newAt _ _ _ _ ?_; simp; done) | (with_reducible refine Bx.alloc ?_ _) | (with_reducible refine Bx.drew ?_) | (with_reducible refine Bx.drewN ?_ _)))
  have hr : Bx X (w.heap.size + 1) (.int .i64 0) (.slice none 0 0) 25 := by rw [hX]; (repeat (first | (with_reducible refine Bx.newAt _ _ _ _ ?_; simp; done) | (with_reducible refine Bx.alloc ?_ _) | (with_reducible refine Bx.drew ?_) | (with_reducible refine Bx.drewN ?_ _)))
  clear hX
  refine (implRotated _ _ x _ _ hR (by omega) (by omega) (Ints.ofBelow h hB)).mono ?_
  rintro e w1 ⟨a1, c1, rfl, o1, b1⟩
  have hx1 := hx.below b1 hx.lt
  have hr1 := hr.below b1 hr.lt
  have HB1 := Lib.hid (bel_step hB b1 hB.size)
  have HO1 := Lib.hid (o1.mono (show w.heap.size + 2 ≤ X.heap.size from hr.lt))
  have hne1 : ∀ k, (Value.slice a1 (mapV n x 1 0).length c1).ownBlock = some k → k ≠ w1.heap.size := fun k hk => by have := (o1.lt k hk).2; omega
  have HNE1 := Lib.hid hne1
  have HX1 := Lib.hid hx1
  have HR1 := Lib.hid hr1
  have y0 := hx1.lt
  have q0 := hx1.c0
  clear o1 b1 hB hx hr hx1 hr1 hne1
  go_wp2_with fail
  obtain ⟨P, hP⟩ : ∃ P, P = w1.heap.size := ⟨_, rfl⟩
  have hPr : w.heap.size + 1 < P := by rw [hP]; exact HR1.out.lt
  rw [← hP]
  go_loopw [9] (fun i wr => ∃ k : Nat, (k : Int) ≤ n ∧ i = .int .i64 k ∧ (∃ a' c', Bx wr P (.int .i64 n) (.slice a' (lrTo n x k).length c') 25 ∧ Own wr (w.heap.size + 2) (.slice a' (lrTo n x k).length c') (lrTo n x k) ∧ ∀ j, (Value.slice a' (lrTo n x k).length c').ownBlock = some j → j ≠ P) ∧ Bx wr w.heap.size (.int .i64 n) (.slice a x.length cap) 25 ∧ Bx wr (w.heap.size + 1) (.int .i64 0) (.slice none 0 0) 25 ∧ Below w.heap.size w wr) (fun i _ => (n - intOf i).toNat)
  case atStart => exact ⟨0, by omega, rfl, ⟨a1, c1, by rw [hP]; exact Bx.new _ _ _ _, HO1.out.alloc _, by rw [hP]; exact HNE1.out⟩, HX1.out.alloc _, HR1.out.alloc _, bel_alloc HB1.out _⟩
  case round =>
    clear HO1 HNE1 HX1 HR1 HB1 q0 hP y0
    obtain ⟨k, hk, rfl, ⟨a', c', hp, hown, hne⟩, hbx, hres, hbel⟩ := hrel
    have HP := Lib.hid hp
    have HO := Lib.hid hown
    have HNE := Lib.hid hne
    have HX := Lib.hid hbx
    have HRs := Lib.hid hres
    have HB := Lib.hid hbel
    have q0 := hbx.c0
    have q1 := hbx.c1
    have q2 := hp.c0
    have q3 := hp.c1
    have hz0 : w.heap.size + 2 ≤ wr.heap.size := hres.lt
    have hLk := lrTo_rok hlo hhi x k
    have hMk := mapV_rok hlo hhi x 1 k
    by_cases hlt : (k : Int) < n
    · by_cases hlt2 : codeN n (lrTo n x k) < codeN n (mapV n x 1 k)
      · have HIF : Hid ((∀ (v u : Value), (if codeN n (lrTo n x k) < codeN n (mapV n x 1 k) then v else u) = v) ∧ lrTo n x (k + 1) = (mapV n x 1 (k : Int))) := ⟨fun v u => if_pos hlt2, latL_yes hlt2⟩
        clear hown hne hbx hres hp hbel hlt2
        go_wp2_with fail
        go_region_with (first
            | (go_at_call 63; refine (implRotated _ _ x _ _ hR (by omega) (by omega) (Ints.ofBelow h HB.out.drew)).mono ?_; rintro e w2 ⟨a2, c2, rfl, o2, b2⟩; have HB2 := Lib.hid (bel_step HB.out.drew b2 HB.out.size); have hz2 := b2.size; have HP2 := Lib.hid (HP.out.drew.below b2 HP.out.lt); have HO2 := Lib.hid (HO.out.drew.below b2); have HX2 := Lib.hid (HX.out.drew.below b2 HX.out.lt); have HR2 := Lib.hid (HRs.out.drew.below b2 HRs.out.lt); have m0 := HP2.out.c0; have m1 := HP2.out.c1; have m2 := HX2.out.c0; have m3 := HX2.out.c1)
            | (go_at_call 106; refine (implLater _ _ (lrTo n x k) _ (mapV n x 1 k) _ hLk hMk HO2.out.ints.full10 o2.ints).mono ?_; rintro e w3 ⟨rfl, b3⟩; rw [HIF.out.1]; have HB3 := Lib.hid (bel_step HB2.out b3 HB2.out.size); have HP3 := Lib.hid (HP2.out.below b3 HP2.out.lt); have HX3 := Lib.hid (HX2.out.below b3 HX2.out.lt); have HR3 := Lib.hid (HR2.out.below b3 HR2.out.lt); have s0 := HP3.out.c0; have s1 := HP3.out.c1; have g0 := HP3.out.f 0; have g1 := HP3.out.f 1))
        all_goals
          have HP4 := Lib.hid ((HP3.out.set0 (.int .i64 n)).set1 (Value.slice a2 (mapV n x 1 (k : Int)).length c2))
          have HNW := Lib.hid (own_ne o2 HP.out.lt)
          have HO4 := Lib.hid ((((o2.below b3).mono (show w.heap.size + 2 ≤ wr.drew.heap.size from hz0)).setOther (a := ⟨P, 0, none⟩) HNW.out (.int .i64 n)).setOther (a := ⟨P, 1, none⟩) HNW.out (Value.slice a2 (mapV n x 1 (k : Int)).length c2))
          have HX4 := Lib.hid ((HX3.out.set_other (a := ⟨P, 0, none⟩) (by (first | omega | (simp; done) | (simp; omega))) (.int .i64 n)).set_other (a := ⟨P, 1, none⟩) (by (first | omega | (simp; done) | (simp; omega))) (Value.slice a2 (mapV n x 1 (k : Int)).length c2))
          have HR4 := Lib.hid ((HR3.out.set_other (a := ⟨P, 0, none⟩) (by (first | omega | (simp; done) | (simp; omega))) (.int .i64 n)).set_other (a := ⟨P, 1, none⟩) (by (first | omega | (simp; done) | (simp; omega))) (Value.slice a2 (mapV n x 1 (k : Int)).length c2))
          have HB4 : Hid (Below w.heap.size w ((w3.setCell ⟨P, 0, none⟩ (.int .i64 n)).setCell ⟨P, 1, none⟩ (Value.slice a2 (mapV n x 1 (k : Int)).length c2))) := (HB3.out.setCell (by (first | omega | (simp; done) | (simp; omega))) _).setCell (by (first | omega | (simp; done) | (simp; omega))) _
          go_wp2_with fail
          go_roundw
          case rel => exact ⟨k + 1, by omega, by go_num, ⟨a2, c2, by rw [HIF.out.2]; exact HP4.out, by rw [HIF.out.2]; exact HO4.out, by rw [HIF.out.2]; exact HNW.out⟩, HX4.out, HR4.out, HB4.out⟩
          case measure => simp [intOf]; omega
      · have HIF : Hid ((∀ (v u : Value), (if codeN n (lrTo n x k) < codeN n (mapV n x 1 k) then v else u) = u) ∧ lrTo n x (k + 1) = (lrTo n x k)) := ⟨fun v u => if_neg hlt2, latL_no hlt2⟩
        clear hown hne hbx hres hp hbel hlt2
        go_wp2_with fail
        go_region_with (first
            | (go_at_call 63; refine (implRotated _ _ x _ _ hR (by omega) (by omega) (Ints.ofBelow h HB.out.drew)).mono ?_; rintro e w2 ⟨a2, c2, rfl, o2, b2⟩; have HB2 := Lib.hid (bel_step HB.out.drew b2 HB.out.size); have hz2 := b2.size; have HP2 := Lib.hid (HP.out.drew.below b2 HP.out.lt); have HO2 := Lib.hid (HO.out.drew.below b2); have HX2 := Lib.hid (HX.out.drew.below b2 HX.out.lt); have HR2 := Lib.hid (HRs.out.drew.below b2 HRs.out.lt); have m0 := HP2.out.c0; have m1 := HP2.out.c1; have m2 := HX2.out.c0; have m3 := HX2.out.c1)
            | (go_at_call 106; refine (implLater _ _ (lrTo n x k) _ (mapV n x 1 k) _ hLk hMk HO2.out.ints.full10 o2.ints).mono ?_; rintro e w3 ⟨rfl, b3⟩; rw [HIF.out.1]; have HB3 := Lib.hid (bel_step HB2.out b3 HB2.out.size); have HP3 := Lib.hid (HP2.out.below b3 HP2.out.lt); have HX3 := Lib.hid (HX2.out.below b3 HX2.out.lt); have HR3 := Lib.hid (HR2.out.below b3 HR2.out.lt); have s0 := HP3.out.c0; have s1 := HP3.out.c1; have g0 := HP3.out.f 0; have g1 := HP3.out.f 1))
        all_goals
          have HP4 := Lib.hid ((HP3.out.set0 (.int .i64 n)).set1 (Value.slice a' (lrTo n x k).length c'))
          have HNW := Lib.hid HNE.out
          have HO4 := Lib.hid ((((HO2.out.below b3).mono (Nat.le_refl _)).setOther (a := ⟨P, 0, none⟩) HNW.out (.int .i64 n)).setOther (a := ⟨P, 1, none⟩) HNW.out (Value.slice a' (lrTo n x k).length c'))
          have HX4 := Lib.hid ((HX3.out.set_other (a := ⟨P, 0, none⟩) (by (first | omega | (simp; done) | (simp; omega))) (.int .i64 n)).set_other (a := ⟨P, 1, none⟩) (by (first | omega | (simp; done) | (simp; omega))) (Value.slice a' (lrTo n x k).length c'))
          have HR4 := Lib.hid ((HR3.out.set_other (a := ⟨P, 0, none⟩) (by (first | omega | (simp; done) | (simp; omega))) (.int .i64 n)).set_other (a := ⟨P, 1, none⟩) (by (first | omega | (simp; done) | (simp; omega))) (Value.slice a' (lrTo n x k).length c'))
          have HB4 : Hid (Below w.heap.size w ((w3.setCell ⟨P, 0, none⟩ (.int .i64 n)).setCell ⟨P, 1, none⟩ (Value.slice a' (lrTo n x k).length c'))) := (HB3.out.setCell (by (first | omega | (simp; done) | (simp; omega))) _).setCell (by (first | omega | (simp; done) | (simp; omega))) _
          go_wp2_with fail
          go_roundw
          case rel => exact ⟨k + 1, by omega, by go_num, ⟨a', c', by rw [HIF.out.2]; exact HP4.out, by rw [HIF.out.2]; exact HO4.out, by rw [HIF.out.2]; exact HNW.out⟩, HX4.out, HR4.out, HB4.out⟩
          case measure => simp [intOf]; omega
    · have e : n = (k : Int) := by omega
      have HE : Hid (leastV n x = lrTo n x k) := by unfold Hid leastV; rw [show n.toNat = k by omega]
      have p0 := hres.c0
      have p1 := hres.c1
      have f0 := hres.f 0
      have f1 := hres.f 1
      have hfin := (hres.set0 (.int .i64 n)).set1 (.slice a' (lrTo n x k).length c')
      have r0 := hfin.c0
      have r1 := hfin.c1
      clear hown hne hbx hres hp hbel hfin e
      go_wp2
      refine bodyPost_ret (v := .agg #[.int .i64 n, .slice a' (lrTo n x k).length c']) ?_ rfl ?_
      · simp [results, Try.results65, go_sem, r0, r1]
      · rw [HE.out]
        exact ⟨a', c', rfl, ((HO.out.setc (by (first | omega | (simp; done) | (simp; omega))) _).setc (by (first | omega | (simp; done) | (simp; omega))) _).mono (by omega), (HB.out.setCell (by (first | omega | (simp; done) | (simp; omega))) _).setCell (by (first | omega | (simp; done) | (simp; omega))) _⟩

set_option maxHeartbeats 2000000 in
theorem implForm (n : Int) (v : Value) (x : List Int) (w : World) (hR : Rok n x) (h : Ints w w.heap.size v x) :
    Calls Try.prog 66 #[.agg #[.int .i64 n, v]] w (RetRhythm w n (formV n x)) := by
  have hlo := hR.lo
  have hhi := hR.hi
  have hM := mapV_rok hlo hhi x (-1) 0
  have hL1 := leastV_rok hlo hhi x
  have hL2 := leastV_rok hlo hhi (mapV n x (-1) 0)
  have h' := h
  obtain ⟨a, cap, rfl, -⟩ := h'
  have HX0 : Hid (Bx ((w.alloc (.cells #[.int .i64 n, .slice a x.length cap] 25)).alloc (.cells #[.int .i64 0, .slice none 0 0] 25)).drew w.heap.size (.int .i64 n) (.slice a x.length cap) 25) := by unfold Hid; (repeat (first | (with_reducible refine Bx.newAt _ _ _ _ ?_; simp; done) | (with_reducible refine Bx.alloc ?_ _) | (with_reducible refine Bx.drew ?_) | (with_reducible refine Bx.drewN ?_ _)))
  have HR0 : Hid (Bx ((w.alloc (.cells #[.int .i64 n, .slice a x.length cap] 25)).alloc (.cells #[.int .i64 0, .slice none 0 0] 25)).drew (w.heap.size + 1) (.int .i64 0) (.slice none 0 0) 25) := by unfold Hid; (repeat (first | (with_reducible refine Bx.newAt _ _ _ _ ?_; simp; done) | (with_reducible refine Bx.alloc ?_ _) | (with_reducible refine Bx.drew ?_) | (with_reducible refine Bx.drewN ?_ _)))
  have HB0 : Hid (Below w.heap.size w ((w.alloc (.cells #[.int .i64 n, .slice a x.length cap] 25)).alloc (.cells #[.int .i64 0, .slice none 0 0] 25)).drew) := by unfold Hid; (repeat (first | (with_reducible exact (Below.refl _ _)) | (with_reducible refine bel_alloc ?_ _) | (with_reducible refine Below.drew ?_) | (with_reducible refine bel_drewN ?_ _) | (with_reducible refine Below.setCell ?_ (by simp) _)))
  by_cases hlt : codeN n (leastV n x) < codeN n (leastV n (mapV n x (-1) 0))
  · have HIF : Hid ((∀ (v u : Value), (if codeN n (leastV n x) < codeN n (leastV n (mapV n x (-1) 0)) then v else u) = v) ∧ formV n x = leastV n (mapV n x (-1) 0)) := ⟨fun v u => if_pos hlt, latL_yes hlt⟩
    clear hlt
    go_enter Try.func66, Try.ntmps66
    go_wp2_with fail
    go_region_with (first
      | (go_at_call_of 65 (Value.agg #[Value.int IntKind.i64 n, Value.slice a x.length cap]); refine (implLeast _ _ x _ hR (Ints.ofBelow h HB0.out)).mono ?_; rintro e w1 ⟨a1, c1, rfl, o1, b1⟩; have HB1 := Lib.hid (bel_step HB0.out b1 HB0.out.size); have HX1 := Lib.hid (HX0.out.below b1 HX0.out.lt); have HR1 := Lib.hid (HR0.out.below b1 HR0.out.lt); have HO1 := Lib.hid (o1.mono HR0.out.lt); have p0 := HX1.out.c0; have p1 := HX1.out.c1)
      | (go_at_call 62; refine (implMirrored _ _ x _ hR (Ints.ofBelow h HB1.out)).mono ?_; rintro e w2 ⟨a2, c2, rfl, o2, b2⟩; have HB2 := Lib.hid (bel_step HB1.out b2 HB1.out.size); have HR2 := Lib.hid (HR1.out.below b2 HR1.out.lt); have HO1a := Lib.hid (HO1.out.below b2); have HX2 := Lib.hid (HX1.out.below b2 HX1.out.lt); have s0 := HX2.out.c0; have s1 := HX2.out.c1)
      | (go_at_call 65; refine (implLeast _ _ (mapV n x (-1) 0) _ hM o2.ints).mono ?_; rintro e w3 ⟨a3, c3, rfl, o3, b3⟩; have HB3 := Lib.hid (bel_step HB2.out b3 HB2.out.size); have HR3 := Lib.hid (HR2.out.below b3 HR2.out.lt); have HO1b := Lib.hid (HO1a.out.below b3); have HO3 := Lib.hid (o3.mono (show w.heap.size + 2 ≤ w2.heap.size from HR2.out.lt)))
      | (go_at_call 106; refine (implLater _ _ (leastV n x) _ (leastV n (mapV n x (-1) 0)) _ hL1 hL2 HO1b.out.ints.full10 HO3.out.ints.full10).mono ?_; rintro e w4 ⟨rfl, b4⟩; rw [HIF.out.1]; have HB4 := Lib.hid (bel_step HB3.out b4 HB3.out.size); have HR4 := Lib.hid (HR3.out.below b4 HR3.out.lt); have HO4 := Lib.hid (HO3.out.below b4); have m0 := HR4.out.c0; have m1 := HR4.out.c1; have g0 := HR4.out.f 0; have g1 := HR4.out.f 1; have hfin := (HR4.out.set0 (.int .i64 n)).set1 (.slice a3 (leastV n (mapV n x (-1) 0)).length c3); have r0 := hfin.c0; have r1 := hfin.c1; clear hfin))
    all_goals
      go_wp2
      refine bodyPost_ret (v := .agg #[.int .i64 n, .slice a3 (leastV n (mapV n x (-1) 0)).length c3]) ?_ rfl ?_
      · simp [results, Try.results66, go_sem, r0, r1]
      · rw [HIF.out.2]
        exact ⟨a3, c3, rfl, ((HO4.out.setc (by (first | omega | (simp; done) | (simp; omega))) _).setc (by (first | omega | (simp; done) | (simp; omega))) _).mono (by omega), (HB4.out.setCell (by (first | omega | (simp; done) | (simp; omega))) _).setCell (by (first | omega | (simp; done) | (simp; omega))) _⟩
  · have HIF : Hid ((∀ (v u : Value), (if codeN n (leastV n x) < codeN n (leastV n (mapV n x (-1) 0)) then v else u) = u) ∧ formV n x = leastV n x) := ⟨fun v u => if_neg hlt, latL_no hlt⟩
    clear hlt
    go_enter Try.func66, Try.ntmps66
    go_wp2_with fail
    go_region_with (first
      | (go_at_call_of 65 (Value.agg #[Value.int IntKind.i64 n, Value.slice a x.length cap]); refine (implLeast _ _ x _ hR (Ints.ofBelow h HB0.out)).mono ?_; rintro e w1 ⟨a1, c1, rfl, o1, b1⟩; have HB1 := Lib.hid (bel_step HB0.out b1 HB0.out.size); have HX1 := Lib.hid (HX0.out.below b1 HX0.out.lt); have HR1 := Lib.hid (HR0.out.below b1 HR0.out.lt); have HO1 := Lib.hid (o1.mono HR0.out.lt); have p0 := HX1.out.c0; have p1 := HX1.out.c1)
      | (go_at_call 62; refine (implMirrored _ _ x _ hR (Ints.ofBelow h HB1.out)).mono ?_; rintro e w2 ⟨a2, c2, rfl, o2, b2⟩; have HB2 := Lib.hid (bel_step HB1.out b2 HB1.out.size); have HR2 := Lib.hid (HR1.out.below b2 HR1.out.lt); have HO1a := Lib.hid (HO1.out.below b2); have HX2 := Lib.hid (HX1.out.below b2 HX1.out.lt); have s0 := HX2.out.c0; have s1 := HX2.out.c1)
      | (go_at_call 65; refine (implLeast _ _ (mapV n x (-1) 0) _ hM o2.ints).mono ?_; rintro e w3 ⟨a3, c3, rfl, o3, b3⟩; have HB3 := Lib.hid (bel_step HB2.out b3 HB2.out.size); have HR3 := Lib.hid (HR2.out.below b3 HR2.out.lt); have HO1b := Lib.hid (HO1a.out.below b3); have HO3 := Lib.hid (o3.mono (show w.heap.size + 2 ≤ w2.heap.size from HR2.out.lt)))
      | (go_at_call 106; refine (implLater _ _ (leastV n x) _ (leastV n (mapV n x (-1) 0)) _ hL1 hL2 HO1b.out.ints.full10 HO3.out.ints.full10).mono ?_; rintro e w4 ⟨rfl, b4⟩; rw [HIF.out.1]; have HB4 := Lib.hid (bel_step HB3.out b4 HB3.out.size); have HR4 := Lib.hid (HR3.out.below b4 HR3.out.lt); have HO4 := Lib.hid (HO1b.out.below b4); have m0 := HR4.out.c0; have m1 := HR4.out.c1; have g0 := HR4.out.f 0; have g1 := HR4.out.f 1; have hfin := (HR4.out.set0 (.int .i64 n)).set1 (.slice a1 (leastV n x).length c1); have r0 := hfin.c0; have r1 := hfin.c1; clear hfin))
    all_goals
      go_wp2
      refine bodyPost_ret (v := .agg #[.int .i64 n, .slice a1 (leastV n x).length c1]) ?_ rfl ?_
      · simp [results, Try.results66, go_sem, r0, r1]
      · rw [HIF.out.2]
        exact ⟨a1, c1, rfl, ((HO4.out.setc (by (first | omega | (simp; done) | (simp; omega))) _).setc (by (first | omega | (simp; done) | (simp; omega))) _).mono (by omega), (HB4.out.setCell (by (first | omega | (simp; done) | (simp; omega))) _).setCell (by (first | omega | (simp; done) | (simp; omega))) _⟩
end Go.Proofs.Ytopfenhphnmfkaa
