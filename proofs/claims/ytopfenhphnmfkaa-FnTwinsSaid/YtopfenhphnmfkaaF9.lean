/-
  Contracts of OtherRhythm, in the program and in the reference.
  Conditions: the rhythm's beats lie in memory.
-/
import Derived.Test.YtopfenhphnmfkaaE2
import Derived.Test.YtopfenhphnmfkaaG2
import Derived.Test.YtopfenhphnmfkaaB0
import Derived.Test.YtopfenhphnmfkaaM9
set_option linter.unusedVariables false
set_option linter.unusedSimpArgs false
namespace Go.Proofs.Ytopfenhphnmfkaa
open Go.RowKit

theorem numOtherRhythm_bd (n : Int) (x : List Int) : I64 (numOtherRhythm n x) := by
  have := numOtherRhythm_le n x
  unfold I64; omega

set_option maxHeartbeats 800000 in
theorem implOthers (n : Int) (v : Value) (x : List Int) (w : World) (hR : Rok n x) (h : Ints w w.heap.size v x) :
    Calls Try.prog 81 #[.agg #[.int .i64 n, v]] w (RetRhythm w n (othTo x n.toNat)) := by
  have hlo := hR.lo
  have hhi := hR.hi
  have hi := h
  obtain ⟨a, cap, rfl, -⟩ := h
  go_enter Try.func81, Try.ntmps81
  go_wp2_with fail
  go_loopw [10] (fun i wr => ∃ k : Nat, (k : Int) ≤ n ∧ i = .int .i64 k ∧ ∃ a' m' c', (othTo x k).length = m' ∧ Own wr (w.heap.size + 3) (.slice a' m' c') (othTo x k) ∧ Bx wr (w.heap.size + 2) (.int .i64 n) (.slice a' m' c') 25 ∧ Bx wr w.heap.size (.int .i64 n) (.slice a x.length cap) 25 ∧ Bx wr (w.heap.size + 1) (.int .i64 0) (.slice none 0 0) 25 ∧ Below w.heap.size w wr) (fun i _ => (n - intOf i).toNat)
  case atStart => exact ⟨0, by omega, rfl, none, 0, 0, rfl, Own.nil _ _, by (repeat (first | (with_reducible refine Bx.newAt _ _ _ _ ?_; simp; done) | (with_reducible refine Bx.alloc ?_ _) | (with_reducible refine Bx.drew ?_) | (with_reducible refine Bx.drewN ?_ _))), by (repeat (first | (with_reducible refine Bx.newAt _ _ _ _ ?_; simp; done) | (with_reducible refine Bx.alloc ?_ _) | (with_reducible refine Bx.drew ?_) | (with_reducible refine Bx.drewN ?_ _))), by (repeat (first | (with_reducible refine Bx.newAt _ _ _ _ ?_; simp; done) | (with_reducible refine Bx.alloc ?_ _) | (with_reducible refine Bx.drew ?_) | (with_reducible refine Bx.drewN ?_ _))), by (repeat (first | (with_reducible exact (Below.refl _ _)) | (with_reducible refine bel_alloc ?_ _) | (with_reducible refine Below.drew ?_) | (with_reducible refine bel_drewN ?_ _) | (with_reducible refine Below.setCell ?_ (by simp) _)))⟩
  case round =>
    obtain ⟨k, hk, rfl, a', m', c', hm', hown, hout, hbx, hres, hbel⟩ := hrel
    have hsz := hout.lt
    have hml := othTo_len x k
    have hm2 : m' ≤ 1048576 := by omega
    have q0 := hbx.c0
    have q1 := hbx.c1
    have HM := Lib.hid hm'
    by_cases hlt : (k : Int) < n
    · have HH := Lib.hid (Ints.ofBelow hi hbel)
      have HY := Lib.hid hout
      have HX := Lib.hid hbx
      have HO := Lib.hid hown
      have HR := Lib.hid hres
      have HB := Lib.hid hbel
      have hmo : mo (k : Int) n = (k : Int) := mo_id (by omega) hlt
      have Hmo := Lib.hid hmo
      cases hh : hasL x (k : Int) with
      | false =>
        have Hh := Lib.hid hh
        have Hn := Lib.hid (othTo_yes hh)
        clear hbx hown hres hbel hout hh hm' hmo
        go_wp2_with fail
        refine (implHas _ _ x _ _ hlo hhi ⟨by omega, by omega⟩ HH.out).mono ?_
        rintro e w2 ⟨rfl, hb2⟩
        rw [Hmo.out, Hh.out]
        have HY2 := Lib.hid (HY.out.below hb2 (by omega))
        have HX2 := Lib.hid (HX.out.below hb2 (by omega))
        have HR2 := Lib.hid (HR.out.below hb2 (by omega))
        have HO2 := Lib.hid (HO.out.below hb2)
        have HB2 := Lib.hid (bel_step HB.out hb2 (by omega))
        have hsz2 := HY2.out.lt
        have y1 := HY2.out.c1
        have g1 := HY2.out.f 1
        clear q0 q1
        clear hb2 HY HX HR HO HB
        go_wp2_with (at_builtin; refine wpAppInt rfl _ _ rfl (w.heap.size + 3) a' m' c' (othTo x k) _ rfl rfl HO2.out HM.out (by omega) (by omega) ?_; intro a1 c1 w3 ho1 hb1; have hy1 := HY2.out.below hb1 (by omega); have p1 := hy1.c1; have gg1 := hy1.f 1)
        have HY3 : Hid (Bx (w3.setCell ⟨w.heap.size + 2, 1, none⟩ (.slice a1 (m' + 1) c1)) (w.heap.size + 2) _ (.slice a1 (m' + 1) c1) _) := hy1.set1 _
        have HO3 : Hid (Own (w3.setCell ⟨w.heap.size + 2, 1, none⟩ (.slice a1 (m' + 1) c1)) (w.heap.size + 3) (.slice a1 (m' + 1) c1) (othTo x (k + 1))) := by unfold Hid; rw [Hn.out]; exact ho1.setc (by simp) _
        have HX3 : Hid (Bx (w3.setCell ⟨w.heap.size + 2, 1, none⟩ (.slice a1 (m' + 1) c1)) w.heap.size _ _ _) := (HX2.out.below hb1 (by omega)).set_other (by simp) _
        have HR3 : Hid (Bx (w3.setCell ⟨w.heap.size + 2, 1, none⟩ (.slice a1 (m' + 1) c1)) (w.heap.size + 1) _ _ _) := (HR2.out.below hb1 (by omega)).set_other (by simp) _
        have HB3 : Hid (Below w.heap.size w (w3.setCell ⟨w.heap.size + 2, 1, none⟩ (.slice a1 (m' + 1) c1))) := (HB2.out.trans (hb1.mono (by omega))).setCell (by simp) _
        have HM3 : Hid ((othTo x (k + 1)).length = m' + 1) := by unfold Hid; rw [Hn.out, List.length_append, HM.out]; rfl
        clear ho1 hb1 hy1 p1 gg1
        go_roundw
        case rel => exact ⟨k + 1, by omega, by go_num, a1, m' + 1, c1, HM3.out, HO3.out, HY3.out, HX3.out, HR3.out, HB3.out⟩
        case measure => simp [intOf]; omega
      | true =>
        have Hh := Lib.hid hh
        have Hn := Lib.hid (othTo_no hh)
        clear hbx hown hres hbel hout hh hm' hmo
        go_wp2_with fail
        refine (implHas _ _ x _ _ hlo hhi ⟨by omega, by omega⟩ HH.out).mono ?_
        rintro e w2 ⟨rfl, hb2⟩
        rw [Hmo.out, Hh.out]
        have HY2 := Lib.hid (HY.out.below hb2 (by omega))
        have HX2 := Lib.hid (HX.out.below hb2 (by omega))
        have HR2 := Lib.hid (HR.out.below hb2 (by omega))
        have HO2 := Lib.hid (HO.out.below hb2)
        have HB2 := Lib.hid (bel_step HB.out hb2 (by omega))
        clear q0 q1
        clear hb2 HY HX HR HO HB
        go_wp2_with fail
        go_roundw
        case rel => exact ⟨k + 1, by omega, by go_num, a', m', c', by rw [Hn.out]; exact HM.out, by rw [Hn.out]; exact HO2.out, HY2.out, HX2.out, HR2.out, HB2.out⟩
        case measure => simp [intOf]; omega
    · have e : n = (k : Int) := by omega
      subst e
      have HO := Lib.hid hown
      have HR := Lib.hid hres
      have HB := Lib.hid hbel
      have y0 := hout.c0
      have y1 := hout.c1
      have p0 := hres.c0
      have p1 := hres.c1
      have f0 := hres.f 0
      have f1 := hres.f 1
      clear hbx hown hres hbel hout hm'
      go_wp2
      have hfin := (HR.out.set0 (.int .i64 (k : Int))).set1 (.slice a' m' c')
      have r0 := hfin.c0
      have r1 := hfin.c1
      refine bodyPost_ret (v := .agg #[.int .i64 (k : Int), .slice a' m' c']) ?_ rfl ?_
      · simp [results, Try.results81, go_sem, r0, r1]
      · have hm := HM.out
        subst hm
        exact ⟨a', c', rfl, ((HO.out.setc (by simp) _).setc (by simp) _).mono (by omega), (HB.out.setCell (by simp) _).setCell (by simp) _⟩

set_option maxHeartbeats 800000 in
theorem implOtherRhythmC (n : Int) (v : Value) (x : List Int) (c : I64 n) (w : World) (h : Ints w w.heap.size v x) :
    Calls Try.prog 42 #[.agg #[.int .i64 n, v]] w (RetRhythm2 w (numOtherRhythm n x) (lstOtherRhythm n x) (okOtherRhythm n x)) := by
  have h' := h
  obtain ⟨a, cap, rfl, -⟩ := h'
  cases hr : rok n x with
  | false =>
    have Hr := Lib.hid hr
    have Hs := Lib.hid (other_no hr)
    clear hr
    go_enter Try.func42, Try.ntmps42
    go_wp2_with (go_at_call 49; refine (implRhythmOk _ _ x _ _ c.1 c.2 ((h.alloc (Nat.le_refl _) _).alloc (by simp) _)).mono ?_; rintro e w' ⟨rfl, rfl⟩; rw [Hr.out])
    refine bodyPost_ret (v := .tuple #[.agg #[.int .i64 0, .slice none 0 0], .bool false]) ?_ rfl ?_
    · simp [results, Try.results42, go_sem]
    · exact .zero rfl (by (repeat (first | (with_reducible exact (Below.refl _ _)) | (with_reducible refine bel_alloc ?_ _) | (with_reducible refine Below.drew ?_) | (with_reducible refine bel_drewN ?_ _) | (with_reducible refine Below.setCell ?_ (by simp) _)))) Hs.out.1 Hs.out.2.1 Hs.out.2.2
  | true =>
    have Hr := Lib.hid hr
    have hR := (rok_iff n x).1 hr
    have Hs := Lib.hid (other_yes hr)
    clear hr
    go_enter Try.func42, Try.ntmps42
    go_wp2_with (go_at_call 49; refine (implRhythmOk _ _ x _ _ c.1 c.2 ((h.alloc (Nat.le_refl _) _).alloc (by simp) _)).mono ?_; rintro e w' ⟨rfl, rfl⟩; rw [Hr.out])
    refine withWorld fun X hX => ?_
    have hB : Below w.heap.size w X := by rw [hX]; (repeat (first | (with_reducible exact (Below.refl _ _)) | (with_reducible refine bel_alloc ?_ _) | (with_reducible refine Below.drew ?_) | (with_reducible refine bel_drewN ?_ _) | (with_reducible refine Below.setCell ?_ (by simp) _)))
    have hx : Bx X (w.heap.size + 1) (.int .i64 0) (.slice none 0 0) 25 := by rw [hX]; (repeat (first | (with_reducible refine Bx.newAt _ _ _ _ ?_; simp; done) | (with_reducible refine Bx.alloc ?_ _) | (with_reducible refine Bx.drew ?_) | (with_reducible refine Bx.drewN ?_ _)))
    clear hX
    refine (implOthers _ _ x _ hR (Ints.ofBelow h hB)).mono ?_
    rintro e w1 ⟨b1, c1, rfl, ho1, hb1⟩
    have hx1 := hx.below hb1 hx.lt
    have p0 := hx1.c0
    have p1 := hx1.c1
    have f0 := hx1.f 0
    have f1 := hx1.f 1
    have hfin := (hx1.set0 (.int .i64 n)).set1 (.slice b1 (othTo x n.toNat).length c1)
    have r0 := hfin.c0
    have r1 := hfin.c1
    have HO1 := Lib.hid (ho1.mono (show w.heap.size + 2 ≤ X.heap.size from hx.lt))
    have HB1 := Lib.hid (bel_step hB hb1 hB.size)
    clear ho1 hb1 hx hx1 hfin hB
    go_wp2
    refine bodyPost_ret (v := .tuple #[.agg #[.int .i64 n, .slice b1 (othTo x n.toNat).length c1], .bool true]) ?_ rfl ?_
    · simp [results, Try.results42, go_sem, r0, r1]
    · exact .one rfl (((HO1.out.setc (by simp) _).setc (by simp) _).mono (by omega)) rfl ((HB1.out.setCell (by simp) _).setCell (by simp) _) Hs.out.1 Hs.out.2.1 Hs.out.2.2

end Go.Proofs.Ytopfenhphnmfkaa
