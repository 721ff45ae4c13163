/-
  Contracts of the axes of a rhythm and of the test whether two rhythms are forms of each other, in the program and in the reference.
  Conditions: the rhythms' beats lie in memory.
-/
import Derived.Test.YtopfenhphnmfkaaN3
import Derived.Test.YtopfenhphnmfkaaN4
set_option linter.unusedVariables false
set_option linter.unusedSimpArgs false
namespace Go.Proofs.Ytopfenhphnmfkaa
open Go.RowKit

theorem Own.litN (w : World) {B : Nat} (hB : B ≤ w.heap.size) : Own (w.alloc (.cells #[] 3)) B (.slice (some ⟨w.heap.size, 0, none⟩) 0 0) [] :=
  World.ownsRow_lit (e := 3) (size := 1) w #[] 0 hB (Nat.zero_le _) rfl

set_option maxHeartbeats 2000000 in
theorem implAxesOfC (n : Int) (v : Value) (x : List Int) (c : I64 n) (w : World) (h : Ints w w.heap.size v x) :
    Calls Try.prog 14 #[.agg #[.int .i64 n, v]] w (RetOwn w (lstAxesOf n x)) := by
  have h' := h
  obtain ⟨a, cap, rfl, -⟩ := h'
  cases hr : rok n x with
  | false =>
    have Hr := Lib.hid hr
    rw [axesOf_no hr]
    clear hr
    go_enter Try.func14, Try.ntmps14
    go_wp2_with (go_at_call 49; refine (implRhythmOk _ _ x _ _ c.1 c.2 (h.alloc (Nat.le_refl _) _)).mono ?_; rintro e w' ⟨rfl, rfl⟩; rw [Hr.out])
    go_ret
    exact .mk rfl (Own.nil _ _) (by (repeat (first | (with_reducible exact (Below.refl _ _)) | (with_reducible refine bel_alloc ?_ _) | (with_reducible refine Below.drew ?_) | (with_reducible refine bel_drewN ?_ _) | (with_reducible refine Below.setCell ?_ (by simp) _))))
  | true =>
    have Hr := Lib.hid hr
    rw [axesOf_yes hr]
    have hR := (rok_iff n x).1 hr
    have hlo := hR.lo
    have hhi := hR.hi
    have hM := mapV_rok hlo hhi x (-1) 0
    clear hr
    go_enter Try.func14, Try.ntmps14
    go_wp2_with (go_at_call 49; refine (implRhythmOk _ _ x _ _ c.1 c.2 (h.alloc (Nat.le_refl _) _)).mono ?_; rintro e w' ⟨rfl, rfl⟩; rw [Hr.out])
    go_loopw [3, 10] (fun u i wr => ∃ k : Nat, (k : Int) ≤ n ∧ i = .int .i64 k ∧ (∃ a' m' c', u = .slice a' m' c' ∧ (axTo n x k).length = m' ∧ Own wr (w.heap.size + 1) (.slice a' m' c') (axTo n x k)) ∧ Bx wr w.heap.size (.int .i64 n) (.slice a x.length cap) 25 ∧ Below w.heap.size w wr) (fun _ i _ => (n - intOf i).toNat)
    case atStart => exact ⟨0, by omega, rfl, ⟨none, 0, 0, rfl, rfl, Own.nil _ _⟩, by (repeat (first | (with_reducible refine Bx.newAt _ _ _ _ ?_; simp; done) | (with_reducible refine Bx.alloc ?_ _) | (with_reducible refine Bx.drew ?_) | (with_reducible refine Bx.drewN ?_ _))), by (repeat (first | (with_reducible exact (Below.refl _ _)) | (with_reducible refine bel_alloc ?_ _) | (with_reducible refine Below.drew ?_) | (with_reducible refine bel_drewN ?_ _) | (with_reducible refine Below.setCell ?_ (by simp) _)))⟩
    case round =>
      obtain ⟨k, hk, rfl, ⟨a', m', c', rfl, hm', hown⟩, hbx, hbel⟩ := hrel
      have hsz := hbx.lt
      have hml := axTo_len n x k
      have hm2 : m' ≤ 1048576 := by omega
      have HM := Lib.hid hm'
      have HX := Lib.hid hbx
      have HO := Lib.hid hown
      have HB := Lib.hid hbel
      have q0 := hbx.c0
      have q1 := hbx.c1
      have hfld := runField1
      by_cases hlt : (k : Int) < n
      · cases hq : eqL (mapV n x (-1) k) x with
        | true =>
          have Hn := Lib.hid (axTo_yes hq)
          have Hq : Hid (eqR n n (mapV n (mapV n x (-1) 0) 1 k) x = true) := by unfold Hid; rw [eqR_same, mapV_mir hlo]; exact hq
          clear hbx hown hbel hq hm'
          go_wp2_with fail
          go_region_with (first
            | (go_at_call 62; refine (implMirrored _ _ x _ hR (Ints.ofBelow h HB.out.drew)).mono ?_; rintro e w1 ⟨a1, c1, rfl, o1, b1⟩; have HB1 := Lib.hid (bel_step HB.out.drew b1 HB.out.size); have hbx1 := HX.out.drew.below b1 HX.out.lt; have HO1 := Lib.hid (HO.out.drew.below b1); have p0 := hbx1.c0; have p1 := hbx1.c1)
            | (go_at_call 63; refine (implRotated _ _ (mapV n x (-1) 0) _ _ hM (by omega) (by omega) o1.ints).mono ?_; rintro e w2 ⟨a2, c2, rfl, o2, b2⟩; have HB2 := Lib.hid (bel_step HB1.out b2 HB1.out.size); have hbx2 := hbx1.below b2 hbx1.lt; have HO2 := Lib.hid (HO1.out.below b2); have s0 := hbx2.c0; have s1 := hbx2.c1)
            | (go_at_call 64; refine (implEqualsC _ _ _ _ (mapV n (mapV n x (-1) 0) 1 k) x _ o2.ints (Ints.ofBelow h HB2.out)).mono ?_; rintro e w3 ⟨rfl, b3⟩; rw [Hq.out]; have HB3 := Lib.hid (bel_step HB2.out b3 HB2.out.size); have hbx3 := hbx2.below b3 hbx2.lt; have HO3 := Lib.hid (HO2.out.below b3)))
          all_goals
            have HZ := Lib.hid (hbx3.lt)
            have hz3 := HZ.out
            go_wp2_with (at_builtin; refine wpAppInt rfl _ _ rfl (w.heap.size + 1) a' m' c' (axTo n x k) _ rfl rfl HO3.out HM.out (by omega) (by omega) ?_; intro a4 c4 w4 ho4 hb4)
            have HO4 : Hid (Own w4 (w.heap.size + 1) (.slice a4 (m' + 1) c4) (axTo n x (k + 1))) := by unfold Hid; rw [Hn.out]; exact ho4
            have HX4 := Lib.hid (hbx3.below hb4 (by omega))
            have HB4 := Lib.hid ((HB3.out).trans (hb4.mono (by omega)))
            have HM4 : Hid ((axTo n x (k + 1)).length = m' + 1) := by unfold Hid; rw [Hn.out, List.length_append, HM.out]; rfl
            clear ho4 hb4
            go_roundw
            case rel => exact ⟨k + 1, by omega, by go_num, ⟨a4, m' + 1, c4, rfl, HM4.out, HO4.out⟩, HX4.out, HB4.out⟩
            case measure => simp [intOf]; omega
        | false =>
          have Hn := Lib.hid (axTo_no hq)
          have Hq : Hid (eqR n n (mapV n (mapV n x (-1) 0) 1 k) x = false) := by unfold Hid; rw [eqR_same, mapV_mir hlo]; exact hq
          clear hbx hown hbel hq hm'
          go_wp2_with fail
          go_region_with (first
            | (go_at_call 62; refine (implMirrored _ _ x _ hR (Ints.ofBelow h HB.out.drew)).mono ?_; rintro e w1 ⟨a1, c1, rfl, o1, b1⟩; have HB1 := Lib.hid (bel_step HB.out.drew b1 HB.out.size); have hbx1 := HX.out.drew.below b1 HX.out.lt; have HO1 := Lib.hid (HO.out.drew.below b1); have p0 := hbx1.c0; have p1 := hbx1.c1)
            | (go_at_call 63; refine (implRotated _ _ (mapV n x (-1) 0) _ _ hM (by omega) (by omega) o1.ints).mono ?_; rintro e w2 ⟨a2, c2, rfl, o2, b2⟩; have HB2 := Lib.hid (bel_step HB1.out b2 HB1.out.size); have hbx2 := hbx1.below b2 hbx1.lt; have HO2 := Lib.hid (HO1.out.below b2); have s0 := hbx2.c0; have s1 := hbx2.c1)
            | (go_at_call 64; refine (implEqualsC _ _ _ _ (mapV n (mapV n x (-1) 0) 1 k) x _ o2.ints (Ints.ofBelow h HB2.out)).mono ?_; rintro e w3 ⟨rfl, b3⟩; rw [Hq.out]; have HB3 := Lib.hid (bel_step HB2.out b3 HB2.out.size); have hbx3 := hbx2.below b3 hbx2.lt; have HO3 := Lib.hid (HO2.out.below b3)))
          all_goals
            go_wp2_with fail
            go_roundw
            case rel => exact ⟨k + 1, by omega, by go_num, ⟨a', m', c', rfl, by rw [Hn.out]; exact HM.out, by rw [Hn.out]; exact HO3.out⟩, hbx3, HB3.out⟩
            case measure => simp [intOf]; omega
      · have e : n = (k : Int) := by omega
        have hk2 : n.toNat = k := by omega
        have Hk2 := Lib.hid hk2
        clear hbx hown hbel hm' e hk2
        go_wp2
        go_ret
        exact .mk rfl (by rw [Hk2.out]; exact HO.out.mono (by omega)) HB.out

theorem implIsMirroredC (n : Int) (v : Value) (x : List Int) (c : I64 n) (w : World) (h : Ints w w.heap.size v x) :
    Calls Try.prog 19 #[.agg #[.int .i64 n, v]] w fun e w' => e = .returned (.bool (valIsMirrored n x)) ∧ Below w.heap.size w w' := by
  have h' := h
  obtain ⟨a, cap, rfl, -⟩ := h'
  have hlen := lenAxesOf n x
  go_enter Try.func19, Try.ntmps19
  go_wp2_with fail
  refine withWorld fun X hX => ?_
  have hB : Below w.heap.size w X := by rw [hX]; (repeat (first | (with_reducible exact (Below.refl _ _)) | (with_reducible refine bel_alloc ?_ _) | (with_reducible refine Below.drew ?_) | (with_reducible refine bel_drewN ?_ _) | (with_reducible refine Below.setCell ?_ (by simp) _)))
  clear hX
  refine (implAxesOfC _ _ x c _ (Ints.ofBelow h hB)).mono ?_
  rintro e w1 ⟨a1, c1, rfl, o1, b1⟩
  have HB1 := Lib.hid (bel_step hB b1 hB.size)
  clear b1 hB o1
  go_wp2
  go_ret
  exact ⟨ret_bool (by unfold valIsMirrored; first | rfl | simp), HB1.out⟩



theorem valAreForms_no {n m : Int} {x y : List Int} (h : sameSz n m x y = false) : valAreForms n x m y = false := by
  unfold valAreForms; unfold sameSz at h; rw [h]; rfl
theorem valAreForms_yes {n m : Int} {x y : List Int} (h : sameSz n m x y = true) : valAreForms n x m y = (decide (0 ≤ rotTo n x y) || decide (0 ≤ rotTo n (mapV n x (-1) 0) y)) := by
  unfold valAreForms; unfold sameSz at h; rw [h]; rfl

set_option maxHeartbeats 4000000 in
theorem implAreFormsC (n : Int) (u : Value) (x : List Int) (c : I64 n) (m : Int) (v : Value) (y : List Int) (d : I64 m) (w : World) (hu : Ints w w.heap.size u x) (hv : Ints w w.heap.size v y) :
    Calls Try.prog 26 #[.agg #[.int .i64 n, u], .agg #[.int .i64 m, v]] w fun e w' => e = .returned (.bool (valAreForms n x m y)) ∧ Below w.heap.size w w' := by
  have hu' := hu
  have hv' := hv
  obtain ⟨a, cap, rfl, -⟩ := hu
  obtain ⟨a', cap', rfl, -⟩ := hv
  have hh := Held2.new w (.int .i64 n) (.slice a x.length cap) (.int .i64 m) (.slice a' y.length cap') 25 25
  have H0 := Lib.hid hh
  clear hh
  cases hs : sameSz n m x y with
  | false =>
    have Hs := Lib.hid hs
    have Hf := Lib.hid (valAreForms_no hs)
    clear hs
    go_enter Try.func26, Try.ntmps26
    go_wp2_with fail
    refine region_held (Held2 w (.int .i64 n) (.slice a x.length cap) (.int .i64 m) (.slice a' y.length cap')) (by kernel_rfl) (by kernel_rfl) H0.out.drew (Held2.keeps _ _ _ _ _) fun U val hne hv hcall => ?_
    have HC := Lib.hid hcall
    have z0 : ∀ u, (val u).cell? ⟨w.heap.size, 0, none⟩ = some (.int .i64 n) := fun u => (hv u).2.1.1
    have z1 : ∀ u, (val u).cell? ⟨w.heap.size, 1, none⟩ = some (.slice a x.length cap) := fun u => (hv u).2.1.2
    have z2 : ∀ u, (val u).cell? ⟨w.heap.size + 1, 0, none⟩ = some (.int .i64 m) := fun u => (hv u).2.2.1
    have z3 : ∀ u, (val u).cell? ⟨w.heap.size + 1, 1, none⟩ = some (.slice a' y.length cap') := fun u => (hv u).2.2.2
    have HV := Lib.hid hv
    clear hv hcall
    repeat (go_big_quiet_step ((first | (go_at_call 69; exact HC.out _ _ _ _ (retB (implSameSizeC _ _ _ _ x y c d _ (Ints.ofBelow hu' (HV.out _).1) (Ints.ofBelow hv' (HV.out _).1)) Hs.out)))))
    refine wpQuiet_nil ?_
    rintro _ ⟨u, rfl⟩
    have HB := Lib.hid (HV.out u).1
    go_wp2
    go_ret
    exact ⟨ret_bool Hf.out.symm, HB.out⟩
  | true =>
    have Hs := Lib.hid hs
    have hf := valAreForms_yes hs
    obtain ⟨hR, -, rfl⟩ := sameSz_iff.1 hs
    have hlo := hR.lo
    have hhi := hR.hi
    have hM := mapV_rok hlo hhi x (-1) 0
    obtain ⟨rb1, rb2⟩ := rotTo_bd (x := x) (y := y) hlo hhi
    obtain ⟨rb3, rb4⟩ := rotTo_bd (x := mapV n x (-1) 0) (y := y) hlo hhi
    by_cases hg : 0 ≤ rotTo n x y
    · have hd : decide (0 ≤ rotTo n x y) = true := by simpa using hg
      rw [hd, Bool.true_or] at hf
      have Hf := Lib.hid hf
      clear hs hf
      go_enter Try.func26, Try.ntmps26
      go_wp2_with fail
      refine region_held (Held2 w (.int .i64 n) (.slice a x.length cap) (.int .i64 n) (.slice a' y.length cap')) (by kernel_rfl) (by kernel_rfl) H0.out.drew (Held2.keeps _ _ _ _ _) fun U val hne hv hcall => ?_
      have HC := Lib.hid hcall
      have z0 : ∀ u, (val u).cell? ⟨w.heap.size, 0, none⟩ = some (.int .i64 n) := fun u => (hv u).2.1.1
      have z1 : ∀ u, (val u).cell? ⟨w.heap.size, 1, none⟩ = some (.slice a x.length cap) := fun u => (hv u).2.1.2
      have z2 : ∀ u, (val u).cell? ⟨w.heap.size + 1, 0, none⟩ = some (.int .i64 n) := fun u => (hv u).2.2.1
      have z3 : ∀ u, (val u).cell? ⟨w.heap.size + 1, 1, none⟩ = some (.slice a' y.length cap') := fun u => (hv u).2.2.2
      have HV := Lib.hid hv
      clear hv hcall
      repeat (go_big_quiet_step ((first | (go_at_call 69; exact HC.out _ _ _ _ (retB (implSameSizeC _ _ _ _ x y c d _ (Ints.ofBelow hu' (HV.out _).1) (Ints.ofBelow hv' (HV.out _).1)) Hs.out)) | (go_at_call 70; exact HC.out _ _ _ _ (implRotationTo' _ _ x _ y _ hR (Ints.ofBelow hu' (HV.out _).1) (Ints.ofBelow hv' (HV.out _).1))))))
      refine wpQuiet_nil ?_
      rintro _ ⟨u, rfl⟩
      have HB := Lib.hid (HV.out u).1
      go_wp2
      go_ret
      exact ⟨ret_bool Hf.out.symm, HB.out⟩
    · have hd : decide (0 ≤ rotTo n x y) = false := by simpa using hg
      rw [hd, Bool.false_or] at hf
      have Hf := Lib.hid hf
      clear hs hf
      go_enter Try.func26, Try.ntmps26
      go_wp2_with fail
      have H1 := Lib.hid H0.out.drew
      obtain ⟨q0, q1⟩ := H1.out.2.1
      obtain ⟨q2, q3⟩ := H1.out.2.2
      go_region_with (first
        | (go_at_call 69; refine (implSameSizeC _ _ _ _ x y c d _ (Ints.ofBelow hu' H1.out.1) (Ints.ofBelow hv' H1.out.1)).mono ?_; rintro e w1 ⟨rfl, b1⟩; rw [Hs.out]; have H2 := Lib.hid (H1.out.after b1); obtain ⟨p0, p1⟩ := H2.out.2.1; obtain ⟨p2, p3⟩ := H2.out.2.2)
        | (go_at_call_of 70 (Value.agg #[Value.int IntKind.i64 n, Value.slice a x.length cap]); refine (implRotationTo' _ _ x _ y _ hR (Ints.ofBelow hu' H2.out.1) (Ints.ofBelow hv' H2.out.1)).mono ?_; rintro e w2 ⟨rfl, b2⟩; have H3 := Lib.hid (H2.out.after b2); obtain ⟨s0, s1⟩ := H3.out.2.1; obtain ⟨s2, s3⟩ := H3.out.2.2)
        | (go_at_call 62; refine (implMirrored _ _ x _ hR (Ints.ofBelow hu' H3.out.1)).mono ?_; rintro e w3 ⟨a1, c1, rfl, o1, b3⟩; have H4 := Lib.hid (H3.out.after b3); obtain ⟨t0, t1⟩ := H4.out.2.1; obtain ⟨t2, t3⟩ := H4.out.2.2)
        | (go_at_call 70; refine (implRotationTo' _ _ (mapV n x (-1) 0) _ y _ hM o1.ints (Ints.ofBelow hv' H4.out.1)).mono ?_; rintro e w4 ⟨rfl, b4⟩; have H5 := Lib.hid (H4.out.after b4)))
      all_goals
        go_wp2
        go_ret
        exact ⟨ret_bool Hf.out.symm, H5.out.1⟩

set_option maxHeartbeats 2000000 in
theorem specAreFormsC (n : Int) (u : Value) (x : List Int) (c : I64 n) (m : Int) (v : Value) (y : List Int) (d : I64 m) (w : World) (hu : Ints w w.heap.size u x) (hv : Ints w w.heap.size v y) :
    Calls Try.prog 78 #[.agg #[.int .i64 n, u], .agg #[.int .i64 m, v]] w fun e w' => e = .returned (.bool (valAreForms n x m y)) ∧ Below w.heap.size w w' := by
  have hu' := hu
  have hv' := hv
  obtain ⟨a, cap, rfl, -⟩ := hu
  obtain ⟨a', cap', rfl, -⟩ := hv
  have hh := Held2.new w (.int .i64 n) (.slice a x.length cap) (.int .i64 m) (.slice a' y.length cap') 25 25
  have H0 := Lib.hid hh
  clear hh
  cases hr : rok n x with
  | false =>
    have Hf := Lib.hid (valAreForms_no (sameSz_no1 (m := m) y hr))
    obtain ⟨e1, e2, e3⟩ := mirror_no hr
    have E1 := Lib.hid e1
    have E2 := Lib.hid e2
    have E3 := Lib.hid e3
    clear hr e1 e2 e3
    go_enter Try.func78, Try.ntmps78
    go_wp2_with fail
    refine withWorld fun X hX => ?_
    have hH : Held2 w _ _ _ _ X := hX ▸ H0.out
    clear hX
    refine (specMirrorRhythmC _ _ x c _ (Ints.ofBelow hu' hH.1)).mono ?_
    rintro e w1 ⟨a1, c1, rfl, o1, b1⟩
    rw [E1.out, E2.out, E3.out]
    have H1 := Lib.hid (hH.after b1)
    have HB := Lib.hid H1.out.1
    clear b1 hH X H0 o1
    go_wp2
    go_ret
    exact ⟨ret_bool Hf.out.symm, by first | exact HB.out | exact bel_alloc HB.out _⟩
  | true =>
    have hf := areForms_spec (m := m) (y := y) hr
    have hR := (rok_iff n x).1 hr
    have hlo := hR.lo
    have hhi := hR.hi
    have hM := mapV_rok hlo hhi x (-1) 0
    obtain ⟨e1, e2, e3⟩ := mirror_yes hr
    have E1 := Lib.hid e1
    have E2 := Lib.hid e2
    have E3 := Lib.hid e3
    clear hr e1 e2 e3
    cases hg : decide (0 ≤ valRotationTo n x m y) with
    | true =>
      rw [hg, Bool.true_or] at hf
      have Hf := Lib.hid hf
      have Hg : Hid (valAreRotations n x m y = true) := by unfold Hid valAreRotations; exact hg
      clear hf hg
      go_enter Try.func78, Try.ntmps78
      go_wp2_with fail
      refine withWorld fun X hX => ?_
      have hH : Held2 w _ _ _ _ X := hX ▸ H0.out
      clear hX
      refine (specMirrorRhythmC _ _ x c _ (Ints.ofBelow hu' hH.1)).mono ?_
      rintro e w1 ⟨a1, c1, rfl, o1, b1⟩
      rw [E1.out, E2.out, E3.out]
      have H1 := Lib.hid (hH.after b1)
      clear b1 hH X H0 o1
      obtain ⟨q0, q1⟩ := H1.out.2.1
      obtain ⟨q2, q3⟩ := H1.out.2.2
      have y0 := World.block_lt_of_cell? _ _ q0
      have y2 := World.block_lt_of_cell? _ _ q2
      go_wp2_with fail
      refine withWorld fun X hX => ?_
      have hH : Held2 w (.int .i64 n) (.slice a x.length cap) (.int .i64 m) (.slice a' y.length cap') X := by rw [hX]; exact H1.out.alloc _
      clear hX H1 q0 q1 q2 q3 y0 y2
      refine (specAreRotationsC _ _ x c _ _ y d _ (Ints.ofBelow hu' hH.1) (Ints.ofBelow hv' hH.1)).mono ?_
      rintro e w2 ⟨rfl, b2⟩
      rw [Hg.out]
      have H2 := Lib.hid (hH.after b2)
      clear b2 hH X
      go_wp2
      go_ret
      exact ⟨ret_bool Hf.out.symm, H2.out.1⟩
    | false =>
      rw [hg, Bool.false_or] at hf
      have Hf := Lib.hid hf
      have Hg : Hid (valAreRotations n x m y = false) := by unfold Hid valAreRotations; exact hg
      clear hf hg
      go_enter Try.func78, Try.ntmps78
      go_wp2_with fail
      refine withWorld fun X hX => ?_
      have hH : Held2 w _ _ _ _ X := hX ▸ H0.out
      clear hX
      refine (specMirrorRhythmC _ _ x c _ (Ints.ofBelow hu' hH.1)).mono ?_
      rintro e w1 ⟨a1, c1, rfl, o1, b1⟩
      rw [E2.out] at o1
      rw [E1.out, E2.out, E3.out]
      have H1 := Lib.hid (hH.after b1)
      have HO1 := Lib.hid o1
      clear b1 hH H0 o1
      obtain ⟨q0, q1⟩ := H1.out.2.1
      obtain ⟨q2, q3⟩ := H1.out.2.2
      have y0 := World.block_lt_of_cell? _ _ q0
      have y2 := World.block_lt_of_cell? _ _ q2
      go_wp2_with fail
      refine withWorld fun X2 hX => ?_
      have hH : Held2 w (.int .i64 n) (.slice a x.length cap) (.int .i64 m) (.slice a' y.length cap') X2 := by rw [hX]; exact H1.out.alloc _
      have hx : Bx X2 w1.heap.size (.int .i64 n) (.slice a1 (mapV n x (-1) 0).length c1) 25 := by rw [hX]; (repeat (first | (with_reducible refine Bx.newAt _ _ _ _ ?_; simp; done) | (with_reducible refine Bx.alloc ?_ _) | (with_reducible refine Bx.drew ?_) | (with_reducible refine Bx.drewN ?_ _)))
      have hO : ∃ B, Own X2 B (.slice a1 (mapV n x (-1) 0).length c1) (mapV n x (-1) 0) := ⟨_, by rw [hX]; exact HO1.out.alloc _⟩
      obtain ⟨BO, hO⟩ := hO
      clear hX H1 q0 q1 q2 q3 y0 y2
      refine (specAreRotationsC _ _ x c _ _ y d _ (Ints.ofBelow hu' hH.1) (Ints.ofBelow hv' hH.1)).mono ?_
      rintro e w2 ⟨rfl, b2⟩
      rw [Hg.out]
      have H2 := Lib.hid (hH.after b2)
      have hx2 := hx.below b2 hx.lt
      have m0 := hx2.c0
      have m1 := hx2.c1
      have HO2 := Lib.hid (hO.below b2)
      clear b2 hH hx hO hx2
      obtain ⟨q0, q1⟩ := H2.out.2.1
      obtain ⟨q2, q3⟩ := H2.out.2.2
      go_wp2_with fail
      refine (specAreRotationsC _ _ (mapV n x (-1) 0) ⟨by omega, by omega⟩ _ _ y d _ HO2.out.ints (Ints.ofBelow hv' H2.out.1)).mono ?_
      rintro e w3 ⟨rfl, b3⟩
      have H3 := Lib.hid (H2.out.after b3)
      clear b3 H2 HO2 m0 m1 q0 q1 q2 q3
      go_wp2
      go_ret
      exact ⟨ret_bool (by rw [Hf.out]; rfl), H3.out.1⟩
end Go.Proofs.Ytopfenhphnmfkaa
