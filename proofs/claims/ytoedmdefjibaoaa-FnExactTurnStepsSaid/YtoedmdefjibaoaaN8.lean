/-
  Contracts of IsFlat, IsDeep and TurnSteps, in the program and in the reference.
  Conditions: the rhythm's beats lie in memory.
-/
import Derived.Test.YtoedmdefjibaoaaB3
import Derived.Test.YtoedmdefjibaoaaN1
import Derived.Test.YtoedmdefjibaoaaF4
import Derived.Test.YtoedmdefjibaoaaF11
import Derived.Test.YtoedmdefjibaoaaF3
import Derived.Test.YtoedmdefjibaoaaG1
import Derived.Test.YtoedmdefjibaoaaM15
set_option linter.unusedVariables false
set_option linter.unusedSimpArgs false
namespace Go.Proofs.Ytoedmdefjibaoaa
open Go.RowKit

theorem Ints.full {W : World} {C : Nat} {v : Value} {xs : List Int} (h : Ints W C v xs) : Ints W W.heap.size v xs := by
  rcases h.open with ⟨rfl, a, cap, rfl⟩ | ⟨b, o, cap, rfl, hm, hpos, hB, hlt, hc⟩
  · obtain ⟨a', cap', hv, h1, h2, -⟩ := h
    cases hv
    exact ⟨_, _, rfl, h1, h2, .inl rfl⟩
  · obtain ⟨a', cap', hv, h1, h2, -⟩ := h
    cases hv
    exact ⟨_, _, rfl, h1, h2, .inr ⟨b, o, rfl, hlt, hc⟩⟩

set_option maxHeartbeats 800000 in
theorem implIsFlatC (n : Int) (v : Value) (x : List Int) (c : I64 n) (w : World) (h : Ints w w.heap.size v x) :
    Calls Try.prog 28 #[.agg #[.int .i64 n, v]] w fun e w' => e = .returned (.bool (valIsFlat n x)) ∧ Below w.heap.size w w' := by
  have h' := h
  obtain ⟨a, cap, rfl, -⟩ := h'
  cases hr : rok n x with
  | false =>
    have Hr := Lib.hid hr
    have Hf := Lib.hid (isFlat_no hr)
    clear hr
    go_enter Try.func28, Try.ntmps28
    go_wp2_with (go_at_call 51; refine (implRhythmOk _ _ x _ _ c.1 c.2 (h.alloc (Nat.le_refl _) _)).mono ?_; rintro e w' ⟨rfl, rfl⟩; rw [Hr.out])
    go_ret
    exact ⟨ret_bool Hf.out.symm, by (repeat (first | (with_reducible exact (Below.refl _ _)) | (with_reducible refine bel_alloc ?_ _) | (with_reducible refine Below.drew ?_) | (with_reducible refine bel_drewN ?_ _) | (with_reducible refine Below.setCell ?_ (by simp) _)))⟩
  | true =>
    have Hr := Lib.hid hr
    have Hf := Lib.hid (isFlat_yes hr)
    have hR := (rok_iff n x).1 hr
    have hlo := hR.lo
    have hhi := hR.hi
    have hlen := hR.len24
    clear hr
    go_enter Try.func28, Try.ntmps28
    go_wp2_with (go_at_call 51; refine (implRhythmOk _ _ x _ _ c.1 c.2 (h.alloc (Nat.le_refl _) _)).mono ?_; rintro e w' ⟨rfl, rfl⟩; rw [Hr.out])
    refine withWorld fun X hX => ?_
    have hB : Below w.heap.size w X := by rw [hX]; (repeat (first | (with_reducible exact (Below.refl _ _)) | (with_reducible refine bel_alloc ?_ _) | (with_reducible refine Below.drew ?_) | (with_reducible refine bel_drewN ?_ _) | (with_reducible refine Below.setCell ?_ (by simp) _)))
    clear hX
    refine (implDifferences _ _ x _ hR (Ints.ofBelow h hB)).mono ?_
    rintro e w1 ⟨a1, c1, rfl, o1, b1⟩
    have HB1 := Lib.hid (bel_step hB b1 hB.size)
    clear b1 hB
    generalize hD : difOut n x x.length = D at o1 ⊢
    have hdl : D.length = n.toNat := by rw [← hD, difOut_len]
    have HD := Lib.hid hD
    obtain ⟨g, c', hv, -, -, -, hlc, hcc⟩ := o1.head (by intro e; rw [e] at hdl; simp at hdl; omega)
    cases hv
    have hd1 : 1 ≤ D.length := by omega
    have hd24 : D.length ≤ 24 := by omega
    clear hD
    by_cases hc1 : c1 = 1
    · have hl1 : D.length = 1 := by omega
      subst hc1
      have HI : Hid (Ints w1 w1.heap.size (.slice (some ⟨g, 0, none⟩) 0 0) (D.drop 1)) := by
        unfold Hid
        rw [List.drop_eq_nil_of_le (by omega)]
        exact ⟨_, 0, rfl, Nat.le_refl _, Nat.zero_le _, .inl rfl⟩
      rw [hl1]
      clear o1 hdl
      go_wp2_with fail
      refine (implCollected _ (D.drop 1) _ (by simp; omega) HI.out).mono ?_
      rintro e w2 ⟨a2, c2, rfl, o2, b2⟩
      have HB2 := Lib.hid (bel_step HB1.out b2 HB1.out.size)
      clear o2 b2
      go_wp2
      go_ret
      exact ⟨ret_bool (by rw [Hf.out]; unfold flatB; rw [HD.out]; rw [Bool.eq_iff_iff]; simp; omega), HB2.out⟩
    · have hc1' : ¬ 1 = c1 := fun h => hc1 h.symm
      by_cases hl1 : D.length = 1
      · have HI : Hid (Ints w1 w1.heap.size (.slice (some ⟨g, 1, none⟩) 0 (c1 - 1)) (D.drop 1)) := by
          unfold Hid
          rw [List.drop_eq_nil_of_le (by omega)]
          exact ⟨_, _, rfl, Nat.zero_le _, by unfold maxLen; omega, .inl rfl⟩
        rw [hl1]
        clear o1 hdl
        go_wp2_with fail
        refine (implCollected _ (D.drop 1) _ (by simp; omega) HI.out).mono ?_
        rintro e w2 ⟨a2, c2, rfl, o2, b2⟩
        have HB2 := Lib.hid (bel_step HB1.out b2 HB1.out.size)
        clear o2 b2
        go_wp2
        go_ret
        exact ⟨ret_bool (by rw [Hf.out]; unfold flatB; rw [HD.out]; rw [Bool.eq_iff_iff]; simp; omega), HB2.out⟩
      · obtain ⟨C, hI⟩ := o1.suf (k := 1) (by omega)
        have HI := Lib.hid hI.full
        clear o1 hdl hI
        go_wp2_with fail
        refine (implCollected _ (D.drop 1) _ (by simp; omega) HI.out).mono ?_
        rintro e w2 ⟨a2, c2, rfl, o2, b2⟩
        have HB2 := Lib.hid (bel_step HB1.out b2 HB1.out.size)
        clear o2 b2
        go_wp2
        go_ret
        exact ⟨ret_bool (by rw [Hf.out]; unfold flatB; rw [HD.out]; rw [Bool.eq_iff_iff]; simp; omega), HB2.out⟩

set_option maxHeartbeats 800000 in
theorem specIsFlatC (n : Int) (v : Value) (x : List Int) (c : I64 n) (w : World) (h : Ints w w.heap.size v x) :
    Calls Try.prog 27 #[.agg #[.int .i64 n, v]] w fun e w' => e = .returned (.bool (valIsFlat n x)) ∧ Below w.heap.size w w' := by
  have h' := h
  obtain ⟨a, cap, rfl, -⟩ := h'
  cases hr : rok n x with
  | false =>
    have Hr := Lib.hid hr
    have Hf := Lib.hid (isFlat_no hr)
    clear hr
    go_enter Try.func27, Try.ntmps27
    go_wp2_with (go_at_call 53; refine (specRhythmOk _ _ x _ _ c.1 c.2 (h.alloc (Nat.le_refl _) _)).mono ?_; rintro e w' ⟨rfl, rfl⟩; rw [Hr.out])
    go_ret
    exact ⟨ret_bool Hf.out.symm, by (repeat (first | (with_reducible exact (Below.refl _ _)) | (with_reducible refine bel_alloc ?_ _) | (with_reducible refine Below.drew ?_) | (with_reducible refine bel_drewN ?_ _) | (with_reducible refine Below.setCell ?_ (by simp) _)))⟩
  | true =>
    have Hr := Lib.hid hr
    have Hf := Lib.hid (isFlat_yes hr)
    have hR := (rok_iff n x).1 hr
    have hlo := hR.lo
    have hhi := hR.hi
    have hlen := hR.len24
    clear hr
    go_enter Try.func27, Try.ntmps27
    go_wp2_with (go_at_call 53; refine (specRhythmOk _ _ x _ _ c.1 c.2 (h.alloc (Nat.le_refl _) _)).mono ?_; rintro e w' ⟨rfl, rfl⟩; rw [Hr.out])
    refine withWorld fun X hX => ?_
    have hB : Below w.heap.size w X := by rw [hX]; (repeat (first | (with_reducible exact (Below.refl _ _)) | (with_reducible refine bel_alloc ?_ _) | (with_reducible refine Below.drew ?_) | (with_reducible refine bel_drewN ?_ _) | (with_reducible refine Below.setCell ?_ (by simp) _)))
    have hx : Bx X w.heap.size (.int .i64 n) (.slice a x.length cap) 24 := by rw [hX]; (repeat (first | (with_reducible refine Bx.newAt _ _ _ _ ?_; simp; done) | (with_reducible refine Bx.alloc ?_ _) | (with_reducible refine Bx.drew ?_) | (with_reducible refine Bx.drewN ?_ _)))
    clear hX
    refine (specL05Differences _ _ x _ hR (Ints.ofBelow h hB)).mono ?_
    rintro e w1 ⟨a1, c1, rfl, o1, b1⟩
    have hx1 := hx.below b1 hx.lt
    have q0 := hx1.c0
    have HB1 := Lib.hid (bel_step hB b1 hB.size)
    clear b1 hB hx
    generalize hD : difOut n x x.length = D at o1 ⊢
    have hdl : D.length = n.toNat := by rw [← hD, difOut_len]
    have HD := Lib.hid hD
    rcases o1.ints.open with ⟨rfl, a2, cap2, hv⟩ | ⟨b, o, cap2, hv, hm, hpos, hBb, hlt0, hcell⟩
    · simp at hdl; omega
    cases hv
    have HF : Hid (valIsFlat n x = flatB D) := by unfold Hid; rw [Hf.out, HD.out]
    clear o1 hx1 hD hBb Hf HD
    go_wp2
    go_loopw [4] (fun i wr => ∃ k : Nat, 2 ≤ k ∧ i = .int .i64 k ∧ flatTo D k ∧ ∃ q, wr = w1.drewN q) (fun i _ => D.length - (intOf i).toNat)
    case atStart => exact ⟨2, by omega, rfl, flatTo.two D, 0, rfl⟩
    case round =>
      obtain ⟨k, hk, rfl, hfl, q, rfl⟩ := hrel
      have HL := Lib.hid hfl
      clear hfl
      by_cases hlt : (k : Int) < n
      · have hkl : k < D.length := by omega
        have h1l : 1 < D.length := by omega
        have hkl' : (k : Int) < (D.length : Int) := by omega
        have h1l' : (1 : Int) < (D.length : Int) := by omega
        have c0 := hcell k hkl
        have c1 := hcell 1 h1l
        rw [getD_get hkl] at c0
        rw [getD_get h1l] at c1
        by_cases he : D[k] = D[1]
        · have hb1 : (D[k] != D[1]) = false := by simpa using he
          have Hn := Lib.hid (HL.out.succ (by rw [getD_get hkl, getD_get h1l]; exact he))
          clear he
          go_wp2
          go_quiet (fail)
          go_wp2
          go_roundw
          case rel => exact ⟨k + 1, by omega, by go_num, Hn.out, _, rfl⟩
          case measure => simp [intOf]; omega
        · have hb1 : (D[k] != D[1]) = true := by simpa using he
          have Hno := Lib.hid (flatB_no hk hkl (by rw [getD_get hkl, getD_get h1l]; exact he))
          clear he
          go_wp2
          go_quiet (fail)
          go_wp2
          go_ret
          exact ⟨ret_bool (by rw [HF.out, Hno.out]), bel_drewN (bel_drewN HB1.out _) _⟩
      · have Hyes := Lib.hid (flatB_yes HL.out (by omega))
        go_wp2
        go_ret
        exact ⟨ret_bool (by rw [HF.out, Hyes.out]), bel_drewN HB1.out _⟩

set_option maxHeartbeats 800000 in
theorem implIsDeepC (n : Int) (v : Value) (x : List Int) (c : I64 n) (w : World) (h : Ints w w.heap.size v x) :
    Calls Try.prog 34 #[.agg #[.int .i64 n, v]] w fun e w' => e = .returned (.bool (valIsDeep n x)) ∧ Below w.heap.size w w' := by
  have h' := h
  obtain ⟨a, cap, rfl, -⟩ := h'
  cases hr : rok n x with
  | false =>
    have Hr := Lib.hid hr
    have Hf := Lib.hid (isDeep_no hr)
    clear hr
    go_enter Try.func34, Try.ntmps34
    go_wp2_with (go_at_call 51; refine (implRhythmOk _ _ x _ _ c.1 c.2 (h.alloc (Nat.le_refl _) _)).mono ?_; rintro e w' ⟨rfl, rfl⟩; rw [Hr.out])
    go_ret
    exact ⟨ret_bool Hf.out.symm, by (repeat (first | (with_reducible exact (Below.refl _ _)) | (with_reducible refine bel_alloc ?_ _) | (with_reducible refine Below.drew ?_) | (with_reducible refine bel_drewN ?_ _) | (with_reducible refine Below.setCell ?_ (by simp) _)))⟩
  | true =>
    have Hr := Lib.hid hr
    have Hf := Lib.hid (isDeep_yes hr)
    have hR := (rok_iff n x).1 hr
    have hlo := hR.lo
    have hhi := hR.hi
    have hlen := hR.len24
    clear hr
    go_enter Try.func34, Try.ntmps34
    go_wp2_with (go_at_call 51; refine (implRhythmOk _ _ x _ _ c.1 c.2 (h.alloc (Nat.le_refl _) _)).mono ?_; rintro e w' ⟨rfl, rfl⟩; rw [Hr.out])
    refine withWorld fun X hX => ?_
    have hB : Below w.heap.size w X := by rw [hX]; (repeat (first | (with_reducible exact (Below.refl _ _)) | (with_reducible refine bel_alloc ?_ _) | (with_reducible refine Below.drew ?_) | (with_reducible refine bel_drewN ?_ _) | (with_reducible refine Below.setCell ?_ (by simp) _)))
    clear hX
    refine (implVector _ _ x _ hR (Ints.ofBelow h hB)).mono ?_
    rintro e w1 ⟨a1, c1, rfl, o1, b1⟩
    have HB1 := Lib.hid (bel_step hB b1 hB.size)
    have hz1 := HB1.out.size
    clear b1 hB
    have hvl : (vecOut n x x.length).length ≤ 24 := (by rw [vecOut_len]; omega)
    generalize hD : vecOut n x x.length = D at o1 hvl ⊢
    have HF : Hid (valIsDeep n x = deepB D) := by unfold Hid; rw [Hf.out, hD]
    clear hD Hf
    rcases o1.ints.open with ⟨rfl, a2, cap2, hv⟩ | ⟨b, o, cap2, hv, hm, hpos, hBb, hlt0, hcell⟩
    · cases hv
      clear o1
      go_wp2
      refine wp_loop_rounds 1 ?_; rw [rounds_succ]
      go_wp2_with fail
      refine (implCollected _ [] _ (by simp) (Own.nil _ 0).ints).mono ?_
      rintro e w2 ⟨a2, c2, rfl, o2, b2⟩
      have HB2 := Lib.hid (bel_step HB1.out b2 hz1)
      clear o2 b2
      rw [srt_nil]
      go_wp2
      go_ret
      exact ⟨ret_bool (by rw [HF.out]; unfold deepB posTo; simp [srt_nil]), HB2.out⟩
    cases hv
    clear o1 hBb
    go_wp2
    go_loopw [3, 12] (fun u i wr => ∃ k : Nat, k ≤ D.length ∧ i = .int .i64 k ∧ (∃ a' m' c', u = .slice a' m' c' ∧ (posTo D k).length = m' ∧ Own wr w1.heap.size (.slice a' m' c') (posTo D k)) ∧ Below w1.heap.size w1 wr) (fun _ i _ => D.length - (intOf i).toNat)
    case atStart => exact ⟨0, Nat.zero_le _, rfl, ⟨none, 0, 0, rfl, rfl, Own.nil _ _⟩, Below.refl _ _⟩
    case round =>
      obtain ⟨k, hk, rfl, ⟨a', m', c', rfl, hm', hown⟩, hbel⟩ := hrel
      have hpl := posTo_len D k
      have HM := Lib.hid hm'
      have hm2 : m' ≤ 1048576 := by omega
      have HO := Lib.hid hown
      have HB := Lib.hid hbel
      have hsz := hbel.size
      by_cases hlt : k < D.length
      · have hc1 : wr.cell? ⟨b, o + k, none⟩ = some (.int .i64 D[k]) := by
          have := ((bcell hbel).1 _ _ hlt0).trans (hcell k hlt)
          rwa [getD_get hlt] at this
        by_cases hx : 0 < D[k]
        · have Hn := Lib.hid (posTo_yes hlt hx)
          have hxb : decide (0 < D[k]) = true := by simpa using hx
          clear hown hbel hm'
          go_wp2_with (at_builtin; refine wpAppInt rfl _ _ rfl w1.heap.size a' m' c' (posTo D k) _ rfl rfl HO.out HM.out (by omega) (by omega) ?_; intro a4 c4 w4 ho4 hb4)
          have HO4 : Hid (Own w4 w1.heap.size (.slice a4 (m' + 1) c4) (posTo D (k + 1))) := by unfold Hid; rw [Hn.out]; exact ho4
          have HM4 : Hid ((posTo D (k + 1)).length = m' + 1) := by unfold Hid; rw [Hn.out, List.length_append, HM.out]; rfl
          have HB4 := Lib.hid (HB.out.trans hb4)
          clear ho4 hb4
          go_roundw
          case rel => exact ⟨k + 1, by omega, by go_num, ⟨a4, m' + 1, c4, rfl, HM4.out, HO4.out⟩, HB4.out⟩
          case measure => simp [intOf]; omega
        · have Hn := Lib.hid (posTo_no hlt hx)
          have hxb : decide (0 < D[k]) = false := by simpa using hx
          clear hown hbel hm'
          go_wp2
          go_roundw
          case rel => exact ⟨k + 1, by omega, by go_num, ⟨a', m', c', rfl, by rw [Hn.out]; exact HM.out, by rw [Hn.out]; exact HO.out⟩, HB.out⟩
          case measure => simp [intOf]; omega
      · have e : k = D.length := by omega
        subst e
        have HI := Lib.hid hown.ints
        have hm3 : m' = (posTo D D.length).length := hm'.symm
        subst hm3
        clear hown hbel hm'
        go_wp2_with fail
        refine (implCollected _ (posTo D D.length) _ (by omega) HI.out).mono ?_
        rintro e w2 ⟨a2, c2, rfl, o2, b2⟩
        have HB2 := Lib.hid (HB1.out.trans ((HB.out.mono hz1).trans (b2.mono (by omega))))
        clear o2 b2
        go_wp2
        go_ret
        exact ⟨ret_bool (by rw [HF.out]; unfold deepB; rw [Bool.eq_iff_iff]; simp; omega), HB2.out⟩

set_option maxHeartbeats 800000 in
theorem specIsDeepC (n : Int) (v : Value) (x : List Int) (c : I64 n) (w : World) (h : Ints w w.heap.size v x) :
    Calls Try.prog 33 #[.agg #[.int .i64 n, v]] w fun e w' => e = .returned (.bool (valIsDeep n x)) ∧ Below w.heap.size w w' := by
  have h' := h
  obtain ⟨a, cap, rfl, -⟩ := h'
  cases hr : rok n x with
  | false =>
    have Hr := Lib.hid hr
    have Hf := Lib.hid (isDeep_no hr)
    clear hr
    go_enter Try.func33, Try.ntmps33
    go_wp2_with (go_at_call 53; refine (specRhythmOk _ _ x _ _ c.1 c.2 (h.alloc (Nat.le_refl _) _)).mono ?_; rintro e w' ⟨rfl, rfl⟩; rw [Hr.out])
    go_ret
    exact ⟨ret_bool Hf.out.symm, by (repeat (first | (with_reducible exact (Below.refl _ _)) | (with_reducible refine bel_alloc ?_ _) | (with_reducible refine Below.drew ?_) | (with_reducible refine bel_drewN ?_ _) | (with_reducible refine Below.setCell ?_ (by simp) _)))⟩
  | true =>
    have Hr := Lib.hid hr
    have Hf := Lib.hid (isDeep_yes hr)
    have hR := (rok_iff n x).1 hr
    have hlo := hR.lo
    have hhi := hR.hi
    have hlen := hR.len24
    clear hr
    go_enter Try.func33, Try.ntmps33
    go_wp2_with (go_at_call 53; refine (specRhythmOk _ _ x _ _ c.1 c.2 (h.alloc (Nat.le_refl _) _)).mono ?_; rintro e w' ⟨rfl, rfl⟩; rw [Hr.out])
    refine withWorld fun X hX => ?_
    have hB : Below w.heap.size w X := by rw [hX]; (repeat (first | (with_reducible exact (Below.refl _ _)) | (with_reducible refine bel_alloc ?_ _) | (with_reducible refine Below.drew ?_) | (with_reducible refine bel_drewN ?_ _) | (with_reducible refine Below.setCell ?_ (by simp) _)))
    have hO0 : Own X (w.heap.size + 2) (.slice (some ⟨w.heap.size + 2, 0, none⟩) 0 0) [] := by
      rw [hX]
      have := Own.lit ((w.alloc (.cells #[.int .i64 n, .slice a x.length cap] 24)).alloc (.cells #[.int .i64 n, .slice a x.length cap] 24)) (B := w.heap.size + 2) (by (first | omega | (simp; done) | (simp; omega)))
      simpa using this
    have hzX : w.heap.size + 2 < X.heap.size := by rw [hX]; simp
    clear hX
    refine (specL05Vector _ _ x _ hR (Ints.ofBelow h hB)).mono ?_
    rintro e w1 ⟨a1, c1, rfl, o1, b1⟩
    rw [← vec_same hR] at o1 ⊢
    have HO0 := Lib.hid (hO0.below b1)
    have HB1 := Lib.hid (bel_step hB b1 hB.size)
    have hz1 := HB1.out.size
    have hz2 : w.heap.size + 2 < w1.heap.size := Nat.lt_of_lt_of_le hzX b1.size
    have hOb := o1.lt
    have hXs : X.heap.size ≤ w1.heap.size := b1.size
    clear b1 hB hO0
    have hvl : (vecOut n x x.length).length ≤ 24 := (by rw [vecOut_len]; omega)
    generalize hD : vecOut n x x.length = D at o1 hvl hOb ⊢
    have HF : Hid (valIsDeep n x = deepB D) := by unfold Hid; rw [Hf.out, hD]
    clear hD Hf
    rcases o1.open with ⟨rfl, hv⟩ | ⟨g, cap2, hv, hgB, hgl, hm⟩
    · cases hv
      clear o1
      go_wp2
      refine wp_loop_rounds 1 ?_; rw [rounds_succ]
      go_wp2
      go_ret
      exact ⟨ret_bool (by rw [HF.out]; unfold deepB posTo; simp [srt_nil]), HB1.out⟩
    cases hv
    have HV := Lib.hid o1
    clear o1 hOb
    go_wp2
    have hg0 : w.heap.size + 2 ≠ g := by omega
    go_loopw [3, 13] (fun u i wr => ∃ k : Nat, k ≤ D.length ∧ i = .int .i64 k ∧ DeepTo D k ∧ (∃ a' c', u = .slice a' k c' ∧ Own wr (w.heap.size + 2) (.slice a' k c') (D.take k) ∧ ∀ j, (Value.slice a' k c').ownBlock = some j → j ≠ g) ∧ Own wr X.heap.size (.slice (some ⟨g, 0, none⟩) D.length c1) D ∧ Below w.heap.size w wr) (fun _ i _ => D.length - (intOf i).toNat)
    case atStart => exact ⟨0, Nat.zero_le _, rfl, DeepTo.zero D, ⟨_, 0, rfl, HO0.out, fun j hj => by cases hj; exact hg0⟩, HV.out, HB1.out⟩
    case round =>
      obtain ⟨k, hk, rfl, hdeep, ⟨a', c', rfl, hown, hne⟩, hv, hbel⟩ := hrel
      clear HV HO0
      have HV := Lib.hid hv
      have HO := Lib.hid hown
      have HG := Lib.hid hne
      have HB := Lib.hid hbel
      have HD := Lib.hid hdeep
      have hgw : g < wr.heap.size := (hv.lt g rfl).2
      have HM := Lib.hid (show (D.take k).length = k by simp; omega)
      by_cases hlt : k < D.length
      · have hc1 := hv.cell (k := k) hlt
        rw [getD_get hlt] at hc1
        have Htk : Hid (D.take (k + 1) = D.take k ++ [D[k]]) := List.take_succ_eq_append_getElem hlt
        by_cases hx : 0 < D[k]
        · have hxb : decide (0 < D[k]) = true := by simpa using hx
          cases hh : hasL (D.take k) D[k] with
          | true =>
            have Hh := Lib.hid hh
            have Hno := Lib.hid (deepB_no hlt hx hh)
            clear hdeep hown hne hv hbel hh
            go_wp2_with (go_at_call 59; refine (specL02Has _ (D.take k) _ _ _ HO.out.ints).mono ?_; rintro e w' ⟨rfl, rfl⟩; rw [Hh.out])
            go_ret
            exact ⟨ret_bool (by rw [HF.out, Hno.out]), HB.out⟩
          | false =>
            have Hh := Lib.hid hh
            have Hn := Lib.hid (HD.out.new hlt hx hh)
            clear hdeep hown hne hv hbel hh
            go_wp2_with (first | (go_at_call 59; refine (specL02Has _ (D.take k) _ _ _ HO.out.ints).mono ?_; rintro e w' ⟨rfl, rfl⟩; rw [Hh.out]) | (at_builtin; refine wpAppIntG rfl _ _ rfl (w.heap.size + 2) a' k c' (D.take k) _ rfl rfl HO.out HM.out (by omega) (by omega) ?_; intro a4 c4 w4 ho4 hb4 hf4 hn4))
            have HO4 : Hid (Own w4 (w.heap.size + 2) (.slice a4 (k + 1) c4) (D.take (k + 1))) := by unfold Hid; rw [Htk.out]; exact ho4
            have HV4 := Lib.hid (HV.out.frame (hf4 g hgw (fun e => HG.out g e rfl)))
            have HG4 : Hid (∀ j, (Value.slice a4 (k + 1) c4).ownBlock = some j → j ≠ g) := fun j hj => by
              rcases hn4 j hj with h | h
              · exact HG.out j h
              · omega
            have HB4 := Lib.hid (HB.out.trans (hb4.mono (by omega)))
            clear ho4 hb4 hf4 hn4
            go_roundw
            case rel => exact ⟨k + 1, by omega, by go_num, Hn.out, ⟨a4, c4, rfl, HO4.out, HG4.out⟩, HV4.out, HB4.out⟩
            case measure => simp [intOf]; omega
        · have hxb : decide (0 < D[k]) = false := by simpa using hx
          have Hn := Lib.hid (HD.out.no hlt hx)
          clear hdeep hown hne hv hbel
          go_wp2_with ((at_builtin; refine wpAppIntG rfl _ _ rfl (w.heap.size + 2) a' k c' (D.take k) _ rfl rfl HO.out HM.out (by omega) (by omega) ?_; intro a4 c4 w4 ho4 hb4 hf4 hn4))
          have HO4 : Hid (Own w4 (w.heap.size + 2) (.slice a4 (k + 1) c4) (D.take (k + 1))) := by unfold Hid; rw [Htk.out]; exact ho4
          have HV4 := Lib.hid (HV.out.frame (hf4 g hgw (fun e => HG.out g e rfl)))
          have HG4 : Hid (∀ j, (Value.slice a4 (k + 1) c4).ownBlock = some j → j ≠ g) := fun j hj => by
            rcases hn4 j hj with h | h
            · exact HG.out j h
            · omega
          have HB4 := Lib.hid (HB.out.trans (hb4.mono (by omega)))
          clear ho4 hb4 hf4 hn4
          go_roundw
          case rel => exact ⟨k + 1, by omega, by go_num, Hn.out, ⟨a4, c4, rfl, HO4.out, HG4.out⟩, HV4.out, HB4.out⟩
          case measure => simp [intOf]; omega
      · have e : k = D.length := by omega
        have Hyes := Lib.hid (deepB_yes HD.out e)
        clear hdeep hown hne hv hbel e
        go_wp2
        go_ret
        exact ⟨ret_bool (by rw [HF.out, Hyes.out]), HB.out⟩

set_option maxHeartbeats 1000000 in
theorem implTurnStepsC (n : Int) (v : Value) (x : List Int) (c : I64 n) (w : World) (h : Ints w w.heap.size v x) :
    Calls Try.prog 43 #[.agg #[.int .i64 n, v]] w (RetRhythm2 w (numTurnSteps n x) (lstTurnSteps n x) (okTurnSteps n x)) := by
  have h' := h
  obtain ⟨a, cap, rfl, -⟩ := h'
  have hlen := lenStepsOf n x
  go_enter Try.func43, Try.ntmps43
  go_wp2_with fail
  refine withWorld fun X hX => ?_
  have hB : Below w.heap.size w X := by rw [hX]; (repeat (first | (with_reducible exact (Below.refl _ _)) | (with_reducible refine bel_alloc ?_ _) | (with_reducible refine Below.drew ?_) | (with_reducible refine bel_drewN ?_ _) | (with_reducible refine Below.setCell ?_ (by simp) _)))
  have hx : Bx X w.heap.size (.int .i64 n) (.slice a x.length cap) 24 := by rw [hX]; (repeat (first | (with_reducible refine Bx.newAt _ _ _ _ ?_; simp; done) | (with_reducible refine Bx.alloc ?_ _) | (with_reducible refine Bx.drew ?_) | (with_reducible refine Bx.drewN ?_ _)))
  have hr : Bx X (w.heap.size + 1) (.int .i64 0) (.slice none 0 0) 24 := by rw [hX]; (repeat (first | (with_reducible refine Bx.newAt _ _ _ _ ?_; simp; done) | (with_reducible refine Bx.alloc ?_ _) | (with_reducible refine Bx.drew ?_) | (with_reducible refine Bx.drewN ?_ _)))
  clear hX
  refine (implStepsOfC _ _ x c _ (Ints.ofBelow h hB)).mono ?_
  rintro e w1 ⟨a1, c1, rfl, o1, b1⟩
  have hx1 := hx.below b1 hx.lt
  have hr1 := hr.below b1 hr.lt
  have HB1 := Lib.hid (bel_step hB b1 hB.size)
  have HX1 := Lib.hid hx1
  have HR1 := Lib.hid hr1
  have hsr := hr1.lt
  have q0 := hx1.c0
  have q1 := hx1.c1
  clear b1 hB hx hr hx1
  by_cases hz : lstStepsOf n x = []
  · obtain ⟨e1, e2, e3⟩ := turn_no hz
    have E1 := Lib.hid e1
    have E2 := Lib.hid e2
    have E3 := Lib.hid e3
    have hl0 : (lstStepsOf n x).length = 0 := by rw [hz]; rfl
    have f0 := hr1.f 0
    have f1 := hr1.f 1
    have p0 := hr1.c0
    have p1 := hr1.c1
    have hfin := (hr1.set0 (.int .i64 0)).set1 (.slice none 0 0)
    have r0 := hfin.c0
    have r1 := hfin.c1
    rw [hl0]
    clear e1 e2 e3 hz hl0 o1 hr1 hfin
    go_wp2
    refine bodyPost_ret (v := .tuple #[.agg #[.int .i64 0, .slice none 0 0], .bool false]) ?_ rfl ?_
    · simp [results, Try.results43, go_sem, r0, r1]
    · exact .zero rfl (by first | exact (HB1.out.setCell (by simp) _).setCell (by simp) _ | exact HB1.out) E1.out E2.out E3.out
  · obtain ⟨hR, hxpos⟩ := steps_rok hz
    obtain ⟨e1, e2, e3⟩ := turn_yes hz
    have E1 := Lib.hid e1
    have E2 := Lib.hid e2
    have E3 := Lib.hid e3
    have hlo := hR.lo
    have hhi := hR.hi
    have hne : (((lstStepsOf n x).length : Int) == 0) = false := by simpa using hz
    have hsl := steps_len hz
    have hspos : 0 < (lstStepsOf n x).length := by omega
    have hbt := turnAt_bd hR hxpos hspos
    have HBT := Lib.hid hbt
    have Hstep := Lib.hid (turnAt_succ n x)
    rcases h.open with ⟨rfl, -⟩ | ⟨b, o, cap2, hv, hm, -, hBb, hlt0, hcell⟩
    · simp at hxpos
    cases hv
    have hx0 : w1.cell? ⟨b, o, none⟩ = some (.int .i64 (turnAt n x 0)) := by
      have := ((bcell HB1.out).1 _ _ hlt0).trans (hcell 0 hxpos)
      rw [turnAt_zero]; exact this
    rcases o1.ints.open with ⟨h0, -⟩ | ⟨sb, so, scap, hv, -, -, -, hslt, hsc⟩
    · exact absurd h0 hz
    cases hv
    obtain ⟨M, hM⟩ : ∃ M, M = (lstStepsOf n x).length := ⟨_, rfl⟩
    clear e1 e2 e3 hz hBb hcell hbt hr1
    rw [← hM]
    have hMx : M = x.length := by omega
    have hM24 : M ≤ 24 := by omega
    have hM1 : 0 < M := by omega
    have hxp : (0 : Int) < (x.length : Int) := by omega
    have hsc' : ∀ i, i < M → w1.cell? ⟨sb, so + i, none⟩ = some (.int .i64 ((lstStepsOf n x).getD i 0)) := fun i hi => hsc i (by omega)
    have HSC := Lib.hid hsc'
    have E4 := Lib.hid hM
    clear o1 hsc hsc' hsl hne hM hMx
    have hne : (((M : Nat) : Int) == 0) = false := by simp; omega
    have hM0 : ¬ M = 0 := by omega
    go_wp2
    go_loopw [5, 6, 7] (fun s u i wr => ∃ q : Nat, q ≤ M ∧ i = .int .i64 ((q : Int) - 1) ∧ s = .int .i64 (turnAt n x (M - q)) ∧ (∃ a' c', u = .slice a' (M - q) c' ∧ Own wr w1.heap.size (.slice a' (M - q) c') (turnTo n x (M - q))) ∧ Below w1.heap.size w1 wr) (fun _ _ i _ => (intOf i + 1).toNat)
    case atStart => exact ⟨M, Nat.le_refl _, rfl, by rw [Nat.sub_self], ⟨none, 0, by rw [Nat.sub_self], by rw [Nat.sub_self]; exact Own.nil _ _⟩, Below.refl _ _⟩
    case round =>
      obtain ⟨q, hq, rfl, rfl, ⟨a', c', rfl, hown⟩, hbel⟩ := hrel
      have HO := Lib.hid hown
      have HBw := Lib.hid hbel
      have hszw := hbel.size
      cases q with
      | zero =>
        have HI := Lib.hid hown.ints
        have HBr := Lib.hid (HB1.out.trans (hbel.mono HB1.out.size))
        have hrr := HR1.out.below hbel hsr
        have hszr := hrr.lt
        have HRr := Lib.hid hrr
        have hqx := (HX1.out.below hbel HX1.out.lt).c0
        have hneg : ((((0 : Nat) : Int)) - 1) = -1 := by omega
        rw [hneg]
        rw [Nat.sub_zero] at HI ⊢
        clear hown hbel q0 q1 hx0 hrr HO
        go_wp2_with fail
        refine (implRhythmOf n _ (turnTo n x M) _ hlo hhi (by rw [turnTo_len]; omega) (fun z hz => ?_) HI.out).mono ?_
        · unfold turnTo at hz
          obtain ⟨j, hj, rfl⟩ := List.mem_map.1 hz
          rw [List.mem_range] at hj
          have := HBT.out j
          constructor <;> omega
        rintro e w2 ⟨a2, c2, rfl, o2, b2⟩
        have hx2 := HRr.out.below b2 hszr
        have p0 := hx2.c0
        have p1 := hx2.c1
        have f0 := hx2.f 0
        have f1 := hx2.f 1
        have hfin := (hx2.set0 (.int .i64 n)).set1 (.slice a2 (ofMo n (turnTo n x M)).length c2)
        have r0 := hfin.c0
        have r1 := hfin.c1
        have HO2 := Lib.hid (o2.mono (show w.heap.size + 2 ≤ wr.heap.size from hszr))
        have HB2 := Lib.hid (bel_step HBr.out b2 HBr.out.size)
        clear o2 b2 hx2 hfin
        go_wp2
        refine bodyPost_ret (v := .tuple #[.agg #[.int .i64 n, .slice a2 (ofMo n (turnTo n x M)).length c2], .bool true]) ?_ rfl ?_
        · simp [results, Try.results43, go_sem, r0, r1]
        · exact .one rfl (((HO2.out.setc (by simp) _).setc (by simp) _).mono (by omega)) rfl ((HB2.out.setCell (by simp) _).setCell (by simp) _) E1.out (by rw [E2.out, E4.out]) E3.out
      | succ q =>
        have hqi : (((q + 1 : Nat) : Int)) - 1 = (q : Int) := by omega
        have hsub : M - q = M - (q + 1) + 1 := by omega
        have hcs : wr.cell? ⟨sb, so + q, none⟩ = some (.int .i64 ((lstStepsOf n x).getD q 0)) := ((bcell hbel).1 _ _ hslt).trans (HSC.out q (by omega))
        have hst := Hstep.out (M - (q + 1))
        rw [show (lstStepsOf n x).length - 1 - (M - (q + 1)) = q by have := E4.out; omega, ← hsub] at hst
        have hb1 := HBT.out (M - (q + 1))
        have hb2 := lstStepsOf_bd _ (getD_mem (xs := lstStepsOf n x) (k := q) (by have := E4.out; omega))
        have Hst := Lib.hid hst
        have Htt := Lib.hid (turnTo_succ n x (M - (q + 1)))
        have HM := Lib.hid (turnTo_len n x (M - (q + 1)))
        have hql : (q : Int) < (M : Int) := by omega
        rw [hqi]
        generalize hS : (lstStepsOf n x).getD q 0 = S at hcs hb2 Hst
        clear hown hbel q0 q1 hx0 hS hst
        go_wp2_with (at_builtin; refine wpAppInt rfl _ _ rfl w1.heap.size a' (M - (q + 1)) c' (turnTo n x (M - (q + 1))) _ rfl rfl HO.out HM.out (by omega) (by omega) ?_; intro a4 c4 w4 ho4 hb4; have hcs4 := ((bcell hb4).1 _ _ hslt).trans hcs)
        have HO4 : Hid (Own w4 w1.heap.size (.slice a4 (M - q) c4) (turnTo n x (M - q))) := by unfold Hid; rw [hsub, Htt.out]; exact ho4
        have HB4 := Lib.hid (HBw.out.trans hb4)
        clear ho4 hb4
        go_roundw
        case rel => exact ⟨q, by omega, rfl, by rw [Hst.out], ⟨a4, c4, by rw [hsub], HO4.out⟩, HB4.out⟩
        case measure => simp [intOf]

theorem specL03Turn (v : Value) (l : List Int) (w : World) (hl : l.length ≤ 1048576) (h : Ints w w.heap.size v l) :
    Calls Try.prog 70 #[v] w (RetOwn w (revTo l l.length)) := by
  have h0 := Own.lit w (Nat.le_refl w.heap.size)
  rcases h.open with ⟨rfl, a, cap, rfl⟩ | ⟨b, o, cap, rfl, hm, hpos, hB, hlt0, hc⟩
  · go_enter Try.func70, Try.ntmps70
    go_wp2
    refine wp_loop_rounds 1 ?_; rw [rounds_succ]
    go_wp2
    go_ret
    exact .mk rfl (by simpa [revTo] using h0) (by (repeat (first | (with_reducible exact (Below.refl _ _)) | (with_reducible refine bel_alloc ?_ _) | (with_reducible refine Below.drew ?_) | (with_reducible refine bel_drewN ?_ _) | (with_reducible refine Below.setCell ?_ (by simp) _))))
  · go_enter Try.func70, Try.ntmps70
    go_wp2
    go_loopw [3, 4] (fun u i wr => ∃ q : Nat, q ≤ l.length ∧ i = .int .i64 ((q : Int) - 1) ∧ (∃ a' c', u = .slice a' (l.length - q) c' ∧ Own wr w.heap.size (.slice a' (l.length - q) c') (revTo l (l.length - q))) ∧ Below w.heap.size w wr) (fun _ i _ => (intOf i + 1).toNat)
    case atStart => exact ⟨l.length, Nat.le_refl _, rfl, ⟨some ⟨w.heap.size, 0, none⟩, 0, by rw [Nat.sub_self], by rw [Nat.sub_self]; exact h0⟩, by (repeat (first | (with_reducible exact (Below.refl _ _)) | (with_reducible refine bel_alloc ?_ _) | (with_reducible refine Below.drew ?_) | (with_reducible refine bel_drewN ?_ _) | (with_reducible refine Below.setCell ?_ (by simp) _)))⟩
    case round =>
      obtain ⟨q, hq, rfl, ⟨a', c', rfl, hown⟩, hbel⟩ := hrel
      have HO := Lib.hid hown
      have HB := Lib.hid hbel
      have hsz := hbel.size
      clear h0
      cases q with
      | zero =>
        have hneg : ((((0 : Nat) : Int)) - 1) = -1 := by omega
        rw [hneg]
        rw [Nat.sub_zero] at HO ⊢
        clear hown hbel
        go_wp2
        go_ret
        exact .mk rfl HO.out HB.out
      | succ q =>
        have hqi : (((q + 1 : Nat) : Int)) - 1 = (q : Int) := by omega
        have hsub : l.length - q = l.length - (q + 1) + 1 := by omega
        have hcs : wr.cell? ⟨b, o + q, none⟩ = some (.int .i64 (l.getD q 0)) := ((bcell hbel).1 _ _ hlt0).trans (hc q (by omega))
        have htt := revTo_succ l (l.length - (q + 1))
        rw [show l.length - 1 - (l.length - (q + 1)) = q by omega, ← hsub] at htt
        have HM := Lib.hid (revTo_len l (l.length - (q + 1)))
        have hql : (q : Int) < (l.length : Int) := by omega
        rw [hqi]
        generalize hS : l.getD q 0 = S at hcs htt
        have Htt := Lib.hid htt
        have Hsub := Lib.hid hsub
        clear hown hbel hS htt hsub
        go_wp2_with (at_builtin; refine wpAppInt rfl _ _ rfl w.heap.size a' (l.length - (q + 1)) c' (revTo l (l.length - (q + 1))) _ rfl rfl HO.out HM.out (by omega) (by omega) ?_; intro a4 c4 w4 ho4 hb4)
        have HO4 : Hid (Own w4 w.heap.size (.slice a4 (l.length - q) c4) (revTo l (l.length - q))) := by unfold Hid; rw [Htt.out, Hsub.out]; exact ho4
        have HB4 := Lib.hid (HB.out.trans hb4)
        clear ho4 hb4
        go_roundw
        case rel => exact ⟨q, by omega, rfl, ⟨a4, c4, by rw [Hsub.out], HO4.out⟩, HB4.out⟩
        case measure => simp [intOf]

set_option maxHeartbeats 1000000 in
theorem specTurnStepsC (n : Int) (v : Value) (x : List Int) (c : I64 n) (w : World) (h : Ints w w.heap.size v x) :
    Calls Try.prog 42 #[.agg #[.int .i64 n, v]] w (RetRhythm2 w (numTurnSteps n x) (lstTurnSteps n x) (okTurnSteps n x)) := by
  have h' := h
  obtain ⟨a, cap, rfl, -⟩ := h'
  have hlen := lenStepsOf n x
  go_enter Try.func42, Try.ntmps42
  go_wp2_with fail
  refine withWorld fun X hX => ?_
  have hB : Below w.heap.size w X := by rw [hX]; (repeat (first | (with_reducible exact (Below.refl _ _)) | (with_reducible refine bel_alloc ?_ _) | (with_reducible refine Below.drew ?_) | (with_reducible refine bel_drewN ?_ _) | (with_reducible refine Below.setCell ?_ (by simp) _)))
  have hx : Bx X w.heap.size (.int .i64 n) (.slice a x.length cap) 24 := by rw [hX]; (repeat (first | (with_reducible refine Bx.newAt _ _ _ _ ?_; simp; done) | (with_reducible refine Bx.alloc ?_ _) | (with_reducible refine Bx.drew ?_) | (with_reducible refine Bx.drewN ?_ _)))
  have hr : Bx X (w.heap.size + 1) (.int .i64 0) (.slice none 0 0) 24 := by rw [hX]; (repeat (first | (with_reducible refine Bx.newAt _ _ _ _ ?_; simp; done) | (with_reducible refine Bx.alloc ?_ _) | (with_reducible refine Bx.drew ?_) | (with_reducible refine Bx.drewN ?_ _)))
  clear hX
  refine (specStepsOfC _ _ x c _ (Ints.ofBelow h hB)).mono ?_
  rintro e w1 ⟨a1, c1, rfl, o1, b1⟩
  have hx1 := hx.below b1 hx.lt
  have hr1 := hr.below b1 hr.lt
  have HB1 := Lib.hid (bel_step hB b1 hB.size)
  have HX1 := Lib.hid hx1
  have HR1 := Lib.hid hr1
  have hsr := hr1.lt
  have q0 := hx1.c0
  have q1 := hx1.c1
  clear b1 hB hx hr hx1
  by_cases hz : lstStepsOf n x = []
  · obtain ⟨e1, e2, e3⟩ := turn_no hz
    have E1 := Lib.hid e1
    have E2 := Lib.hid e2
    have E3 := Lib.hid e3
    have hl0 : (lstStepsOf n x).length = 0 := by rw [hz]; rfl
    have f0 := hr1.f 0
    have f1 := hr1.f 1
    have p0 := hr1.c0
    have p1 := hr1.c1
    have hfin := (hr1.set0 (.int .i64 0)).set1 (.slice none 0 0)
    have r0 := hfin.c0
    have r1 := hfin.c1
    rw [hl0]
    clear e1 e2 e3 hz hl0 o1 hr1 hfin
    go_wp2
    refine bodyPost_ret (v := .tuple #[.agg #[.int .i64 0, .slice none 0 0], .bool false]) ?_ rfl ?_
    · simp [results, Try.results42, go_sem, r0, r1]
    · exact .zero rfl (by first | exact (HB1.out.setCell (by simp) _).setCell (by simp) _ | exact HB1.out) E1.out E2.out E3.out
  · obtain ⟨hR, hxpos⟩ := steps_rok hz
    obtain ⟨e1, e2, e3⟩ := turn_yes hz
    have E1 := Lib.hid e1
    have E2 := Lib.hid e2
    have E3 := Lib.hid e3
    have hlo := hR.lo
    have hhi := hR.hi
    have hne : (((lstStepsOf n x).length : Int) == 0) = false := by simpa using hz
    have hsl := steps_len hz
    have hspos : 0 < (lstStepsOf n x).length := by omega
    have hbt := turnAt_bd hR hxpos hspos
    have HBT := Lib.hid hbt
    have Hstep := Lib.hid (turnAt_succ n x)
    rcases h.open with ⟨rfl, -⟩ | ⟨b, o, cap2, hv, hm, -, hBb, hlt0, hcell⟩
    · simp at hxpos
    cases hv
    have hx0 : w1.cell? ⟨b, o, none⟩ = some (.int .i64 (turnAt n x 0)) := by
      have := ((bcell HB1.out).1 _ _ hlt0).trans (hcell 0 hxpos)
      rw [turnAt_zero]; exact this
    rcases o1.ints.open with ⟨h0, -⟩ | ⟨sb, so, scap, hv, -, -, -, hslt, hsc⟩
    · exact absurd h0 hz
    cases hv
    obtain ⟨M, hM⟩ : ∃ M, M = (lstStepsOf n x).length := ⟨_, rfl⟩
    clear e1 e2 e3 hz hBb hcell hbt hr1
    have hMx : M = x.length := by omega
    have hM24 : M ≤ 24 := by omega
    have hM1 : 0 < M := by omega
    have hxp : (0 : Int) < (x.length : Int) := by omega
    have HL := Lib.hid o1.ints
    have E4 := Lib.hid hM
    have hO0 := Own.lit w1 (Nat.le_refl w1.heap.size)
    have HO0 := Lib.hid hO0
    have y0 := World.block_lt_of_cell? _ _ q0
    have y2 := World.block_lt_of_cell? _ _ hx0
    clear o1 hsc hsl hM hMx hO0
    go_wp2_with fail
    refine withWorld fun X2 hX2 => ?_
    have hBX : Below w1.heap.size w1 X2 := by rw [hX2]; (repeat (first | (with_reducible exact (Below.refl _ _)) | (with_reducible refine bel_alloc ?_ _) | (with_reducible refine Below.drew ?_) | (with_reducible refine bel_drewN ?_ _) | (with_reducible refine Below.setCell ?_ (by simp) _)))
    have hO1 : Own X2 w1.heap.size (.slice (some ⟨w1.heap.size, 0, none⟩) 0 0) [] := by rw [hX2]; exact HO0.out
    have hzX : w1.heap.size < X2.heap.size := by rw [hX2]; simp
    clear hX2
    refine (specL03Turn _ (lstStepsOf n x) _ (by omega) (Ints.ofBelow HL.out hBX)).mono ?_
    rintro e w2 ⟨a2, c2, rfl, o2, b2⟩
    have hBY : Below w1.heap.size w1 w2 := hBX.trans (b2.mono (by omega))
    have HBY := Lib.hid hBY
    have HO1 := Lib.hid (hO1.below b2)
    have hX2s : X2.heap.size ≤ w2.heap.size := b2.size
    obtain ⟨g, c3, hv2, hg1, hg2, -, -, -⟩ := o2.head (by intro e; have := revTo_len (lstStepsOf n x) (lstStepsOf n x).length; rw [e] at this; simp at this; omega)
    cases hv2
    rw [revTo_len] at o2
    have hMr : (revTo (lstStepsOf n x) (lstStepsOf n x).length).length = M := by rw [revTo_len]; exact E4.out.symm
    rw [hMr]
    have HMr := Lib.hid hMr
    rw [← E4.out] at o2
    have HV := Lib.hid o2
    have Hget := Lib.hid (fun (i : Nat) (hi : i < M) => revTo_get (l := lstStepsOf n x) (j := M) hi)
    clear hBX hO1 b2 hBY hMr o2 y0 y2 q0 q1
    go_wp2
    go_loopw [5, 6, 23] (fun u s i wr => ∃ j : Nat, j ≤ M ∧ i = .int .i64 j ∧ s = .int .i64 (turnAt n x j) ∧ (∃ a' c', u = .slice a' j c' ∧ Own wr w1.heap.size (.slice a' j c') ((turnTo n x j).map fun p => mo p n) ∧ ∀ k, (Value.slice a' j c').ownBlock = some k → k ≠ g) ∧ Own wr X2.heap.size (.slice (some ⟨g, 0, none⟩) M c2) (revTo (lstStepsOf n x) M) ∧ Below w1.heap.size w1 wr) (fun _ _ i _ => M - (intOf i).toNat)
    case atStart => exact ⟨0, Nat.zero_le _, rfl, rfl, ⟨_, 0, rfl, HO1.out, fun k hk => by cases hk; show w1.heap.size ≠ g; omega⟩, HV.out, HBY.out⟩
    case round =>
      obtain ⟨j, hj, rfl, rfl, ⟨a', c', rfl, hown, hne⟩, hv, hbel⟩ := hrel
      clear HV HO1
      have HV := Lib.hid hv
      have HO := Lib.hid hown
      have HG := Lib.hid hne
      have HBw := Lib.hid hbel
      have hgw : g < wr.heap.size := (hv.lt g rfl).2
      have HM := Lib.hid (show ((turnTo n x j).map fun p => mo p n).length = j by simp [turnTo_len])
      have hszw := hbel.size
      have hxr := HX1.out.below hbel HX1.out.lt
      have q0 := hxr.c0
      by_cases hlt : j < M
      · have hc1 := hv.cell (k := j) (by rw [revTo_len]; exact hlt)
        rw [Hget.out j hlt] at hc1
        have hb1 := HBT.out j
        have hb2 := lstStepsOf_bd _ (getD_mem (xs := lstStepsOf n x) (k := (lstStepsOf n x).length - 1 - j) (by have := E4.out; omega))
        have Hst := Lib.hid (Hstep.out j)
        have Htt : Hid ((turnTo n x (j + 1)).map (fun p => mo p n) = (turnTo n x j).map (fun p => mo p n) ++ [mo (turnAt n x j) n]) := by unfold Hid; rw [turnTo_succ, List.map_append]; rfl
        have hnz : (n == 0) = false := by simp; omega
        generalize hS : (lstStepsOf n x).getD ((lstStepsOf n x).length - 1 - j) 0 = S at hc1 hb2 Hst
        have hml := mo_lt (k := turnAt n x j) hlo
        have hmg := mo_ge (k := turnAt n x j) hlo
        have hmo : turnAt n x j % n = mo (turnAt n x j) n := rfl
        have Hmo := Lib.hid hmo
        clear hown hne hv hbel hS hxr hmo
        go_wp2_with (at_builtin; refine wpAppIntG rfl _ _ rfl w1.heap.size a' j c' ((turnTo n x j).map fun p => mo p n) _ rfl rfl HO.out HM.out (by omega) (by omega) ?_; intro a4 c4 w4 ho4 hb4 hf4 hn4)
        have HO4 : Hid (Own w4 w1.heap.size (.slice a4 (j + 1) c4) ((turnTo n x (j + 1)).map fun p => mo p n)) := by unfold Hid; rw [Htt.out]; exact ho4
        have HV4 := Lib.hid (HV.out.frame (hf4 g hgw (fun e => HG.out g e rfl)))
        have HG4 : Hid (∀ k, (Value.slice a4 (j + 1) c4).ownBlock = some k → k ≠ g) := fun k hk => by
          rcases hn4 k hk with h | h
          · exact HG.out k h
          · omega
        have HB4 := Lib.hid (HBw.out.trans hb4)
        clear ho4 hb4 hf4 hn4
        go_roundw
        case rel => exact ⟨j + 1, by omega, by go_num, by rw [Hst.out], ⟨a4, c4, rfl, HO4.out, HG4.out⟩, HV4.out, HB4.out⟩
        case measure => simp [intOf]; omega
      · have e : j = M := by omega
        subst e
        have HI := Lib.hid hown.ints
        have HBr := Lib.hid (HB1.out.trans (hbel.mono HB1.out.size))
        have hrr := HR1.out.below hbel hsr
        have hszr := hrr.lt
        have HRr := Lib.hid hrr
        clear hown hne hv hbel hrr hxr HO hx0
        go_wp2_with fail
        refine (specL02Of n _ ((turnTo n x j).map fun p => mo p n) _ (by omega) (by omega) HI.out).mono ?_
        rintro e w3 ⟨a5, c5, rfl, o3, b3⟩
        have b2 := b3
        have o2 := o3
        clear b3 o3
        have hx2 := HRr.out.below b2 hszr
        have p0 := hx2.c0
        have p1 := hx2.c1
        have f0 := hx2.f 0
        have f1 := hx2.f 1
        have hfin := (hx2.set0 (.int .i64 n)).set1 (.slice a5 (ofTo ((turnTo n x j).map fun p => mo p n) n.toNat).length c5)
        have r0 := hfin.c0
        have r1 := hfin.c1
        have HO2 := Lib.hid (o2.mono (show w.heap.size + 2 ≤ wr.heap.size from hszr))
        have HB2 := Lib.hid (bel_step HBr.out b2 HBr.out.size)
        clear o2 b2 hx2 hfin
        go_wp2
        refine bodyPost_ret (v := .tuple #[.agg #[.int .i64 n, .slice a5 (ofTo ((turnTo n x j).map fun p => mo p n) n.toNat).length c5], .bool true]) ?_ rfl ?_
        · simp [results, Try.results42, go_sem, r0, r1]
        · exact .one rfl (((HO2.out.setc (by simp) _).setc (by simp) _).mono (by omega)) rfl ((HB2.out.setCell (by simp) _).setCell (by simp) _) E1.out (by rw [E2.out, ← E4.out]; rfl) E3.out
end Go.Proofs.Ytoedmdefjibaoaa
