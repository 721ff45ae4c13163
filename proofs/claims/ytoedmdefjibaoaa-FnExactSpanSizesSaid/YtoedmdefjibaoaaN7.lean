/-
  Contracts of StepSizes, LongestStep, ShortestStep and SpanSizes, in the program and in the reference.
  Conditions: the rhythm's beats lie in memory.
-/
import Derived.Test.YtoedmdefjibaoaaN6
import Derived.Test.YtoedmdefjibaoaaN1
import Derived.Test.YtoedmdefjibaoaaF10
set_option linter.unusedVariables false
set_option linter.unusedSimpArgs false
namespace Go.Proofs.Ytoedmdefjibaoaa
open Go.RowKit

theorem implStepSizesC (n : Int) (v : Value) (x : List Int) (c : I64 n) (w : World) (h : Ints w w.heap.size v x) :
    Calls Try.prog 36 #[.agg #[.int .i64 n, v]] w (RetOwn w (lstStepSizes n x)) := by
  have h' := h
  obtain ⟨a, cap, rfl, -⟩ := h'
  have hlen := lenStepsOf n x
  go_enter Try.func36, Try.ntmps36
  go_wp2_with fail
  refine withWorld fun X hX => ?_
  have hB : Below w.heap.size w X := by rw [hX]; (repeat (first | (with_reducible exact (Below.refl _ _)) | (with_reducible refine bel_alloc ?_ _) | (with_reducible refine Below.drew ?_) | (with_reducible refine bel_drewN ?_ _) | (with_reducible refine Below.setCell ?_ (by simp) _)))
  clear hX
  refine (implStepsOfC _ _ x c _ (Ints.ofBelow h hB)).mono ?_
  rintro e w1 ⟨a1, c1, rfl, o1, b1⟩
  have HI := Lib.hid o1.ints
  have HB1 := Lib.hid (bel_step hB b1 hB.size)
  have hz1 := HB1.out.size
  clear o1 b1 hB
  go_wp2_with fail
  refine (implCollected _ (lstStepsOf n x) _ (by omega) HI.out).mono ?_
  rintro e w2 ⟨a2, c2, rfl, o2, b2⟩
  have HO2 := Lib.hid (o2.mono hz1)
  have HB2 := Lib.hid (bel_step HB1.out b2 hz1)
  clear o2 b2
  go_wp2
  go_ret
  exact .mk rfl HO2.out HB2.out

theorem specStepSizesC (n : Int) (v : Value) (x : List Int) (c : I64 n) (w : World) (h : Ints w w.heap.size v x) :
    Calls Try.prog 35 #[.agg #[.int .i64 n, v]] w (RetOwn w (lstStepSizes n x)) := by
  have h' := h
  obtain ⟨a, cap, rfl, -⟩ := h'
  have hlen := lenStepsOf n x
  by_cases hz : lstStepsOf n x = []
  · have Hs := Lib.hid (show lstStepSizes n x = [] by unfold lstStepSizes; rw [hz, srt_nil])
    have Hz : Hid ((lstStepsOf n x).length = 0) := by unfold Hid; rw [hz]; rfl
    clear hz
    go_enter Try.func35, Try.ntmps35
    go_wp2_with fail
    refine withWorld fun X hX => ?_
    have hB : Below w.heap.size w X := by rw [hX]; (repeat (first | (with_reducible exact (Below.refl _ _)) | (with_reducible refine bel_alloc ?_ _) | (with_reducible refine Below.drew ?_) | (with_reducible refine bel_drewN ?_ _) | (with_reducible refine Below.setCell ?_ (by simp) _)))
    clear hX
    refine (specStepsOfC _ _ x c _ (Ints.ofBelow h hB)).mono ?_
    rintro e w1 ⟨a1, c1, rfl, o1, b1⟩
    have HI := Lib.hid o1.ints
    have HB1 := Lib.hid (bel_step hB b1 hB.size)
    have hz1 := HB1.out.size
    clear o1 b1 hB
    rw [Hz.out]
    go_wp2
    go_ret
    rw [Hs.out]
    exact .mk rfl (Own.nil _ _) HB1.out
  · have hne : (((lstStepsOf n x).length : Int) == 0) = false := by simpa using hz
    clear hz
    go_enter Try.func35, Try.ntmps35
    go_wp2_with fail
    refine withWorld fun X hX => ?_
    have hB : Below w.heap.size w X := by rw [hX]; (repeat (first | (with_reducible exact (Below.refl _ _)) | (with_reducible refine bel_alloc ?_ _) | (with_reducible refine Below.drew ?_) | (with_reducible refine bel_drewN ?_ _) | (with_reducible refine Below.setCell ?_ (by simp) _)))
    clear hX
    refine (specStepsOfC _ _ x c _ (Ints.ofBelow h hB)).mono ?_
    rintro e w1 ⟨a1, c1, rfl, o1, b1⟩
    have HI := Lib.hid o1.ints
    have HB1 := Lib.hid (bel_step hB b1 hB.size)
    have hz1 := HB1.out.size
    clear o1 b1 hB
    go_wp2_with fail
    refine (specL03Sizes _ (lstStepsOf n x) _ (by omega) HI.out).mono ?_
    rintro e w2 ⟨a2, c2, rfl, o2, b2⟩
    have HO2 := Lib.hid (o2.mono hz1)
    have HB2 := Lib.hid (bel_step HB1.out b2 hz1)
    clear o2 b2
    go_wp2
    go_ret
    exact .mk rfl HO2.out HB2.out

theorem implLongestStepC (n : Int) (v : Value) (x : List Int) (c : I64 n) (w : World) (h : Ints w w.heap.size v x) :
    Calls Try.prog 30 #[.agg #[.int .i64 n, v]] w fun e w' => e = .returned (.int .i64 (valLongestStep n x)) ∧ Below w.heap.size w w' := by
  have h' := h
  obtain ⟨a, cap, rfl, -⟩ := h'
  have hlen := lenStepSizes n x
  go_enter Try.func30, Try.ntmps30
  go_wp2_with fail
  refine withWorld fun X hX => ?_
  have hB : Below w.heap.size w X := by rw [hX]; (repeat (first | (with_reducible exact (Below.refl _ _)) | (with_reducible refine bel_alloc ?_ _) | (with_reducible refine Below.drew ?_) | (with_reducible refine bel_drewN ?_ _) | (with_reducible refine Below.setCell ?_ (by simp) _)))
  clear hX
  refine (implStepSizesC _ _ x c _ (Ints.ofBelow h hB)).mono ?_
  rintro e w1 ⟨a1, c1, rfl, o1, b1⟩
  have HB1 := Lib.hid (bel_step hB b1 hB.size)
  clear b1 hB
  by_cases hz : lstStepsOf n x = []
  · obtain ⟨e1, e2⟩ := longest_nil hz
    have Hf := Lib.hid e1
    rw [e2]
    clear o1 e1 e2 hz
    go_wp2
    go_ret
    exact ⟨ret_int Hf.out.symm, HB1.out⟩
  · have hpos : 0 < (lstStepsOf n x).length := List.length_pos_iff.2 hz
    have he := (last_srt (l := lstStepsOf n x) (fun y hy => (lstStepsOf_bd y hy).1) hpos).2
    have hne0 : lstStepSizes n x ≠ [] := srt_ne hz
    obtain ⟨m, hm⟩ : ∃ m, (lstStepSizes n x).length = m + 1 := ⟨(lstStepSizes n x).length - 1, by have := List.length_pos_iff.2 hne0; omega⟩
    obtain ⟨g, c', hv, -⟩ := o1.head hne0
    rw [hm] at hv o1 ⊢
    cases hv
    have hcell := o1.cell (k := m) (by omega)
    have hval : (lstStepSizes n x).getD m 0 = valLongestStep n x := by
      unfold lstStepSizes at hm ⊢
      unfold valLongestStep
      rw [← he]; rw [hm]; rfl
    rw [hval] at hcell
    have hmi : ((m : Nat) : Int) + 1 - 1 = (m : Int) := by omega
    have hmb : m ≤ 24 := by omega
    clear o1 he hval hz hne0 hm hpos
    go_wp2
    go_ret
    exact ⟨rfl, HB1.out⟩

theorem implShortestStepC (n : Int) (v : Value) (x : List Int) (c : I64 n) (w : World) (h : Ints w w.heap.size v x) :
    Calls Try.prog 32 #[.agg #[.int .i64 n, v]] w fun e w' => e = .returned (.int .i64 (valShortestStep n x)) ∧ Below w.heap.size w w' := by
  have h' := h
  obtain ⟨a, cap, rfl, -⟩ := h'
  have hlen := lenStepSizes n x
  go_enter Try.func32, Try.ntmps32
  go_wp2_with fail
  refine withWorld fun X hX => ?_
  have hB : Below w.heap.size w X := by rw [hX]; (repeat (first | (with_reducible exact (Below.refl _ _)) | (with_reducible refine bel_alloc ?_ _) | (with_reducible refine Below.drew ?_) | (with_reducible refine bel_drewN ?_ _) | (with_reducible refine Below.setCell ?_ (by simp) _)))
  clear hX
  refine (implStepSizesC _ _ x c _ (Ints.ofBelow h hB)).mono ?_
  rintro e w1 ⟨a1, c1, rfl, o1, b1⟩
  have HB1 := Lib.hid (bel_step hB b1 hB.size)
  clear b1 hB
  by_cases hz : lstStepsOf n x = []
  · obtain ⟨e1, e2⟩ := shortest_nil hz
    have Hf := Lib.hid e1
    rw [e2]
    clear o1 e1 e2 hz
    go_wp2
    go_ret
    exact ⟨ret_int Hf.out.symm, HB1.out⟩
  · have hpos : 0 < (lstStepsOf n x).length := List.length_pos_iff.2 hz
    have he := (first_srt (l := lstStepsOf n x) hpos).2
    have hne0 : lstStepSizes n x ≠ [] := srt_ne hz
    obtain ⟨m, hm⟩ : ∃ m, (lstStepSizes n x).length = m + 1 := ⟨(lstStepSizes n x).length - 1, by have := List.length_pos_iff.2 hne0; omega⟩
    obtain ⟨g, c', hv, -⟩ := o1.head hne0
    rw [hm] at hv o1 ⊢
    cases hv
    have hcell := o1.cell (k := 0) (by omega)
    have hval : (lstStepSizes n x).getD 0 0 = valShortestStep n x := by
      unfold lstStepSizes at hm ⊢
      unfold valShortestStep
      rw [← he]
    rw [hval] at hcell
    have hmi : ((m : Nat) : Int) + 1 - 1 = (m : Int) := by omega
    have hmb : m ≤ 24 := by omega
    clear o1 he hval hz hne0 hm hpos
    go_wp2
    go_ret
    exact ⟨rfl, HB1.out⟩

theorem specLongestStepC (n : Int) (v : Value) (x : List Int) (c : I64 n) (w : World) (h : Ints w w.heap.size v x) :
    Calls Try.prog 29 #[.agg #[.int .i64 n, v]] w fun e w' => e = .returned (.int .i64 (valLongestStep n x)) ∧ Below w.heap.size w w' := by
  have h' := h
  obtain ⟨a, cap, rfl, -⟩ := h'
  have hlen := lenStepsOf n x
  go_enter Try.func29, Try.ntmps29
  go_wp2_with fail
  refine withWorld fun X hX => ?_
  have hB : Below w.heap.size w X := by rw [hX]; (repeat (first | (with_reducible exact (Below.refl _ _)) | (with_reducible refine bel_alloc ?_ _) | (with_reducible refine Below.drew ?_) | (with_reducible refine bel_drewN ?_ _) | (with_reducible refine Below.setCell ?_ (by simp) _)))
  clear hX
  refine (specStepsOfC _ _ x c _ (Ints.ofBelow h hB)).mono ?_
  rintro e w1 ⟨a1, c1, rfl, o1, b1⟩
  have HI := Lib.hid o1.ints
  have HB1 := Lib.hid (bel_step hB b1 hB.size)
  have hz1 := HB1.out.size
  clear o1 b1 hB
  rcases HI.out.open with ⟨hz, a2, cap2, hv⟩ | ⟨b, o, cap2, hv, hm, hpos, hBb, hlt0, hc⟩
  · obtain ⟨e1, e2⟩ := longest_nil hz
    have Hf := Lib.hid e1
    have hl0 : (lstStepsOf n x).length = 0 := by rw [hz]; rfl
    rw [hl0]
    clear e1 e2 hv hl0 hz
    go_wp2
    refine wp_loop_rounds 1 ?_; rw [rounds_succ]
    go_wp2
    go_ret
    exact ⟨ret_int Hf.out.symm, HB1.out⟩
  · cases hv
    go_wp2
    go_loopw [3, 9] (fun s i wr => ∃ k : Nat, k ≤ (lstStepsOf n x).length ∧ i = .int .i64 k ∧ s = .int .i64 (maxTo (lstStepsOf n x) k) ∧ wr = w1) (fun _ i _ => (lstStepsOf n x).length - (intOf i).toNat)
    case atStart => exact ⟨0, Nat.zero_le _, rfl, rfl, rfl⟩
    case round =>
      obtain ⟨k, hk, rfl, rfl, rfl⟩ := hrel
      by_cases hlt : k < (lstStepsOf n x).length
      · have hbd := maxTo_bd (l := lstStepsOf n x) (fun y hy => lstStepsOf_bd y hy) k
        have hc1 := hc k hlt
        have hxb1 := lstStepsOf_bd _ (List.getElem_mem hlt)
        rw [getD_get hlt] at hc1
        have Hs := Lib.hid (maxTo_succ hlt)
        go_wp2
        go_roundw
        case rel => exact ⟨k + 1, by omega, by go_num, by rw [Hs.out], by trivial⟩
        case measure => simp [intOf]; omega
      · have e : k = (lstStepsOf n x).length := by omega
        subst e
        go_wp2
        go_ret
        exact ⟨rfl, HB1.out⟩

theorem specShortestStepC (n : Int) (v : Value) (x : List Int) (c : I64 n) (w : World) (h : Ints w w.heap.size v x) :
    Calls Try.prog 31 #[.agg #[.int .i64 n, v]] w fun e w' => e = .returned (.int .i64 (valShortestStep n x)) ∧ Below w.heap.size w w' := by
  have h' := h
  obtain ⟨a, cap, rfl, -⟩ := h'
  have hlen := lenStepsOf n x
  go_enter Try.func31, Try.ntmps31
  go_wp2_with fail
  refine withWorld fun X hX => ?_
  have hB : Below w.heap.size w X := by rw [hX]; (repeat (first | (with_reducible exact (Below.refl _ _)) | (with_reducible refine bel_alloc ?_ _) | (with_reducible refine Below.drew ?_) | (with_reducible refine bel_drewN ?_ _) | (with_reducible refine Below.setCell ?_ (by simp) _)))
  clear hX
  refine (specStepsOfC _ _ x c _ (Ints.ofBelow h hB)).mono ?_
  rintro e w1 ⟨a1, c1, rfl, o1, b1⟩
  have HI := Lib.hid o1.ints
  have HB1 := Lib.hid (bel_step hB b1 hB.size)
  have hz1 := HB1.out.size
  clear o1 b1 hB
  rcases HI.out.open with ⟨hz, a2, cap2, hv⟩ | ⟨b, o, cap2, hv, hm, hpos, hBb, hlt0, hc⟩
  · obtain ⟨e1, e2⟩ := shortest_nil hz
    have Hf := Lib.hid e1
    have hl0 : (lstStepsOf n x).length = 0 := by rw [hz]; rfl
    rw [hl0]
    clear e1 e2 hv hl0 hz
    go_wp2
    refine wp_loop_rounds 1 ?_; rw [rounds_succ]
    go_wp2
    go_ret
    exact ⟨ret_int Hf.out.symm, HB1.out⟩
  · cases hv
    go_wp2
    go_loopw [3, 9] (fun s i wr => ∃ k : Nat, k ≤ (lstStepsOf n x).length ∧ i = .int .i64 k ∧ s = .int .i64 (minTo (lstStepsOf n x) k) ∧ wr = w1) (fun _ i _ => (lstStepsOf n x).length - (intOf i).toNat)
    case atStart => exact ⟨0, Nat.zero_le _, rfl, rfl, rfl⟩
    case round =>
      obtain ⟨k, hk, rfl, rfl, rfl⟩ := hrel
      by_cases hlt : k < (lstStepsOf n x).length
      · have hbd := minTo_bd (l := lstStepsOf n x) (fun y hy => lstStepsOf_bd y hy) k hk
        have hc1 := hc k hlt
        have hxb1 := lstStepsOf_bd _ (List.getElem_mem hlt)
        rw [getD_get hlt] at hc1
        by_cases hk0 : k = 0
        · subst hk0
          have Hs : Hid (minTo (lstStepsOf n x) (0 + 1) = (lstStepsOf n x)[0]) := by unfold Hid; simp [minTo, List.getD_eq_getElem?_getD, List.getElem?_eq_getElem hlt]
          rw [Nat.add_zero] at hc1
          go_wp2
          go_roundw
          case rel => exact ⟨1, by omega, by go_num, by rw [show (1 : Nat) = 0 + 1 from rfl, Hs.out], by trivial⟩
          case measure => simp [intOf]; omega
        · have hkb : (((k : Nat) : Int) == 0) = false := by simp; omega
          by_cases hx : (lstStepsOf n x)[k] < minTo (lstStepsOf n x) k
          · have Hs : Hid (minTo (lstStepsOf n x) (k + 1) = (lstStepsOf n x)[k]) := by
              unfold Hid; rw [minTo, getD_get hlt, if_pos (.inr hx)]
            have hxb : decide ((lstStepsOf n x)[k] < minTo (lstStepsOf n x) k) = true := by simpa using hx
            go_wp2
            go_roundw
            case rel => exact ⟨k + 1, by omega, by go_num, by rw [Hs.out], by trivial⟩
            case measure => simp [intOf]; omega
          · have Hs : Hid (minTo (lstStepsOf n x) (k + 1) = minTo (lstStepsOf n x) k) := by
              unfold Hid; rw [minTo, getD_get hlt, if_neg (by omega)]
            have hxb : decide ((lstStepsOf n x)[k] < minTo (lstStepsOf n x) k) = false := by simpa using hx
            go_wp2
            go_roundw
            case rel => exact ⟨k + 1, by omega, by go_num, by rw [Hs.out], by trivial⟩
            case measure => simp [intOf]; omega
      · have e : k = (lstStepsOf n x).length := by omega
        subst e
        go_wp2
        go_ret
        exact ⟨rfl, HB1.out⟩

set_option maxHeartbeats 800000 in
theorem implSpanSizesC (n : Int) (v : Value) (x : List Int) (c : I64 n) (k : Int) (ck : I64 k) (w : World) (h : Ints w w.heap.size v x) :
    Calls Try.prog 39 #[.agg #[.int .i64 n, v], .int .i64 k] w (RetOwn w (lstSpanSizes n x k)) := by
  have h' := h
  obtain ⟨a, cap, rfl, -⟩ := h'
  have hlen := lenStepsOf n x
  have Hbd : Hid (∀ y ∈ lstStepsOf n x, 1 ≤ y ∧ y ≤ 24) := lstStepsOf_bd
  go_enter Try.func39, Try.ntmps39
  go_wp2_with fail
  refine withWorld fun X hX => ?_
  have hB : Below w.heap.size w X := by rw [hX]; (repeat (first | (with_reducible exact (Below.refl _ _)) | (with_reducible refine bel_alloc ?_ _) | (with_reducible refine Below.drew ?_) | (with_reducible refine bel_drewN ?_ _) | (with_reducible refine Below.setCell ?_ (by simp) _)))
  clear hX
  refine (implStepsOfC _ _ x c _ (Ints.ofBelow h hB)).mono ?_
  rintro e w1 ⟨a1, c1, rfl, o1, b1⟩
  have HI := Lib.hid o1.ints
  have HB1 := Lib.hid (bel_step hB b1 hB.size)
  have hz1 := HB1.out.size
  clear o1 b1 hB
  by_cases hz : lstStepsOf n x = []
  · have Hs := Lib.hid (show lstSpanSizes n x k = [] from spanSizes_no (by unfold okSpans; rw [hz]; simp))
    have hl0 : (lstStepsOf n x).length = 0 := by rw [hz]; rfl
    rw [hl0]
    clear hz hl0
    go_wp2
    go_ret
    rw [Hs.out]
    exact .mk rfl (Own.nil _ _) HB1.out
  · have hne : (((lstStepsOf n x).length : Int) == 0) = false := by simpa using hz
    have hpos : 0 < (lstStepsOf n x).length := List.length_pos_iff.2 hz
    cases h2 : (decide (0 ≤ k) && decide (k ≤ ((lstStepsOf n x).length : Int))) with
    | false =>
      have Hs := Lib.hid (show lstSpanSizes n x k = [] from spanSizes_no (by unfold okSpans; rw [h2]; simp))
      have H2 := Lib.hid h2
      clear h2 hz
      go_wp2_with (go_at_call 64; refine (implWithin _ _ _ _).mono ?_; rintro e w' ⟨rfl, rfl⟩; rw [H2.out])
      go_ret
      rw [Hs.out]
      exact .mk rfl (Own.nil _ _) HB1.out
    | true =>
      have Hs := Lib.hid (show lstSpanSizes n x k = srt (spTo (lstStepsOf n x) k (lstStepsOf n x).length) from spanSizes_yes (by unfold okSpans; rw [h2]; simp [hz]))
      have H2 := Lib.hid h2
      have h2k : 0 ≤ k ∧ k ≤ ((lstStepsOf n x).length : Int) := by simpa using h2
      obtain ⟨k1, k2⟩ := h2k
      obtain ⟨q, rfl⟩ : ∃ q : Nat, k = (q : Int) := ⟨k.toNat, by omega⟩
      have hq : q ≤ (lstStepsOf n x).length := by omega
      clear h2 hz
      go_wp2_with (go_at_call 64; refine (implWithin _ _ _ _).mono ?_; rintro e w' ⟨rfl, rfl⟩; rw [H2.out])
      go_loopw [6, 22] (fun u i wr => ∃ j : Nat, j ≤ (lstStepsOf n x).length ∧ i = .int .i64 j ∧ (∃ a' c', u = .slice a' j c' ∧ Own wr w1.heap.size (.slice a' j c') (spTo (lstStepsOf n x) q j)) ∧ Below w1.heap.size w1 wr) (fun _ i _ => (lstStepsOf n x).length - (intOf i).toNat)
      case atStart => exact ⟨0, Nat.zero_le _, rfl, ⟨none, 0, rfl, Own.nil _ _⟩, Below.refl _ _⟩
      case round =>
        obtain ⟨j, hj, rfl, ⟨a', c', rfl, hown⟩, hbel⟩ := hrel
        have HO := Lib.hid hown
        have HB := Lib.hid hbel
        have HJ := Lib.hid (HI.out.below hbel)
        have hsz := hbel.size
        have HM := Lib.hid (spTo_len (lstStepsOf n x) q j)
        by_cases hlt : j < (lstStepsOf n x).length
        · have Hn := Lib.hid (spTo_succ (lstStepsOf n x) q j)
          have hsb := spanTo_bd (l := lstStepsOf n x) Hbd.out hpos j q
          obtain ⟨s1, s2⟩ := hsb
          clear hown hbel
          go_wp2_with (first | (go_at_call 65; refine (implSpan _ (lstStepsOf n x) j q _ _ HJ.out hlen Hbd.out hlt hq).mono ?_; rintro e w' ⟨rfl, rfl⟩) | (at_builtin; refine wpAppInt rfl _ _ rfl w1.heap.size a' j c' (spTo (lstStepsOf n x) q j) _ rfl rfl HO.out HM.out (by omega) (by omega) ?_; intro a4 c4 w4 ho4 hb4))
          have ho5 := ho4
          rw [show spTo (lstStepsOf n x) q j ++ [spanTo (lstStepsOf n x) j q] = spTo (lstStepsOf n x) q (j + 1) from by rw [Hn.out]; simp] at ho5
          have HO5 := Lib.hid ho5
          have HB5 := Lib.hid (HB.out.trans hb4)
          clear ho4 ho5 hb4
          go_roundw
          case rel => exact ⟨j + 1, by omega, by go_num, ⟨a4, c4, rfl, HO5.out⟩, HB5.out⟩
          case measure => simp [intOf]; omega
        · have e : j = (lstStepsOf n x).length := by omega
          subst e
          have HIN := Lib.hid hown.ints
          clear hown hbel
          go_wp2_with fail
          refine (implCollected _ (spTo (lstStepsOf n x) q (lstStepsOf n x).length) _ (by rw [HM.out]; omega) HIN.out).mono ?_
          rintro e w2 ⟨a2, c2, rfl, o2, b2⟩
          have HO2 := Lib.hid (o2.mono (show w.heap.size ≤ wr.heap.size by omega))
          have HB2 := Lib.hid (HB1.out.trans (((HB.out.mono hz1)).trans (b2.mono (by omega))))
          clear o2 b2
          go_wp2
          go_ret
          rw [Hs.out]
          exact .mk rfl HO2.out HB2.out

set_option maxHeartbeats 800000 in
theorem specSpanSizesC (n : Int) (v : Value) (x : List Int) (c : I64 n) (k : Int) (ck : I64 k) (w : World) (h : Ints w w.heap.size v x) :
    Calls Try.prog 38 #[.agg #[.int .i64 n, v], .int .i64 k] w (RetOwn w (lstSpanSizes n x k)) := by
  have h' := h
  obtain ⟨a, cap, rfl, -⟩ := h'
  have hlen := lenStepsOf n x
  have Hbd : Hid (∀ y ∈ lstStepsOf n x, 1 ≤ y ∧ y ≤ 24) := lstStepsOf_bd
  go_enter Try.func38, Try.ntmps38
  go_wp2_with fail
  refine withWorld fun X hX => ?_
  have hB : Below w.heap.size w X := by rw [hX]; (repeat (first | (with_reducible exact (Below.refl _ _)) | (with_reducible refine bel_alloc ?_ _) | (with_reducible refine Below.drew ?_) | (with_reducible refine bel_drewN ?_ _) | (with_reducible refine Below.setCell ?_ (by simp) _)))
  clear hX
  refine (specStepsOfC _ _ x c _ (Ints.ofBelow h hB)).mono ?_
  rintro e w1 ⟨a1, c1, rfl, o1, b1⟩
  have HI := Lib.hid o1.ints
  have HB1 := Lib.hid (bel_step hB b1 hB.size)
  have hz1 := HB1.out.size
  clear o1 b1 hB
  by_cases hz : lstStepsOf n x = []
  · have Hs := Lib.hid (show lstSpanSizes n x k = [] from spanSizes_no (by unfold okSpans; rw [hz]; simp))
    have hl0 : (lstStepsOf n x).length = 0 := by rw [hz]; rfl
    rw [hl0]
    clear hz hl0
    go_wp2
    go_ret
    rw [Hs.out]
    exact .mk rfl (Own.nil _ _) HB1.out
  · have hne : (((lstStepsOf n x).length : Int) == 0) = false := by simpa using hz
    have hpos : 0 < (lstStepsOf n x).length := List.length_pos_iff.2 hz
    cases h2 : (decide (0 ≤ k) && decide (k ≤ ((lstStepsOf n x).length : Int))) with
    | false =>
      have Hs := Lib.hid (show lstSpanSizes n x k = [] from spanSizes_no (by unfold okSpans; rw [h2]; simp))
      have H2 := Lib.hid h2
      clear h2 hz
      go_wp2_with (go_at_call 48; refine (specL01In _ _ _ _).mono ?_; rintro e w' ⟨rfl, rfl⟩; rw [H2.out])
      go_ret
      rw [Hs.out]
      exact .mk rfl (Own.nil _ _) HB1.out
    | true =>
      have Hs := Lib.hid (show lstSpanSizes n x k = srt (spTo (lstStepsOf n x) k (lstStepsOf n x).length) from spanSizes_yes (by unfold okSpans; rw [h2]; simp [hz]))
      have H2 := Lib.hid h2
      have h2k : 0 ≤ k ∧ k ≤ ((lstStepsOf n x).length : Int) := by simpa using h2
      obtain ⟨k1, k2⟩ := h2k
      obtain ⟨q, rfl⟩ : ∃ q : Nat, k = (q : Int) := ⟨k.toNat, by omega⟩
      have hq : q ≤ (lstStepsOf n x).length := by omega
      clear h2 hz
      go_wp2_with (go_at_call 48; refine (specL01In _ _ _ _).mono ?_; rintro e w' ⟨rfl, rfl⟩; rw [H2.out])
      have h0 := Own.lit w1 hz1
      go_loopw [6, 23] (fun u i wr => ∃ j : Nat, j ≤ (lstStepsOf n x).length ∧ i = .int .i64 j ∧ (∃ a' c', u = .slice a' j c' ∧ Own wr w1.heap.size (.slice a' j c') (spTo (lstStepsOf n x) q j)) ∧ Below w1.heap.size w1 wr) (fun _ i _ => (lstStepsOf n x).length - (intOf i).toNat)
      case atStart => exact ⟨0, Nat.zero_le _, rfl, ⟨_, 0, rfl, Own.lit w1 (Nat.le_refl _)⟩, (Below.refl _ _).alloc (Nat.le_refl _) _⟩
      case round =>
        obtain ⟨j, hj, rfl, ⟨a', c', rfl, hown⟩, hbel⟩ := hrel
        have HO := Lib.hid hown
        have HB := Lib.hid hbel
        have HJ := Lib.hid (HI.out.below hbel)
        have hsz := hbel.size
        have HM := Lib.hid (spTo_len (lstStepsOf n x) q j)
        by_cases hlt : j < (lstStepsOf n x).length
        · have Hn := Lib.hid (spTo_succ (lstStepsOf n x) q j)
          have hsb := spanTo_bd (l := lstStepsOf n x) Hbd.out hpos j q
          obtain ⟨s1, s2⟩ := hsb
          clear hown hbel
          go_wp2_with (first | (go_at_call 63; refine (specL03Span _ (lstStepsOf n x) j q _ _ HJ.out hlen Hbd.out hlt hq).mono ?_; rintro e w' ⟨rfl, rfl⟩) | (at_builtin; refine wpAppInt rfl _ _ rfl w1.heap.size a' j c' (spTo (lstStepsOf n x) q j) _ rfl rfl HO.out HM.out (by omega) (by omega) ?_; intro a4 c4 w4 ho4 hb4))
          have ho5 := ho4
          rw [show spTo (lstStepsOf n x) q j ++ [spanTo (lstStepsOf n x) j q] = spTo (lstStepsOf n x) q (j + 1) from by rw [Hn.out]; simp] at ho5
          have HO5 := Lib.hid ho5
          have HB5 := Lib.hid (HB.out.trans hb4)
          clear ho4 ho5 hb4
          go_roundw
          case rel => exact ⟨j + 1, by omega, by go_num, ⟨a4, c4, rfl, HO5.out⟩, HB5.out⟩
          case measure => simp [intOf]; omega
        · have e : j = (lstStepsOf n x).length := by omega
          subst e
          have HIN := Lib.hid hown.ints
          clear hown hbel
          go_wp2_with fail
          refine (specL03Sizes _ (spTo (lstStepsOf n x) q (lstStepsOf n x).length) _ (by rw [HM.out]; omega) HIN.out).mono ?_
          rintro e w2 ⟨a2, c2, rfl, o2, b2⟩
          have HO2 := Lib.hid (o2.mono (show w.heap.size ≤ wr.heap.size by omega))
          have HB2 := Lib.hid (HB1.out.trans (((HB.out.mono hz1)).trans (b2.mono (by omega))))
          clear o2 b2
          go_wp2
          go_ret
          rw [Hs.out]
          exact .mk rfl HO2.out HB2.out
end Go.Proofs.Ytoedmdefjibaoaa
