/-
  Contracts of StepsOf and RestsOf, in the program and in the reference.
  Conditions: the rhythm's beats lie in memory.
-/
import Derived.Test.YthgohmgadcfglaaF2
namespace Go.Proofs.Ythgohmgadcfglaa
open Go.RowKit

theorem implStepsOfC (n : Int) (v : Value) (x : List Int) (c : I64 n) (w : World) (h : Ints w w.heap.size v x) :
    Calls Try.prog 47 #[.agg #[.int .i64 n, v]] w (RetOwn w (lstStepsOf n x)) := by
  have h' := h
  obtain ⟨a, cap, rfl, -⟩ := h'
  have H0 := Lib.hid (Held1.new w (.int .i64 n) (.slice a x.length cap) 27)
  cases hr : rok n x with
  | false =>
    have Hr := Lib.hid hr
    rw [lstStepsOf_no hr]
    clear hr
    go_enter Try.func47, Try.ntmps47
    go_wp2_with (go_at_call 53; refine (implRhythmOk _ _ x _ _ c.1 c.2 (h.alloc (Nat.le_refl _) _)).mono ?_; rintro e w' ⟨rfl, rfl⟩; rw [Hr.out])
    go_ret
    exact .mk rfl (Own.nil _ _) (((Below.refl _ _).alloc (Nat.le_refl _) _).alloc (by simp) _)
  | true =>
    have Hr := Lib.hid hr
    have hR := (rok_iff n x).1 hr
    rw [lstStepsOf_yes hr]
    clear hr
    go_enter Try.func47, Try.ntmps47
    go_wp2_with (go_at_call 53; refine (implRhythmOk _ _ x _ _ c.1 c.2 (h.alloc (Nat.le_refl _) _)).mono ?_; rintro e w' ⟨rfl, rfl⟩; rw [Hr.out])
    refine withWorld fun X hX => ?_
    have hH : Held1 w _ _ X := hX ▸ H0.out.alloc _
    clear hX
    refine (implSteps _ _ x _ hR (Ints.ofBelow h hH.1)).mono ?_
    rintro e w1 ⟨a1, c1, rfl, o1, b1⟩
    have HO := Lib.hid (o1.mono hH.1.size)
    have HB := Lib.hid (hH.after b1).1
    clear o1 b1 hH H0 X
    go_wp2
    go_ret
    exact .mk rfl HO.out HB.out

theorem specStepsOfC (n : Int) (v : Value) (x : List Int) (c : I64 n) (w : World) (h : Ints w w.heap.size v x) :
    Calls Try.prog 46 #[.agg #[.int .i64 n, v]] w (RetOwn w (lstStepsOf n x)) := by
  have h' := h
  obtain ⟨a, cap, rfl, -⟩ := h'
  have H0 := Lib.hid (Held1.new w (.int .i64 n) (.slice a x.length cap) 27)
  cases hr : rok n x with
  | false =>
    have Hr := Lib.hid hr
    rw [lstStepsOf_no hr]
    clear hr
    go_enter Try.func46, Try.ntmps46
    go_wp2_with (go_at_call 52; refine (specRhythmOk _ _ x _ _ c.1 c.2 (h.alloc (Nat.le_refl _) _)).mono ?_; rintro e w' ⟨rfl, rfl⟩; rw [Hr.out])
    go_ret
    exact .mk rfl (Own.nil _ _) (((Below.refl _ _).alloc (Nat.le_refl _) _).alloc (by simp) _)
  | true =>
    have Hr := Lib.hid hr
    have hR := (rok_iff n x).1 hr
    rw [lstStepsOf_yes hr]
    clear hr
    by_cases h0 : x.length = 0
    · have hx : x = [] := List.eq_nil_of_length_eq_zero h0
      subst hx
      go_enter Try.func46, Try.ntmps46
      go_wp2_with (go_at_call 52; refine (specRhythmOk _ _ [] _ _ c.1 c.2 (h.alloc (Nat.le_refl _) _)).mono ?_; rintro e w' ⟨rfl, rfl⟩; rw [Hr.out])
      go_ret
      exact .mk rfl (Own.nil _ _) (((Below.refl _ _).alloc (Nat.le_refl _) _).alloc (by simp) _)
    · have hz : (((x.length : Nat) : Int) == 0) = false := by simpa using h0
      go_enter Try.func46, Try.ntmps46
      go_wp2_with (go_at_call 52; refine (specRhythmOk _ _ x _ _ c.1 c.2 (h.alloc (Nat.le_refl _) _)).mono ?_; rintro e w' ⟨rfl, rfl⟩; rw [Hr.out])
      refine withWorld fun X hX => ?_
      have hH : Held1 w _ _ X := hX ▸ H0.out.alloc _
      clear hX
      refine (specL03Steps _ _ x _ hR (Ints.ofBelow h hH.1) (by omega)).mono ?_
      rintro e w1 ⟨a1, c1, rfl, o1, b1⟩
      have HO := Lib.hid (o1.mono hH.1.size)
      have HB := Lib.hid (hH.after b1).1
      clear o1 b1 hH H0 X
      go_wp2
      go_ret
      exact .mk rfl HO.out HB.out

set_option maxHeartbeats 400000 in
theorem implRestsOfC (n : Int) (v : Value) (x : List Int) (c : I64 n) (w : World) (h : Ints w w.heap.size v x) :
    Calls Try.prog 45 #[.agg #[.int .i64 n, v]] w fun e w' => e = .returned (.int .i64 (valRestsOf n x)) ∧ Below w.heap.size w w' := by
  have h' := h
  obtain ⟨a, cap, rfl, -⟩ := h'
  have H0 := Lib.hid (Held1.new w (.int .i64 n) (.slice a x.length cap) 27)
  cases hr : rok n x with
  | false =>
    have Hr := Lib.hid hr
    have Hf := Lib.hid (valRestsOf_no hr)
    clear hr
    go_enter Try.func45, Try.ntmps45
    go_wp2_with (go_at_call 53; refine (implRhythmOk _ _ x _ _ c.1 c.2 (h.alloc (Nat.le_refl _) _)).mono ?_; rintro e w' ⟨rfl, rfl⟩; rw [Hr.out])
    go_ret
    exact ⟨ret_int Hf.out.symm, ((Below.refl _ _).alloc (Nat.le_refl _) _).alloc (by simp) _⟩
  | true =>
    have Hr := Lib.hid hr
    have hR := (rok_iff n x).1 hr
    have hlen := hR.len24
    obtain ⟨l, hl⟩ : ∃ l, l = stTo n x x.length := ⟨_, rfl⟩
    have hll : l.length ≤ 24 := by rw [hl, stTo_len]; exact hlen
    have Hf : Hid (valRestsOf n x = restTo l l.length) := by unfold Hid; rw [valRestsOf_yes hr, hl, stTo_len]
    have HL : Hid (l = stTo n x x.length) := hl
    have HS : Hid (lstStepsOf n x = l) := by unfold Hid; rw [lstStepsOf_yes hr, hl]
    clear hr hl
    go_enter Try.func45, Try.ntmps45
    go_wp2_with (go_at_call 53; refine (implRhythmOk _ _ x _ _ c.1 c.2 (h.alloc (Nat.le_refl _) _)).mono ?_; rintro e w' ⟨rfl, rfl⟩; rw [Hr.out])
    refine withWorld fun X hX => ?_
    have hH : Held1 w _ _ X := hX ▸ H0.out.alloc _
    clear hX
    refine (implSteps _ _ x _ hR (Ints.ofBelow h hH.1)).mono ?_
    rw [← HL.out]
    rintro e w1 ⟨a1, c1, rfl, o1, b1⟩
    have HB := Lib.hid (hH.after b1).1
    have hI := o1.ints.open
    clear o1 b1 hH H0 X
    rcases hI with ⟨rfl, a2, c2, he⟩ | ⟨b, o, c2, he, hm, hpos, hB, hb, hc⟩
    · go_wp2
      refine wp_loop_rounds 1 ?_; rw [rounds_succ]
      go_wp2
      go_ret
      exact ⟨ret_int (by rw [Hf.out]; rfl), HB.out⟩
    · cases he
      go_wp2
      go_loop [3, 12] (fun s i => ∃ k : Nat, k ≤ l.length ∧ i = .int .i64 k ∧ s = .int .i64 (restTo l k)) (fun _ i => l.length - (intOf i).toNat)
      case atStart => exact ⟨0, Nat.zero_le _, rfl, rfl⟩
      case round =>
        obtain ⟨k, hk, rfl, rfl⟩ := hrel
        have hbd := restTo_bd l k
        by_cases hlt : k < l.length
        · have hc1 := hc k hlt
          by_cases h1 : 1 < l.getD k 0
          · have Hn := Lib.hid (restTo_yes hlt h1)
            rw [getD_get hlt] at h1
            go_wp2
            go_round
            case rel => exact ⟨k + 1, by omega, by go_num, by rw [Hn.out]⟩
            case measure => simp [intOf]; omega
          · have Hn := Lib.hid (restTo_no hlt h1)
            rw [getD_get hlt] at h1
            go_wp2
            go_round
            case rel => exact ⟨k + 1, by omega, by go_num, by rw [Hn.out]⟩
            case measure => simp [intOf]; omega
        · have e : k = l.length := by omega
          subst e
          go_wp2
          go_ret
          exact ⟨ret_int Hf.out.symm, HB.out⟩

set_option maxHeartbeats 400000 in
theorem specRestsOfC (n : Int) (v : Value) (x : List Int) (c : I64 n) (w : World) (h : Ints w w.heap.size v x) :
    Calls Try.prog 44 #[.agg #[.int .i64 n, v]] w fun e w' => e = .returned (.int .i64 (valRestsOf n x)) ∧ Below w.heap.size w w' := by
  have h' := h
  obtain ⟨a, cap, rfl, -⟩ := h'
  have H0 := Lib.hid (Held1.new w (.int .i64 n) (.slice a x.length cap) 27)
  cases hr : rok n x with
  | false =>
    have Hr := Lib.hid hr
    have Hf := Lib.hid (valRestsOf_no hr)
    clear hr
    go_enter Try.func44, Try.ntmps44
    go_wp2_with (go_at_call 52; refine (specRhythmOk _ _ x _ _ c.1 c.2 (h.alloc (Nat.le_refl _) _)).mono ?_; rintro e w' ⟨rfl, rfl⟩; rw [Hr.out])
    go_ret
    exact ⟨ret_int Hf.out.symm, ((Below.refl _ _).alloc (Nat.le_refl _) _).alloc (by simp) _⟩
  | true =>
    have Hr := Lib.hid hr
    have hR := (rok_iff n x).1 hr
    have hlen := hR.len24
    obtain ⟨l, hl⟩ : ∃ l, l = stTo n x x.length := ⟨_, rfl⟩
    have hll : l.length ≤ 24 := by rw [hl, stTo_len]; exact hlen
    have Hf : Hid (valRestsOf n x = restTo l l.length) := by unfold Hid; rw [valRestsOf_yes hr, hl, stTo_len]
    have HL : Hid (l = stTo n x x.length) := hl
    have HS : Hid (lstStepsOf n x = l) := by unfold Hid; rw [lstStepsOf_yes hr, hl]
    clear hr hl
    go_enter Try.func44, Try.ntmps44
    go_wp2_with (go_at_call 52; refine (specRhythmOk _ _ x _ _ c.1 c.2 (h.alloc (Nat.le_refl _) _)).mono ?_; rintro e w' ⟨rfl, rfl⟩; rw [Hr.out])
    refine withWorld fun X hX => ?_
    have hH : Held1 w _ _ X := hX ▸ H0.out.alloc _
    clear hX
    refine (specStepsOfC _ _ x c _ (Ints.ofBelow h hH.1)).mono ?_
    rw [HS.out]
    rintro e w1 ⟨a1, c1, rfl, o1, b1⟩
    have HB := Lib.hid (hH.after b1).1
    have hI := o1.ints.open
    clear o1 b1 hH H0 X
    rcases hI with ⟨rfl, a2, c2, he⟩ | ⟨b, o, c2, he, hm, hpos, hB, hb, hc⟩
    · go_wp2
      refine wp_loop_rounds 1 ?_; rw [rounds_succ]
      go_wp2
      go_ret
      exact ⟨ret_int (by rw [Hf.out]; rfl), HB.out⟩
    · cases he
      go_wp2
      go_loop [3, 12] (fun s i => ∃ k : Nat, k ≤ l.length ∧ i = .int .i64 k ∧ s = .int .i64 (restTo l k)) (fun _ i => l.length - (intOf i).toNat)
      case atStart => exact ⟨0, Nat.zero_le _, rfl, rfl⟩
      case round =>
        obtain ⟨k, hk, rfl, rfl⟩ := hrel
        have hbd := restTo_bd l k
        by_cases hlt : k < l.length
        · have hc1 := hc k hlt
          by_cases h1 : 1 < l.getD k 0
          · have Hn := Lib.hid (restTo_yes hlt h1)
            rw [getD_get hlt] at h1
            go_wp2
            go_round
            case rel => exact ⟨k + 1, by omega, by go_num, by rw [Hn.out]⟩
            case measure => simp [intOf]; omega
          · have Hn := Lib.hid (restTo_no hlt h1)
            rw [getD_get hlt] at h1
            go_wp2
            go_round
            case rel => exact ⟨k + 1, by omega, by go_num, by rw [Hn.out]⟩
            case measure => simp [intOf]; omega
        · have e : k = l.length := by omega
          subst e
          go_wp2
          go_ret
          exact ⟨ret_int Hf.out.symm, HB.out⟩
end Go.Proofs.Ythgohmgadcfglaa
