/-
  How a slice of integers lies in memory, and small helpers for the walks; the contracts of RhythmOk in the program and in the reference.
  Conditions: the slice's cells are known; its length is below Go's longest.
-/
import Derived.Test.YtcgpmdfcdngnlaaDoorB0
import Derived.Test.YtcgpmdfcdngnlaaDoorM1
set_option linter.unusedVariables false
set_option linter.unusedSimpArgs false
namespace Go.Proofs.YtcgpmdfcdngnlaaDoor
open Go.RowKit


theorem implWithin (n lo hi : Int) (w : World) :
    Calls Tryd.prog 38 #[.int .i64 n, .int .i64 lo, .int .i64 hi] w fun e w' => e = .returned (.bool (decide (lo ≤ n) && decide (n ≤ hi))) ∧ w = w' := by
  by_cases h1 : lo ≤ n
  · go_enter Tryd.func38, Tryd.ntmps38
    go_wp2
    go_ret
    exact ⟨ret_bool (by simp [h1]), rfl⟩
  · go_enter Tryd.func38, Tryd.ntmps38
    go_wp2
    go_ret
    exact ⟨ret_bool (by simp; omega), rfl⟩

/-- What a round of RhythmOk's loop finds. -/
theorem okAt_cases {m : Int} {xs : List Int} {k : Nat} (hk : k < xs.length) :
    ((decide (0 ≤ xs[k]) && decide (xs[k] ≤ m)) = false ∧ okAt m xs k = false) ∨
    ((decide (0 ≤ xs[k]) && decide (xs[k] ≤ m)) = true ∧ k = 0 ∧ okAt m xs k = true) ∨
    ((decide (0 ≤ xs[k]) && decide (xs[k] ≤ m)) = true ∧ 0 < k ∧ xs[k] ≤ xs[k - 1]?.getD 0 ∧ okAt m xs k = false) ∨
    ((decide (0 ≤ xs[k]) && decide (xs[k] ≤ m)) = true ∧ 0 < k ∧ xs[k - 1]?.getD 0 < xs[k] ∧ okAt m xs k = true) := by
  have e : xs.getD k 0 = xs[k] := by simp [List.getD_eq_getElem?_getD, List.getElem?_eq_getElem hk]
  unfold okAt
  rw [e, List.getD_eq_getElem?_getD]
  cases hb : (decide (0 ≤ xs[k]) && decide (xs[k] ≤ m)) with
  | false => exact .inl ⟨rfl, by simp⟩
  | true =>
    right
    by_cases h0 : k = 0
    · exact .inl ⟨rfl, h0, by simp [h0]⟩
    · right
      by_cases h1 : xs[k - 1]?.getD 0 < xs[k]
      · exact .inr ⟨rfl, by omega, h1, by simp only [h0, h1]; rfl⟩
      · exact .inl ⟨rfl, by omega, by omega, by simp only [h0, h1]; rfl⟩

theorem rok_bad {n : Int} {xs : List Int} {k : Nat} (hk : k < xs.length) (hn : -9223372036854775808 ≤ n) (hn' : n ≤ 9223372036854775807) (h : okAt (wrap64 (n - 1)) xs k = false) : rok n xs = false := by
  by_cases h1 : 1 ≤ n ∧ n ≤ 24
  · rw [rok_small xs h1.1 h1.2]
    rw [IntWalk.wrap64_in (n - 1) ⟨by omega, by omega⟩] at h
    exact okList_bad hk h
  · exact rok_big xs h1
theorem rok_end {n : Int} {xs : List Int} {k : Nat} (hk : xs.length ≤ k) (h : OkTo (wrap64 (n - 1)) xs k) : rok n xs = (decide (1 ≤ n) && decide (n ≤ 24)) := by
  by_cases h1 : 1 ≤ n ∧ n ≤ 24
  · rw [rok_small xs h1.1 h1.2]
    rw [IntWalk.wrap64_in (n - 1) ⟨by omega, by omega⟩] at h
    rw [okList_of h hk]; simp [h1.1, h1.2]
  · rw [rok_big xs h1]
    by_cases h2 : 1 ≤ n
    · have h3 : ¬ n ≤ 24 := fun h3 => h1 ⟨h2, h3⟩
      simp [h3]
    · simp [h2]

theorem implRhythmOk (n : Int) (v : Value) (xs : List Int) (w : World) (B : Nat) (hn0 : -9223372036854775808 ≤ n) (hn1 : n ≤ 9223372036854775807) (hv : Ints w B v xs) :
    Calls Tryd.prog 75 #[.agg #[.int .i64 n, v]] w fun e w' => e = .returned (.bool (rok n xs)) ∧ w.alloc (.cells #[.int .i64 n, v] 31) = w' := by
  rcases hv.open with ⟨rfl, a, cap, rfl⟩ | ⟨b, o, cap, rfl, hm, h0, hB, hb, hc⟩
  · have Hf := Lib.hid (rok_end (n := n) (Nat.le_refl _) (OkTo.zero (wrap64 (n - 1)) []))
    clear hv
    go_enter Tryd.func75, Tryd.ntmps75
    go_wp2
    refine wp_loop_rounds 1 ?_; rw [rounds_succ]
    go_wp2_with (go_at_call 38; refine (implWithin _ _ _ _).mono ?_; rintro e w' ⟨rfl, rfl⟩)
    go_ret
    exact ⟨ret_bool Hf.out.symm, rfl⟩
  · clear hv hB h0
    go_enter Tryd.func75, Tryd.ntmps75
    go_wp2
    go_loop [3, 4, 8] (fun _ _ i => ∃ k : Nat, k ≤ xs.length ∧ i = .int .i64 k ∧ OkTo (wrap64 (n - 1)) xs k) (fun _ _ i => xs.length - (intOf i).toNat)
    case atStart => exact ⟨0, Nat.zero_le _, rfl, OkTo.zero _ _⟩
    case round =>
      obtain ⟨k, hk, rfl, hall⟩ := hrel
      by_cases hlt : k < xs.length
      · have hc1 := hc k hlt
        rcases okAt_cases (m := wrap64 (n - 1)) hlt with ⟨h1, h2⟩ | ⟨h1, rfl, h2⟩ | ⟨h1, h0, h3, h2⟩ | ⟨h1, h0, h3, h2⟩
        · have H1 := Lib.hid h1
          have H2 := Lib.hid (rok_bad hlt hn0 hn1 h2)
          clear h1 h2 hall
          go_wp2_with (go_at_call 38; refine (implWithin _ _ _ _).mono ?_; rintro e w' ⟨rfl, rfl⟩; rw [H1.out])
          go_ret
          exact ⟨ret_bool H2.out.symm, rfl⟩
        · have H1 := Lib.hid h1
          have Hn := hall.succ h2
          rw [Nat.add_zero] at hc1
          clear h1 h2 hall
          go_wp2_with (go_at_call 38; refine (implWithin _ _ _ _).mono ?_; rintro e w' ⟨rfl, rfl⟩; rw [H1.out])
          go_round
          case rel => exact ⟨1, by omega, by go_num, Hn⟩
          case measure => simp [intOf]; omega
        · have H1 := Lib.hid h1
          have hc2 := hc (k - 1) (by omega)
          have H2 := Lib.hid (rok_bad hlt hn0 hn1 h2)
          clear h1 h2 hall
          go_wp2_with (go_at_call 38; refine (implWithin _ _ _ _).mono ?_; rintro e w' ⟨rfl, rfl⟩; rw [H1.out])
          go_ret
          exact ⟨ret_bool H2.out.symm, rfl⟩
        · have H1 := Lib.hid h1
          have hc2 := hc (k - 1) (by omega)
          have Hn := hall.succ h2
          clear h1 h2 hall
          go_wp2_with (go_at_call 38; refine (implWithin _ _ _ _).mono ?_; rintro e w' ⟨rfl, rfl⟩; rw [H1.out])
          go_round
          case rel => exact ⟨k + 1, by omega, by go_num, Hn⟩
          case measure => simp [intOf]; omega
      · have Hf := Lib.hid (rok_end (n := n) (by omega) hall)
        clear hall
        go_wp2_with (go_at_call 38; refine (implWithin _ _ _ _).mono ?_; rintro e w' ⟨rfl, rfl⟩)
        go_ret
        exact ⟨ret_bool Hf.out.symm, rfl⟩
theorem specL01In (n lo hi : Int) (w : World) :
    Calls Tryd.prog 85 #[.int .i64 n, .int .i64 lo, .int .i64 hi] w fun e w' => e = .returned (.bool (decide (lo ≤ n) && decide (n ≤ hi))) ∧ w = w' := by
  by_cases h1 : lo ≤ n
  · go_enter Tryd.func85, Tryd.ntmps85
    go_wp2
    go_ret
    exact ⟨ret_bool (by simp [h1]), rfl⟩
  · go_enter Tryd.func85, Tryd.ntmps85
    go_wp2
    go_ret
    exact ⟨ret_bool (by simp; omega), rfl⟩

theorem specRhythmOk (n : Int) (v : Value) (xs : List Int) (w : World) (B : Nat) (hn0 : -9223372036854775808 ≤ n) (hn1 : n ≤ 9223372036854775807) (hv : Ints w B v xs) :
    Calls Tryd.prog 62 #[.agg #[.int .i64 n, v]] w fun e w' => e = .returned (.bool (rok n xs)) ∧ w.alloc (.cells #[.int .i64 n, v] 31) = w' := by
  cases hr : (decide (1 ≤ n) && decide (n ≤ 24)) with
  | false =>
    have Hr := Lib.hid hr
    have Hf := Lib.hid (rok_big (n := n) xs (by simpa using hr))
    clear hr
    rcases hv.open with ⟨rfl, a, cap, rfl⟩ | ⟨b, o, cap, rfl, hm, h0, hB, hb, hc⟩ <;>
    · clear hv
      go_enter Tryd.func62, Tryd.ntmps62
      go_wp2_with (go_at_call 85; refine (specL01In _ _ _ _).mono ?_; rintro e w' ⟨rfl, rfl⟩; rw [Hr.out])
      go_ret
      exact ⟨ret_bool Hf.out.symm, rfl⟩
  | true =>
    have Hr := Lib.hid hr
    have hr1 : 1 ≤ n ∧ n ≤ 24 := by simpa using hr
    obtain ⟨hr1, hr2⟩ := hr1
    have Hs := Lib.hid (rok_small xs hr1 hr2)
    clear hr
    rcases hv.open with ⟨rfl, a, cap, rfl⟩ | ⟨b, o, cap, rfl, hm, h0, hB, hb, hc⟩
    · clear hv
      go_enter Tryd.func62, Tryd.ntmps62
      go_wp2_with (go_at_call 85; refine (specL01In _ _ _ _).mono ?_; rintro e w' ⟨rfl, rfl⟩; rw [Hr.out])
      refine wp_loop_rounds 1 ?_; rw [rounds_succ]
      go_wp2
      go_ret
      exact ⟨ret_bool (by rw [Hs.out]; rfl), rfl⟩
    · clear hv hB h0
      go_enter Tryd.func62, Tryd.ntmps62
      go_wp2_with (go_at_call 85; refine (specL01In _ _ _ _).mono ?_; rintro e w' ⟨rfl, rfl⟩; rw [Hr.out])
      go_loop [3, 4, 12] (fun _ _ i => ∃ k : Nat, k ≤ xs.length ∧ i = .int .i64 k ∧ OkTo (n - 1) xs k) (fun _ _ i => xs.length - (intOf i).toNat)
      case atStart => exact ⟨0, Nat.zero_le _, rfl, OkTo.zero _ _⟩
      case round =>
        obtain ⟨k, hk, rfl, hall⟩ := hrel
        by_cases hlt : k < xs.length
        · have hc1 := hc k hlt
          rcases okAt_cases (m := n - 1) hlt with ⟨h1, h2⟩ | ⟨h1, rfl, h2⟩ | ⟨h1, h0, h3, h2⟩ | ⟨h1, h0, h3, h2⟩
          · have H1 := Lib.hid h1
            have H2 := Lib.hid (okList_bad hlt h2)
            clear h1 h2 hall
            go_wp2_with (go_at_call 85; refine (specL01In _ _ _ _).mono ?_; rintro e w' ⟨rfl, rfl⟩; rw [H1.out])
            go_ret
            exact ⟨ret_bool (Hs.out.trans H2.out).symm, rfl⟩
          · have H1 := Lib.hid h1
            have Hn := hall.succ h2
            rw [Nat.add_zero] at hc1
            clear h1 h2 hall
            go_wp2_with (go_at_call 85; refine (specL01In _ _ _ _).mono ?_; rintro e w' ⟨rfl, rfl⟩; rw [H1.out])
            go_round
            case rel => exact ⟨1, by omega, by go_num, Hn⟩
            case measure => simp [intOf]; omega
          · have H1 := Lib.hid h1
            have hc2 := hc (k - 1) (by omega)
            have H2 := Lib.hid (okList_bad hlt h2)
            clear h1 h2 hall
            go_wp2_with (go_at_call 85; refine (specL01In _ _ _ _).mono ?_; rintro e w' ⟨rfl, rfl⟩; rw [H1.out])
            go_ret
            exact ⟨ret_bool (Hs.out.trans H2.out).symm, rfl⟩
          · have H1 := Lib.hid h1
            have hc2 := hc (k - 1) (by omega)
            have Hn := hall.succ h2
            clear h1 h2 hall
            go_wp2_with (go_at_call 85; refine (specL01In _ _ _ _).mono ?_; rintro e w' ⟨rfl, rfl⟩; rw [H1.out])
            go_round
            case rel => exact ⟨k + 1, by omega, by go_num, Hn⟩
            case measure => simp [intOf]; omega
        · have Hf := Lib.hid (okList_of hall (by omega))
          clear hall
          go_wp2
          go_ret
          exact ⟨ret_bool (Hs.out.trans Hf.out).symm, rfl⟩

theorem implRhythmOkC (n : Int) (v : Value) (x : List Int) (c : I64 n) (w : World) (h : Ints w w.heap.size v x) :
    Calls Tryd.prog 75 #[.agg #[.int .i64 n, v]] w fun e w' => e = .returned (.bool (rok n x)) ∧ Below w.heap.size w w' :=
  (implRhythmOk n v x w _ c.1 c.2 h).mono fun _ _ ⟨he, hw⟩ => ⟨he, hw ▸ (Below.refl _ _).alloc (Nat.le_refl _) _⟩
theorem specRhythmOkC (n : Int) (v : Value) (x : List Int) (c : I64 n) (w : World) (h : Ints w w.heap.size v x) :
    Calls Tryd.prog 62 #[.agg #[.int .i64 n, v]] w fun e w' => e = .returned (.bool (rok n x)) ∧ Below w.heap.size w w' :=
  (specRhythmOk n v x w _ c.1 c.2 h).mono fun _ _ ⟨he, hw⟩ => ⟨he, hw ▸ (Below.refl _ _).alloc (Nat.le_refl _) _⟩
end Go.Proofs.YtcgpmdfcdngnlaaDoor
