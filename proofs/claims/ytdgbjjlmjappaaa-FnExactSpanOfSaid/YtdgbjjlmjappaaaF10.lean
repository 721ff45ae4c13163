/-
  Contracts of SpanOf, in the program and in the reference.
  Conditions: the rhythm's beats lie in memory.
-/
import Derived.Test.YtdgbjjlmjappaaaF3
import Derived.Test.YtdgbjjlmjappaaaB0
import Derived.Test.YtdgbjjlmjappaaaM9
set_option linter.unusedVariables false
set_option linter.unusedSimpArgs false
namespace Go.Proofs.Ytdgbjjlmjappaaa
open Go.RowKit

theorem implSpan (v : Value) (l : List Int) (i k : Nat) (w : World) (B : Nat) (hv : Ints w B v l) (h24 : l.length ≤ 24) (hb : ∀ y ∈ l, 1 ≤ y ∧ y ≤ 24) (hi : i < l.length) (hk : k ≤ l.length) :
    Calls Try.prog 30 #[v, .int .i64 i, .int .i64 k] w fun e w' => e = .returned (.int .i64 (spanTo l i k)) ∧ w = w' := by
  rcases hv.open with ⟨rfl, a, cap, rfl⟩ | ⟨b, o, cap, rfl, hm, hpos, hB, hlt, hc⟩
  · simp at hi
  · clear hv
    have hnz : ((l.length : Int) == 0) = false := beq_false_of_ne (by omega)
    have hnz2 : ¬ (l.length : Int) = 0 := by omega
    have HB := Lib.hid hb
    clear hb
    go_enter Try.func30, Try.ntmps30
    go_wp2
    go_loopw [7, 10] (fun s i' wr => ∃ j : Nat, j ≤ k ∧ i' = .int .i64 j ∧ s = .int .i64 (spanTo l i j) ∧ wr = w) (fun _ i' _ => k - (intOf i').toNat)
    case atStart => exact ⟨0, Nat.zero_le _, rfl, rfl, rfl⟩
    case round =>
      obtain ⟨j, hj, rfl, rfl, rfl⟩ := hrel
      have hbd := spanTo_bd HB.out hpos i j
      by_cases hjk : j < k
      · obtain ⟨r, hr⟩ : ∃ r : Nat, r = (i + j) % l.length := ⟨_, rfl⟩
        have hrl : r < l.length := by rw [hr]; exact Nat.mod_lt _ hpos
        have hmod : ((i : Int) + (j : Int)).tmod (l.length : Int) = (r : Int) := by
          rw [Int.tmod_eq_emod_of_nonneg (by omega), hr]; simp
        have hc1 := hc r hrl
        have hs := spanTo_succ l i j
        rw [← hr] at hs
        have hx := HB.out _ (getD_mem hrl)
        rw [getD_get hrl] at hc1 hs hx
        have Hs := Lib.hid hs
        clear hs hr
        go_wp2
        go_roundw
        case rel => exact ⟨j + 1, by omega, by go_num, by rw [Hs.out], by trivial⟩
        case measure => simp [intOf]; omega
      · have e : j = k := by omega
        subst e
        go_wp2
        go_ret
        exact ⟨rfl, rfl⟩

theorem specL03Span (v : Value) (l : List Int) (i k : Nat) (w : World) (B : Nat) (hv : Ints w B v l) (h24 : l.length ≤ 24) (hb : ∀ y ∈ l, 1 ≤ y ∧ y ≤ 24) (hi : i < l.length) (hk : k ≤ l.length) :
    Calls Try.prog 26 #[v, .int .i64 i, .int .i64 k] w fun e w' => e = .returned (.int .i64 (spanTo l i k)) ∧ w = w' := by
  rcases hv.open with ⟨rfl, a, cap, rfl⟩ | ⟨b, o, cap, rfl, hm, hpos, hB, hlt, hc⟩
  · simp at hi
  · clear hv
    have hnz : ((l.length : Int) == 0) = false := beq_false_of_ne (by omega)
    have hnz2 : ¬ (l.length : Int) = 0 := by omega
    have HB := Lib.hid hb
    clear hb
    go_enter Try.func26, Try.ntmps26
    go_wp2
    go_loopw [7, 8] (fun s i' wr => ∃ j : Nat, j ≤ k ∧ i' = .int .i64 j ∧ s = .int .i64 (spanTo l i j) ∧ wr = w) (fun _ i' _ => k - (intOf i').toNat)
    case atStart => exact ⟨0, Nat.zero_le _, rfl, rfl, rfl⟩
    case round =>
      obtain ⟨j, hj, rfl, rfl, rfl⟩ := hrel
      have hbd := spanTo_bd HB.out hpos i j
      by_cases hjk : j < k
      · obtain ⟨r, hr⟩ : ∃ r : Nat, r = (i + j) % l.length := ⟨_, rfl⟩
        have hrl : r < l.length := by rw [hr]; exact Nat.mod_lt _ hpos
        have hmod : ((i : Int) + (j : Int)).tmod (l.length : Int) = (r : Int) := by
          rw [Int.tmod_eq_emod_of_nonneg (by omega), hr]; simp
        have hc1 := hc r hrl
        have hs := spanTo_succ l i j
        rw [← hr] at hs
        have hx := HB.out _ (getD_mem hrl)
        rw [getD_get hrl] at hc1 hs hx
        have Hs := Lib.hid hs
        clear hs hr
        go_wp2
        go_roundw
        case rel => exact ⟨j + 1, by omega, by go_num, by rw [Hs.out], by trivial⟩
        case measure => simp [intOf]; omega
      · have e : j = k := by omega
        subst e
        go_wp2
        go_ret
        exact ⟨rfl, rfl⟩

theorem implSpanOfC (n : Int) (v : Value) (x : List Int) (c : I64 n) (i : Int) (ci : I64 i) (k : Int) (ck : I64 k) (w : World) (h : Ints w w.heap.size v x) :
    Calls Try.prog 10 #[.agg #[.int .i64 n, v], .int .i64 i, .int .i64 k] w fun e w' => e = .returned (.int .i64 (valSpanOf n x i k)) ∧ Below w.heap.size w w' := by
  have h' := h
  obtain ⟨a, cap, rfl, -⟩ := h'
  have hl24 := lenStepsOf n x
  go_enter Try.func10, Try.ntmps10
  go_wp2_with fail
  refine withWorld fun X hX => ?_
  have hB : Below w.heap.size w X := by rw [hX]; (repeat (first | (with_reducible exact (Below.refl _ _)) | (with_reducible refine bel_alloc ?_ _) | (with_reducible refine Below.drew ?_) | (with_reducible refine bel_drewN ?_ _) | (with_reducible refine Below.setCell ?_ (by simp) _)))
  clear hX
  refine (implStepsOfC _ _ x c _ (Ints.ofBelow h hB)).mono ?_
  rintro e w1 ⟨b1, c1, rfl, ho1, hb1⟩
  have HI := Lib.hid ho1.ints
  have HB1 := Lib.hid (bel_step hB hb1 hB.size)
  clear ho1 hb1 hB
  cases h1 : (decide (0 ≤ i) && decide (i ≤ ((lstStepsOf n x).length : Int) - 1)) with
  | false =>
    have Hf := Lib.hid (show valSpanOf n x i k = 0 by unfold valSpanOf okSpan; rw [h1]; rfl)
    have H1 := Lib.hid h1
    clear h1
    go_wp2_with (go_at_call 29; refine (implWithin _ _ _ _).mono ?_; rintro e w' ⟨rfl, rfl⟩; rw [H1.out])
    go_ret
    exact ⟨ret_int Hf.out.symm, HB1.out⟩
  | true =>
    have H1 := Lib.hid h1
    have h1i : 0 ≤ i ∧ i ≤ ((lstStepsOf n x).length : Int) - 1 := by simpa using h1
    cases h2 : (decide (0 ≤ k) && decide (k ≤ ((lstStepsOf n x).length : Int))) with
    | false =>
      have Hf := Lib.hid (show valSpanOf n x i k = 0 by unfold valSpanOf okSpan; rw [h1, h2]; rfl)
      have H2 := Lib.hid h2
      clear h1 h2
      go_wp2_with fail
      refine (implWithin _ _ _ _).mono ?_
      rintro e w' ⟨rfl, rfl⟩
      rw [H1.out]
      go_wp2_with fail
      refine (implWithin _ _ _ _).mono ?_
      rintro e w' ⟨rfl, rfl⟩
      rw [H2.out]
      go_wp2
      go_ret
      exact ⟨ret_int Hf.out.symm, HB1.out⟩
    | true =>
      have Hf := Lib.hid (show valSpanOf n x i k = spanTo (lstStepsOf n x) i.toNat k.toNat by unfold valSpanOf okSpan; rw [h1, h2]; rfl)
      have H2 := Lib.hid h2
      have h2k : 0 ≤ k ∧ k ≤ ((lstStepsOf n x).length : Int) := by simpa using h2
      clear h1 h2
      obtain ⟨I, rfl⟩ : ∃ I : Nat, i = (I : Int) := ⟨i.toNat, by omega⟩
      obtain ⟨K, rfl⟩ : ∃ K : Nat, k = (K : Int) := ⟨k.toNat, by omega⟩
      rw [Int.toNat_natCast, Int.toNat_natCast] at Hf
      go_wp2_with fail
      refine (implWithin _ _ _ _).mono ?_
      rintro e w' ⟨rfl, rfl⟩
      rw [H1.out]
      go_wp2_with fail
      refine (implWithin _ _ _ _).mono ?_
      rintro e w' ⟨rfl, rfl⟩
      rw [H2.out]
      go_wp2_with fail
      refine (implSpan _ (lstStepsOf n x) _ _ _ _ HI.out hl24 lstStepsOf_bd (by omega) (by omega)).mono ?_
      rintro e w' ⟨rfl, rfl⟩
      go_wp2
      go_ret
      exact ⟨ret_int Hf.out.symm, HB1.out⟩

theorem specSpanOfC (n : Int) (v : Value) (x : List Int) (c : I64 n) (i : Int) (ci : I64 i) (k : Int) (ck : I64 k) (w : World) (h : Ints w w.heap.size v x) :
    Calls Try.prog 8 #[.agg #[.int .i64 n, v], .int .i64 i, .int .i64 k] w fun e w' => e = .returned (.int .i64 (valSpanOf n x i k)) ∧ Below w.heap.size w w' := by
  have h' := h
  obtain ⟨a, cap, rfl, -⟩ := h'
  have hl24 := lenStepsOf n x
  go_enter Try.func8, Try.ntmps8
  go_wp2_with fail
  refine withWorld fun X hX => ?_
  have hB : Below w.heap.size w X := by rw [hX]; (repeat (first | (with_reducible exact (Below.refl _ _)) | (with_reducible refine bel_alloc ?_ _) | (with_reducible refine Below.drew ?_) | (with_reducible refine bel_drewN ?_ _) | (with_reducible refine Below.setCell ?_ (by simp) _)))
  clear hX
  refine (specStepsOfC _ _ x c _ (Ints.ofBelow h hB)).mono ?_
  rintro e w1 ⟨b1, c1, rfl, ho1, hb1⟩
  have HI := Lib.hid ho1.ints
  have HB1 := Lib.hid (bel_step hB hb1 hB.size)
  clear ho1 hb1 hB
  cases h1 : (decide (0 ≤ i) && decide (i ≤ ((lstStepsOf n x).length : Int) - 1)) with
  | false =>
    have Hf := Lib.hid (show valSpanOf n x i k = 0 by unfold valSpanOf okSpan; rw [h1]; rfl)
    have H1 := Lib.hid h1
    clear h1
    go_wp2_with (go_at_call 25; refine (specL01In _ _ _ _).mono ?_; rintro e w' ⟨rfl, rfl⟩; rw [H1.out])
    go_ret
    exact ⟨ret_int Hf.out.symm, HB1.out⟩
  | true =>
    have H1 := Lib.hid h1
    have h1i : 0 ≤ i ∧ i ≤ ((lstStepsOf n x).length : Int) - 1 := by simpa using h1
    cases h2 : (decide (0 ≤ k) && decide (k ≤ ((lstStepsOf n x).length : Int))) with
    | false =>
      have Hf := Lib.hid (show valSpanOf n x i k = 0 by unfold valSpanOf okSpan; rw [h1, h2]; rfl)
      have H2 := Lib.hid h2
      clear h1 h2
      go_wp2_with fail
      refine (specL01In _ _ _ _).mono ?_
      rintro e w' ⟨rfl, rfl⟩
      rw [H1.out]
      go_wp2_with fail
      refine (specL01In _ _ _ _).mono ?_
      rintro e w' ⟨rfl, rfl⟩
      rw [H2.out]
      go_wp2
      go_ret
      exact ⟨ret_int Hf.out.symm, HB1.out⟩
    | true =>
      have Hf := Lib.hid (show valSpanOf n x i k = spanTo (lstStepsOf n x) i.toNat k.toNat by unfold valSpanOf okSpan; rw [h1, h2]; rfl)
      have H2 := Lib.hid h2
      have h2k : 0 ≤ k ∧ k ≤ ((lstStepsOf n x).length : Int) := by simpa using h2
      clear h1 h2
      obtain ⟨I, rfl⟩ : ∃ I : Nat, i = (I : Int) := ⟨i.toNat, by omega⟩
      obtain ⟨K, rfl⟩ : ∃ K : Nat, k = (K : Int) := ⟨k.toNat, by omega⟩
      rw [Int.toNat_natCast, Int.toNat_natCast] at Hf
      go_wp2_with fail
      refine (specL01In _ _ _ _).mono ?_
      rintro e w' ⟨rfl, rfl⟩
      rw [H1.out]
      go_wp2_with fail
      refine (specL01In _ _ _ _).mono ?_
      rintro e w' ⟨rfl, rfl⟩
      rw [H2.out]
      go_wp2_with fail
      refine (specL03Span _ (lstStepsOf n x) _ _ _ _ HI.out hl24 lstStepsOf_bd (by omega) (by omega)).mono ?_
      rintro e w' ⟨rfl, rfl⟩
      go_wp2
      go_ret
      exact ⟨ret_int Hf.out.symm, HB1.out⟩
end Go.Proofs.Ytdgbjjlmjappaaa
