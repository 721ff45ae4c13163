/-
  Contracts of FromSteps, in the program and in the reference.
  Conditions: the steps lie in memory.
-/
import Derived.Test.YtoedmdefjibaoaaF6
import Derived.Test.YtoedmdefjibaoaaF7
set_option linter.unusedVariables false
set_option linter.unusedSimpArgs false
namespace Go.Proofs.Ytoedmdefjibaoaa
open Go.RowKit

theorem numFromSteps_bd (xs : List Int) (first : Int) : I64 (numFromSteps xs first) := by
  cases h : okFromSteps xs first with
  | false => rw [(from_no h).1]; unfold I64; omega
  | true =>
    rw [(from_yes h).1]
    obtain ⟨_, h1, h2, _⟩ := (okFrom_iff _ _).1 h
    have := (sumTo_bd (allIn_to h1) (Nat.le_refl _)).1
    unfold I64; omega

set_option maxHeartbeats 800000 in
theorem specFromStepsC (v : Value) (xs : List Int) (b0 : ∀ n ∈ xs, I64 n) (first : Int) (cf : I64 first) (w : World) (h : Ints w w.heap.size v xs) :
    Calls Try.prog 15 #[v, .int .i64 first] w (RetRhythm2 w (numFromSteps xs first) (lstFromSteps xs first) (okFromSteps xs first)) := by
  rcases h.open with ⟨rfl, a, cap, rfl⟩ | ⟨b, o, cap, rfl, hm, hpos, hB, hb, hc⟩
  · have hs := okFrom_false (xs := []) (first := first) (by simp)
    have Ho := Lib.hid hs
    have Hs := Lib.hid (from_no hs)
    clear hs h
    go_enter Try.func15, Try.ntmps15
    go_wp2
    refine wp_loop_rounds 1 ?_; rw [rounds_succ]
    go_wp2
    refine bodyPost_ret (v := .tuple #[.agg #[.int .i64 0, .slice none 0 0], .bool false]) ?_ rfl ?_
    · simp [results, Try.results15, go_sem]
    · exact .zero rfl (by (repeat (first | (with_reducible exact (Below.refl _ _)) | (with_reducible refine bel_alloc ?_ _) | (with_reducible refine Below.drew ?_) | (with_reducible refine bel_drewN ?_ _) | (with_reducible refine Below.setCell ?_ (by simp) _)))) Hs.out.1 Hs.out.2 Ho.out
  · go_enter Try.func15, Try.ntmps15
    go_wp2_with fail
    go_loopw [6, 15] (fun s i wr => ∃ k : Nat, k ≤ xs.length ∧ i = .int .i64 k ∧ s = .int .i64 (sumTo xs k) ∧ inTo xs k ∧ sumTo xs k ≤ 48 ∧ wr = w.alloc (.cells #[.int .i64 0, .slice none 0 0] 24)) (fun _ i _ => xs.length - (intOf i).toNat)
    case atStart => exact ⟨0, Nat.zero_le _, rfl, rfl, inTo.zero _, by simp [sumTo], rfl⟩
    case round =>
      obtain ⟨k, hk, rfl, rfl, hall, h48, rfl⟩ := hrel
      have HA := Lib.hid hall
      have hs0 := (sumTo_bd hall hk).1
      clear hall
      by_cases hlt : k < xs.length
      · have hc1 := cellAlloc (.cells #[.int .i64 0, .slice none 0 0] 24) (hc k hlt)
        rw [getD_get hlt] at hc1
        cases hx : In24 (xs.getD k 0) with
        | false =>
          have hs := okFrom_bad (first := first) (allIn_bad hlt hx)
          have Ho := Lib.hid hs
          have Hs := Lib.hid (from_no hs)
          rw [getD_get hlt] at hx
          have H1 : Hid ((decide ((1 : Int) ≤ xs[k]) && decide (xs[k] ≤ (24 : Int))) = false) := hx
          clear hx hs
          go_wp2_with (go_at_call 48; refine (specL01In _ _ _ _).mono ?_; rintro e w' ⟨rfl, rfl⟩; rw [H1.out])
          refine bodyPost_ret (v := .tuple #[.agg #[.int .i64 0, .slice none 0 0], .bool false]) ?_ rfl ?_
          · simp [results, Try.results15, go_sem]
          · exact .zero rfl (by (repeat (first | (with_reducible exact (Below.refl _ _)) | (with_reducible refine bel_alloc ?_ _) | (with_reducible refine Below.drew ?_) | (with_reducible refine bel_drewN ?_ _) | (with_reducible refine Below.setCell ?_ (by simp) _)))) Hs.out.1 Hs.out.2 Ho.out
        | true =>
          have hx2 := hx
          rw [getD_get hlt] at hx
          have hxb := in24_bd hx
          have H1 : Hid ((decide ((1 : Int) ≤ xs[k]) && decide (xs[k] ≤ (24 : Int))) = true) := hx
          by_cases h24 : 24 < sumTo xs k
          · have hs := okFrom_sum (first := first) hk h24
            have Ho := Lib.hid hs
            have Hs := Lib.hid (from_no hs)
            clear hx hx2 hs
            go_wp2_with (go_at_call 48; refine (specL01In _ _ _ _).mono ?_; rintro e w' ⟨rfl, rfl⟩; rw [H1.out])
            refine bodyPost_ret (v := .tuple #[.agg #[.int .i64 0, .slice none 0 0], .bool false]) ?_ rfl ?_
            · simp [results, Try.results15, go_sem]
            · exact .zero rfl (by (repeat (first | (with_reducible exact (Below.refl _ _)) | (with_reducible refine bel_alloc ?_ _) | (with_reducible refine Below.drew ?_) | (with_reducible refine bel_drewN ?_ _) | (with_reducible refine Below.setCell ?_ (by simp) _)))) Hs.out.1 Hs.out.2 Ho.out
          · have HN := Lib.hid (HA.out.succ hx2)
            have hs2 := sumTo_succ hlt
            rw [getD_get hlt] at hs2
            have Hs2 := Lib.hid hs2
            clear hx hx2 hs2
            go_wp2_with (go_at_call 48; refine (specL01In _ _ _ _).mono ?_; rintro e w' ⟨rfl, rfl⟩; rw [H1.out])
            go_roundw
            case rel => exact ⟨k + 1, by omega, by go_num, by rw [Hs2.out], HN.out, by rw [Hs2.out]; omega, by trivial⟩
            case measure => simp [intOf]; omega
      · have e : k = xs.length := by omega
        subst e
        have hne : ((xs.length : Int) == 0) = false := beq_false_of_ne (by omega)
        have hne2 : (xs.length == 0) = false := beq_false_of_ne (by omega)
        have hne3 : ¬ xs = [] := by intro e; subst e; simp at hpos
        have hlast : xs.length - 1 < xs.length := by omega
        have hcl := cellAlloc (.cells #[.int .i64 0, .slice none 0 0] 24) (hc (xs.length - 1) hlast)
        have hil := in24_bd (HA.out (xs.length - 1) hlast hlast)
        have ht : ((xs.length : Int) - 1).toNat = xs.length - 1 := by omega
        obtain ⟨last, hla⟩ : ∃ last, last = xs.getD (xs.length - 1) 0 := ⟨_, rfl⟩
        rw [← hla] at hcl hil
        have Hla := Lib.hid hla
        by_cases h24 : 24 < sumTo xs xs.length
        · have hs := okFrom_sum (first := first) hk h24
          have Ho := Lib.hid hs
          have Hs := Lib.hid (from_no hs)
          clear hs hla
          go_wp2
          refine bodyPost_ret (v := .tuple #[.agg #[.int .i64 0, .slice none 0 0], .bool false]) ?_ rfl ?_
          · simp [results, Try.results15, go_sem]
          · exact .zero rfl (by (repeat (first | (with_reducible exact (Below.refl _ _)) | (with_reducible refine bel_alloc ?_ _) | (with_reducible refine Below.drew ?_) | (with_reducible refine bel_drewN ?_ _) | (with_reducible refine Below.setCell ?_ (by simp) _)))) Hs.out.1 Hs.out.2 Ho.out
        · by_cases hf : 0 ≤ first ∧ first < last
          · have hs := (okFrom_iff xs first).2 ⟨hpos, allIn_of HA.out (Nat.le_refl _), by omega, hf.1, by rw [← hla]; exact hf.2⟩
            have Ho := Lib.hid hs
            have Hs := Lib.hid (from_yes hs)
            have hll := (sumTo_bd HA.out (Nat.le_refl _)).1
            have H1 : Hid ((decide ((0 : Int) ≤ first) && decide (first ≤ last - 1)) = true) := by unfold Hid; simp; omega
            obtain ⟨f1, f2⟩ := hf
            clear hs hla
            go_wp2_with (go_at_call 48; refine (specL01In _ _ _ _).mono ?_; rintro e w' ⟨rfl, rfl⟩; rw [H1.out])
            go_loopw [10, 56] (fun p i wr => ∃ k : Nat, k ≤ xs.length ∧ i = .int .i64 k ∧ p = .int .i64 (first + sumTo xs k) ∧ ∃ a' c', Own wr (w.heap.size + 2) (.slice a' k c') (frTo xs first k) ∧ Bx wr (w.heap.size + 1) (.int .i64 (sumTo xs xs.length)) (.slice a' k c') 24 ∧ Bx wr w.heap.size (.int .i64 0) (.slice none 0 0) 24 ∧ Below w.heap.size w wr) (fun _ i _ => xs.length - (intOf i).toNat)
            case atStart => exact ⟨0, Nat.zero_le _, rfl, by simp [sumTo], none, 0, Own.nil _ _, by (repeat (first | (with_reducible refine Bx.newAt _ _ _ _ ?_; simp; done) | (with_reducible refine Bx.alloc ?_ _) | (with_reducible refine Bx.drew ?_) | (with_reducible refine Bx.drewN ?_ _))), by (repeat (first | (with_reducible refine Bx.newAt _ _ _ _ ?_; simp; done) | (with_reducible refine Bx.alloc ?_ _) | (with_reducible refine Bx.drew ?_) | (with_reducible refine Bx.drewN ?_ _))), by (repeat (first | (with_reducible exact (Below.refl _ _)) | (with_reducible refine bel_alloc ?_ _) | (with_reducible refine Below.drew ?_) | (with_reducible refine bel_drewN ?_ _) | (with_reducible refine Below.setCell ?_ (by simp) _)))⟩
            case round =>
              obtain ⟨k, hk, rfl, rfl, a', c', hown, hout, hres, hbel⟩ := hrel
              have hsz := hout.lt
              have HY := Lib.hid hout
              have HO := Lib.hid hown
              have HR := Lib.hid hres
              have HB := Lib.hid hbel
              have y1 := hout.c1
              have g1 := hout.f 1
              have hbd := sumTo_bd (xs := xs) (k := k) (fun i hi hl => HA.out i hl hl) hk
              by_cases hkt : k < xs.length
              · have hc1 : wr.cell? ⟨b, o + k, none⟩ = some (.int .i64 (xs.getD k 0)) := ((bcell hbel).1 _ _ (by omega)).trans (hc k hkt)
                have hxb := in24_bd (HA.out k hkt hkt)
                have hs2 := sumTo_succ hkt
                rw [getD_get hkt] at hc1 hxb hs2
                have Hs2 := Lib.hid hs2
                have Hn := Lib.hid (frTo_succ xs first k)
                clear hown hout hres hbel hs2
                go_wp2_with (at_builtin; refine wpAppInt rfl _ _ rfl (w.heap.size + 2) a' k c' (frTo xs first k) _ rfl rfl HO.out (frTo_len _ _ _) (by omega) (by omega) ?_; intro a1 c1 w1 ho1 hb1; have hy1 := HY.out.below hb1 (by omega); have p1 := hy1.c1; have gg1 := hy1.f 1)
                have HY1 : Hid (Bx (w1.setCell ⟨w.heap.size + 1, 1, none⟩ (.slice a1 (k + 1) c1)) (w.heap.size + 1) _ (.slice a1 (k + 1) c1) _) := hy1.set1 _
                have HO1 : Hid (Own (w1.setCell ⟨w.heap.size + 1, 1, none⟩ (.slice a1 (k + 1) c1)) (w.heap.size + 2) (.slice a1 (k + 1) c1) (frTo xs first (k + 1))) := by unfold Hid; rw [Hn.out]; exact ho1.setc (by simp) _
                have HR1 : Hid (Bx (w1.setCell ⟨w.heap.size + 1, 1, none⟩ (.slice a1 (k + 1) c1)) w.heap.size _ _ _) := (HR.out.below hb1 (by omega)).set_other (by simp) _
                have HB1 : Hid (Below w.heap.size w (w1.setCell ⟨w.heap.size + 1, 1, none⟩ (.slice a1 (k + 1) c1))) := (HB.out.trans (hb1.mono (by omega))).setCell (by simp) _
                clear ho1 hb1 hy1 p1 gg1
                go_roundw
                case rel => exact ⟨k + 1, by omega, by go_num, by rw [Hs2.out, ← Int.add_assoc], a1, c1, HO1.out, HY1.out, HR1.out, HB1.out⟩
                case measure => simp [intOf]; omega
              · have e : k = xs.length := by omega
                subst e
                have p0 := hres.c0
                have p1 := hres.c1
                have f0 := hres.f 0
                have f1 := hres.f 1
                have y0 := hout.c0
                clear hown hout hres hbel
                go_wp2
                have hfin := (HR.out.set0 (.int .i64 (sumTo xs xs.length))).set1 (.slice a' xs.length c')
                have r0 := hfin.c0
                have r1 := hfin.c1
                refine bodyPost_ret (v := .tuple #[.agg #[.int .i64 (sumTo xs xs.length), .slice a' xs.length c'], .bool true]) ?_ rfl ?_
                · simp [results, Try.results15, go_sem, r0, r1]
                · exact .one rfl (((HO.out.setc (by simp) _).setc (by simp) _).mono (by omega)) (frTo_len _ _ _) ((HB.out.setCell (by simp) _).setCell (by simp) _) Hs.out.1 Hs.out.2 Ho.out
          · have hs : okFromSteps xs first = false := okFrom_false (by rintro ⟨_, _, _, q1, q2⟩; rw [← hla] at q2; exact hf ⟨q1, q2⟩)
            have Ho := Lib.hid hs
            have Hs := Lib.hid (from_no hs)
            have H1 : Hid ((decide ((0 : Int) ≤ first) && decide (first ≤ last - 1)) = false) := by unfold Hid; simp; omega
            clear hs hla hf
            go_wp2_with (go_at_call 48; refine (specL01In _ _ _ _).mono ?_; rintro e w' ⟨rfl, rfl⟩; rw [H1.out])
            refine bodyPost_ret (v := .tuple #[.agg #[.int .i64 0, .slice none 0 0], .bool false]) ?_ rfl ?_
            · simp [results, Try.results15, go_sem]
            · exact .zero rfl (by (repeat (first | (with_reducible exact (Below.refl _ _)) | (with_reducible refine bel_alloc ?_ _) | (with_reducible refine Below.drew ?_) | (with_reducible refine bel_drewN ?_ _) | (with_reducible refine Below.setCell ?_ (by simp) _)))) Hs.out.1 Hs.out.2 Ho.out
/-- The beats so far: the steps' sums where the first beat is small; else a list whose first number is the first beat. -/
def FrAt (xs : List Int) (first : Int) (k : Nat) (u : Int) (l : List Int) : Prop :=
  l.length = k ∧ (first < 24 → u = first + sumTo xs k ∧ l = frTo xs first k) ∧ (k = 0 → u = first) ∧ (0 < k → l.getD 0 0 = first)
theorem FrAt.zero (xs : List Int) (first : Int) : FrAt xs first 0 first [] := ⟨rfl, fun _ => ⟨by simp [sumTo], rfl⟩, fun _ => rfl, fun h => absurd h (Nat.lt_irrefl _)⟩
theorem FrAt.succ {xs : List Int} {first : Int} {k : Nat} {u : Int} {l : List Int} (h : FrAt xs first k u l) (hk : k < xs.length) (hin : inTo xs xs.length) (hl : xs.length ≤ 24) (h0 : 0 ≤ first) : FrAt xs first (k + 1) (wrap64 (u + xs[k])) (l ++ [u]) := by
  refine ⟨by simp [h.1], fun hf => ?_, fun e => absurd e (by omega), fun _ => ?_⟩
  · obtain ⟨h1, h2⟩ := h.2.1 hf
    have hs := sumTo_succ hk
    rw [getD_get hk] at hs
    have hb := sumTo_bd (xs := xs) (k := k + 1) (fun i _ hl => hin i hl hl) (by omega)
    constructor
    · rw [h1]; unfold wrap64; omega
    · rw [h2, h1, frTo_succ]
  · by_cases e : k = 0
    · subst e
      have hn : l = [] := List.eq_nil_of_length_eq_zero h.1
      subst hn
      simp [h.2.2.1 rfl]
    · have := h.2.2.2 (by omega)
      rw [← this]
      have hl := h.1
      cases l with
      | nil => simp at hl; omega
      | cons y l => rfl
theorem FrAt.rok {xs : List Int} {first : Int} {u : Int} {l : List Int} (h : FrAt xs first xs.length u l) (ha : allIn xs = true) (hne : 0 < xs.length) (h0 : 0 ≤ first) : rok (sumTo xs xs.length) l = okFromSteps xs first := by
  by_cases hf : first < 24
  · rw [(h.2.1 hf).2]; exact from_rok ha hne h0
  · rw [okFrom_big (by omega)]
    exact from_rok_big (by rw [h.1]; exact hne) (h.2.2.2 hne) (by omega)
theorem FrAt.yes {xs : List Int} {first : Int} {u : Int} {l : List Int} (h : FrAt xs first xs.length u l) (ho : okFromSteps xs first = true) : l = frTo xs first xs.length := by
  refine (h.2.1 ?_).2
  rcases Int.lt_or_le first 24 with hf | hf
  · exact hf
  · rw [okFrom_big hf] at ho; cases ho

set_option maxHeartbeats 800000 in
theorem implFromStepsC (v : Value) (xs : List Int) (b0 : ∀ n ∈ xs, I64 n) (first : Int) (cf : I64 first) (w : World) (h : Ints w w.heap.size v xs) :
    Calls Try.prog 17 #[v, .int .i64 first] w (RetRhythm2 w (numFromSteps xs first) (lstFromSteps xs first) (okFromSteps xs first)) := by
  rcases h.open with ⟨rfl, a, cap, rfl⟩ | ⟨b, o, cap, rfl, hm, hpos, hB, hb, hc⟩
  · have hs := okFrom_false (xs := []) (first := first) (by simp)
    have Ho := Lib.hid hs
    have Hs := Lib.hid (from_no hs)
    clear hs h
    go_enter Try.func17, Try.ntmps17
    go_wp2
    refine bodyPost_ret (v := .tuple #[.agg #[.int .i64 0, .slice none 0 0], .bool false]) ?_ rfl ?_
    · simp [results, Try.results17, go_sem]
    · exact .zero rfl (by (repeat (first | (with_reducible exact (Below.refl _ _)) | (with_reducible refine bel_alloc ?_ _) | (with_reducible refine Below.drew ?_) | (with_reducible refine bel_drewN ?_ _) | (with_reducible refine Below.setCell ?_ (by simp) _)))) Hs.out.1 Hs.out.2 Ho.out
  · have hne : ((xs.length : Int) == 0) = false := beq_false_of_ne (by omega)
    by_cases hl : 24 < xs.length
    · have hs := okFrom_long (first := first) hl
      have Ho := Lib.hid hs
      have Hs := Lib.hid (from_no hs)
      clear hs
      go_enter Try.func17, Try.ntmps17
      go_wp2
      refine bodyPost_ret (v := .tuple #[.agg #[.int .i64 0, .slice none 0 0], .bool false]) ?_ rfl ?_
      · simp [results, Try.results17, go_sem]
      · exact .zero rfl (by (repeat (first | (with_reducible exact (Below.refl _ _)) | (with_reducible refine bel_alloc ?_ _) | (with_reducible refine Below.drew ?_) | (with_reducible refine bel_drewN ?_ _) | (with_reducible refine Below.setCell ?_ (by simp) _)))) Hs.out.1 Hs.out.2 Ho.out
    · cases ha : allIn xs with
      | false =>
        have Ha := Lib.hid ha
        have hs := okFrom_bad (first := first) ha
        have Ho := Lib.hid hs
        have Hs := Lib.hid (from_no hs)
        clear hs ha
        go_enter Try.func17, Try.ntmps17
        go_wp2_with fail
        refine (implAllWithin _ xs _ (Ints.ofBelow h ((Below.refl _ _).alloc (Nat.le_refl _) _))).mono ?_
        rintro e w1 ⟨rfl, hb1⟩
        rw [Ha.out]
        have HX := Lib.hid ((Bx.new w (.int .i64 0) (.slice none 0 0) 24).below hb1 (by simp))
        have q0 := HX.out.c0
        have q1 := HX.out.c1
        have f0 := HX.out.f 0
        have f1 := HX.out.f 1
        have HB := Lib.hid (bel_step ((Below.refl _ _).alloc (Nat.le_refl _) _) hb1 (by simp))
        clear hb1
        go_wp2
        have hfin := (HX.out.set0 (.int .i64 0)).set1 (.slice none 0 0)
        have r0 := hfin.c0
        have r1 := hfin.c1
        refine bodyPost_ret (v := .tuple #[.agg #[.int .i64 0, .slice none 0 0], .bool false]) ?_ rfl ?_
        · simp [results, Try.results17, go_sem, r0, r1]
        · exact .zero rfl (by first | exact HB.out | exact HB.out.setCell (by simp) _ | exact (HB.out.setCell (by simp) _).setCell (by simp) _) Hs.out.1 Hs.out.2 Ho.out
      | true =>
        have Ha := Lib.hid ha
        by_cases h0 : first < 0
        · have hs : okFromSteps xs first = false := okFrom_false (by rintro ⟨_, _, _, q, _⟩; omega)
          have Ho := Lib.hid hs
          have Hs := Lib.hid (from_no hs)
          clear hs ha
          go_enter Try.func17, Try.ntmps17
          go_wp2_with fail
          refine (implAllWithin _ xs _ (Ints.ofBelow h ((Below.refl _ _).alloc (Nat.le_refl _) _))).mono ?_
          rintro e w1 ⟨rfl, hb1⟩
          rw [Ha.out]
          have HX := Lib.hid ((Bx.new w (.int .i64 0) (.slice none 0 0) 24).below hb1 (by simp))
          have q0 := HX.out.c0
          have q1 := HX.out.c1
          have f0 := HX.out.f 0
          have f1 := HX.out.f 1
          have HB := Lib.hid (bel_step ((Below.refl _ _).alloc (Nat.le_refl _) _) hb1 (by simp))
          clear hb1
          go_wp2
          have hfin := (HX.out.set0 (.int .i64 0)).set1 (.slice none 0 0)
          have r0 := hfin.c0
          have r1 := hfin.c1
          refine bodyPost_ret (v := .tuple #[.agg #[.int .i64 0, .slice none 0 0], .bool false]) ?_ rfl ?_
          · simp [results, Try.results17, go_sem, r0, r1]
          · exact .zero rfl (by first | exact HB.out | exact HB.out.setCell (by simp) _ | exact (HB.out.setCell (by simp) _).setCell (by simp) _) Hs.out.1 Hs.out.2 Ho.out
        · have hin := allIn_to ha
          have Hin := Lib.hid hin
          clear hin ha
          go_enter Try.func17, Try.ntmps17
          go_wp2_with fail
          refine (implAllWithin _ xs _ (Ints.ofBelow h ((Below.refl _ _).alloc (Nat.le_refl _) _))).mono ?_
          rintro e w1 ⟨rfl, hb1⟩
          rw [Ha.out]
          have HX := Lib.hid ((Bx.new w (.int .i64 0) (.slice none 0 0) 24).below hb1 (by simp))
          have hsz1 := HX.out.lt
          have HB := Lib.hid (bel_step ((Below.refl _ _).alloc (Nat.le_refl _) _) hb1 (by simp))
          clear hb1
          go_wp2_with (go_at_call 50; refine (implSumOf _ xs _ _ (Ints.ofBelow h HB.out) Hin.out (by omega)).mono ?_; rintro e w' ⟨rfl, rfl⟩)
          go_loopw [1, 32] (fun p i wr => ∃ k : Nat, k ≤ xs.length ∧ i = .int .i64 k ∧ ∃ u l, p = .int .i64 u ∧ FrAt xs first k u l ∧ ∃ a' c', Own wr (w1.heap.size + 1) (.slice a' k c') l ∧ Bx wr w1.heap.size (.int .i64 (sumTo xs xs.length)) (.slice a' k c') 24 ∧ Bx wr w.heap.size (.int .i64 0) (.slice none 0 0) 24 ∧ Below w.heap.size w wr) (fun _ i _ => xs.length - (intOf i).toNat)
          case atStart => exact ⟨0, Nat.zero_le _, rfl, first, [], rfl, FrAt.zero _ _, none, 0, Own.nil _ _, by (repeat (first | (with_reducible refine Bx.newAt _ _ _ _ ?_; simp; done) | (with_reducible refine Bx.alloc ?_ _) | (with_reducible refine Bx.drew ?_) | (with_reducible refine Bx.drewN ?_ _))), HX.out.alloc _, HB.out.alloc (by omega) _⟩
          case round =>
            obtain ⟨k, hk, rfl, u, l, rfl, hfr, a', c', hown, hout, hres, hbel⟩ := hrel
            have hsz := hout.lt
            have HY := Lib.hid hout
            have HO := Lib.hid hown
            have HR := Lib.hid hres
            have HB := Lib.hid hbel
            have HF := Lib.hid hfr
            have y1 := hout.c1
            have g1 := hout.f 1
            by_cases hkt : k < xs.length
            · have hc1 : wr.cell? ⟨b, o + k, none⟩ = some (.int .i64 (xs.getD k 0)) := ((bcell hbel).1 _ _ (by omega)).trans (hc k hkt)
              rw [getD_get hkt] at hc1
              clear hown hout hres hbel hfr
              go_wp2_with (at_builtin; refine wpAppInt rfl _ _ rfl (w1.heap.size + 1) a' k c' l _ rfl rfl HO.out HF.out.1 (by omega) (by omega) ?_; intro a1 c1 w2 ho1 hb1; have hy1 := HY.out.below hb1 (by omega); have p1 := hy1.c1; have gg1 := hy1.f 1)
              have HY1 : Hid (Bx (w2.setCell ⟨w1.heap.size, 1, none⟩ (.slice a1 (k + 1) c1)) w1.heap.size _ (.slice a1 (k + 1) c1) _) := hy1.set1 _
              have HO1 : Hid (Own (w2.setCell ⟨w1.heap.size, 1, none⟩ (.slice a1 (k + 1) c1)) (w1.heap.size + 1) (.slice a1 (k + 1) c1) (l ++ [u])) := ho1.setc (by simp) _
              have HR1 : Hid (Bx (w2.setCell ⟨w1.heap.size, 1, none⟩ (.slice a1 (k + 1) c1)) w.heap.size _ _ _) := (HR.out.below hb1 (by omega)).set_other (by simp; omega) _
              have HB1 : Hid (Below w.heap.size w (w2.setCell ⟨w1.heap.size, 1, none⟩ (.slice a1 (k + 1) c1))) := (HB.out.trans (hb1.mono (by omega))).setCell (by simp; omega) _
              clear ho1 hb1 hy1 p1 gg1
              go_roundw
              case rel => exact ⟨k + 1, by omega, by go_num, _, _, rfl, HF.out.succ hkt Hin.out (by omega) (by omega), a1, c1, HO1.out, HY1.out, HR1.out, HB1.out⟩
              case measure => simp [intOf]; omega
            · have e : k = xs.length := by omega
              subst e
              have hrk := HF.out.rok (allIn_of Hin.out (Nat.le_refl _)) hpos (by omega)
              have y0 := hout.c0
              have hii := hown.ints
              have hll := HF.out.1
              have hsb := sumTo_bd Hin.out (Nat.le_refl _)
              rw [← hll] at hii
              cases ho : okFromSteps xs first with
              | false =>
                have Ho := Lib.hid ho
                have Hs := Lib.hid (from_no ho)
                have Hk : Hid (rok (sumTo xs xs.length) l = false) := hrk.trans ho
                have Hi := Lib.hid hii
                have p0 := (hres.alloc (.cells #[.int .i64 (sumTo xs xs.length), .slice a' xs.length c'] 24)).c0
                have p1 := (hres.alloc (.cells #[.int .i64 (sumTo xs xs.length), .slice a' xs.length c'] 24)).c1
                have f0 := (hres.alloc (.cells #[.int .i64 (sumTo xs xs.length), .slice a' xs.length c'] 24)).f 0
                have f1 := (hres.alloc (.cells #[.int .i64 (sumTo xs xs.length), .slice a' xs.length c'] 24)).f 1
                clear hown hout hres hbel hfr hrk ho hii hll
                go_wp2_with (go_at_call 51; refine (implRhythmOk _ _ l _ _ (by omega) (by omega) (by have := Hi.out; rw [HF.out.1] at this; exact this)).mono ?_; rintro e w' ⟨rfl, rfl⟩; rw [Hk.out])
                have hfin := ((HR.out.alloc (.cells #[.int .i64 (sumTo xs xs.length), .slice a' xs.length c'] 24)).set0 (.int .i64 0)).set1 (.slice none 0 0)
                have r0 := hfin.c0
                have r1 := hfin.c1
                refine bodyPost_ret (v := .tuple #[.agg #[.int .i64 0, .slice none 0 0], .bool false]) ?_ rfl ?_
                · simp [results, Try.results17, go_sem, r0, r1]
                · exact .zero rfl (by first | exact HB.out.alloc HB.out.size _ | exact (HB.out.alloc HB.out.size _).setCell (by simp) _ | exact ((HB.out.alloc HB.out.size _).setCell (by simp) _).setCell (by simp) _) Hs.out.1 Hs.out.2 Ho.out
              | true =>
                have Ho := Lib.hid ho
                have Hs := Lib.hid (from_yes ho)
                have Hk : Hid (rok (sumTo xs xs.length) l = true) := hrk.trans ho
                have Hl := Lib.hid (HF.out.yes ho)
                have Hi := Lib.hid hii
                have p0 := (hres.alloc (.cells #[.int .i64 (sumTo xs xs.length), .slice a' xs.length c'] 24)).c0
                have p1 := (hres.alloc (.cells #[.int .i64 (sumTo xs xs.length), .slice a' xs.length c'] 24)).c1
                have f0 := (hres.alloc (.cells #[.int .i64 (sumTo xs xs.length), .slice a' xs.length c'] 24)).f 0
                have f1 := (hres.alloc (.cells #[.int .i64 (sumTo xs xs.length), .slice a' xs.length c'] 24)).f 1
                have y2 := (hout.alloc (.cells #[.int .i64 (sumTo xs xs.length), .slice a' xs.length c'] 24)).c0
                have y3 := (hout.alloc (.cells #[.int .i64 (sumTo xs xs.length), .slice a' xs.length c'] 24)).c1
                clear hown hout hres hbel hfr hrk ho hii hll
                go_wp2_with (go_at_call 51; refine (implRhythmOk _ _ l _ _ (by omega) (by omega) (by have := Hi.out; rw [HF.out.1] at this; exact this)).mono ?_; rintro e w' ⟨rfl, rfl⟩; rw [Hk.out])
                have hfin := ((HR.out.alloc (.cells #[.int .i64 (sumTo xs xs.length), .slice a' xs.length c'] 24)).set0 (.int .i64 (sumTo xs xs.length))).set1 (.slice a' xs.length c')
                have r0 := hfin.c0
                have r1 := hfin.c1
                refine bodyPost_ret (v := .tuple #[.agg #[.int .i64 (sumTo xs xs.length), .slice a' xs.length c'], .bool true]) ?_ rfl ?_
                · simp [results, Try.results17, go_sem, r0, r1]
                · have hO := HO.out
                  rw [Hl.out] at hO
                  exact .one rfl ((((hO.alloc _).setc (by simp; omega) _).setc (by simp; omega) _).mono (by omega)) (frTo_len _ _ _) (((HB.out.alloc HB.out.size _).setCell (by simp) _).setCell (by simp) _) Hs.out.1 Hs.out.2 Ho.out
end Go.Proofs.Ytoedmdefjibaoaa
