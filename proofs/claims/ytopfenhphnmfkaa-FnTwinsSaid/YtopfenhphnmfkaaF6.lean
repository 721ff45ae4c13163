/-
  Contracts of RepeatRhythm, in the program and in the reference.
  Conditions: the rhythm's beats lie in memory.
-/
import Derived.Test.YtopfenhphnmfkaaG2
import Derived.Test.YtopfenhphnmfkaaB0
import Derived.Test.YtopfenhphnmfkaaM7
set_option linter.unusedVariables false
set_option linter.unusedSimpArgs false
namespace Go.Proofs.Ytopfenhphnmfkaa
open Go.RowKit

theorem numRepeatRhythm_bd (n : Int) (x : List Int) (k : Int) : I64 (numRepeatRhythm n x k) := by
  cases h : okRepeatRhythm n x k with
  | false => rw [(repeat_no h).1]; unfold I64; omega
  | true =>
    rw [(repeat_yes h).1]
    simp only [okRepeatRhythm, Bool.and_eq_true, decide_eq_true_eq] at h
    have h1 := ((rok_iff n x).1 h.1.1.1).lo
    have h2 : 0 ≤ k * n := Int.mul_nonneg (by omega) (by omega)
    unfold I64; omega
theorem rep_bd {n k : Int} {j : Nat} (hn : 1 ≤ n) (h : k * n ≤ 24) (hj : (j : Int) < k) : 0 ≤ (j : Int) * n ∧ (j : Int) * n ≤ 24 := by
  have h1 := Int.mul_nonneg (show (0 : Int) ≤ j by omega) (show 0 ≤ n by omega)
  have h2 : (j : Int) * n ≤ k * n := Int.mul_le_mul_of_nonneg_right (by omega) (by omega)
  omega
theorem repMid_len {n : Int} {x : List Int} (hx : x.length ≤ 24) (j i : Nat) (hj : j ≤ 24) : (repTo n x j ++ repIn n j (x.take i)).length ≤ 1048576 := by
  rw [List.length_append, repTo_len, repIn_len]
  have h1 : (x.take i).length ≤ x.length := by rw [List.length_take]; omega
  have h2 : j * x.length ≤ 24 * 24 := Nat.mul_le_mul hj hx
  omega
theorem repMid_snoc {n : Int} {x : List Int} {j i : Nat} (h : i < x.length) : repTo n x j ++ repIn n j (x.take (i + 1)) = (repTo n x j ++ repIn n j (x.take i)) ++ [(j : Int) * n + x[i]] := by
  rw [take_snoc h, repIn_snoc, getD_get h, List.append_assoc]
theorem repMid_end {n : Int} {x : List Int} {j : Nat} : repTo n x j ++ repIn n j (x.take x.length) = repTo n x (j + 1) := by
  rw [List.take_length]; rfl
theorem repMid_zero {n : Int} {x : List Int} {j : Nat} : repTo n x j ++ repIn n j (x.take 0) = repTo n x j := by simp [repIn]

set_option maxHeartbeats 800000 in
theorem implRepeatRhythmC (n : Int) (v : Value) (x : List Int) (c : I64 n) (k : Int) (ck : I64 k) (w : World) (h : Ints w w.heap.size v x) :
    Calls Try.prog 48 #[.agg #[.int .i64 n, v], .int .i64 k] w (RetRhythm2 w (numRepeatRhythm n x k) (lstRepeatRhythm n x k) (okRepeatRhythm n x k)) := by
  have h' := h
  obtain ⟨a, cap, rfl, -⟩ := h'
  cases hr : rok n x with
  | false =>
    have Hr := Lib.hid hr
    have hs := okRepeat_no1 (k := k) hr
    have Ho := Lib.hid hs
    have Hs := Lib.hid (repeat_no hs)
    clear hr hs
    go_enter Try.func48, Try.ntmps48
    go_wp2_with (go_at_call 49; refine (implRhythmOk _ _ x _ _ c.1 c.2 ((h.alloc (Nat.le_refl _) _).alloc (by simp) _)).mono ?_; rintro e w' ⟨rfl, rfl⟩; rw [Hr.out])
    refine bodyPost_ret (v := .tuple #[.agg #[.int .i64 0, .slice none 0 0], .bool false]) ?_ rfl ?_
    · simp [results, Try.results48, go_sem]
    · exact .zero rfl (by (repeat (first | (with_reducible exact (Below.refl _ _)) | (with_reducible refine bel_alloc ?_ _) | (with_reducible refine Below.drew ?_) | (with_reducible refine bel_drewN ?_ _) | (with_reducible refine Below.setCell ?_ (by simp) _)))) Hs.out.1 Hs.out.2 Ho.out
  | true =>
    have Hr := Lib.hid hr
    have hR := (rok_iff n x).1 hr
    have hlo := hR.lo
    have hhi := hR.hi
    have hlen := hR.len24
    by_cases h1 : k < 1
    · have hs := okRepeat_no2 (n := n) (x := x) (k := k) (by omega)
      have Ho := Lib.hid hs
      have Hs := Lib.hid (repeat_no hs)
      clear hr hs
      go_enter Try.func48, Try.ntmps48
      go_wp2_with (go_at_call 49; refine (implRhythmOk _ _ x _ _ c.1 c.2 ((h.alloc (Nat.le_refl _) _).alloc (by simp) _)).mono ?_; rintro e w' ⟨rfl, rfl⟩; rw [Hr.out])
      refine bodyPost_ret (v := .tuple #[.agg #[.int .i64 0, .slice none 0 0], .bool false]) ?_ rfl ?_
      · simp [results, Try.results48, go_sem]
      · exact .zero rfl (by (repeat (first | (with_reducible exact (Below.refl _ _)) | (with_reducible refine bel_alloc ?_ _) | (with_reducible refine Below.drew ?_) | (with_reducible refine bel_drewN ?_ _) | (with_reducible refine Below.setCell ?_ (by simp) _)))) Hs.out.1 Hs.out.2 Ho.out
    · have hd : (24 : Int).tdiv n = 24 / n := Int.tdiv_eq_ediv_of_nonneg (by omega)
      have hd0 : 0 ≤ 24 / n := Int.ediv_nonneg (by omega) (by omega)
      have hd1 : 24 / n ≤ 24 := by
        have := Int.ediv_le_self n (show (0 : Int) ≤ 24 by omega)
        exact this
      have hnz : ¬ n = 0 := by omega
      have hnb : (n == 0) = false := by simp; omega
      have hw : IntKind.i64.wrap ((24 : Int).tdiv n) = 24 / n := by rw [hd]; exact IntWalk.i64_in _ (by omega)
      have hw2 : IntKind.i64.wrap (24 / n) = 24 / n := IntWalk.i64_in _ (by omega)
      by_cases h2 : 24 / n < k
      · have hq : ¬ k * n ≤ 24 := fun hq => by have := (quo_iff (n := n) (k := k) hlo).2 hq; omega
        have hs := okRepeat_no3 (n := n) (x := x) (k := k) (by omega)
        have Ho := Lib.hid hs
        have Hs := Lib.hid (repeat_no hs)
        clear hr hs hq
        go_enter Try.func48, Try.ntmps48
        go_wp2_with (go_at_call 49; refine (implRhythmOk _ _ x _ _ c.1 c.2 ((h.alloc (Nat.le_refl _) _).alloc (by simp) _)).mono ?_; rintro e w' ⟨rfl, rfl⟩; rw [Hr.out])
        refine bodyPost_ret (v := .tuple #[.agg #[.int .i64 0, .slice none 0 0], .bool false]) ?_ rfl ?_
        · simp [results, Try.results48, go_sem]
        · exact .zero rfl (by (repeat (first | (with_reducible exact (Below.refl _ _)) | (with_reducible refine bel_alloc ?_ _) | (with_reducible refine Below.drew ?_) | (with_reducible refine bel_drewN ?_ _) | (with_reducible refine Below.setCell ?_ (by simp) _)))) Hs.out.1 Hs.out.2 Ho.out
      · have hq := (quo_iff (n := n) (k := k) hlo).1 (by omega)
        have hk0 : 0 ≤ k * n := Int.mul_nonneg (by omega) (by omega)
        have hs := okRepeat_of (n := n) (x := x) (k := k) hr (by omega) hq
        have Ho := Lib.hid hs
        have Hs := Lib.hid (repeat_yes hs)
        have Hq := Lib.hid hq
        clear hr hs
        go_enter Try.func48, Try.ntmps48
        go_wp2_with (go_at_call 49; refine (implRhythmOk _ _ x _ _ c.1 c.2 ((h.alloc (Nat.le_refl _) _).alloc (by simp) _)).mono ?_; rintro e w' ⟨rfl, rfl⟩; rw [Hr.out])
        clear hd hw hw2 hnb
        go_loopw [6, 26] (fun u i wr => ∃ j : Nat, (j : Int) ≤ k ∧ i = .int .i64 j ∧ (∃ a' m' c', u = .slice a' m' c' ∧ (repTo n x j).length = m' ∧ Own wr (w.heap.size + 2) (.slice a' m' c') (repTo n x j)) ∧ Bx wr w.heap.size (.int .i64 n) (.slice a x.length cap) 25 ∧ Bx wr (w.heap.size + 1) (.int .i64 0) (.slice none 0 0) 25 ∧ Below w.heap.size w wr) (fun _ i _ => (k - intOf i).toNat)
        case atStart => exact ⟨0, by omega, rfl, ⟨none, 0, 0, rfl, rfl, Own.nil _ _⟩, by (repeat (first | (with_reducible refine Bx.newAt _ _ _ _ ?_; simp; done) | (with_reducible refine Bx.alloc ?_ _) | (with_reducible refine Bx.drew ?_) | (with_reducible refine Bx.drewN ?_ _))), by (repeat (first | (with_reducible refine Bx.newAt _ _ _ _ ?_; simp; done) | (with_reducible refine Bx.alloc ?_ _) | (with_reducible refine Bx.drew ?_) | (with_reducible refine Bx.drewN ?_ _))), by (repeat (first | (with_reducible exact (Below.refl _ _)) | (with_reducible refine bel_alloc ?_ _) | (with_reducible refine Below.drew ?_) | (with_reducible refine bel_drewN ?_ _) | (with_reducible refine Below.setCell ?_ (by simp) _)))⟩
        case round =>
          obtain ⟨j, hj, rfl, ⟨a', m', c', rfl, hm', hown⟩, hbx, hres, hbel⟩ := hrel
          have hsz := hres.lt
          have HX := Lib.hid hbx
          have HO := Lib.hid hown
          have HR := Lib.hid hres
          have HB := Lib.hid hbel
          have HM := Lib.hid hm'
          have q0 := hbx.c0
          have q1 := hbx.c1
          by_cases hlt : (j : Int) < k
          · have hjn := rep_bd hlo Hq.out hlt
            clear hown hbx hres hbel hm'
            go_wp2_with fail
            go_loopw [6, 32] (fun u i wr => ∃ p : Nat, p ≤ x.length ∧ i = .int .i64 p ∧ (∃ a' m' c', u = .slice a' m' c' ∧ (repTo n x j ++ repIn n j (x.take p)).length = m' ∧ Own wr (w.heap.size + 2) (.slice a' m' c') (repTo n x j ++ repIn n j (x.take p))) ∧ Bx wr w.heap.size (.int .i64 n) (.slice a x.length cap) 25 ∧ Bx wr (w.heap.size + 1) (.int .i64 0) (.slice none 0 0) 25 ∧ Below w.heap.size w wr) (fun _ i _ => (x.length - intOf i).toNat)
            case atStart => exact ⟨0, Nat.zero_le _, rfl, ⟨a', m', c', rfl, by rw [repMid_zero]; exact HM.out, by rw [repMid_zero]; exact HO.out⟩, HX.out, HR.out, HB.out⟩
            case round =>
              clear q0 q1 hsz HX HO HR HB HM
              obtain ⟨p, hp, rfl, ⟨a', m', c', rfl, hm', hown⟩, hbx, hres, hbel⟩ := hrel
              have hsz := hres.lt
              have HX := Lib.hid hbx
              have HO := Lib.hid hown
              have HR := Lib.hid hres
              have HB := Lib.hid hbel
              have HM := Lib.hid hm'
              have q0 := hbx.c0
              have q1 := hbx.c1
              have hmb := repMid_len (n := n) hlen j p (by omega)
              have hm2 : m' ≤ 1048576 := by omega
              by_cases hpt : p < x.length
              · rcases h.open with ⟨rfl, -⟩ | ⟨b, o, cap', he, -, hpos, hBb, hb, hc⟩
                · simp at hpt
                · injection he with he1 he2 he3
                  subst he1
                  subst he3
                  have hc1 : wr.cell? ⟨b, o + p, none⟩ = some (.int .i64 (x.getD p 0)) := ((bcell hbel).1 _ _ (by omega)).trans (hc p hpt)
                  have hat := hR.at_ hpt
                  rw [getD_get hpt] at hat hc1
                  have Hn := Lib.hid (repMid_snoc (n := n) (j := j) hpt)
                  clear hown hbx hres hbel hm'
                  go_wp2_with (at_builtin; refine wpAppInt rfl _ _ rfl (w.heap.size + 2) a' m' c' (repTo n x j ++ repIn n j (x.take p)) _ rfl rfl HO.out HM.out (by omega) (by omega) ?_; intro a1 c1 w1 ho1 hb1)
                  have HX1 := Lib.hid (HX.out.below hb1 (by omega))
                  have HO1 : Hid (Own w1 (w.heap.size + 2) (.slice a1 (m' + 1) c1) (repTo n x j ++ repIn n j (x.take (p + 1)))) := by unfold Hid; rw [Hn.out]; exact ho1
                  have HR1 := Lib.hid (HR.out.below hb1 (by omega))
                  have HB1 := Lib.hid (HB.out.trans (hb1.mono (by omega)))
                  have HM1 : Hid ((repTo n x j ++ repIn n j (x.take (p + 1))).length = m' + 1) := by unfold Hid; rw [Hn.out, List.length_append, HM.out]; rfl
                  clear ho1 hb1
                  go_roundw
                  case rel => exact ⟨p + 1, by omega, by go_num, ⟨a1, m' + 1, c1, rfl, HM1.out, HO1.out⟩, HX1.out, HR1.out, HB1.out⟩
                  case measure => simp [intOf]; omega
              · have e : p = x.length := by omega
                subst e
                rw [repMid_end] at hown hm'
                have HO4 := Lib.hid hown
                have HM4 := Lib.hid hm'
                clear hown hbx hres hbel hm' HO HM
                go_wp2_with fail
                go_roundw
                case rel => exact ⟨j + 1, by omega, by go_num, ⟨a', m', c', rfl, HM4.out, HO4.out⟩, HX.out, HR.out, HB.out⟩
                case measure => simp [intOf]; omega
          · have e : k = (j : Int) := by omega
            subst e
            have p0 := hres.c0
            have p1 := hres.c1
            have f0 := hres.f 0
            have f1 := hres.f 1
            clear hown hbx hres hbel hm'
            go_wp2
            have hfin := (HR.out.set0 (.int .i64 ((j : Int) * n))).set1 (.slice a' m' c')
            have r0 := hfin.c0
            have r1 := hfin.c1
            refine bodyPost_ret (v := .tuple #[.agg #[.int .i64 ((j : Int) * n), .slice a' m' c'], .bool true]) ?_ rfl ?_
            · simp [results, Try.results48, go_sem, r0, r1]
            · have hm := HM.out
              have hl := Hs.out.2
              rw [Int.toNat_natCast] at hl
              subst hm
              rw [Hs.out.1, Ho.out, hl]
              exact ⟨a', c', rfl, ((HO.out.setc (by simp) _).setc (by simp) _).mono (by omega), (HB.out.setCell (by simp) _).setCell (by simp) _⟩

theorem l01k {k : Int} : (decide ((1 : Int) ≤ k) && decide (k ≤ (24 : Int))) = true ∨ ¬ (1 ≤ k ∧ k ≤ 24) := by
  by_cases h : 1 ≤ k ∧ k ≤ 24
  · left; simp [h.1, h.2]
  · exact .inr h

set_option maxHeartbeats 800000 in
theorem specRepeatRhythmC (n : Int) (v : Value) (x : List Int) (c : I64 n) (k : Int) (ck : I64 k) (w : World) (h : Ints w w.heap.size v x) :
    Calls Try.prog 12 #[.agg #[.int .i64 n, v], .int .i64 k] w (RetRhythm2 w (numRepeatRhythm n x k) (lstRepeatRhythm n x k) (okRepeatRhythm n x k)) := by
  have h' := h
  obtain ⟨a, cap, rfl, -⟩ := h'
  cases hr : rok n x with
  | false =>
    have Hr := Lib.hid hr
    have hs := okRepeat_no1 (k := k) hr
    have Ho := Lib.hid hs
    have Hs := Lib.hid (repeat_no hs)
    clear hr hs
    go_enter Try.func12, Try.ntmps12
    go_wp2_with (go_at_call 59; refine (specRhythmOk _ _ x _ _ c.1 c.2 ((h.alloc (Nat.le_refl _) _).alloc (by simp) _)).mono ?_; rintro e w' ⟨rfl, rfl⟩; rw [Hr.out])
    refine bodyPost_ret (v := .tuple #[.agg #[.int .i64 0, .slice none 0 0], .bool false]) ?_ rfl ?_
    · simp [results, Try.results12, go_sem]
    · exact .zero rfl (by (repeat (first | (with_reducible exact (Below.refl _ _)) | (with_reducible refine bel_alloc ?_ _) | (with_reducible refine Below.drew ?_) | (with_reducible refine bel_drewN ?_ _) | (with_reducible refine Below.setCell ?_ (by simp) _)))) Hs.out.1 Hs.out.2 Ho.out
  | true =>
    have Hr := Lib.hid hr
    have hR := (rok_iff n x).1 hr
    have hlo := hR.lo
    have hhi := hR.hi
    have hlen := hR.len24
    by_cases h1 : 1 ≤ k ∧ k ≤ 24
    · obtain ⟨h1a, h1b⟩ := h1
      have H1 : Hid ((decide ((1 : Int) ≤ k) && decide (k ≤ (24 : Int))) = true) := by unfold Hid; simp [h1a, h1b]
      have hk0 : 0 ≤ k * n := Int.mul_nonneg (by omega) (by omega)
      have hk1 : k * n ≤ 576 := by
        have h1 : k * n ≤ 24 * n := Int.mul_le_mul_of_nonneg_right h1b (by omega)
        omega
      by_cases h2 : 24 < k * n
      · have hs := okRepeat_no3 (n := n) (x := x) (k := k) h2
        have Ho := Lib.hid hs
        have Hs := Lib.hid (repeat_no hs)
        clear hr hs
        go_enter Try.func12, Try.ntmps12
        go_wp2_with (first | (go_at_call 59; refine (specRhythmOk _ _ x _ _ c.1 c.2 ((h.alloc (Nat.le_refl _) _).alloc (by simp) _)).mono ?_; rintro e w' ⟨rfl, rfl⟩; rw [Hr.out]) | (go_at_call 60; refine (specL01In _ _ _ _).mono ?_; rintro e w' ⟨rfl, rfl⟩; rw [H1.out]))
        refine bodyPost_ret (v := .tuple #[.agg #[.int .i64 0, .slice none 0 0], .bool false]) ?_ rfl ?_
        · simp [results, Try.results12, go_sem]
        · exact .zero rfl (by (repeat (first | (with_reducible exact (Below.refl _ _)) | (with_reducible refine bel_alloc ?_ _) | (with_reducible refine Below.drew ?_) | (with_reducible refine bel_drewN ?_ _) | (with_reducible refine Below.setCell ?_ (by simp) _)))) Hs.out.1 Hs.out.2 Ho.out
      · have hs := okRepeat_of (n := n) (x := x) (k := k) hr h1a (by omega)
        have Ho := Lib.hid hs
        have Hs := Lib.hid (repeat_yes hs)
        have Hq := Lib.hid (show k * n ≤ 24 by omega)
        clear hr hs
        go_enter Try.func12, Try.ntmps12
        go_wp2_with (first | (go_at_call 59; refine (specRhythmOk _ _ x _ _ c.1 c.2 ((h.alloc (Nat.le_refl _) _).alloc (by simp) _)).mono ?_; rintro e w' ⟨rfl, rfl⟩; rw [Hr.out]) | (go_at_call 60; refine (specL01In _ _ _ _).mono ?_; rintro e w' ⟨rfl, rfl⟩; rw [H1.out]))
        go_loopw [7] (fun i wr => ∃ j : Nat, (j : Int) ≤ k ∧ i = .int .i64 j ∧ ∃ a' m' c', (repTo n x j).length = m' ∧ Own wr (w.heap.size + 4) (.slice a' m' c') (repTo n x j) ∧ Bx wr (w.heap.size + 3) (.int .i64 (k * n)) (.slice a' m' c') 25 ∧ Bx wr w.heap.size (.int .i64 n) (.slice a x.length cap) 25 ∧ Bx wr (w.heap.size + 1) (.int .i64 0) (.slice none 0 0) 25 ∧ Below w.heap.size w wr) (fun i _ => (k - intOf i).toNat)
        case atStart => exact ⟨0, by omega, rfl, none, 0, 0, rfl, Own.nil _ _, by (repeat (first | (with_reducible refine Bx.newAt _ _ _ _ ?_; simp; done) | (with_reducible refine Bx.alloc ?_ _) | (with_reducible refine Bx.drew ?_) | (with_reducible refine Bx.drewN ?_ _))), by (repeat (first | (with_reducible refine Bx.newAt _ _ _ _ ?_; simp; done) | (with_reducible refine Bx.alloc ?_ _) | (with_reducible refine Bx.drew ?_) | (with_reducible refine Bx.drewN ?_ _))), by (repeat (first | (with_reducible refine Bx.newAt _ _ _ _ ?_; simp; done) | (with_reducible refine Bx.alloc ?_ _) | (with_reducible refine Bx.drew ?_) | (with_reducible refine Bx.drewN ?_ _))), by (repeat (first | (with_reducible exact (Below.refl _ _)) | (with_reducible refine bel_alloc ?_ _) | (with_reducible refine Below.drew ?_) | (with_reducible refine bel_drewN ?_ _) | (with_reducible refine Below.setCell ?_ (by simp) _)))⟩
        case round =>
          obtain ⟨j, hj, rfl, a', m', c', hm', hown, hout, hbx, hres, hbel⟩ := hrel
          have hsz := hout.lt
          have HY := Lib.hid hout
          have HX := Lib.hid hbx
          have HO := Lib.hid hown
          have HR := Lib.hid hres
          have HB := Lib.hid hbel
          have HM := Lib.hid hm'
          have q0 := hbx.c0
          have q1 := hbx.c1
          by_cases hlt : (j : Int) < k
          · have hjn := rep_bd hlo Hq.out hlt
            clear hown hout hbx hres hbel hm'
            go_wp2_with fail
            go_loopw [39] (fun i wr => ∃ p : Nat, p ≤ x.length ∧ i = .int .i64 p ∧ ∃ a' m' c', (repTo n x j ++ repIn n j (x.take p)).length = m' ∧ Own wr (w.heap.size + 4) (.slice a' m' c') (repTo n x j ++ repIn n j (x.take p)) ∧ Bx wr (w.heap.size + 3) (.int .i64 (k * n)) (.slice a' m' c') 25 ∧ Bx wr w.heap.size (.int .i64 n) (.slice a x.length cap) 25 ∧ Bx wr (w.heap.size + 1) (.int .i64 0) (.slice none 0 0) 25 ∧ Below w.heap.size w wr) (fun i _ => (x.length - intOf i).toNat)
            case atStart => exact ⟨0, Nat.zero_le _, rfl, a', m', c', by rw [repMid_zero]; exact HM.out, by rw [repMid_zero]; exact HO.out, HY.out, HX.out, HR.out, HB.out⟩
            case round =>
              clear q0 q1 hsz HX HY HO HR HB HM
              obtain ⟨p, hp, rfl, a', m', c', hm', hown, hout, hbx, hres, hbel⟩ := hrel
              have hsz := hout.lt
              have HY := Lib.hid hout
              have HX := Lib.hid hbx
              have HO := Lib.hid hown
              have HR := Lib.hid hres
              have HB := Lib.hid hbel
              have HM := Lib.hid hm'
              have q0 := hbx.c0
              have q1 := hbx.c1
              have y1 := hout.c1
              have g1 := hout.f 1
              have hmb := repMid_len (n := n) hlen j p (by omega)
              have hm2 : m' ≤ 1048576 := by omega
              by_cases hpt : p < x.length
              · rcases h.open with ⟨rfl, -⟩ | ⟨b, o, cap', he, -, hpos, hBb, hb, hc⟩
                · simp at hpt
                · injection he with he1 he2 he3
                  subst he1
                  subst he3
                  have hc1 : wr.cell? ⟨b, o + p, none⟩ = some (.int .i64 (x.getD p 0)) := ((bcell hbel).1 _ _ (by omega)).trans (hc p hpt)
                  have hat := hR.at_ hpt
                  rw [getD_get hpt] at hat hc1
                  have Hn := Lib.hid (repMid_snoc (n := n) (j := j) hpt)
                  clear hown hout hbx hres hbel hm'
                  go_wp2_with (at_builtin; refine wpAppInt rfl _ _ rfl (w.heap.size + 4) a' m' c' (repTo n x j ++ repIn n j (x.take p)) _ rfl rfl HO.out HM.out (by omega) (by omega) ?_; intro a1 c1 w1 ho1 hb1; have hy1 := HY.out.below hb1 (by omega); have p1 := hy1.c1; have gg1 := hy1.f 1)
                  have HY1 : Hid (Bx (w1.setCell ⟨w.heap.size + 3, 1, none⟩ (.slice a1 (m' + 1) c1)) (w.heap.size + 3) (.int .i64 (k * n)) (.slice a1 (m' + 1) c1) 25) := hy1.set1 _
                  have HX1 : Hid (Bx (w1.setCell ⟨w.heap.size + 3, 1, none⟩ (.slice a1 (m' + 1) c1)) w.heap.size _ _ _) := (HX.out.below hb1 (by omega)).set_other (by simp) _
                  have HO1 : Hid (Own (w1.setCell ⟨w.heap.size + 3, 1, none⟩ (.slice a1 (m' + 1) c1)) (w.heap.size + 4) (.slice a1 (m' + 1) c1) (repTo n x j ++ repIn n j (x.take (p + 1)))) := by unfold Hid; rw [Hn.out]; exact ho1.setc (by simp) _
                  have HR1 : Hid (Bx (w1.setCell ⟨w.heap.size + 3, 1, none⟩ (.slice a1 (m' + 1) c1)) (w.heap.size + 1) _ _ _) := (HR.out.below hb1 (by omega)).set_other (by simp) _
                  have HB1 : Hid (Below w.heap.size w (w1.setCell ⟨w.heap.size + 3, 1, none⟩ (.slice a1 (m' + 1) c1))) := (HB.out.trans (hb1.mono (by omega))).setCell (by simp) _
                  have HM1 : Hid ((repTo n x j ++ repIn n j (x.take (p + 1))).length = m' + 1) := by unfold Hid; rw [Hn.out, List.length_append, HM.out]; rfl
                  clear ho1 hb1 hy1 p1 gg1
                  go_roundw
                  case rel => exact ⟨p + 1, by omega, by go_num, a1, m' + 1, c1, HM1.out, HO1.out, HY1.out, HX1.out, HR1.out, HB1.out⟩
                  case measure => simp [intOf]; omega
              · have e : p = x.length := by omega
                subst e
                rw [repMid_end] at hown hm'
                have HO4 := Lib.hid hown
                have HM4 := Lib.hid hm'
                clear hown hout hbx hres hbel hm' HO HM
                go_wp2_with fail
                go_roundw
                case rel => exact ⟨j + 1, by omega, by go_num, a', m', c', HM4.out, HO4.out, HY.out, HX.out, HR.out, HB.out⟩
                case measure => simp [intOf]; omega
          · have e : k = (j : Int) := by omega
            subst e
            have p0 := hres.c0
            have p1 := hres.c1
            have f0 := hres.f 0
            have f1 := hres.f 1
            have y0 := hout.c0
            have y1 := hout.c1
            clear hown hout hbx hres hbel hm'
            go_wp2
            have hfin := (HR.out.set0 (.int .i64 ((j : Int) * n))).set1 (.slice a' m' c')
            have r0 := hfin.c0
            have r1 := hfin.c1
            refine bodyPost_ret (v := .tuple #[.agg #[.int .i64 ((j : Int) * n), .slice a' m' c'], .bool true]) ?_ rfl ?_
            · simp [results, Try.results12, go_sem, r0, r1]
            · have hm := HM.out
              have hl := Hs.out.2
              rw [Int.toNat_natCast] at hl
              subst hm
              rw [Hs.out.1, Ho.out, hl]
              exact ⟨a', c', rfl, ((HO.out.setc (by simp) _).setc (by simp) _).mono (by omega), (HB.out.setCell (by simp) _).setCell (by simp) _⟩
    · have hs := okRepeat_no2 (n := n) (x := x) (k := k) h1
      have Ho := Lib.hid hs
      have Hs := Lib.hid (repeat_no hs)
      have H1 : Hid ((decide ((1 : Int) ≤ k) && decide (k ≤ (24 : Int))) = false) := by unfold Hid; simp; omega
      clear hr hs h1
      go_enter Try.func12, Try.ntmps12
      go_wp2_with (first | (go_at_call 59; refine (specRhythmOk _ _ x _ _ c.1 c.2 ((h.alloc (Nat.le_refl _) _).alloc (by simp) _)).mono ?_; rintro e w' ⟨rfl, rfl⟩; rw [Hr.out]) | (go_at_call 60; refine (specL01In _ _ _ _).mono ?_; rintro e w' ⟨rfl, rfl⟩; rw [H1.out]))
      refine bodyPost_ret (v := .tuple #[.agg #[.int .i64 0, .slice none 0 0], .bool false]) ?_ rfl ?_
      · simp [results, Try.results12, go_sem]
      · exact .zero rfl (by (repeat (first | (with_reducible exact (Below.refl _ _)) | (with_reducible refine bel_alloc ?_ _) | (with_reducible refine Below.drew ?_) | (with_reducible refine bel_drewN ?_ _) | (with_reducible refine Below.setCell ?_ (by simp) _)))) Hs.out.1 Hs.out.2 Ho.out
end Go.Proofs.Ytopfenhphnmfkaa
