/-
  Contracts of ShiftedEven and EvenRhythm, in the program and in the reference.
  Conditions: none beyond the integers' width.
-/
import Derived.Test.YthgohmgadcfglaaG1
namespace Go.Proofs.Ythgohmgadcfglaa
open Go.RowKit

theorem shifted_no {k n m : Int} (h : okShiftedEven k n m = false) : numShiftedEven k n m = 0 ∧ lstShiftedEven k n m = [] := by simp [numShiftedEven, lstShiftedEven, h]
theorem shifted_yes {k n m : Int} (h : okShiftedEven k n m = true) : numShiftedEven k n m = n ∧ lstShiftedEven k n m = evTo k n m k.toNat := by simp [numShiftedEven, lstShiftedEven, h]
theorem RetRhythm2.zero {w w' : World} {e : Ending} {n : Int} {xs : List Int} {ok : Bool} (he : e = .returned (.tuple #[.agg #[.int .i64 0, .slice none 0 0], .bool false])) (hb : Below w.heap.size w w') (hn : n = 0) (hx : xs = []) (ho : ok = false) : RetRhythm2 w n xs ok e w' := by
  subst hn hx ho
  exact ⟨none, 0, he, Own.nil _ _, hb⟩
theorem RetRhythm2.one {w w' : World} {e : Ending} {n n' : Int} {xs xs' : List Int} {ok : Bool} {a : Option Addr} {l c : Nat} (he : e = .returned (.tuple #[.agg #[.int .i64 n, .slice a l c], .bool true])) (ho : Own w' w.heap.size (.slice a l c) xs) (hl : xs.length = l) (hb : Below w.heap.size w w') (hn : n' = n) (hx : xs' = xs) (hk : ok = true) : RetRhythm2 w n' xs' ok e w' := by
  subst hn hx hk hl
  exact ⟨a, c, he, ho, hb⟩


set_option maxHeartbeats 800000 in
theorem implShiftedEvenC (k : Int) (_ck : I64 k) (n : Int) (_cn : I64 n) (m : Int) (_cm : I64 m) (w : World) :
    Calls Try.prog 56 #[.int .i64 k, .int .i64 n, .int .i64 m] w (RetRhythm2 w (numShiftedEven k n m) (lstShiftedEven k n m) (okShiftedEven k n m)) := by
  by_cases h1 : 1 ≤ n ∧ n ≤ 24
  · obtain ⟨a1, a2⟩ := h1
    have H1 := Lib.hid (show (decide (1 ≤ n) && decide (n ≤ 24)) = true by simp [a1, a2])
    by_cases h2 : 0 ≤ k ∧ k ≤ n
    · obtain ⟨a3, a4⟩ := h2
      have H2 := Lib.hid (show (decide (0 ≤ k) && decide (k ≤ n)) = true by simp [a3, a4])
      by_cases h3 : 0 ≤ m ∧ m < n
      · obtain ⟨a5, a6⟩ := h3
        have H3 := Lib.hid (show (decide (0 ≤ m) && decide (m ≤ n - 1)) = true by simp; omega)
        by_cases h4 : k = 0 ∧ 0 < m
        · obtain ⟨rfl, a7⟩ := h4
          have ho : okShiftedEven 0 n m = false := okShiftedEven_no (by omega)
          have hs := shifted_no ho
          have Ho := Lib.hid ho
          have Hs := Lib.hid hs
          clear ho hs
          go_enter Try.func56, Try.ntmps56
          go_wp2_with fail
          refine (implWithin _ _ _ _).mono ?_
          rintro e w' ⟨rfl, rfl⟩
          rw [H1.out]
          go_wp2_with fail
          refine (implWithin _ _ _ _).mono ?_
          rintro e w' ⟨rfl, rfl⟩
          rw [H2.out]
          go_wp2_with fail
          refine (implWithin _ _ _ _).mono ?_
          rintro e w' ⟨rfl, rfl⟩
          rw [H3.out]
          go_wp2
          refine bodyPost_ret (v := .tuple #[.agg #[.int .i64 0, .slice none 0 0], .bool false]) ?_ rfl ?_
          · simp [results, Try.results56, go_sem]
          · exact .zero rfl ((Below.refl _ _).alloc (Nat.le_refl _) _) Hs.out.1 Hs.out.2 Ho.out
        · have ho : okShiftedEven k n m = true := okShiftedEven_yes a1 a2 a3 a4 a5 a6 (by omega)
          have hs := shifted_yes ho
          have Ho := Lib.hid ho
          have Hs := Lib.hid hs
          have hq : ((k == 0) = true ∧ ¬ 0 < m) ∨ (k == 0) = false := by
            by_cases e : k = 0
            · left; exact ⟨by simp [e], by omega⟩
            · right; simpa using e
          clear ho hs h4
          rcases hq with ⟨hq, hm1⟩ | hq
          · have hk1 : k = 0 := by simpa using hq
            have HK := Lib.hid hk1
            have hk2 : ¬ 0 < k := by omega
            clear hk1
            go_enter Try.func56, Try.ntmps56
            go_wp2_with fail
            refine (implWithin _ _ _ _).mono ?_
            rintro e w' ⟨rfl, rfl⟩
            rw [H1.out]
            go_wp2_with fail
            refine (implWithin _ _ _ _).mono ?_
            rintro e w' ⟨rfl, rfl⟩
            rw [H2.out]
            go_wp2_with fail
            refine (implWithin _ _ _ _).mono ?_
            rintro e w' ⟨rfl, rfl⟩
            rw [H3.out]
            go_wp2_with fail
            refine wp_loop_rounds 1 ?_; rw [rounds_succ]
            go_wp2
            refine bodyPost_ret (v := .tuple #[.agg #[.int .i64 n, .slice none 0 0], .bool true]) ?_ rfl ?_
            · simp [results, Try.results56, go_sem]
            · exact .one rfl (Own.nil _ _) rfl (((Below.refl _ _).alloc (Nat.le_refl _) _).alloc (by simp) _) Hs.out.1 (Hs.out.2.trans (by rw [HK.out]; rfl)) Ho.out
          ·
            go_enter Try.func56, Try.ntmps56
            go_wp2_with fail
            refine (implWithin _ _ _ _).mono ?_
            rintro e w' ⟨rfl, rfl⟩
            rw [H1.out]
            go_wp2_with fail
            refine (implWithin _ _ _ _).mono ?_
            rintro e w' ⟨rfl, rfl⟩
            rw [H2.out]
            go_wp2_with fail
            refine (implWithin _ _ _ _).mono ?_
            rintro e w' ⟨rfl, rfl⟩
            rw [H3.out]
            go_wp2_with fail
            go_loopw [9, 38] (fun _ i wr => ∃ j : Nat, (j : Int) ≤ k ∧ i = .int .i64 j ∧ ∃ a' c', Bx wr (w.heap.size + 1) (.int .i64 n) (.slice a' j c') 27 ∧ Own wr (w.heap.size + 2) (.slice a' j c') (evTo k n m j) ∧ Bx wr w.heap.size (.int .i64 0) (.slice none 0 0) 27 ∧ Below w.heap.size w wr) (fun _ i _ => (k - intOf i).toNat)
            case atStart => exact ⟨0, by omega, rfl, none, 0, Bx.newAt _ _ _ _ (by simp), Own.nil _ _, (Bx.new w _ _ _).alloc _, ((Below.refl _ _).alloc (Nat.le_refl _) _).alloc (by simp) _⟩
            case round =>
              obtain ⟨j, hj, rfl, a', c', hbx, hown, hres, hbel⟩ := hrel
              have hsz := hbx.lt
              have HX := Lib.hid hbx
              have HO := Lib.hid hown
              have HR := Lib.hid hres
              have HB := Lib.hid hbel
              have q0 := hbx.c0
              have q1 := hbx.c1
              have f1 := hbx.f 1
              by_cases hlt : (j : Int) < k
              · have hp := ev_prod (n := n) (i := j) (by omega) a2 (by omega)
                have hkz : (k == 0) = false := by simp; omega
                have Hs1 := Lib.hid (evTo_succ k n m j)
                have hbd := evAt_bd (k := k) (n := n) (m := m) (i := j) hlt a4 a5 a6
                have hk0 : ¬ k = 0 := by omega
                have hw3 : IntKind.i64.wrap (((j : Int) * n + m).tdiv k) = evAt k n m j := by
                  rw [Int.tdiv_eq_ediv_of_nonneg (by omega)]
                  exact IntWalk.i64_in _ (show -9223372036854775808 ≤ evAt k n m j ∧ evAt k n m j ≤ 9223372036854775807 by omega)
                have hw1 : IntKind.i64.wrap ((j : Int) * n) = (j : Int) * n := IntWalk.i64_in _ (by omega)
                have hw2 : IntKind.i64.wrap ((j : Int) * n + m) = (j : Int) * n + m := IntWalk.i64_in _ (by omega)
                clear hown hres hbel hbx
                go_wp2_with fail
                go_region_law (refine stepAppInt (wr := wr) rfl _ _ rfl (w.heap.size + 2) a' j c' (evTo k n m j) _ rfl rfl HO.out (evTo_len _ _ _ _) (by omega) (by omega) (.inr ⟨1, rfl⟩) ?_; intro a1 c1 w1 ho1 hb1; have hx1 := HX.out.below hb1 (by omega); have p1 := hx1.c1; have g1 := hx1.f 1)
                all_goals
                  have HX1 : Hid (Bx (w1.setCell ⟨w.heap.size + 1, 1, none⟩ (.slice a1 (j + 1) c1)) (w.heap.size + 1) (.int .i64 n) (.slice a1 (j + 1) c1) 27) := hx1.set1 _
                  have HO1 : Hid (Own (w1.setCell ⟨w.heap.size + 1, 1, none⟩ (.slice a1 (j + 1) c1)) (w.heap.size + 2) (.slice a1 (j + 1) c1) (evTo k n m (j + 1))) := by
                    unfold Hid; rw [Hs1.out]; exact ho1.setc (by simp) _
                  have HR1 : Hid (Bx (w1.setCell ⟨w.heap.size + 1, 1, none⟩ (.slice a1 (j + 1) c1)) w.heap.size (.int .i64 0) (.slice none 0 0) 27) := (HR.out.below hb1 (by omega)).set_other (by simp) _
                  have HB1 : Hid (Below w.heap.size w (w1.setCell ⟨w.heap.size + 1, 1, none⟩ (.slice a1 (j + 1) c1))) := (HB.out.trans (hb1.mono (by omega))).setCell (by simp) _
                  clear ho1 hb1 hx1 p1 g1 hw1 hw2 hw3
                  go_wp2_with fail
                  go_roundw
                  case rel => exact ⟨j + 1, by omega, by go_num, a1, c1, HX1.out, HO1.out, HR1.out, HB1.out⟩
                  case measure => simp [intOf]; omega
              · have e : k = (j : Int) := by omega
                subst e
                have p0 := hres.c0
                have p1 := hres.c1
                have g0 := hres.f 0
                have g1 := hres.f 1
                have hfin := (hres.set0 (.int .i64 n)).set1 (.slice a' j c')
                have r0 := hfin.c0
                have r1 := hfin.c1
                clear hown hres hbel hbx hfin
                go_wp2
                refine bodyPost_ret (v := .tuple #[.agg #[.int .i64 n, .slice a' j c'], .bool true]) ?_ rfl ?_
                · simp [results, Try.results56, go_sem, r0, r1]
                · exact .one rfl (((HO.out.setc (by simp) _).setc (by simp) _).mono (by omega)) (evTo_len _ _ _ _) ((HB.out.setCell (by simp) _).setCell (by simp) _) Hs.out.1 (Hs.out.2.trans (by simp)) Ho.out
      · have ho : okShiftedEven k n m = false := okShiftedEven_no (by omega)
        have H3 := Lib.hid (show (decide (0 ≤ m) && decide (m ≤ n - 1)) = false by simp; omega)
        clear h3
        have hs := shifted_no ho
        have Ho := Lib.hid ho
        have Hs := Lib.hid hs
        clear ho hs
        go_enter Try.func56, Try.ntmps56
        go_wp2_with fail
        refine (implWithin _ _ _ _).mono ?_
        rintro e w' ⟨rfl, rfl⟩
        rw [H1.out]
        go_wp2_with fail
        refine (implWithin _ _ _ _).mono ?_
        rintro e w' ⟨rfl, rfl⟩
        rw [H2.out]
        go_wp2_with fail
        refine (implWithin _ _ _ _).mono ?_
        rintro e w' ⟨rfl, rfl⟩
        rw [H3.out]
        go_wp2
        refine bodyPost_ret (v := .tuple #[.agg #[.int .i64 0, .slice none 0 0], .bool false]) ?_ rfl ?_
        · simp [results, Try.results56, go_sem]
        · exact .zero rfl ((Below.refl _ _).alloc (Nat.le_refl _) _) Hs.out.1 Hs.out.2 Ho.out
    · have ho : okShiftedEven k n m = false := okShiftedEven_no (by omega)
      have H2 := Lib.hid (show (decide (0 ≤ k) && decide (k ≤ n)) = false by simp; omega)
      clear h2
      have hs := shifted_no ho
      have Ho := Lib.hid ho
      have Hs := Lib.hid hs
      clear ho hs
      go_enter Try.func56, Try.ntmps56
      go_wp2_with fail
      refine (implWithin _ _ _ _).mono ?_
      rintro e w' ⟨rfl, rfl⟩
      rw [H1.out]
      go_wp2_with fail
      refine (implWithin _ _ _ _).mono ?_
      rintro e w' ⟨rfl, rfl⟩
      rw [H2.out]
      go_wp2
      refine bodyPost_ret (v := .tuple #[.agg #[.int .i64 0, .slice none 0 0], .bool false]) ?_ rfl ?_
      · simp [results, Try.results56, go_sem]
      · exact .zero rfl ((Below.refl _ _).alloc (Nat.le_refl _) _) Hs.out.1 Hs.out.2 Ho.out
  · have ho : okShiftedEven k n m = false := okShiftedEven_no (by omega)
    have H1 := Lib.hid (show (decide (1 ≤ n) && decide (n ≤ 24)) = false by simp; omega)
    clear h1
    have hs := shifted_no ho
    have Ho := Lib.hid ho
    have Hs := Lib.hid hs
    clear ho hs
    go_enter Try.func56, Try.ntmps56
    go_wp2_with fail
    refine (implWithin _ _ _ _).mono ?_
    rintro e w' ⟨rfl, rfl⟩
    rw [H1.out]
    go_wp2
    refine bodyPost_ret (v := .tuple #[.agg #[.int .i64 0, .slice none 0 0], .bool false]) ?_ rfl ?_
    · simp [results, Try.results56, go_sem]
    · exact .zero rfl ((Below.refl _ _).alloc (Nat.le_refl _) _) Hs.out.1 Hs.out.2 Ho.out
end Go.Proofs.Ythgohmgadcfglaa
