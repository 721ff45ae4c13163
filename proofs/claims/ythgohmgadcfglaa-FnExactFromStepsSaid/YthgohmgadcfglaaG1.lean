/-
  Contracts of the reference's sorted list of members, of the evenly spread rhythms in the reference and in the program.
  Conditions: lists lie in memory; sizes are small.
-/
import Derived.Test.YthgohmgadcfglaaE1
import Derived.Test.YthgohmgadcfglaaM4
import Derived.Test.YthgohmgadcfglaaQ1
import Derived.Deep.RegionLaw
namespace Go.Proofs.Ythgohmgadcfglaa
open Go.RowKit

set_option maxHeartbeats 800000 in
theorem specL02Of (n : Int) (v : Value) (xs : List Int) (w : World) (h0 : 0 ≤ n) (h1 : n ≤ 1048576) (h : Ints w w.heap.size v xs) :
    Calls Try.prog 74 #[.int .i64 n, v] w (RetRhythm w n (ofTo xs n.toNat)) := by
  have hi := h
  obtain ⟨a, cap, rfl, -⟩ := h
  go_enter Try.func74, Try.ntmps74
  go_wp2_with fail
  have hB0 : Below (w.heap.size + 2) ((w.alloc (.cells #[.int .i64 0, .slice none 0 0] 27)).alloc (.cells #[.int .i64 n, .slice none 0 0] 27)) ((w.alloc (.cells #[.int .i64 0, .slice none 0 0] 27)).alloc (.cells #[.int .i64 n, .slice none 0 0] 27)) := Below.refl _ _
  go_loopw [6] (fun i wr => ∃ k : Nat, (k : Int) ≤ n ∧ i = .int .i64 k ∧ ∃ a' m' c', Bx wr (w.heap.size + 1) (.int .i64 n) (.slice a' m' c') 27 ∧ (ofTo xs k).length = m' ∧ Own wr (w.heap.size + 2) (.slice a' m' c') (ofTo xs k) ∧ Bx wr w.heap.size (.int .i64 0) (.slice none 0 0) 27 ∧ Below w.heap.size w wr) (fun i _ => (n - intOf i).toNat)
  case atStart => exact ⟨0, by omega, rfl, none, 0, 0, Bx.newAt _ _ _ _ (by simp), rfl, Own.nil _ _, (Bx.new w _ _ _).alloc _, ((Below.refl _ _).alloc (Nat.le_refl _) _).alloc (by simp) _⟩
  case round =>
    obtain ⟨k, hk, rfl, a', m', c', hbx, hm', hown, hres, hbel⟩ := hrel
    clear hB0
    have hsz := hbx.lt
    have hml := ofTo_len xs k
    by_cases hlt : (k : Int) < n
    · have HH := Lib.hid (Ints.ofBelow hi hbel)
      have HX := Lib.hid hbx
      have HO := Lib.hid hown
      have HR := Lib.hid hres
      have HB := Lib.hid hbel
      have q0 := hbx.c0
      have q1 := hbx.c1
      have f1 := hbx.f 1
      have HM := Lib.hid hm'
      have hm2 : m' ≤ 1048576 := by omega
      cases hh : hasL xs (k : Int) with
      | true =>
        have Hh := Lib.hid hh
        have Hn := Lib.hid (ofTo_yes hh)
        clear hbx hown hres hbel hh hm'
        go_wp2_with (first | (go_at_call 57; refine (specL02Has _ xs _ _ _ HH.out).mono ?_; rintro e w' ⟨rfl, rfl⟩; rw [Hh.out]) | (at_builtin; refine wpAppInt rfl _ _ rfl (w.heap.size + 2) a' m' c' (ofTo xs k) _ rfl rfl HO.out HM.out (by omega) (by omega) ?_; intro a1 c1 w1 ho1 hb1; have hx1 := HX.out.below hb1 (by omega); have p1 := hx1.c1; have g1 := hx1.f 1))
        have HX1 : Hid (Bx (w1.setCell ⟨w.heap.size + 1, 1, none⟩ (.slice a1 (m' + 1) c1)) (w.heap.size + 1) (.int .i64 n) (.slice a1 (m' + 1) c1) 27) := hx1.set1 _
        have HO1 : Hid (Own (w1.setCell ⟨w.heap.size + 1, 1, none⟩ (.slice a1 (m' + 1) c1)) (w.heap.size + 2) (.slice a1 (m' + 1) c1) (ofTo xs (k + 1))) := by
          unfold Hid; rw [Hn.out]; exact ho1.setc (by simp) _
        have HR1 : Hid (Bx (w1.setCell ⟨w.heap.size + 1, 1, none⟩ (.slice a1 (m' + 1) c1)) w.heap.size (.int .i64 0) (.slice none 0 0) 27) := (HR.out.below hb1 (by omega)).set_other (by simp) _
        have HB1 : Hid (Below w.heap.size w (w1.setCell ⟨w.heap.size + 1, 1, none⟩ (.slice a1 (m' + 1) c1))) := (HB.out.trans (hb1.mono (by omega))).setCell (by simp) _
        have HM1 : Hid ((ofTo xs (k + 1)).length = m' + 1) := by unfold Hid; rw [Hn.out, List.length_append, HM.out]; rfl
        clear ho1 hb1 hx1 p1 g1
        go_roundw
        case rel => exact ⟨k + 1, by omega, by go_num, a1, m' + 1, c1, HX1.out, HM1.out, HO1.out, HR1.out, HB1.out⟩
        case measure => simp [intOf]; omega
      | false =>
        have Hh := Lib.hid hh
        have Hn := Lib.hid (ofTo_no hh)
        clear hbx hown hres hbel hh hm'
        go_wp2_with (go_at_call 57; refine (specL02Has _ xs _ _ _ HH.out).mono ?_; rintro e w' ⟨rfl, rfl⟩; rw [Hh.out])
        go_roundw
        case rel => exact ⟨k + 1, by omega, by go_num, a', m', c', HX.out, by rw [Hn.out]; exact HM.out, by rw [Hn.out]; exact HO.out, HR.out, HB.out⟩
        case measure => simp [intOf]; omega
    · have e : n = (k : Int) := by omega
      subst e
      have HX := Lib.hid hbx
      have HO := Lib.hid hown
      have HR := Lib.hid hres
      have HB := Lib.hid hbel
      have q0 := hbx.c0
      have q1 := hbx.c1
      have p0 := hres.c0
      have p1 := hres.c1
      have f0 := hres.f 0
      have f1 := hres.f 1
      have HM := Lib.hid hm'
      clear hbx hown hres hbel hm'
      go_wp2
      have hfin := (HR.out.set0 (.int .i64 (k : Int))).set1 (.slice a' m' c')
      have r0 := hfin.c0
      have r1 := hfin.c1
      refine bodyPost_ret (v := .agg #[.int .i64 (k : Int), .slice a' m' c']) ?_ rfl ?_
      · simp only [results, Try.results74]
        simp [go_sem, r0, r1]
      · have hm := HM.out
        subst hm
        exact ⟨a', c', rfl, ((HO.out.setc (by simp) _).setc (by simp) _).mono (by omega), (HB.out.setCell (by simp) _).setCell (by simp) _⟩

def l06ok (k n : Int) : Bool := decide (1 ≤ n) && decide (n ≤ 24) && (decide (0 ≤ k) && decide (k ≤ n))
theorem specL06Ok (k n : Int) (w : World) :
    Calls Try.prog 54 #[.int .i64 k, .int .i64 n] w fun e w' => e = .returned (.bool (l06ok k n)) ∧ w = w' := by
  cases h1 : (decide (1 ≤ n) && decide (n ≤ 24)) with
  | false =>
    have H1 := Lib.hid h1
    have Hf := Lib.hid (show l06ok k n = false by unfold l06ok; rw [h1]; rfl)
    clear h1
    go_enter Try.func54, Try.ntmps54
    go_wp2_with (go_at_call 66; refine (specL01In _ _ _ _).mono ?_; rintro e w' ⟨rfl, rfl⟩; rw [H1.out])
    go_ret
    exact ⟨ret_bool Hf.out.symm, rfl⟩
  | true =>
    have H1 := Lib.hid h1
    have Hf := Lib.hid (show l06ok k n = (decide (0 ≤ k) && decide (k ≤ n)) by unfold l06ok; rw [h1]; rfl)
    clear h1
    go_enter Try.func54, Try.ntmps54
    go_wp2_with fail
    refine (specL01In _ _ _ _).mono ?_
    rintro e w' ⟨rfl, rfl⟩
    rw [H1.out]
    go_wp2_with fail
    refine (specL01In _ _ _ _).mono ?_
    rintro e w' ⟨rfl, rfl⟩
    go_wp2
    go_ret
    exact ⟨ret_bool Hf.out.symm, rfl⟩

theorem Own.lit0g (w : World) {B : Nat} (hB : B ≤ w.heap.size) : Own (w.alloc (.cells #[] 3)) B (.slice (some ⟨w.heap.size, 0, none⟩) 0 0) [] :=
  World.ownsRow_lit (e := 3) (size := 1) w #[] 0 hB (Nat.zero_le _) rfl

set_option maxHeartbeats 800000 in
theorem specL06Even (k n m : Int) (w : World) (hn : n ≤ 24) (hk : 0 ≤ k) (hkn : k ≤ n) (hm : 0 ≤ m) (hmn : m < n) :
    Calls Try.prog 55 #[.int .i64 k, .int .i64 n, .int .i64 m] w (RetRhythm w n (evTo k n m k.toNat)) := by
  go_enter Try.func55, Try.ntmps55
  go_wp2_with fail
  have h0 : Own ((w.alloc (.cells #[.int .i64 0, .slice none 0 0] 27)).alloc (.cells #[] 3)) (w.heap.size + 1) (.slice (some ⟨w.heap.size + 1, 0, none⟩) 0 0) [] := by
    have := Own.lit0g (w.alloc (.cells #[.int .i64 0, .slice none 0 0] 27)) (B := w.heap.size + 1) (by simp)
    simpa using this
  go_loopw [7, 8] (fun u i wr => ∃ j : Nat, (j : Int) ≤ k ∧ i = .int .i64 j ∧ (∃ a' c', u = .slice a' j c' ∧ Own wr (w.heap.size + 1) (.slice a' j c') (evTo k n m j)) ∧ Bx wr w.heap.size (.int .i64 0) (.slice none 0 0) 27 ∧ Below w.heap.size w wr) (fun _ i _ => (k - intOf i).toNat)
  case atStart => exact ⟨0, by omega, rfl, ⟨_, 0, rfl, h0⟩, (Bx.new w _ _ _).alloc _, ((Below.refl _ _).alloc (Nat.le_refl _) _).alloc (by simp) _⟩
  case round =>
    obtain ⟨j, hj, rfl, ⟨a', c', rfl, hown⟩, hres, hbel⟩ := hrel
    clear h0
    have hsz := hres.lt
    have HO := Lib.hid hown
    have HR := Lib.hid hres
    have HB := Lib.hid hbel
    by_cases hlt : (j : Int) < k
    · have hp := ev_prod (n := n) (i := j) (by omega) hn (by omega)
      have hkz : (k == 0) = false := by simp; omega
      have Hs := Lib.hid (evTo_succ k n m j)
      have Hbd := evAt_bd (k := k) (n := n) (m := m) (i := j) hlt hkn hm hmn
      have He : Hid (evAt k n m j = ((j : Int) * n + m) / k) := rfl
      clear hown hres hbel
      go_wp2_with (at_builtin; refine wpAppInt rfl _ _ rfl (w.heap.size + 1) a' j c' (evTo k n m j) _ rfl rfl HO.out (evTo_len _ _ _ _) (by omega) (by omega) ?_; intro a1 c1 w1 ho1 hb1)
      have ho2 := ho1
      rw [← He.out, ← Hs.out] at ho2
      have HO1 := Lib.hid ho2
      have HR1 := Lib.hid (HR.out.below hb1 (by omega))
      have HB1 := Lib.hid (HB.out.trans (hb1.mono (by omega)))
      clear ho1 ho2 hb1
      go_roundw
      case rel => exact ⟨j + 1, by omega, by go_num, ⟨a1, c1, rfl, HO1.out⟩, HR1.out, HB1.out⟩
      case measure => simp [intOf]; omega
    · have e : k = (j : Int) := by omega
      subst e
      have Hof := Lib.hid (evTo_of (k := (j : Int)) (n := n) (m := m) (by omega) hkn hm hmn)
      clear hown hres hbel
      go_wp2_with fail
      refine (specL02Of _ _ (evTo j n m j) _ (by omega) (by omega) ?c1).mono ?_
      case c1 => have := HO.out.ints; exact this
      rintro e w1 ⟨a1, c1, rfl, ho1, hb1⟩
      have hx := HR.out.below hb1 hsz
      have p0 := hx.c0
      have p1 := hx.c1
      have f0 := hx.f 0
      have f1 := hx.f 1
      have hfin := (hx.set0 (.int .i64 n)).set1 (.slice a1 (ofTo (evTo j n m j) n.toNat).length c1)
      have r0 := hfin.c0
      have r1 := hfin.c1
      have HO1 := Lib.hid ho1
      have HB1 := Lib.hid (bel_step HB.out hb1 (by omega))
      clear ho1 hb1 hx hfin
      go_wp2
      refine bodyPost_ret (v := .agg #[.int .i64 n, .slice a1 (ofTo (evTo j n m j) n.toNat).length c1]) ?_ rfl ?_
      · simp [results, Try.results55, go_sem, r0, r1]
      · have hof := Hof.out
        rw [Int.toNat_natCast] at hof ⊢
        have hO := HO1.out
        rw [hof] at hO ⊢
        exact ⟨a1, c1, rfl, ((hO.setc (by simp; omega) _).setc (by simp; omega) _).mono (by omega), (HB1.out.setCell (by simp) _).setCell (by simp) _⟩
end Go.Proofs.Ythgohmgadcfglaa
