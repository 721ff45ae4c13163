/-
  Contracts of the reference's sorted list of members, of the evenly spread rhythms in the reference and in the program.
  Conditions: lists lie in memory; sizes are small.
-/
import Derived.Test.YtopfenhphnmfkaaE1
import Derived.Test.YtopfenhphnmfkaaM4
import Derived.Test.YtopfenhphnmfkaaQ1
import Derived.Deep.RegionLaw
set_option linter.unusedVariables false
set_option linter.unusedSimpArgs false
namespace Go.Proofs.Ytopfenhphnmfkaa
open Go.RowKit

set_option maxHeartbeats 800000 in
theorem specL02Of (n : Int) (v : Value) (xs : List Int) (w : World) (h0 : 0 ≤ n) (h1 : n ≤ 1048576) (h : Ints w w.heap.size v xs) :
    Calls Try.prog 109 #[.int .i64 n, v] w (RetRhythm w n (ofTo xs n.toNat)) := by
  have hi := h
  obtain ⟨a, cap, rfl, -⟩ := h
  go_enter Try.func109, Try.ntmps109
  go_wp2_with fail
  have hB0 : Below (w.heap.size + 2) ((w.alloc (.cells #[.int .i64 0, .slice none 0 0] 25)).alloc (.cells #[.int .i64 n, .slice none 0 0] 25)) ((w.alloc (.cells #[.int .i64 0, .slice none 0 0] 25)).alloc (.cells #[.int .i64 n, .slice none 0 0] 25)) := Below.refl _ _
  go_loopw [6] (fun i wr => ∃ k : Nat, (k : Int) ≤ n ∧ i = .int .i64 k ∧ ∃ a' m' c', Bx wr (w.heap.size + 1) (.int .i64 n) (.slice a' m' c') 25 ∧ (ofTo xs k).length = m' ∧ Own wr (w.heap.size + 2) (.slice a' m' c') (ofTo xs k) ∧ Bx wr w.heap.size (.int .i64 0) (.slice none 0 0) 25 ∧ Below w.heap.size w wr) (fun i _ => (n - intOf i).toNat)
  case atStart => exact ⟨0, by omega, rfl, none, 0, 0, Bx.newAt _ _ _ _ (by simp), rfl, Own.nil _ _, (Bx.new w _ _ _).alloc _, ((Below.refl _ _).alloc (Nat.le_refl _) _).alloc (by simp) _⟩
  case round =>
    obtain ⟨k, hk, rfl, a', m', c', hbx, hm', hown, hres, hbel⟩ := hrel
    clear hB0
    have hsz := hbx.lt
    have hml := ofTo_len xs k
    by_cases hlt : (k : Int) < n
    · have HH := Lib.hid (Ints.ofBelow hi hbel)
      have HX := Lib.hid hbx
      have HO := Lib.hid hown
      have HR := Lib.hid hres
      have HB := Lib.hid hbel
      have q0 := hbx.c0
      have q1 := hbx.c1
      have f1 := hbx.f 1
      have HM := Lib.hid hm'
      have hm2 : m' ≤ 1048576 := by omega
      cases hh : hasL xs (k : Int) with
      | true =>
        have Hh := Lib.hid hh
        have Hn := Lib.hid (ofTo_yes hh)
        clear hbx hown hres hbel hh hm'
        go_wp2_with (first | (go_at_call 107; refine (specL02Has _ xs _ _ _ HH.out).mono ?_; rintro e w' ⟨rfl, rfl⟩; rw [Hh.out]) | (at_builtin; refine wpAppInt rfl _ _ rfl (w.heap.size + 2) a' m' c' (ofTo xs k) _ rfl rfl HO.out HM.out (by omega) (by omega) ?_; intro a1 c1 w1 ho1 hb1; have hx1 := HX.out.below hb1 (by omega); have p1 := hx1.c1; have g1 := hx1.f 1))
        have HX1 : Hid (Bx (w1.setCell ⟨w.heap.size + 1, 1, none⟩ (.slice a1 (m' + 1) c1)) (w.heap.size + 1) (.int .i64 n) (.slice a1 (m' + 1) c1) 25) := hx1.set1 _
        have HO1 : Hid (Own (w1.setCell ⟨w.heap.size + 1, 1, none⟩ (.slice a1 (m' + 1) c1)) (w.heap.size + 2) (.slice a1 (m' + 1) c1) (ofTo xs (k + 1))) := by
          unfold Hid; rw [Hn.out]; exact ho1.setc (by simp) _
        have HR1 : Hid (Bx (w1.setCell ⟨w.heap.size + 1, 1, none⟩ (.slice a1 (m' + 1) c1)) w.heap.size (.int .i64 0) (.slice none 0 0) 25) := (HR.out.below hb1 (by omega)).set_other (by simp) _
        have HB1 : Hid (Below w.heap.size w (w1.setCell ⟨w.heap.size + 1, 1, none⟩ (.slice a1 (m' + 1) c1))) := (HB.out.trans (hb1.mono (by omega))).setCell (by simp) _
        have HM1 : Hid ((ofTo xs (k + 1)).length = m' + 1) := by unfold Hid; rw [Hn.out, List.length_append, HM.out]; rfl
        clear ho1 hb1 hx1 p1 g1
        go_roundw
        case rel => exact ⟨k + 1, by omega, by go_num, a1, m' + 1, c1, HX1.out, HM1.out, HO1.out, HR1.out, HB1.out⟩
        case measure => simp [intOf]; omega
      | false =>
        have Hh := Lib.hid hh
        have Hn := Lib.hid (ofTo_no hh)
        clear hbx hown hres hbel hh hm'
        go_wp2_with (go_at_call 107; refine (specL02Has _ xs _ _ _ HH.out).mono ?_; rintro e w' ⟨rfl, rfl⟩; rw [Hh.out])
        go_roundw
        case rel => exact ⟨k + 1, by omega, by go_num, a', m', c', HX.out, by rw [Hn.out]; exact HM.out, by rw [Hn.out]; exact HO.out, HR.out, HB.out⟩
        case measure => simp [intOf]; omega
    · have e : n = (k : Int) := by omega
      subst e
      have HX := Lib.hid hbx
      have HO := Lib.hid hown
      have HR := Lib.hid hres
      have HB := Lib.hid hbel
      have q0 := hbx.c0
      have q1 := hbx.c1
      have p0 := hres.c0
      have p1 := hres.c1
      have f0 := hres.f 0
      have f1 := hres.f 1
      have HM := Lib.hid hm'
      clear hbx hown hres hbel hm'
      go_wp2
      have hfin := (HR.out.set0 (.int .i64 (k : Int))).set1 (.slice a' m' c')
      have r0 := hfin.c0
      have r1 := hfin.c1
      refine bodyPost_ret (v := .agg #[.int .i64 (k : Int), .slice a' m' c']) ?_ rfl ?_
      · simp only [results, Try.results109]
        simp [go_sem, r0, r1]
      · have hm := HM.out
        subst hm
        exact ⟨a', c', rfl, ((HO.out.setc (by simp) _).setc (by simp) _).mono (by omega), (HB.out.setCell (by simp) _).setCell (by simp) _⟩


end Go.Proofs.Ytopfenhphnmfkaa
