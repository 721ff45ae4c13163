/-
  Contract of MakeRhythm: a valid rhythm out of a code.
  Conditions: the code's bytes lie in memory, at most two to the twentieth.
-/
import Derived.Test.YtopfenhphnmfkaaD4
set_option linter.unusedVariables false
set_option linter.unusedSimpArgs false
namespace Go.Proofs.Ytopfenhphnmfkaa
open Go.RowKit

/-- A valid rhythm of the call's own. -/
def RetMade (w : World) (t : Int) (e : Ending) (w' : World) : Prop :=
  ∃ (n : Int) (x : List Int) (a : Option Addr) (c : Nat), e = .returned (.agg #[.int .i64 n, .slice a x.length c]) ∧ n ≤ t ∧ Rok n x ∧ Own w' w.heap.size (.slice a x.length c) x ∧ Below w.heap.size w w'
set_option maxRecDepth 20000 in
set_option maxHeartbeats 400000 in
theorem specMakeRhythm (v : Value) (m : Nat) (n : Nat) (t : Int) (w : World) (hm : m ≤ 1048576) (hn : n ≤ 1000) (ht2 : 2 ≤ t) (ht' : t ≤ 24) (hB : Bytes w w.heap.size v m) :
    Calls Try.prog 10 #[v, .int .i64 (n : Int), .int .i64 t] w (RetMade w t) := by
  have hB0 := hB
  obtain ⟨a, cap, rfl, -⟩ := hB
  have h1 : ¬ 24 < t := by omega
  have h2 : ¬ t ≤ 1 := by omega
  have ht : 1 ≤ t := by omega
  go_enter Try.func10, Try.ntmps10
  go_wp2_with (first
    | (go_at_call 57; refine withWorld fun X hX => ?_; have gB : Below w.heap.size w X := (by rw [hX]; (repeat (first | (with_reducible exact (Below.refl _ _)) | (with_reducible refine bel_alloc ?_ _) | (with_reducible refine Below.drew ?_) | (with_reducible refine bel_drewN ?_ _) | (with_reducible refine Below.setCell ?_ (by simp) _)))); have bx0 : Bx X w.heap.size (.int .i64 0) (.slice none 0 0) 25 := (by rw [hX]; (repeat (first | (with_reducible refine Bx.newAt _ _ _ _ ?_; simp; done) | (with_reducible refine Bx.alloc ?_ _) | (with_reducible refine Bx.drew ?_) | (with_reducible refine Bx.drewN ?_ _)))); have gsz : X.heap.size = w.heap.size + 1 := (by rw [hX]; simp); clear hX; refine (specL31New _ m n _ hm hn ((hB0.below gB).mono (by omega))).mono ?_; rintro e w1 ⟨⟨p, hp0, hp1, rfl, hC1⟩, hb1⟩; have HC1 := Lib.hid hC1; have HB1 := Lib.hid (bel_step gB hb1 gB.size); have HX1 := Lib.hid (bx0.below hb1 bx0.lt); clear hC1 hb1 gB bx0)
    | (go_at_call 56; refine (specL02Draw p _ m t _ hm ht ht' HC1.out (hB0.cur HB1.out (by omega))).mono ?_; rintro e w2 ⟨N, x, a2, c2, rfl, hNt, hR, ho2, hO2⟩; have HB2 := Lib.hid (bel_out HB1.out hO2 (by omega) HB1.out.size); have HX2 := Lib.hid (HX1.out.outside hO2 (by omega)); have HO2 := Lib.hid (ho2.mono (show w.heap.size + 1 ≤ w1.heap.size by omega)); have p0 := HX2.out.c0; have p1 := HX2.out.c1; have f0 := HX2.out.f 0; have f1 := HX2.out.f 1; clear hO2 ho2))
  have hfin := (HX2.out.set0 (.int .i64 N)).set1 (.slice a2 x.length c2)
  have r0 := hfin.c0
  have r1 := hfin.c1
  refine bodyPost_ret (v := .agg #[.int .i64 N, .slice a2 x.length c2]) ?_ rfl ?_
  · simp [results, Try.results10, go_sem, r0, r1]
  · exact ⟨N, x, a2, c2, rfl, hNt, hR, ((HO2.out.setc (by simp) _).setc (by simp) _).mono (by omega), (HB2.out.setCell (by simp) _).setCell (by simp) _⟩
end Go.Proofs.Ytopfenhphnmfkaa
