/-
  The walk of FnExactJoin: it returns true and writes nothing that was there.
  Conditions: the arguments lie in memory as the statement's reading says.
-/
import Derived.Test.YtcgpmdfcdngnlaaZ4
import Derived.Test.YtcgpmdfcdngnlaaZ6
import Derived.Test.YtcgpmdfcdngnlaaC3
import Derived.Test.YtcgpmdfcdngnlaaB0
set_option linter.unusedVariables false
set_option linter.unusedSimpArgs false
namespace Go.Proofs.Ytcgpmdfcdngnlaa.fnExactJoin
open Go.RowKit
set_option linter.unusedVariables false


theorem walk (w : World) (v0 : Value) (z0 : List ByteArray) (h0 : Strs w w.heap.size v0 z0) (b0 : ∀ n ∈ z0, n.size ≤ maxLen) (a1 : ByteArray) (h1 : a1.size ≤ maxLen) :
    Calls Try.prog 4 #[v0, .string a1] w fun e w' => e = .returned (.bool true) ∧ Below w.heap.size w w' := by
  have h0' := h0
  obtain ⟨ad0, cap0, hv0, -⟩ := h0'
  subst hv0
  go_enter Try.func4, Try.ntmps4
  by_cases s1 : 1048576 < a1.size
  · go_wp2
    go_ret
    exact ⟨rfl, by repeat (first | (with_reducible exact HB.out) | refine bel_alloc ?_ _ | refine Below.drew ?_ | refine bel_drewN ?_ _ | exact Below.refl _ _)⟩
  go_wp2_with fail
  refine withWorld fun X hX => ?_
  have gB : Below w.heap.size w X := (by rw [hX]; repeat (first | (with_reducible exact (Below.refl _ _)) | (with_reducible refine bel_alloc ?_ _) | (with_reducible refine Below.drew ?_) | (with_reducible refine bel_drewN ?_ _)))
  have gz : w.heap.size + 0 ≤ X.heap.size := (by rw [hX]; simp)
  clear hX 
  refine (lawSzStringS' _ z0 1048576 _ (by omega) (by omega) b0 (Strs.ofBelow h0 gB)).mono ?_
  rintro e w1 ⟨rfl, b1⟩
  have HB := Lib.hid (bel_step gB b1 gB.size)
  have z1 : w.heap.size + 0 ≤ w1.heap.size := Nat.le_trans gz b1.size
  clear gB gz   b1 X
  rcases szS_sum (left := 1048576) (xs := z0) (by omega) with s0 | ⟨s0, l0⟩
  · go_wp2
    go_ret
    exact ⟨rfl, by repeat (first | (with_reducible exact HB.out) | refine bel_alloc ?_ _ | refine Below.drew ?_ | refine bel_drewN ?_ _ | exact Below.refl _ _)⟩
  have m0 : (szS 1048576 z0) ≤ 1048576 := szS_le (by omega) (by omega)
  go_wp2_with fail
  refine withWorld fun X hX => ?_
  have gB : Below w.heap.size w X := (by rw [hX]; repeat (first | (with_reducible exact HB.out) | (with_reducible refine bel_alloc ?_ _) | (with_reducible refine Below.drew ?_) | (with_reducible refine bel_drewN ?_ _)))
  have gz : w1.heap.size + 0 ≤ X.heap.size := (by rw [hX]; simp)
  clear hX HB
  refine (lawToStringS _ z0 _ (by omega) (Strs.ofBelow h0 gB)).mono ?_
  rintro e w2 ⟨ax2, kx2, rfl, o2, b2⟩
  have HB := Lib.hid (bel_step gB b2 gB.size)
  have z2 : w1.heap.size + 0 ≤ w2.heap.size := Nat.le_trans gz b2.size
  have T0 := Lib.hid (SegS.mk' (o2.mono gz))
  clear gB gz   b2 o2 X
  go_wp2_with fail
  refine withWorld fun X hX => ?_
  have gB : Below w.heap.size w X := (by rw [hX]; repeat (first | (with_reducible exact HB.out) | (with_reducible refine bel_alloc ?_ _) | (with_reducible refine Below.drew ?_) | (with_reducible refine bel_drewN ?_ _)))
  have gz : w2.heap.size + 0 ≤ X.heap.size := (by rw [hX]; simp)
  have gT0 : SegS X (w1.heap.size + 0) (w2.heap.size) (.slice ax2 z0.length kx2) (z0) := (by rw [hX]; repeat (first | (with_reducible exact T0.out) | (with_reducible refine SegS.alloc ?_ _) | (with_reducible refine SegS.drew ?_) | (with_reducible refine SegS.drewN ?_ _)))
  clear hX HB T0
  refine (specJoinC _ z0 (by omega) (fun _ hq => by have := mem_sumS hq; omega) _ (by omega) _ gT0.strs).mono ?_
  rintro e w3 ⟨rfl, b3⟩
  have HB := Lib.hid (bel_step gB b3 gB.size)
  have z3 : w2.heap.size + 0 ≤ w3.heap.size := Nat.le_trans gz b3.size
  have T0 := Lib.hid (gT0.after b3)
  clear gB gz  gT0 b3 X
  clear T0
  go_wp2_with fail
  refine withWorld fun X hX => ?_
  have gB : Below w.heap.size w X := (by rw [hX]; repeat (first | (with_reducible exact HB.out) | (with_reducible refine bel_alloc ?_ _) | (with_reducible refine Below.drew ?_) | (with_reducible refine bel_drewN ?_ _)))
  have gz : w3.heap.size + 0 ≤ X.heap.size := (by rw [hX]; simp)
  clear hX HB
  refine (lawToStringS _ z0 _ (by omega) (Strs.ofBelow h0 gB)).mono ?_
  rintro e w4 ⟨ax4, kx4, rfl, o4, b4⟩
  have HB := Lib.hid (bel_step gB b4 gB.size)
  have z4 : w3.heap.size + 0 ≤ w4.heap.size := Nat.le_trans gz b4.size
  have Sx0 := Lib.hid (SegS.mk' (o4.mono gz))
  clear gB gz   b4 o4 X
  go_wp2_with fail
  refine withWorld fun X hX => ?_
  have gB : Below w.heap.size w X := (by rw [hX]; repeat (first | (with_reducible exact HB.out) | (with_reducible refine bel_alloc ?_ _) | (with_reducible refine Below.drew ?_) | (with_reducible refine bel_drewN ?_ _)))
  have gz : w4.heap.size + 0 ≤ X.heap.size := (by rw [hX]; simp)
  have gSx0 : SegS X (w3.heap.size + 0) (w4.heap.size) (.slice ax4 z0.length kx4) (z0) := (by rw [hX]; repeat (first | (with_reducible exact Sx0.out) | (with_reducible refine SegS.alloc ?_ _) | (with_reducible refine SegS.drew ?_) | (with_reducible refine SegS.drewN ?_ _)))
  clear hX HB Sx0
  refine (implJoinC _ z0 (by omega) (fun _ hq => by have := mem_sumS hq; omega) _ (by omega) _ gSx0.strs).mono ?_
  rintro e w5 ⟨rfl, b5⟩
  have HB := Lib.hid (bel_step gB b5 gB.size)
  have z5 : w4.heap.size + 0 ≤ w5.heap.size := Nat.le_trans gz b5.size
  have Sx0 := Lib.hid (gSx0.after b5)
  clear gB gz  gSx0 b5 X
  go_wp2_with fail
  refine withWorld fun X hX => ?_
  have gB : Below w.heap.size w X := (by rw [hX]; repeat (first | (with_reducible exact HB.out) | (with_reducible refine bel_alloc ?_ _) | (with_reducible refine Below.drew ?_) | (with_reducible refine bel_drewN ?_ _)))
  have gz : w5.heap.size + 0 ≤ X.heap.size := (by rw [hX]; simp)
  have gSx0 : SegS X (w3.heap.size + 0) (w4.heap.size) (.slice ax4 z0.length kx4) (z0) := (by rw [hX]; repeat (first | (with_reducible exact Sx0.out) | (with_reducible refine SegS.alloc ?_ _) | (with_reducible refine SegS.drew ?_) | (with_reducible refine SegS.drewN ?_ _)))
  clear hX HB Sx0
  refine (lawToStringS _ z0 _ (by omega) (Strs.ofBelow h0 gB)).mono ?_
  rintro e w6 ⟨ax6, kx6, rfl, o6, b6⟩
  have HB := Lib.hid (bel_step gB b6 gB.size)
  have z6 : w5.heap.size + 0 ≤ w6.heap.size := Nat.le_trans gz b6.size
  have Sx0 := Lib.hid (gSx0.after b6)
  have T1 := Lib.hid (SegS.mk' (o6.mono gz))
  clear gB gz  gSx0 b6 o6 X
  go_wp2_with fail
  refine withWorld fun X hX => ?_
  have gB : Below w.heap.size w X := (by rw [hX]; repeat (first | (with_reducible exact HB.out) | (with_reducible refine bel_alloc ?_ _) | (with_reducible refine Below.drew ?_) | (with_reducible refine bel_drewN ?_ _)))
  have gz : w6.heap.size + 0 ≤ X.heap.size := (by rw [hX]; simp)
  have gSx0 : SegS X (w3.heap.size + 0) (w4.heap.size) (.slice ax4 z0.length kx4) (z0) := (by rw [hX]; repeat (first | (with_reducible exact Sx0.out) | (with_reducible refine SegS.alloc ?_ _) | (with_reducible refine SegS.drew ?_) | (with_reducible refine SegS.drewN ?_ _)))
  have gT1 : SegS X (w5.heap.size + 0) (w6.heap.size) (.slice ax6 z0.length kx6) (z0) := (by rw [hX]; repeat (first | (with_reducible exact T1.out) | (with_reducible refine SegS.alloc ?_ _) | (with_reducible refine SegS.drew ?_) | (with_reducible refine SegS.drewN ?_ _)))
  clear hX HB Sx0 T1
  refine (lawEqStringS' _ _ z0 z0 _ rfl gSx0.strs gT1.strs).mono ?_
  rintro e w7 ⟨rfl, b7⟩
  have HB := Lib.hid (bel_step gB b7 gB.size)
  have z7 : w6.heap.size + 0 ≤ w7.heap.size := Nat.le_trans gz b7.size
  have Sx0 := Lib.hid (gSx0.after b7)
  have T1 := Lib.hid (gT1.after b7)
  clear gB gz  gSx0 gT1 b7 X
  rw [eqS_self]
  clear T1
  go_wp2
  go_ret
  exact ⟨rfl, by repeat (first | (with_reducible exact HB.out) | refine bel_alloc ?_ _ | refine Below.drew ?_ | refine bel_drewN ?_ _ | exact Below.refl _ _)⟩
end Go.Proofs.Ytcgpmdfcdngnlaa.fnExactJoin
