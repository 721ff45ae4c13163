/-
  The walk of FnExactSplitLines: it returns true and writes nothing that was there.
  Conditions: the arguments lie in memory as the statement's reading says.
-/
import Derived.Test.YtcgpmdfcdngnlaaDoorT6
import Derived.Test.YtcgpmdfcdngnlaaDoorC3
import Derived.Test.YtcgpmdfcdngnlaaDoorB0
set_option linter.unusedVariables false
set_option linter.unusedSimpArgs false
namespace Go.Proofs.YtcgpmdfcdngnlaaDoor.fnExactSplitLines
open Go.RowKit
set_option linter.unusedVariables false

def G (w : World) : Prop := ML w
set_option maxRecDepth 20000 in
set_option maxHeartbeats 1600000 in
theorem walk (w : World) (hG : G w) (a0 : ByteArray) (h0 : a0.size ≤ maxLen) :
    Calls Tryd.prog 4 #[.string a0] w fun e w' => e = .returned (.bool true) ∧ Below w.heap.size w w' := by
  have HM : Hid (ML w) := hG
  clear hG
  go_enter Tryd.func4, Tryd.ntmps4
  by_cases s0 : 1048576 < a0.size
  · go_wp2
    go_ret
    exact ⟨rfl, by repeat (first | (with_reducible exact HB.out) | refine bel_alloc ?_ _ | refine Below.drew ?_ | refine bel_drewN ?_ _ | exact Below.refl _ _)⟩
  go_wp2_with fail
  refine withWorld fun X hX => ?_
  have gB : Below w.heap.size w X := (by rw [hX]; repeat (first | (with_reducible exact (Below.refl _ _)) | (with_reducible refine bel_alloc ?_ _) | (with_reducible refine Below.drew ?_) | (with_reducible refine bel_drewN ?_ _)))
  have gz : w.heap.size + 0 ≤ X.heap.size := (by rw [hX]; simp)
  clear hX 
  refine (specSplitLinesC _ (by omega) _).mono ?_
  rintro e w1 ⟨ax1, kx1, rfl, o1, b1⟩
  have HB := Lib.hid (bel_step gB b1 gB.size)
  have z1 : w.heap.size + 0 ≤ w1.heap.size := Nat.le_trans gz b1.size
  have Sw0 := Lib.hid (SegS.mk' (o1.mono gz))
  clear gB gz   b1 o1 X
  go_wp2_with fail
  refine withWorld fun X hX => ?_
  have gB : Below w.heap.size w X := (by rw [hX]; repeat (first | (with_reducible exact HB.out) | (with_reducible refine bel_alloc ?_ _) | (with_reducible refine Below.drew ?_) | (with_reducible refine bel_drewN ?_ _)))
  have gz : w1.heap.size + 0 ≤ X.heap.size := (by rw [hX]; simp)
  have gSw0 : SegS X (w.heap.size + 0) (w1.heap.size) (.slice ax1 (lstSplitLines a0).length kx1) ((lstSplitLines a0)) := (by rw [hX]; repeat (first | (with_reducible exact Sw0.out) | (with_reducible refine SegS.alloc ?_ _) | (with_reducible refine SegS.drew ?_) | (with_reducible refine SegS.drewN ?_ _)))
  clear hX HB Sw0
  refine (implSplitLinesC _ (by omega) _ (HM.out.below gB)).mono ?_
  rintro e w2 ⟨ax2, kx2, rfl, o2, b2⟩
  have HB := Lib.hid (bel_step gB b2 gB.size)
  have z2 : w1.heap.size + 0 ≤ w2.heap.size := Nat.le_trans gz b2.size
  have Sw0 := Lib.hid (gSw0.after b2)
  have Sg0 := Lib.hid (SegX.mk' (o2.mono gz))
  clear gB gz  gSw0 b2 o2 X
  go_wp2_with fail
  refine withWorld fun X hX => ?_
  have gB : Below w.heap.size w X := (by rw [hX]; repeat (first | (with_reducible exact HB.out) | (with_reducible refine bel_alloc ?_ _) | (with_reducible refine Below.drew ?_) | (with_reducible refine bel_drewN ?_ _)))
  have gz : w2.heap.size + 0 ≤ X.heap.size := (by rw [hX]; simp)
  have gSw0 : SegS X (w.heap.size + 0) (w1.heap.size) (.slice ax1 (lstSplitLines a0).length kx1) ((lstSplitLines a0)) := (by rw [hX]; repeat (first | (with_reducible exact Sw0.out) | (with_reducible refine SegS.alloc ?_ _) | (with_reducible refine SegS.drew ?_) | (with_reducible refine SegS.drewN ?_ _)))
  have gSg0 : SegX X (w1.heap.size + 0) (w2.heap.size) (.slice ax2 (lstSplitLines a0).length kx2) ((lstSplitLines a0)) := (by rw [hX]; repeat (first | (with_reducible exact Sg0.out) | (with_reducible refine SegX.alloc ?_ _) | (with_reducible refine SegX.drew ?_) | (with_reducible refine SegX.drewN ?_ _)))
  clear hX HB Sw0 Sg0
  refine (lawEqStringS' _ _ (lstSplitLines a0) (lstSplitLines a0) _ rfl gSg0.strs gSw0.strs).mono ?_
  rintro e w3 ⟨rfl, b3⟩
  have HB := Lib.hid (bel_step gB b3 gB.size)
  have z3 : w2.heap.size + 0 ≤ w3.heap.size := Nat.le_trans gz b3.size
  have Sw0 := Lib.hid (gSw0.after b3)
  have Sg0 := Lib.hid (gSg0.after b3)
  clear gB gz  gSw0 gSg0 b3 X
  rw [eqS_self]
  go_wp2_with fail
  refine withWorld fun X hX => ?_
  have gB : Below w.heap.size w X := (by rw [hX]; repeat (first | (with_reducible exact HB.out) | (with_reducible refine bel_alloc ?_ _) | (with_reducible refine Below.drew ?_) | (with_reducible refine bel_drewN ?_ _)))
  have gz : w3.heap.size + 0 ≤ X.heap.size := (by rw [hX]; simp)
  have gSw0 : SegS X (w.heap.size + 0) (w1.heap.size) (.slice ax1 (lstSplitLines a0).length kx1) ((lstSplitLines a0)) := (by rw [hX]; repeat (first | (with_reducible exact Sw0.out) | (with_reducible refine SegS.alloc ?_ _) | (with_reducible refine SegS.drew ?_) | (with_reducible refine SegS.drewN ?_ _)))
  have gSg0 : SegX X (w1.heap.size + 0) (w2.heap.size) (.slice ax2 (lstSplitLines a0).length kx2) ((lstSplitLines a0)) := (by rw [hX]; repeat (first | (with_reducible exact Sg0.out) | (with_reducible refine SegX.alloc ?_ _) | (with_reducible refine SegX.drew ?_) | (with_reducible refine SegX.drewN ?_ _)))
  clear hX HB Sw0 Sg0
  refine (lawMarkStringSX _ (lstSplitLines a0) _ _ _ _ (by have := lenSplitLines a0; omega) (by omega) (by omega) (by omega) gSg0).mono ?_
  rintro e w4 ⟨rfl, o4, b4⟩
  have HB := Lib.hid (bel_outside gB b4 (by omega) gB.size)
  have z4 : w3.heap.size + 0 ≤ w4.heap.size := Nat.le_trans gz b4.size
  have Sw0 := Lib.hid (gSw0.outside b4 (by omega))
  have Sg0 := Lib.hid o4
  clear gB gz  gSw0 gSg0 b4 o4 X
  go_wp2_with fail
  refine withWorld fun X hX => ?_
  have gB : Below w.heap.size w X := (by rw [hX]; repeat (first | (with_reducible exact HB.out) | (with_reducible refine bel_alloc ?_ _) | (with_reducible refine Below.drew ?_) | (with_reducible refine bel_drewN ?_ _)))
  have gz : w4.heap.size + 0 ≤ X.heap.size := (by rw [hX]; simp)
  have gSw0 : SegS X (w.heap.size + 0) (w1.heap.size) (.slice ax1 (lstSplitLines a0).length kx1) ((lstSplitLines a0)) := (by rw [hX]; repeat (first | (with_reducible exact Sw0.out) | (with_reducible refine SegS.alloc ?_ _) | (with_reducible refine SegS.drew ?_) | (with_reducible refine SegS.drewN ?_ _)))
  have gSg0 : SegX X (w1.heap.size + 0) (w2.heap.size) (.slice ax2 (lstSplitLines a0).length kx2) (marksS 1 (lstSplitLines a0).length) := (by rw [hX]; repeat (first | (with_reducible exact Sg0.out) | (with_reducible refine SegX.alloc ?_ _) | (with_reducible refine SegX.drew ?_) | (with_reducible refine SegX.drewN ?_ _)))
  clear hX HB Sw0 Sg0
  refine (lawHeldStringS' _ (marksS 1 (lstSplitLines a0).length) (lstSplitLines a0).length _ _ rfl (by have := lenSplitLines a0; omega) (by omega) (by omega) gSg0.strs).mono ?_
  rintro e w5 ⟨rfl, b5⟩
  have HB := Lib.hid (bel_step gB b5 gB.size)
  have z5 : w4.heap.size + 0 ≤ w5.heap.size := Nat.le_trans gz b5.size
  have Sw0 := Lib.hid (gSw0.after b5)
  have Sg0 := Lib.hid (gSg0.after b5)
  clear gB gz  gSw0 gSg0 b5 X
  go_wp2_with fail
  refine withWorld fun X hX => ?_
  have gB : Below w.heap.size w X := (by rw [hX]; repeat (first | (with_reducible exact HB.out) | (with_reducible refine bel_alloc ?_ _) | (with_reducible refine Below.drew ?_) | (with_reducible refine bel_drewN ?_ _)))
  have gz : w5.heap.size + 0 ≤ X.heap.size := (by rw [hX]; simp)
  have gSw0 : SegS X (w.heap.size + 0) (w1.heap.size) (.slice ax1 (lstSplitLines a0).length kx1) ((lstSplitLines a0)) := (by rw [hX]; repeat (first | (with_reducible exact Sw0.out) | (with_reducible refine SegS.alloc ?_ _) | (with_reducible refine SegS.drew ?_) | (with_reducible refine SegS.drewN ?_ _)))
  have gSg0 : SegX X (w1.heap.size + 0) (w2.heap.size) (.slice ax2 (lstSplitLines a0).length kx2) (marksS 1 (lstSplitLines a0).length) := (by rw [hX]; repeat (first | (with_reducible exact Sg0.out) | (with_reducible refine SegX.alloc ?_ _) | (with_reducible refine SegX.drew ?_) | (with_reducible refine SegX.drewN ?_ _)))
  clear hX HB Sw0 Sg0
  refine (implSplitLinesC _ (by omega) _ (HM.out.below gB)).mono ?_
  rintro e w6 ⟨ax6, kx6, rfl, o6, b6⟩
  have HB := Lib.hid (bel_step gB b6 gB.size)
  have z6 : w5.heap.size + 0 ≤ w6.heap.size := Nat.le_trans gz b6.size
  have Sw0 := Lib.hid (gSw0.after b6)
  have Sg0 := Lib.hid (gSg0.after b6)
  have Sh0 := Lib.hid (SegX.mk' (o6.mono gz))
  clear gB gz  gSw0 gSg0 b6 o6 X
  go_wp2_with fail
  refine withWorld fun X hX => ?_
  have gB : Below w.heap.size w X := (by rw [hX]; repeat (first | (with_reducible exact HB.out) | (with_reducible refine bel_alloc ?_ _) | (with_reducible refine Below.drew ?_) | (with_reducible refine bel_drewN ?_ _)))
  have gz : w6.heap.size + 0 ≤ X.heap.size := (by rw [hX]; simp)
  have gSw0 : SegS X (w.heap.size + 0) (w1.heap.size) (.slice ax1 (lstSplitLines a0).length kx1) ((lstSplitLines a0)) := (by rw [hX]; repeat (first | (with_reducible exact Sw0.out) | (with_reducible refine SegS.alloc ?_ _) | (with_reducible refine SegS.drew ?_) | (with_reducible refine SegS.drewN ?_ _)))
  have gSg0 : SegX X (w1.heap.size + 0) (w2.heap.size) (.slice ax2 (lstSplitLines a0).length kx2) (marksS 1 (lstSplitLines a0).length) := (by rw [hX]; repeat (first | (with_reducible exact Sg0.out) | (with_reducible refine SegX.alloc ?_ _) | (with_reducible refine SegX.drew ?_) | (with_reducible refine SegX.drewN ?_ _)))
  have gSh0 : SegX X (w5.heap.size + 0) (w6.heap.size) (.slice ax6 (lstSplitLines a0).length kx6) ((lstSplitLines a0)) := (by rw [hX]; repeat (first | (with_reducible exact Sh0.out) | (with_reducible refine SegX.alloc ?_ _) | (with_reducible refine SegX.drew ?_) | (with_reducible refine SegX.drewN ?_ _)))
  clear hX HB Sw0 Sg0 Sh0
  refine (lawEqStringS' _ _ (lstSplitLines a0) (lstSplitLines a0) _ rfl gSh0.strs gSw0.strs).mono ?_
  rintro e w7 ⟨rfl, b7⟩
  have HB := Lib.hid (bel_step gB b7 gB.size)
  have z7 : w6.heap.size + 0 ≤ w7.heap.size := Nat.le_trans gz b7.size
  have Sw0 := Lib.hid (gSw0.after b7)
  have Sg0 := Lib.hid (gSg0.after b7)
  have Sh0 := Lib.hid (gSh0.after b7)
  clear gB gz  gSw0 gSg0 gSh0 b7 X
  rw [eqS_self]
  go_wp2_with fail
  refine withWorld fun X hX => ?_
  have gB : Below w.heap.size w X := (by rw [hX]; repeat (first | (with_reducible exact HB.out) | (with_reducible refine bel_alloc ?_ _) | (with_reducible refine Below.drew ?_) | (with_reducible refine bel_drewN ?_ _)))
  have gz : w7.heap.size + 0 ≤ X.heap.size := (by rw [hX]; simp)
  have gSw0 : SegS X (w.heap.size + 0) (w1.heap.size) (.slice ax1 (lstSplitLines a0).length kx1) ((lstSplitLines a0)) := (by rw [hX]; repeat (first | (with_reducible exact Sw0.out) | (with_reducible refine SegS.alloc ?_ _) | (with_reducible refine SegS.drew ?_) | (with_reducible refine SegS.drewN ?_ _)))
  have gSg0 : SegX X (w1.heap.size + 0) (w2.heap.size) (.slice ax2 (lstSplitLines a0).length kx2) (marksS 1 (lstSplitLines a0).length) := (by rw [hX]; repeat (first | (with_reducible exact Sg0.out) | (with_reducible refine SegX.alloc ?_ _) | (with_reducible refine SegX.drew ?_) | (with_reducible refine SegX.drewN ?_ _)))
  have gSh0 : SegX X (w5.heap.size + 0) (w6.heap.size) (.slice ax6 (lstSplitLines a0).length kx6) ((lstSplitLines a0)) := (by rw [hX]; repeat (first | (with_reducible exact Sh0.out) | (with_reducible refine SegX.alloc ?_ _) | (with_reducible refine SegX.drew ?_) | (with_reducible refine SegX.drewN ?_ _)))
  clear hX HB Sw0 Sg0 Sh0
  refine (lawHeldStringS' _ (marksS 1 (lstSplitLines a0).length) (lstSplitLines a0).length _ _ rfl (by have := lenSplitLines a0; omega) (by omega) (by omega) gSg0.strs).mono ?_
  rintro e w8 ⟨rfl, b8⟩
  have HB := Lib.hid (bel_step gB b8 gB.size)
  have z8 : w7.heap.size + 0 ≤ w8.heap.size := Nat.le_trans gz b8.size
  have Sw0 := Lib.hid (gSw0.after b8)
  have Sg0 := Lib.hid (gSg0.after b8)
  have Sh0 := Lib.hid (gSh0.after b8)
  clear gB gz  gSw0 gSg0 gSh0 b8 X
  go_wp2
  go_ret
  exact ⟨rfl, by repeat (first | (with_reducible exact HB.out) | refine bel_alloc ?_ _ | refine Below.drew ?_ | refine bel_drewN ?_ _ | exact Below.refl _ _)⟩
end Go.Proofs.YtcgpmdfcdngnlaaDoor.fnExactSplitLines
