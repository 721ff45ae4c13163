/-
  The walk of FnExactFromSteps: it returns true and writes nothing that was there.
  Conditions: the arguments lie in memory as the statement's reading says.
-/
import Derived.Test.YtoedmdefjibaoaaF8
import Derived.Test.YtoedmdefjibaoaaC3
import Derived.Test.YtoedmdefjibaoaaB0
set_option linter.unusedVariables false
set_option linter.unusedSimpArgs false
namespace Go.Proofs.Ytoedmdefjibaoaa.fnExactFromSteps
open Go.RowKit
set_option linter.unusedVariables false


theorem walk (w : World) (v0 : Value) (x0 : List Int) (h0 : Ints w w.heap.size v0 x0) (b0 : ∀ n ∈ x0, I64 n) (a1 : Int) (h1 : I64 a1) :
    Calls Try.prog 3 #[v0, .int .i64 a1] w fun e w' => e = .returned (.bool true) ∧ Below w.heap.size w w' := by
  have h0' := h0
  obtain ⟨ad0, cap0, hv0, -⟩ := h0'
  subst hv0
  go_enter Try.func3, Try.ntmps3
  by_cases s0 : 1048576 < x0.length
  · go_wp2
    go_ret
    exact ⟨rfl, by repeat (first | (with_reducible exact HB.out) | refine bel_alloc ?_ _ | refine Below.drew ?_ | refine bel_drewN ?_ _ | exact Below.refl _ _)⟩
  go_wp2_with fail
  refine withWorld fun X hX => ?_
  have gB : Below w.heap.size w X := (by rw [hX]; repeat (first | (with_reducible exact (Below.refl _ _)) | (with_reducible refine bel_alloc ?_ _) | (with_reducible refine Below.drew ?_) | (with_reducible refine bel_drewN ?_ _)))
  have gz : w.heap.size + 0 ≤ X.heap.size := (by rw [hX]; simp)
  clear hX 
  refine (lawToIntS _ x0 _ (by omega) (Ints.ofBelow h0 gB)).mono ?_
  rintro e w1 ⟨ax1, kx1, rfl, o1, b1⟩
  have HB := Lib.hid (bel_step gB b1 gB.size)
  have z1 : w.heap.size + 0 ≤ w1.heap.size := Nat.le_trans gz b1.size
  have T0 := Lib.hid (Seg.mk' (o1.mono gz))
  clear gB gz   b1 o1 X
  go_wp2_with fail
  refine withWorld fun X hX => ?_
  have gB : Below w.heap.size w X := (by rw [hX]; repeat (first | (with_reducible exact HB.out) | (with_reducible refine bel_alloc ?_ _) | (with_reducible refine Below.drew ?_) | (with_reducible refine bel_drewN ?_ _)))
  have gz : w1.heap.size + 0 ≤ X.heap.size := (by rw [hX]; simp)
  have gT0 : Seg X (w.heap.size + 0) (w1.heap.size) (.slice ax1 x0.length kx1) (x0) := (by rw [hX]; repeat (first | (with_reducible exact T0.out) | (with_reducible refine Seg.alloc ?_ _) | (with_reducible refine Seg.drew ?_) | (with_reducible refine Seg.drewN ?_ _)))
  clear hX HB T0
  refine (specFromStepsC _ x0 b0 _ h1 _ gT0.ints).mono ?_
  rintro e w2 ⟨ax2, kx2, rfl, o2, b2⟩
  have HB := Lib.hid (bel_step gB b2 gB.size)
  have z2 : w1.heap.size + 0 ≤ w2.heap.size := Nat.le_trans gz b2.size
  have T0 := Lib.hid (gT0.after b2)
  have Sw0 := Lib.hid (Seg.mk' (o2.mono gz))
  clear gB gz  gT0 b2 o2 X
  clear T0
  go_wp2_with fail
  refine withWorld fun X hX => ?_
  have gB : Below w.heap.size w X := (by rw [hX]; repeat (first | (with_reducible exact HB.out) | (with_reducible refine bel_alloc ?_ _) | (with_reducible refine Below.drew ?_) | (with_reducible refine bel_drewN ?_ _)))
  have gz : w2.heap.size + 1 ≤ X.heap.size := (by rw [hX]; simp)
  have gCw00 : X.cell? ⟨w2.heap.size, 0, none⟩ = some (.int .i64 (numFromSteps x0 a1)) := (by rw [hX]; (repeat (first | (with_reducible refine cellDrew ?_) | (with_reducible refine cellDrewN ?_))); exact cellNewAt _ _ _ _ (by simp) rfl)
  have gCw01 : X.cell? ⟨w2.heap.size, 1, none⟩ = some (.slice ax2 (lstFromSteps x0 a1).length kx2) := (by rw [hX]; (repeat (first | (with_reducible refine cellDrew ?_) | (with_reducible refine cellDrewN ?_))); exact cellNewAt _ _ _ _ (by simp) rfl)
  have gSw0 : Seg X (w1.heap.size + 0) (w2.heap.size) (.slice ax2 (lstFromSteps x0 a1).length kx2) ((lstFromSteps x0 a1)) := (by rw [hX]; repeat (first | (with_reducible exact Sw0.out) | (with_reducible refine Seg.alloc ?_ _) | (with_reducible refine Seg.drew ?_) | (with_reducible refine Seg.drewN ?_ _)))
  clear hX HB Sw0
  refine (lawToIntS _ x0 _ (by omega) (Ints.ofBelow h0 gB)).mono ?_
  rintro e w3 ⟨ax3, kx3, rfl, o3, b3⟩
  have HB := Lib.hid (bel_step gB b3 gB.size)
  have z3 : w2.heap.size + 1 ≤ w3.heap.size := Nat.le_trans gz b3.size
  have Cw00 := cellAfter b3 gCw00
  have Cw01 := cellAfter b3 gCw01
  have Sw0 := Lib.hid (gSw0.after b3)
  have Sx0 := Lib.hid (Seg.mk' (o3.mono gz))
  clear gB gz gCw00 gCw01 gSw0 b3 o3 X
  have yCw00 : w2.heap.size < w3.heap.size := World.block_lt_of_cell? _ _ Cw00
  go_wp2_with fail
  refine withWorld fun X hX => ?_
  have gB : Below w.heap.size w X := (by rw [hX]; repeat (first | (with_reducible exact HB.out) | (with_reducible refine bel_alloc ?_ _) | (with_reducible refine Below.drew ?_) | (with_reducible refine bel_drewN ?_ _)))
  have gz : w3.heap.size + 0 ≤ X.heap.size := (by rw [hX]; simp)
  have gCw00 : X.cell? ⟨w2.heap.size, 0, none⟩ = some (.int .i64 (numFromSteps x0 a1)) := (by rw [hX]; repeat (first | (with_reducible exact Cw00) | (with_reducible refine cellAlloc _ ?_) | (with_reducible refine cellDrew ?_) | (with_reducible refine cellDrewN ?_)))
  have gCw01 : X.cell? ⟨w2.heap.size, 1, none⟩ = some (.slice ax2 (lstFromSteps x0 a1).length kx2) := (by rw [hX]; repeat (first | (with_reducible exact Cw01) | (with_reducible refine cellAlloc _ ?_) | (with_reducible refine cellDrew ?_) | (with_reducible refine cellDrewN ?_)))
  have gSw0 : Seg X (w1.heap.size + 0) (w2.heap.size) (.slice ax2 (lstFromSteps x0 a1).length kx2) ((lstFromSteps x0 a1)) := (by rw [hX]; repeat (first | (with_reducible exact Sw0.out) | (with_reducible refine Seg.alloc ?_ _) | (with_reducible refine Seg.drew ?_) | (with_reducible refine Seg.drewN ?_ _)))
  have gSx0 : Seg X (w2.heap.size + 1) (w3.heap.size) (.slice ax3 x0.length kx3) (x0) := (by rw [hX]; repeat (first | (with_reducible exact Sx0.out) | (with_reducible refine Seg.alloc ?_ _) | (with_reducible refine Seg.drew ?_) | (with_reducible refine Seg.drewN ?_ _)))
  clear hX HB Cw00 Cw01 Sw0 Sx0 yCw00
  refine (implFromStepsC _ x0 b0 _ h1 _ gSx0.ints).mono ?_
  rintro e w4 ⟨ax4, kx4, rfl, o4, b4⟩
  have HB := Lib.hid (bel_step gB b4 gB.size)
  have z4 : w3.heap.size + 0 ≤ w4.heap.size := Nat.le_trans gz b4.size
  have Cw00 := cellAfter b4 gCw00
  have Cw01 := cellAfter b4 gCw01
  have Sw0 := Lib.hid (gSw0.after b4)
  have Sx0 := Lib.hid (gSx0.after b4)
  have Sg0 := Lib.hid (Seg.mk' (o4.mono gz))
  clear gB gz gCw00 gCw01 gSw0 gSx0 b4 o4 X
  have yCw00 : w2.heap.size < w4.heap.size := World.block_lt_of_cell? _ _ Cw00
  go_wp2_with fail
  refine withWorld fun X hX => ?_
  have gB : Below w.heap.size w X := (by rw [hX]; repeat (first | (with_reducible exact HB.out) | (with_reducible refine bel_alloc ?_ _) | (with_reducible refine Below.drew ?_) | (with_reducible refine bel_drewN ?_ _)))
  have gz : w4.heap.size + 1 ≤ X.heap.size := (by rw [hX]; simp)
  have gCw00 : X.cell? ⟨w2.heap.size, 0, none⟩ = some (.int .i64 (numFromSteps x0 a1)) := (by rw [hX]; repeat (first | (with_reducible exact Cw00) | (with_reducible refine cellAlloc _ ?_) | (with_reducible refine cellDrew ?_) | (with_reducible refine cellDrewN ?_)))
  have gCw01 : X.cell? ⟨w2.heap.size, 1, none⟩ = some (.slice ax2 (lstFromSteps x0 a1).length kx2) := (by rw [hX]; repeat (first | (with_reducible exact Cw01) | (with_reducible refine cellAlloc _ ?_) | (with_reducible refine cellDrew ?_) | (with_reducible refine cellDrewN ?_)))
  have gCg00 : X.cell? ⟨w4.heap.size, 0, none⟩ = some (.int .i64 (numFromSteps x0 a1)) := (by rw [hX]; (repeat (first | (with_reducible refine cellDrew ?_) | (with_reducible refine cellDrewN ?_))); exact cellNewAt _ _ _ _ (by simp) rfl)
  have gCg01 : X.cell? ⟨w4.heap.size, 1, none⟩ = some (.slice ax4 (lstFromSteps x0 a1).length kx4) := (by rw [hX]; (repeat (first | (with_reducible refine cellDrew ?_) | (with_reducible refine cellDrewN ?_))); exact cellNewAt _ _ _ _ (by simp) rfl)
  have gSw0 : Seg X (w1.heap.size + 0) (w2.heap.size) (.slice ax2 (lstFromSteps x0 a1).length kx2) ((lstFromSteps x0 a1)) := (by rw [hX]; repeat (first | (with_reducible exact Sw0.out) | (with_reducible refine Seg.alloc ?_ _) | (with_reducible refine Seg.drew ?_) | (with_reducible refine Seg.drewN ?_ _)))
  have gSx0 : Seg X (w2.heap.size + 1) (w3.heap.size) (.slice ax3 x0.length kx3) (x0) := (by rw [hX]; repeat (first | (with_reducible exact Sx0.out) | (with_reducible refine Seg.alloc ?_ _) | (with_reducible refine Seg.drew ?_) | (with_reducible refine Seg.drewN ?_ _)))
  have gSg0 : Seg X (w3.heap.size + 0) (w4.heap.size) (.slice ax4 (lstFromSteps x0 a1).length kx4) ((lstFromSteps x0 a1)) := (by rw [hX]; repeat (first | (with_reducible exact Sg0.out) | (with_reducible refine Seg.alloc ?_ _) | (with_reducible refine Seg.drew ?_) | (with_reducible refine Seg.drewN ?_ _)))
  clear hX HB Cw00 Cw01 Sw0 Sx0 Sg0 yCw00
  refine (lawEqRhythm _ _ _ _ (lstFromSteps x0 a1) (lstFromSteps x0 a1) _ gSg0.ints gSw0.ints).mono ?_
  rintro e w5 ⟨rfl, b5⟩
  have HB := Lib.hid (bel_step gB b5 gB.size)
  have z5 : w4.heap.size + 1 ≤ w5.heap.size := Nat.le_trans gz b5.size
  have Cw00 := cellAfter b5 gCw00
  have Cw01 := cellAfter b5 gCw01
  have Cg00 := cellAfter b5 gCg00
  have Cg01 := cellAfter b5 gCg01
  have Sw0 := Lib.hid (gSw0.after b5)
  have Sx0 := Lib.hid (gSx0.after b5)
  have Sg0 := Lib.hid (gSg0.after b5)
  clear gB gz gCw00 gCw01 gCg00 gCg01 gSw0 gSx0 gSg0 b5 X
  have yCw00 : w2.heap.size < w5.heap.size := World.block_lt_of_cell? _ _ Cw00
  have yCg00 : w4.heap.size < w5.heap.size := World.block_lt_of_cell? _ _ Cg00
  rw [eqR_self]
  go_wp2_with fail
  refine withWorld fun X hX => ?_
  have gB : Below w.heap.size w X := (by rw [hX]; repeat (first | (with_reducible exact HB.out) | (with_reducible refine bel_alloc ?_ _) | (with_reducible refine Below.drew ?_) | (with_reducible refine bel_drewN ?_ _)))
  have gz : w5.heap.size + 0 ≤ X.heap.size := (by rw [hX]; simp)
  have gCw00 : X.cell? ⟨w2.heap.size, 0, none⟩ = some (.int .i64 (numFromSteps x0 a1)) := (by rw [hX]; repeat (first | (with_reducible exact Cw00) | (with_reducible refine cellAlloc _ ?_) | (with_reducible refine cellDrew ?_) | (with_reducible refine cellDrewN ?_)))
  have gCw01 : X.cell? ⟨w2.heap.size, 1, none⟩ = some (.slice ax2 (lstFromSteps x0 a1).length kx2) := (by rw [hX]; repeat (first | (with_reducible exact Cw01) | (with_reducible refine cellAlloc _ ?_) | (with_reducible refine cellDrew ?_) | (with_reducible refine cellDrewN ?_)))
  have gCg00 : X.cell? ⟨w4.heap.size, 0, none⟩ = some (.int .i64 (numFromSteps x0 a1)) := (by rw [hX]; repeat (first | (with_reducible exact Cg00) | (with_reducible refine cellAlloc _ ?_) | (with_reducible refine cellDrew ?_) | (with_reducible refine cellDrewN ?_)))
  have gCg01 : X.cell? ⟨w4.heap.size, 1, none⟩ = some (.slice ax4 (lstFromSteps x0 a1).length kx4) := (by rw [hX]; repeat (first | (with_reducible exact Cg01) | (with_reducible refine cellAlloc _ ?_) | (with_reducible refine cellDrew ?_) | (with_reducible refine cellDrewN ?_)))
  have gSw0 : Seg X (w1.heap.size + 0) (w2.heap.size) (.slice ax2 (lstFromSteps x0 a1).length kx2) ((lstFromSteps x0 a1)) := (by rw [hX]; repeat (first | (with_reducible exact Sw0.out) | (with_reducible refine Seg.alloc ?_ _) | (with_reducible refine Seg.drew ?_) | (with_reducible refine Seg.drewN ?_ _)))
  have gSx0 : Seg X (w2.heap.size + 1) (w3.heap.size) (.slice ax3 x0.length kx3) (x0) := (by rw [hX]; repeat (first | (with_reducible exact Sx0.out) | (with_reducible refine Seg.alloc ?_ _) | (with_reducible refine Seg.drew ?_) | (with_reducible refine Seg.drewN ?_ _)))
  have gSg0 : Seg X (w3.heap.size + 0) (w4.heap.size) (.slice ax4 (lstFromSteps x0 a1).length kx4) ((lstFromSteps x0 a1)) := (by rw [hX]; repeat (first | (with_reducible exact Sg0.out) | (with_reducible refine Seg.alloc ?_ _) | (with_reducible refine Seg.drew ?_) | (with_reducible refine Seg.drewN ?_ _)))
  clear hX HB Cw00 Cw01 Cg00 Cg01 Sw0 Sx0 Sg0 yCw00 yCg00
  refine (lawToIntS _ x0 _ (by omega) (Ints.ofBelow h0 gB)).mono ?_
  rintro e w6 ⟨ax6, kx6, rfl, o6, b6⟩
  have HB := Lib.hid (bel_step gB b6 gB.size)
  have z6 : w5.heap.size + 0 ≤ w6.heap.size := Nat.le_trans gz b6.size
  have Cw00 := cellAfter b6 gCw00
  have Cw01 := cellAfter b6 gCw01
  have Cg00 := cellAfter b6 gCg00
  have Cg01 := cellAfter b6 gCg01
  have Sw0 := Lib.hid (gSw0.after b6)
  have Sx0 := Lib.hid (gSx0.after b6)
  have Sg0 := Lib.hid (gSg0.after b6)
  have T1 := Lib.hid (Seg.mk' (o6.mono gz))
  clear gB gz gCw00 gCw01 gCg00 gCg01 gSw0 gSx0 gSg0 b6 o6 X
  have yCw00 : w2.heap.size < w6.heap.size := World.block_lt_of_cell? _ _ Cw00
  have yCg00 : w4.heap.size < w6.heap.size := World.block_lt_of_cell? _ _ Cg00
  go_wp2_with fail
  refine withWorld fun X hX => ?_
  have gB : Below w.heap.size w X := (by rw [hX]; repeat (first | (with_reducible exact HB.out) | (with_reducible refine bel_alloc ?_ _) | (with_reducible refine Below.drew ?_) | (with_reducible refine bel_drewN ?_ _)))
  have gz : w6.heap.size + 0 ≤ X.heap.size := (by rw [hX]; simp)
  have gCw00 : X.cell? ⟨w2.heap.size, 0, none⟩ = some (.int .i64 (numFromSteps x0 a1)) := (by rw [hX]; repeat (first | (with_reducible exact Cw00) | (with_reducible refine cellAlloc _ ?_) | (with_reducible refine cellDrew ?_) | (with_reducible refine cellDrewN ?_)))
  have gCw01 : X.cell? ⟨w2.heap.size, 1, none⟩ = some (.slice ax2 (lstFromSteps x0 a1).length kx2) := (by rw [hX]; repeat (first | (with_reducible exact Cw01) | (with_reducible refine cellAlloc _ ?_) | (with_reducible refine cellDrew ?_) | (with_reducible refine cellDrewN ?_)))
  have gCg00 : X.cell? ⟨w4.heap.size, 0, none⟩ = some (.int .i64 (numFromSteps x0 a1)) := (by rw [hX]; repeat (first | (with_reducible exact Cg00) | (with_reducible refine cellAlloc _ ?_) | (with_reducible refine cellDrew ?_) | (with_reducible refine cellDrewN ?_)))
  have gCg01 : X.cell? ⟨w4.heap.size, 1, none⟩ = some (.slice ax4 (lstFromSteps x0 a1).length kx4) := (by rw [hX]; repeat (first | (with_reducible exact Cg01) | (with_reducible refine cellAlloc _ ?_) | (with_reducible refine cellDrew ?_) | (with_reducible refine cellDrewN ?_)))
  have gSw0 : Seg X (w1.heap.size + 0) (w2.heap.size) (.slice ax2 (lstFromSteps x0 a1).length kx2) ((lstFromSteps x0 a1)) := (by rw [hX]; repeat (first | (with_reducible exact Sw0.out) | (with_reducible refine Seg.alloc ?_ _) | (with_reducible refine Seg.drew ?_) | (with_reducible refine Seg.drewN ?_ _)))
  have gSx0 : Seg X (w2.heap.size + 1) (w3.heap.size) (.slice ax3 x0.length kx3) (x0) := (by rw [hX]; repeat (first | (with_reducible exact Sx0.out) | (with_reducible refine Seg.alloc ?_ _) | (with_reducible refine Seg.drew ?_) | (with_reducible refine Seg.drewN ?_ _)))
  have gSg0 : Seg X (w3.heap.size + 0) (w4.heap.size) (.slice ax4 (lstFromSteps x0 a1).length kx4) ((lstFromSteps x0 a1)) := (by rw [hX]; repeat (first | (with_reducible exact Sg0.out) | (with_reducible refine Seg.alloc ?_ _) | (with_reducible refine Seg.drew ?_) | (with_reducible refine Seg.drewN ?_ _)))
  have gT1 : Seg X (w5.heap.size + 0) (w6.heap.size) (.slice ax6 x0.length kx6) (x0) := (by rw [hX]; repeat (first | (with_reducible exact T1.out) | (with_reducible refine Seg.alloc ?_ _) | (with_reducible refine Seg.drew ?_) | (with_reducible refine Seg.drewN ?_ _)))
  clear hX HB Cw00 Cw01 Cg00 Cg01 Sw0 Sx0 Sg0 T1 yCw00 yCg00
  refine (lawEqIntS' _ _ x0 x0 _ gSx0.ints gT1.ints).mono ?_
  rintro e w7 ⟨rfl, b7⟩
  have HB := Lib.hid (bel_step gB b7 gB.size)
  have z7 : w6.heap.size + 0 ≤ w7.heap.size := Nat.le_trans gz b7.size
  have Cw00 := cellAfter b7 gCw00
  have Cw01 := cellAfter b7 gCw01
  have Cg00 := cellAfter b7 gCg00
  have Cg01 := cellAfter b7 gCg01
  have Sw0 := Lib.hid (gSw0.after b7)
  have Sx0 := Lib.hid (gSx0.after b7)
  have Sg0 := Lib.hid (gSg0.after b7)
  have T1 := Lib.hid (gT1.after b7)
  clear gB gz gCw00 gCw01 gCg00 gCg01 gSw0 gSx0 gSg0 gT1 b7 X
  have yCw00 : w2.heap.size < w7.heap.size := World.block_lt_of_cell? _ _ Cw00
  have yCg00 : w4.heap.size < w7.heap.size := World.block_lt_of_cell? _ _ Cg00
  rw [eqL_self]
  clear T1
  go_wp2_with fail
  refine withWorld fun X hX => ?_
  have gB : Below w.heap.size w X := (by rw [hX]; repeat (first | (with_reducible exact HB.out) | (with_reducible refine bel_alloc ?_ _) | (with_reducible refine Below.drew ?_) | (with_reducible refine bel_drewN ?_ _)))
  have gz : w7.heap.size + 0 ≤ X.heap.size := (by rw [hX]; simp)
  have gCw00 : X.cell? ⟨w2.heap.size, 0, none⟩ = some (.int .i64 (numFromSteps x0 a1)) := (by rw [hX]; repeat (first | (with_reducible exact Cw00) | (with_reducible refine cellAlloc _ ?_) | (with_reducible refine cellDrew ?_) | (with_reducible refine cellDrewN ?_)))
  have gCw01 : X.cell? ⟨w2.heap.size, 1, none⟩ = some (.slice ax2 (lstFromSteps x0 a1).length kx2) := (by rw [hX]; repeat (first | (with_reducible exact Cw01) | (with_reducible refine cellAlloc _ ?_) | (with_reducible refine cellDrew ?_) | (with_reducible refine cellDrewN ?_)))
  have gCg00 : X.cell? ⟨w4.heap.size, 0, none⟩ = some (.int .i64 (numFromSteps x0 a1)) := (by rw [hX]; repeat (first | (with_reducible exact Cg00) | (with_reducible refine cellAlloc _ ?_) | (with_reducible refine cellDrew ?_) | (with_reducible refine cellDrewN ?_)))
  have gCg01 : X.cell? ⟨w4.heap.size, 1, none⟩ = some (.slice ax4 (lstFromSteps x0 a1).length kx4) := (by rw [hX]; repeat (first | (with_reducible exact Cg01) | (with_reducible refine cellAlloc _ ?_) | (with_reducible refine cellDrew ?_) | (with_reducible refine cellDrewN ?_)))
  have gSw0 : Seg X (w1.heap.size + 0) (w2.heap.size) (.slice ax2 (lstFromSteps x0 a1).length kx2) ((lstFromSteps x0 a1)) := (by rw [hX]; repeat (first | (with_reducible exact Sw0.out) | (with_reducible refine Seg.alloc ?_ _) | (with_reducible refine Seg.drew ?_) | (with_reducible refine Seg.drewN ?_ _)))
  have gSx0 : Seg X (w2.heap.size + 1) (w3.heap.size) (.slice ax3 x0.length kx3) (x0) := (by rw [hX]; repeat (first | (with_reducible exact Sx0.out) | (with_reducible refine Seg.alloc ?_ _) | (with_reducible refine Seg.drew ?_) | (with_reducible refine Seg.drewN ?_ _)))
  have gSg0 : Seg X (w3.heap.size + 0) (w4.heap.size) (.slice ax4 (lstFromSteps x0 a1).length kx4) ((lstFromSteps x0 a1)) := (by rw [hX]; repeat (first | (with_reducible exact Sg0.out) | (with_reducible refine Seg.alloc ?_ _) | (with_reducible refine Seg.drew ?_) | (with_reducible refine Seg.drewN ?_ _)))
  clear hX HB Cw00 Cw01 Cg00 Cg01 Sw0 Sx0 Sg0 yCw00 yCg00
  refine (lawMarkIntS2 _ x0 _ _ _ _ (by omega) (by omega) (by omega) gSx0).mono ?_
  rintro e w8 ⟨rfl, o8, b8⟩
  have HB := Lib.hid (bel_outside gB b8 (by omega) gB.size)
  have z8 : w7.heap.size + 0 ≤ w8.heap.size := Nat.le_trans gz b8.size
  have Cw00 := cellOutside gCw00 b8 (by omega)
  have Cw01 := cellOutside gCw01 b8 (by omega)
  have Cg00 := cellOutside gCg00 b8 (by omega)
  have Cg01 := cellOutside gCg01 b8 (by omega)
  have Sw0 := Lib.hid (gSw0.outside b8 (by omega))
  have Sg0 := Lib.hid (gSg0.outside b8 (by omega))
  have Sx0 := Lib.hid o8
  clear gB gz gCw00 gCw01 gCg00 gCg01 gSw0 gSx0 gSg0 b8 o8 X
  have yCw00 : w2.heap.size < w8.heap.size := World.block_lt_of_cell? _ _ Cw00
  have yCg00 : w4.heap.size < w8.heap.size := World.block_lt_of_cell? _ _ Cg00
  go_wp2_with fail
  refine withWorld fun X hX => ?_
  have gB : Below w.heap.size w X := (by rw [hX]; repeat (first | (with_reducible exact HB.out) | (with_reducible refine bel_alloc ?_ _) | (with_reducible refine Below.drew ?_) | (with_reducible refine bel_drewN ?_ _)))
  have gz : w8.heap.size + 0 ≤ X.heap.size := (by rw [hX]; simp)
  have gCw00 : X.cell? ⟨w2.heap.size, 0, none⟩ = some (.int .i64 (numFromSteps x0 a1)) := (by rw [hX]; repeat (first | (with_reducible exact Cw00) | (with_reducible refine cellAlloc _ ?_) | (with_reducible refine cellDrew ?_) | (with_reducible refine cellDrewN ?_)))
  have gCw01 : X.cell? ⟨w2.heap.size, 1, none⟩ = some (.slice ax2 (lstFromSteps x0 a1).length kx2) := (by rw [hX]; repeat (first | (with_reducible exact Cw01) | (with_reducible refine cellAlloc _ ?_) | (with_reducible refine cellDrew ?_) | (with_reducible refine cellDrewN ?_)))
  have gCg00 : X.cell? ⟨w4.heap.size, 0, none⟩ = some (.int .i64 (numFromSteps x0 a1)) := (by rw [hX]; repeat (first | (with_reducible exact Cg00) | (with_reducible refine cellAlloc _ ?_) | (with_reducible refine cellDrew ?_) | (with_reducible refine cellDrewN ?_)))
  have gCg01 : X.cell? ⟨w4.heap.size, 1, none⟩ = some (.slice ax4 (lstFromSteps x0 a1).length kx4) := (by rw [hX]; repeat (first | (with_reducible exact Cg01) | (with_reducible refine cellAlloc _ ?_) | (with_reducible refine cellDrew ?_) | (with_reducible refine cellDrewN ?_)))
  have gSw0 : Seg X (w1.heap.size + 0) (w2.heap.size) (.slice ax2 (lstFromSteps x0 a1).length kx2) ((lstFromSteps x0 a1)) := (by rw [hX]; repeat (first | (with_reducible exact Sw0.out) | (with_reducible refine Seg.alloc ?_ _) | (with_reducible refine Seg.drew ?_) | (with_reducible refine Seg.drewN ?_ _)))
  have gSx0 : Seg X (w2.heap.size + 1) (w3.heap.size) (.slice ax3 x0.length kx3) (marks 1 x0.length) := (by rw [hX]; repeat (first | (with_reducible exact Sx0.out) | (with_reducible refine Seg.alloc ?_ _) | (with_reducible refine Seg.drew ?_) | (with_reducible refine Seg.drewN ?_ _)))
  have gSg0 : Seg X (w3.heap.size + 0) (w4.heap.size) (.slice ax4 (lstFromSteps x0 a1).length kx4) ((lstFromSteps x0 a1)) := (by rw [hX]; repeat (first | (with_reducible exact Sg0.out) | (with_reducible refine Seg.alloc ?_ _) | (with_reducible refine Seg.drew ?_) | (with_reducible refine Seg.drewN ?_ _)))
  clear hX HB Cw00 Cw01 Cg00 Cg01 Sw0 Sx0 Sg0 yCw00 yCg00
  refine (lawEqRhythm _ _ _ _ (lstFromSteps x0 a1) (lstFromSteps x0 a1) _ gSg0.ints gSw0.ints).mono ?_
  rintro e w9 ⟨rfl, b9⟩
  have HB := Lib.hid (bel_step gB b9 gB.size)
  have z9 : w8.heap.size + 0 ≤ w9.heap.size := Nat.le_trans gz b9.size
  have Cw00 := cellAfter b9 gCw00
  have Cw01 := cellAfter b9 gCw01
  have Cg00 := cellAfter b9 gCg00
  have Cg01 := cellAfter b9 gCg01
  have Sw0 := Lib.hid (gSw0.after b9)
  have Sx0 := Lib.hid (gSx0.after b9)
  have Sg0 := Lib.hid (gSg0.after b9)
  clear gB gz gCw00 gCw01 gCg00 gCg01 gSw0 gSx0 gSg0 b9 X
  have yCw00 : w2.heap.size < w9.heap.size := World.block_lt_of_cell? _ _ Cw00
  have yCg00 : w4.heap.size < w9.heap.size := World.block_lt_of_cell? _ _ Cg00
  rw [eqR_self]
  go_wp2_with fail
  refine withWorld fun X hX => ?_
  have gB : Below w.heap.size w X := (by rw [hX]; repeat (first | (with_reducible exact HB.out) | (with_reducible refine bel_alloc ?_ _) | (with_reducible refine Below.drew ?_) | (with_reducible refine bel_drewN ?_ _)))
  have gz : w9.heap.size + 0 ≤ X.heap.size := (by rw [hX]; simp)
  have gCw00 : X.cell? ⟨w2.heap.size, 0, none⟩ = some (.int .i64 (numFromSteps x0 a1)) := (by rw [hX]; repeat (first | (with_reducible exact Cw00) | (with_reducible refine cellAlloc _ ?_) | (with_reducible refine cellDrew ?_) | (with_reducible refine cellDrewN ?_)))
  have gCw01 : X.cell? ⟨w2.heap.size, 1, none⟩ = some (.slice ax2 (lstFromSteps x0 a1).length kx2) := (by rw [hX]; repeat (first | (with_reducible exact Cw01) | (with_reducible refine cellAlloc _ ?_) | (with_reducible refine cellDrew ?_) | (with_reducible refine cellDrewN ?_)))
  have gCg00 : X.cell? ⟨w4.heap.size, 0, none⟩ = some (.int .i64 (numFromSteps x0 a1)) := (by rw [hX]; repeat (first | (with_reducible exact Cg00) | (with_reducible refine cellAlloc _ ?_) | (with_reducible refine cellDrew ?_) | (with_reducible refine cellDrewN ?_)))
  have gCg01 : X.cell? ⟨w4.heap.size, 1, none⟩ = some (.slice ax4 (lstFromSteps x0 a1).length kx4) := (by rw [hX]; repeat (first | (with_reducible exact Cg01) | (with_reducible refine cellAlloc _ ?_) | (with_reducible refine cellDrew ?_) | (with_reducible refine cellDrewN ?_)))
  have gSw0 : Seg X (w1.heap.size + 0) (w2.heap.size) (.slice ax2 (lstFromSteps x0 a1).length kx2) ((lstFromSteps x0 a1)) := (by rw [hX]; repeat (first | (with_reducible exact Sw0.out) | (with_reducible refine Seg.alloc ?_ _) | (with_reducible refine Seg.drew ?_) | (with_reducible refine Seg.drewN ?_ _)))
  have gSx0 : Seg X (w2.heap.size + 1) (w3.heap.size) (.slice ax3 x0.length kx3) (marks 1 x0.length) := (by rw [hX]; repeat (first | (with_reducible exact Sx0.out) | (with_reducible refine Seg.alloc ?_ _) | (with_reducible refine Seg.drew ?_) | (with_reducible refine Seg.drewN ?_ _)))
  have gSg0 : Seg X (w3.heap.size + 0) (w4.heap.size) (.slice ax4 (lstFromSteps x0 a1).length kx4) ((lstFromSteps x0 a1)) := (by rw [hX]; repeat (first | (with_reducible exact Sg0.out) | (with_reducible refine Seg.alloc ?_ _) | (with_reducible refine Seg.drew ?_) | (with_reducible refine Seg.drewN ?_ _)))
  clear hX HB Cw00 Cw01 Cg00 Cg01 Sw0 Sx0 Sg0 yCw00 yCg00
  refine (lawMarkRhythm2 _ _ (lstFromSteps x0 a1) _ _ _ _ (by have := lenFromSteps x0 a1; omega) (by omega) (by omega) gSg0).mono ?_
  rintro e w10 ⟨rfl, o10, b10⟩
  have HB := Lib.hid (bel_outside gB b10 (by omega) gB.size)
  have z10 : w9.heap.size + 0 ≤ w10.heap.size := Nat.le_trans gz b10.size
  have Cw00 := cellOutside gCw00 b10 (by omega)
  have Cw01 := cellOutside gCw01 b10 (by omega)
  have Cg00 := cellOutside gCg00 b10 (by omega)
  have Cg01 := cellOutside gCg01 b10 (by omega)
  have Sw0 := Lib.hid (gSw0.outside b10 (by omega))
  have Sx0 := Lib.hid (gSx0.outside b10 (by omega))
  have Sg0 := Lib.hid o10
  clear gB gz gCw00 gCw01 gCg00 gCg01 gSw0 gSx0 gSg0 b10 o10 X
  have yCw00 : w2.heap.size < w10.heap.size := World.block_lt_of_cell? _ _ Cw00
  have yCg00 : w4.heap.size < w10.heap.size := World.block_lt_of_cell? _ _ Cg00
  go_wp2_with fail
  refine withWorld fun X hX => ?_
  have gB : Below w.heap.size w X := (by rw [hX]; repeat (first | (with_reducible exact HB.out) | (with_reducible refine bel_alloc ?_ _) | (with_reducible refine Below.drew ?_) | (with_reducible refine bel_drewN ?_ _)))
  have gz : w10.heap.size + 0 ≤ X.heap.size := (by rw [hX]; simp)
  have gCw00 : X.cell? ⟨w2.heap.size, 0, none⟩ = some (.int .i64 (numFromSteps x0 a1)) := (by rw [hX]; repeat (first | (with_reducible exact Cw00) | (with_reducible refine cellAlloc _ ?_) | (with_reducible refine cellDrew ?_) | (with_reducible refine cellDrewN ?_)))
  have gCw01 : X.cell? ⟨w2.heap.size, 1, none⟩ = some (.slice ax2 (lstFromSteps x0 a1).length kx2) := (by rw [hX]; repeat (first | (with_reducible exact Cw01) | (with_reducible refine cellAlloc _ ?_) | (with_reducible refine cellDrew ?_) | (with_reducible refine cellDrewN ?_)))
  have gCg00 : X.cell? ⟨w4.heap.size, 0, none⟩ = some (.int .i64 (numFromSteps x0 a1)) := (by rw [hX]; repeat (first | (with_reducible exact Cg00) | (with_reducible refine cellAlloc _ ?_) | (with_reducible refine cellDrew ?_) | (with_reducible refine cellDrewN ?_)))
  have gCg01 : X.cell? ⟨w4.heap.size, 1, none⟩ = some (.slice ax4 (lstFromSteps x0 a1).length kx4) := (by rw [hX]; repeat (first | (with_reducible exact Cg01) | (with_reducible refine cellAlloc _ ?_) | (with_reducible refine cellDrew ?_) | (with_reducible refine cellDrewN ?_)))
  have gSw0 : Seg X (w1.heap.size + 0) (w2.heap.size) (.slice ax2 (lstFromSteps x0 a1).length kx2) ((lstFromSteps x0 a1)) := (by rw [hX]; repeat (first | (with_reducible exact Sw0.out) | (with_reducible refine Seg.alloc ?_ _) | (with_reducible refine Seg.drew ?_) | (with_reducible refine Seg.drewN ?_ _)))
  have gSx0 : Seg X (w2.heap.size + 1) (w3.heap.size) (.slice ax3 x0.length kx3) (marks 1 x0.length) := (by rw [hX]; repeat (first | (with_reducible exact Sx0.out) | (with_reducible refine Seg.alloc ?_ _) | (with_reducible refine Seg.drew ?_) | (with_reducible refine Seg.drewN ?_ _)))
  have gSg0 : Seg X (w3.heap.size + 0) (w4.heap.size) (.slice ax4 (lstFromSteps x0 a1).length kx4) (marks 1 (lstFromSteps x0 a1).length) := (by rw [hX]; repeat (first | (with_reducible exact Sg0.out) | (with_reducible refine Seg.alloc ?_ _) | (with_reducible refine Seg.drew ?_) | (with_reducible refine Seg.drewN ?_ _)))
  clear hX HB Cw00 Cw01 Cg00 Cg01 Sw0 Sx0 Sg0 yCw00 yCg00
  refine (lawHeldRhythm' _ _ (marks 1 (lstFromSteps x0 a1).length) _ _ (by rw [marks_len]; have := lenFromSteps x0 a1; omega) (by omega) (by omega) gSg0.ints).mono ?_
  rintro e w11 ⟨rfl, b11⟩
  have HB := Lib.hid (bel_step gB b11 gB.size)
  have z11 : w10.heap.size + 0 ≤ w11.heap.size := Nat.le_trans gz b11.size
  have Cw00 := cellAfter b11 gCw00
  have Cw01 := cellAfter b11 gCw01
  have Cg00 := cellAfter b11 gCg00
  have Cg01 := cellAfter b11 gCg01
  have Sw0 := Lib.hid (gSw0.after b11)
  have Sx0 := Lib.hid (gSx0.after b11)
  have Sg0 := Lib.hid (gSg0.after b11)
  clear gB gz gCw00 gCw01 gCg00 gCg01 gSw0 gSx0 gSg0 b11 X
  have yCw00 : w2.heap.size < w11.heap.size := World.block_lt_of_cell? _ _ Cw00
  have yCg00 : w4.heap.size < w11.heap.size := World.block_lt_of_cell? _ _ Cg00
  rw [heldOf_marks]
  go_wp2_with fail
  refine withWorld fun X hX => ?_
  have gB : Below w.heap.size w X := (by rw [hX]; repeat (first | (with_reducible exact HB.out) | (with_reducible refine bel_alloc ?_ _) | (with_reducible refine Below.drew ?_) | (with_reducible refine bel_drewN ?_ _)))
  have gz : w11.heap.size + 0 ≤ X.heap.size := (by rw [hX]; simp)
  have gCw00 : X.cell? ⟨w2.heap.size, 0, none⟩ = some (.int .i64 (numFromSteps x0 a1)) := (by rw [hX]; repeat (first | (with_reducible exact Cw00) | (with_reducible refine cellAlloc _ ?_) | (with_reducible refine cellDrew ?_) | (with_reducible refine cellDrewN ?_)))
  have gCw01 : X.cell? ⟨w2.heap.size, 1, none⟩ = some (.slice ax2 (lstFromSteps x0 a1).length kx2) := (by rw [hX]; repeat (first | (with_reducible exact Cw01) | (with_reducible refine cellAlloc _ ?_) | (with_reducible refine cellDrew ?_) | (with_reducible refine cellDrewN ?_)))
  have gCg00 : X.cell? ⟨w4.heap.size, 0, none⟩ = some (.int .i64 (numFromSteps x0 a1)) := (by rw [hX]; repeat (first | (with_reducible exact Cg00) | (with_reducible refine cellAlloc _ ?_) | (with_reducible refine cellDrew ?_) | (with_reducible refine cellDrewN ?_)))
  have gCg01 : X.cell? ⟨w4.heap.size, 1, none⟩ = some (.slice ax4 (lstFromSteps x0 a1).length kx4) := (by rw [hX]; repeat (first | (with_reducible exact Cg01) | (with_reducible refine cellAlloc _ ?_) | (with_reducible refine cellDrew ?_) | (with_reducible refine cellDrewN ?_)))
  have gSw0 : Seg X (w1.heap.size + 0) (w2.heap.size) (.slice ax2 (lstFromSteps x0 a1).length kx2) ((lstFromSteps x0 a1)) := (by rw [hX]; repeat (first | (with_reducible exact Sw0.out) | (with_reducible refine Seg.alloc ?_ _) | (with_reducible refine Seg.drew ?_) | (with_reducible refine Seg.drewN ?_ _)))
  have gSx0 : Seg X (w2.heap.size + 1) (w3.heap.size) (.slice ax3 x0.length kx3) (marks 1 x0.length) := (by rw [hX]; repeat (first | (with_reducible exact Sx0.out) | (with_reducible refine Seg.alloc ?_ _) | (with_reducible refine Seg.drew ?_) | (with_reducible refine Seg.drewN ?_ _)))
  have gSg0 : Seg X (w3.heap.size + 0) (w4.heap.size) (.slice ax4 (lstFromSteps x0 a1).length kx4) (marks 1 (lstFromSteps x0 a1).length) := (by rw [hX]; repeat (first | (with_reducible exact Sg0.out) | (with_reducible refine Seg.alloc ?_ _) | (with_reducible refine Seg.drew ?_) | (with_reducible refine Seg.drewN ?_ _)))
  clear hX HB Cw00 Cw01 Cg00 Cg01 Sw0 Sx0 Sg0 yCw00 yCg00
  refine (lawToIntS _ x0 _ (by omega) (Ints.ofBelow h0 gB)).mono ?_
  rintro e w12 ⟨ax12, kx12, rfl, o12, b12⟩
  have HB := Lib.hid (bel_step gB b12 gB.size)
  have z12 : w11.heap.size + 0 ≤ w12.heap.size := Nat.le_trans gz b12.size
  have Cw00 := cellAfter b12 gCw00
  have Cw01 := cellAfter b12 gCw01
  have Cg00 := cellAfter b12 gCg00
  have Cg01 := cellAfter b12 gCg01
  have Sw0 := Lib.hid (gSw0.after b12)
  have Sx0 := Lib.hid (gSx0.after b12)
  have Sg0 := Lib.hid (gSg0.after b12)
  have T2 := Lib.hid (Seg.mk' (o12.mono gz))
  clear gB gz gCw00 gCw01 gCg00 gCg01 gSw0 gSx0 gSg0 b12 o12 X
  have yCw00 : w2.heap.size < w12.heap.size := World.block_lt_of_cell? _ _ Cw00
  have yCg00 : w4.heap.size < w12.heap.size := World.block_lt_of_cell? _ _ Cg00
  go_wp2_with fail
  refine withWorld fun X hX => ?_
  have gB : Below w.heap.size w X := (by rw [hX]; repeat (first | (with_reducible exact HB.out) | (with_reducible refine bel_alloc ?_ _) | (with_reducible refine Below.drew ?_) | (with_reducible refine bel_drewN ?_ _)))
  have gz : w12.heap.size + 0 ≤ X.heap.size := (by rw [hX]; simp)
  have gCw00 : X.cell? ⟨w2.heap.size, 0, none⟩ = some (.int .i64 (numFromSteps x0 a1)) := (by rw [hX]; repeat (first | (with_reducible exact Cw00) | (with_reducible refine cellAlloc _ ?_) | (with_reducible refine cellDrew ?_) | (with_reducible refine cellDrewN ?_)))
  have gCw01 : X.cell? ⟨w2.heap.size, 1, none⟩ = some (.slice ax2 (lstFromSteps x0 a1).length kx2) := (by rw [hX]; repeat (first | (with_reducible exact Cw01) | (with_reducible refine cellAlloc _ ?_) | (with_reducible refine cellDrew ?_) | (with_reducible refine cellDrewN ?_)))
  have gCg00 : X.cell? ⟨w4.heap.size, 0, none⟩ = some (.int .i64 (numFromSteps x0 a1)) := (by rw [hX]; repeat (first | (with_reducible exact Cg00) | (with_reducible refine cellAlloc _ ?_) | (with_reducible refine cellDrew ?_) | (with_reducible refine cellDrewN ?_)))
  have gCg01 : X.cell? ⟨w4.heap.size, 1, none⟩ = some (.slice ax4 (lstFromSteps x0 a1).length kx4) := (by rw [hX]; repeat (first | (with_reducible exact Cg01) | (with_reducible refine cellAlloc _ ?_) | (with_reducible refine cellDrew ?_) | (with_reducible refine cellDrewN ?_)))
  have gSw0 : Seg X (w1.heap.size + 0) (w2.heap.size) (.slice ax2 (lstFromSteps x0 a1).length kx2) ((lstFromSteps x0 a1)) := (by rw [hX]; repeat (first | (with_reducible exact Sw0.out) | (with_reducible refine Seg.alloc ?_ _) | (with_reducible refine Seg.drew ?_) | (with_reducible refine Seg.drewN ?_ _)))
  have gSx0 : Seg X (w2.heap.size + 1) (w3.heap.size) (.slice ax3 x0.length kx3) (marks 1 x0.length) := (by rw [hX]; repeat (first | (with_reducible exact Sx0.out) | (with_reducible refine Seg.alloc ?_ _) | (with_reducible refine Seg.drew ?_) | (with_reducible refine Seg.drewN ?_ _)))
  have gSg0 : Seg X (w3.heap.size + 0) (w4.heap.size) (.slice ax4 (lstFromSteps x0 a1).length kx4) (marks 1 (lstFromSteps x0 a1).length) := (by rw [hX]; repeat (first | (with_reducible exact Sg0.out) | (with_reducible refine Seg.alloc ?_ _) | (with_reducible refine Seg.drew ?_) | (with_reducible refine Seg.drewN ?_ _)))
  have gT2 : Seg X (w11.heap.size + 0) (w12.heap.size) (.slice ax12 x0.length kx12) (x0) := (by rw [hX]; repeat (first | (with_reducible exact T2.out) | (with_reducible refine Seg.alloc ?_ _) | (with_reducible refine Seg.drew ?_) | (with_reducible refine Seg.drewN ?_ _)))
  clear hX HB Cw00 Cw01 Cg00 Cg01 Sw0 Sx0 Sg0 T2 yCw00 yCg00
  refine (implFromStepsC _ x0 b0 _ h1 _ gT2.ints).mono ?_
  rintro e w13 ⟨ax13, kx13, rfl, o13, b13⟩
  have HB := Lib.hid (bel_step gB b13 gB.size)
  have z13 : w12.heap.size + 0 ≤ w13.heap.size := Nat.le_trans gz b13.size
  have Cw00 := cellAfter b13 gCw00
  have Cw01 := cellAfter b13 gCw01
  have Cg00 := cellAfter b13 gCg00
  have Cg01 := cellAfter b13 gCg01
  have Sw0 := Lib.hid (gSw0.after b13)
  have Sx0 := Lib.hid (gSx0.after b13)
  have Sg0 := Lib.hid (gSg0.after b13)
  have T2 := Lib.hid (gT2.after b13)
  have Sh0 := Lib.hid (Seg.mk' (o13.mono gz))
  clear gB gz gCw00 gCw01 gCg00 gCg01 gSw0 gSx0 gSg0 gT2 b13 o13 X
  have yCw00 : w2.heap.size < w13.heap.size := World.block_lt_of_cell? _ _ Cw00
  have yCg00 : w4.heap.size < w13.heap.size := World.block_lt_of_cell? _ _ Cg00
  clear T2
  go_wp2_with fail
  refine withWorld fun X hX => ?_
  have gB : Below w.heap.size w X := (by rw [hX]; repeat (first | (with_reducible exact HB.out) | (with_reducible refine bel_alloc ?_ _) | (with_reducible refine Below.drew ?_) | (with_reducible refine bel_drewN ?_ _)))
  have gz : w13.heap.size + 1 ≤ X.heap.size := (by rw [hX]; simp)
  have gCw00 : X.cell? ⟨w2.heap.size, 0, none⟩ = some (.int .i64 (numFromSteps x0 a1)) := (by rw [hX]; repeat (first | (with_reducible exact Cw00) | (with_reducible refine cellAlloc _ ?_) | (with_reducible refine cellDrew ?_) | (with_reducible refine cellDrewN ?_)))
  have gCw01 : X.cell? ⟨w2.heap.size, 1, none⟩ = some (.slice ax2 (lstFromSteps x0 a1).length kx2) := (by rw [hX]; repeat (first | (with_reducible exact Cw01) | (with_reducible refine cellAlloc _ ?_) | (with_reducible refine cellDrew ?_) | (with_reducible refine cellDrewN ?_)))
  have gCg00 : X.cell? ⟨w4.heap.size, 0, none⟩ = some (.int .i64 (numFromSteps x0 a1)) := (by rw [hX]; repeat (first | (with_reducible exact Cg00) | (with_reducible refine cellAlloc _ ?_) | (with_reducible refine cellDrew ?_) | (with_reducible refine cellDrewN ?_)))
  have gCg01 : X.cell? ⟨w4.heap.size, 1, none⟩ = some (.slice ax4 (lstFromSteps x0 a1).length kx4) := (by rw [hX]; repeat (first | (with_reducible exact Cg01) | (with_reducible refine cellAlloc _ ?_) | (with_reducible refine cellDrew ?_) | (with_reducible refine cellDrewN ?_)))
  have gCh00 : X.cell? ⟨w13.heap.size, 0, none⟩ = some (.int .i64 (numFromSteps x0 a1)) := (by rw [hX]; (repeat (first | (with_reducible refine cellDrew ?_) | (with_reducible refine cellDrewN ?_))); exact cellNewAt _ _ _ _ (by simp) rfl)
  have gCh01 : X.cell? ⟨w13.heap.size, 1, none⟩ = some (.slice ax13 (lstFromSteps x0 a1).length kx13) := (by rw [hX]; (repeat (first | (with_reducible refine cellDrew ?_) | (with_reducible refine cellDrewN ?_))); exact cellNewAt _ _ _ _ (by simp) rfl)
  have gSw0 : Seg X (w1.heap.size + 0) (w2.heap.size) (.slice ax2 (lstFromSteps x0 a1).length kx2) ((lstFromSteps x0 a1)) := (by rw [hX]; repeat (first | (with_reducible exact Sw0.out) | (with_reducible refine Seg.alloc ?_ _) | (with_reducible refine Seg.drew ?_) | (with_reducible refine Seg.drewN ?_ _)))
  have gSx0 : Seg X (w2.heap.size + 1) (w3.heap.size) (.slice ax3 x0.length kx3) (marks 1 x0.length) := (by rw [hX]; repeat (first | (with_reducible exact Sx0.out) | (with_reducible refine Seg.alloc ?_ _) | (with_reducible refine Seg.drew ?_) | (with_reducible refine Seg.drewN ?_ _)))
  have gSg0 : Seg X (w3.heap.size + 0) (w4.heap.size) (.slice ax4 (lstFromSteps x0 a1).length kx4) (marks 1 (lstFromSteps x0 a1).length) := (by rw [hX]; repeat (first | (with_reducible exact Sg0.out) | (with_reducible refine Seg.alloc ?_ _) | (with_reducible refine Seg.drew ?_) | (with_reducible refine Seg.drewN ?_ _)))
  have gSh0 : Seg X (w12.heap.size + 0) (w13.heap.size) (.slice ax13 (lstFromSteps x0 a1).length kx13) ((lstFromSteps x0 a1)) := (by rw [hX]; repeat (first | (with_reducible exact Sh0.out) | (with_reducible refine Seg.alloc ?_ _) | (with_reducible refine Seg.drew ?_) | (with_reducible refine Seg.drewN ?_ _)))
  clear hX HB Cw00 Cw01 Cg00 Cg01 Sw0 Sx0 Sg0 Sh0 yCw00 yCg00
  refine (lawEqRhythm _ _ _ _ (lstFromSteps x0 a1) (lstFromSteps x0 a1) _ gSh0.ints gSw0.ints).mono ?_
  rintro e w14 ⟨rfl, b14⟩
  have HB := Lib.hid (bel_step gB b14 gB.size)
  have z14 : w13.heap.size + 1 ≤ w14.heap.size := Nat.le_trans gz b14.size
  have Cw00 := cellAfter b14 gCw00
  have Cw01 := cellAfter b14 gCw01
  have Cg00 := cellAfter b14 gCg00
  have Cg01 := cellAfter b14 gCg01
  have Ch00 := cellAfter b14 gCh00
  have Ch01 := cellAfter b14 gCh01
  have Sw0 := Lib.hid (gSw0.after b14)
  have Sx0 := Lib.hid (gSx0.after b14)
  have Sg0 := Lib.hid (gSg0.after b14)
  have Sh0 := Lib.hid (gSh0.after b14)
  clear gB gz gCw00 gCw01 gCg00 gCg01 gCh00 gCh01 gSw0 gSx0 gSg0 gSh0 b14 X
  have yCw00 : w2.heap.size < w14.heap.size := World.block_lt_of_cell? _ _ Cw00
  have yCg00 : w4.heap.size < w14.heap.size := World.block_lt_of_cell? _ _ Cg00
  have yCh00 : w13.heap.size < w14.heap.size := World.block_lt_of_cell? _ _ Ch00
  rw [eqR_self]
  go_wp2_with fail
  refine withWorld fun X hX => ?_
  have gB : Below w.heap.size w X := (by rw [hX]; repeat (first | (with_reducible exact HB.out) | (with_reducible refine bel_alloc ?_ _) | (with_reducible refine Below.drew ?_) | (with_reducible refine bel_drewN ?_ _)))
  have gz : w14.heap.size + 0 ≤ X.heap.size := (by rw [hX]; simp)
  have gCw00 : X.cell? ⟨w2.heap.size, 0, none⟩ = some (.int .i64 (numFromSteps x0 a1)) := (by rw [hX]; repeat (first | (with_reducible exact Cw00) | (with_reducible refine cellAlloc _ ?_) | (with_reducible refine cellDrew ?_) | (with_reducible refine cellDrewN ?_)))
  have gCw01 : X.cell? ⟨w2.heap.size, 1, none⟩ = some (.slice ax2 (lstFromSteps x0 a1).length kx2) := (by rw [hX]; repeat (first | (with_reducible exact Cw01) | (with_reducible refine cellAlloc _ ?_) | (with_reducible refine cellDrew ?_) | (with_reducible refine cellDrewN ?_)))
  have gCg00 : X.cell? ⟨w4.heap.size, 0, none⟩ = some (.int .i64 (numFromSteps x0 a1)) := (by rw [hX]; repeat (first | (with_reducible exact Cg00) | (with_reducible refine cellAlloc _ ?_) | (with_reducible refine cellDrew ?_) | (with_reducible refine cellDrewN ?_)))
  have gCg01 : X.cell? ⟨w4.heap.size, 1, none⟩ = some (.slice ax4 (lstFromSteps x0 a1).length kx4) := (by rw [hX]; repeat (first | (with_reducible exact Cg01) | (with_reducible refine cellAlloc _ ?_) | (with_reducible refine cellDrew ?_) | (with_reducible refine cellDrewN ?_)))
  have gCh00 : X.cell? ⟨w13.heap.size, 0, none⟩ = some (.int .i64 (numFromSteps x0 a1)) := (by rw [hX]; repeat (first | (with_reducible exact Ch00) | (with_reducible refine cellAlloc _ ?_) | (with_reducible refine cellDrew ?_) | (with_reducible refine cellDrewN ?_)))
  have gCh01 : X.cell? ⟨w13.heap.size, 1, none⟩ = some (.slice ax13 (lstFromSteps x0 a1).length kx13) := (by rw [hX]; repeat (first | (with_reducible exact Ch01) | (with_reducible refine cellAlloc _ ?_) | (with_reducible refine cellDrew ?_) | (with_reducible refine cellDrewN ?_)))
  have gSw0 : Seg X (w1.heap.size + 0) (w2.heap.size) (.slice ax2 (lstFromSteps x0 a1).length kx2) ((lstFromSteps x0 a1)) := (by rw [hX]; repeat (first | (with_reducible exact Sw0.out) | (with_reducible refine Seg.alloc ?_ _) | (with_reducible refine Seg.drew ?_) | (with_reducible refine Seg.drewN ?_ _)))
  have gSx0 : Seg X (w2.heap.size + 1) (w3.heap.size) (.slice ax3 x0.length kx3) (marks 1 x0.length) := (by rw [hX]; repeat (first | (with_reducible exact Sx0.out) | (with_reducible refine Seg.alloc ?_ _) | (with_reducible refine Seg.drew ?_) | (with_reducible refine Seg.drewN ?_ _)))
  have gSg0 : Seg X (w3.heap.size + 0) (w4.heap.size) (.slice ax4 (lstFromSteps x0 a1).length kx4) (marks 1 (lstFromSteps x0 a1).length) := (by rw [hX]; repeat (first | (with_reducible exact Sg0.out) | (with_reducible refine Seg.alloc ?_ _) | (with_reducible refine Seg.drew ?_) | (with_reducible refine Seg.drewN ?_ _)))
  have gSh0 : Seg X (w12.heap.size + 0) (w13.heap.size) (.slice ax13 (lstFromSteps x0 a1).length kx13) ((lstFromSteps x0 a1)) := (by rw [hX]; repeat (first | (with_reducible exact Sh0.out) | (with_reducible refine Seg.alloc ?_ _) | (with_reducible refine Seg.drew ?_) | (with_reducible refine Seg.drewN ?_ _)))
  clear hX HB Cw00 Cw01 Cg00 Cg01 Ch00 Ch01 Sw0 Sx0 Sg0 Sh0 yCw00 yCg00 yCh00
  refine (lawHeldRhythm' _ _ (marks 1 (lstFromSteps x0 a1).length) _ _ (by rw [marks_len]; have := lenFromSteps x0 a1; omega) (by omega) (by omega) gSg0.ints).mono ?_
  rintro e w15 ⟨rfl, b15⟩
  have HB := Lib.hid (bel_step gB b15 gB.size)
  have z15 : w14.heap.size + 0 ≤ w15.heap.size := Nat.le_trans gz b15.size
  have Cw00 := cellAfter b15 gCw00
  have Cw01 := cellAfter b15 gCw01
  have Cg00 := cellAfter b15 gCg00
  have Cg01 := cellAfter b15 gCg01
  have Ch00 := cellAfter b15 gCh00
  have Ch01 := cellAfter b15 gCh01
  have Sw0 := Lib.hid (gSw0.after b15)
  have Sx0 := Lib.hid (gSx0.after b15)
  have Sg0 := Lib.hid (gSg0.after b15)
  have Sh0 := Lib.hid (gSh0.after b15)
  clear gB gz gCw00 gCw01 gCg00 gCg01 gCh00 gCh01 gSw0 gSx0 gSg0 gSh0 b15 X
  have yCw00 : w2.heap.size < w15.heap.size := World.block_lt_of_cell? _ _ Cw00
  have yCg00 : w4.heap.size < w15.heap.size := World.block_lt_of_cell? _ _ Cg00
  have yCh00 : w13.heap.size < w15.heap.size := World.block_lt_of_cell? _ _ Ch00
  rw [heldOf_marks]
  go_wp2
  go_ret
  exact ⟨rfl, by repeat (first | (with_reducible exact HB.out) | refine bel_alloc ?_ _ | refine Below.drew ?_ | refine bel_drewN ?_ _ | exact Below.refl _ _)⟩
end Go.Proofs.Ytoedmdefjibaoaa.fnExactFromSteps
