/-
  The walk of FnExactFormatSteps: it returns true and writes nothing that was there.
  Conditions: the arguments lie in memory as the statement's reading says.
-/
import Derived.Test.YtcgpmdfcdngnlaaDoorT11
import Derived.Test.YtcgpmdfcdngnlaaDoorC3
import Derived.Test.YtcgpmdfcdngnlaaDoorB0
set_option linter.unusedVariables false
set_option linter.unusedSimpArgs false
namespace Go.Proofs.YtcgpmdfcdngnlaaDoor.fnExactFormatSteps
open Go.RowKit
set_option linter.unusedVariables false

def G (w : World) : Prop := FG w
set_option maxRecDepth 20000 in
set_option maxHeartbeats 16000000 in
theorem walk (w : World) (hG : G w) (n0 : Int) (v0 : Value) (x0 : List Int) (c0 : I64 n0) (h0 : Ints w w.heap.size v0 x0) (b0 : ∀ n ∈ x0, I64 n) :
    Calls Tryd.prog 7 #[.agg #[.int .i64 n0, v0]] w fun e w' => e = .returned (.bool true) ∧ Below w.heap.size w w' := by
  have HM : Hid (FG w) := hG
  clear hG
  have h0' := h0
  obtain ⟨ad0, cap0, hv0, -⟩ := h0'
  subst hv0
  go_enter Tryd.func7, Tryd.ntmps7
  go_wp2_with fail
  refine withWorld fun X hX => ?_
  have gB : Below w.heap.size w X := (by rw [hX]; repeat (first | (with_reducible exact (Below.refl _ _)) | (with_reducible refine bel_alloc ?_ _) | (with_reducible refine Below.drew ?_) | (with_reducible refine bel_drewN ?_ _)))
  have gz : w.heap.size + 1 ≤ X.heap.size := (by rw [hX]; simp)
  have gCP00 : X.cell? ⟨w.heap.size, 0, none⟩ = some (.int .i64 n0) := (by rw [hX]; (repeat (first | (with_reducible refine cellDrew ?_) | (with_reducible refine cellDrewN ?_))); exact cellNewAt _ _ _ _ (by simp) rfl)
  have gCP01 : X.cell? ⟨w.heap.size, 1, none⟩ = some (.slice ad0 x0.length cap0) := (by rw [hX]; (repeat (first | (with_reducible refine cellDrew ?_) | (with_reducible refine cellDrewN ?_))); exact cellNewAt _ _ _ _ (by simp) rfl)
  clear hX 
  refine (lawSzRhythm' _ _ x0 _ _ (by omega) (by omega) (Ints.ofBelow h0 gB)).mono ?_
  rintro e w1 ⟨rfl, b1⟩
  have HB := Lib.hid (bel_step gB b1 gB.size)
  have z1 : w.heap.size + 1 ≤ w1.heap.size := Nat.le_trans gz b1.size
  have CP00 := cellAfter b1 gCP00
  have CP01 := cellAfter b1 gCP01
  clear gB gz gCP00 gCP01  b1 X
  have yCP00 : w.heap.size < w1.heap.size := World.block_lt_of_cell? _ _ CP00
  rcases szOf_lt (left := 1048576) (xs := x0) with s0 | s0
  · go_wp2
    go_ret
    exact ⟨rfl, by repeat (first | (with_reducible exact HB.out) | refine bel_alloc ?_ _ | refine Below.drew ?_ | refine bel_drewN ?_ _ | exact Below.refl _ _)⟩
  have l0 := szOf_len s0
  have m0 : (szOf 1048576 x0) ≤ 1048576 := szOf_le (by omega) (by omega)
  go_wp2_with fail
  refine withWorld fun X hX => ?_
  have gB : Below w.heap.size w X := (by rw [hX]; repeat (first | (with_reducible exact HB.out) | (with_reducible refine bel_alloc ?_ _) | (with_reducible refine Below.drew ?_) | (with_reducible refine bel_drewN ?_ _)))
  have gz : w1.heap.size + 0 ≤ X.heap.size := (by rw [hX]; simp)
  have gCP00 : X.cell? ⟨w.heap.size, 0, none⟩ = some (.int .i64 n0) := (by rw [hX]; repeat (first | (with_reducible exact CP00) | (with_reducible refine cellAlloc _ ?_) | (with_reducible refine cellDrew ?_) | (with_reducible refine cellDrewN ?_)))
  have gCP01 : X.cell? ⟨w.heap.size, 1, none⟩ = some (.slice ad0 x0.length cap0) := (by rw [hX]; repeat (first | (with_reducible exact CP01) | (with_reducible refine cellAlloc _ ?_) | (with_reducible refine cellDrew ?_) | (with_reducible refine cellDrewN ?_)))
  clear hX HB CP00 CP01 yCP00
  refine (lawToRhythm _ _ x0 _ (by omega) (Ints.ofBelow h0 gB)).mono ?_
  rintro e w2 ⟨ax2, kx2, rfl, o2, b2⟩
  have HB := Lib.hid (bel_step gB b2 gB.size)
  have z2 : w1.heap.size + 0 ≤ w2.heap.size := Nat.le_trans gz b2.size
  have CP00 := cellAfter b2 gCP00
  have CP01 := cellAfter b2 gCP01
  have T0 := Lib.hid (Seg.mk' (o2.mono gz))
  clear gB gz gCP00 gCP01  b2 o2 X
  have yCP00 : w.heap.size < w2.heap.size := World.block_lt_of_cell? _ _ CP00
  go_wp2_with fail
  refine withWorld fun X hX => ?_
  have gB : Below w.heap.size w X := (by rw [hX]; repeat (first | (with_reducible exact HB.out) | (with_reducible refine bel_alloc ?_ _) | (with_reducible refine Below.drew ?_) | (with_reducible refine bel_drewN ?_ _)))
  have gz : w2.heap.size + 0 ≤ X.heap.size := (by rw [hX]; simp)
  have gCP00 : X.cell? ⟨w.heap.size, 0, none⟩ = some (.int .i64 n0) := (by rw [hX]; repeat (first | (with_reducible exact CP00) | (with_reducible refine cellAlloc _ ?_) | (with_reducible refine cellDrew ?_) | (with_reducible refine cellDrewN ?_)))
  have gCP01 : X.cell? ⟨w.heap.size, 1, none⟩ = some (.slice ad0 x0.length cap0) := (by rw [hX]; repeat (first | (with_reducible exact CP01) | (with_reducible refine cellAlloc _ ?_) | (with_reducible refine cellDrew ?_) | (with_reducible refine cellDrewN ?_)))
  have gT0 : Seg X (w1.heap.size + 0) (w2.heap.size) (.slice ax2 x0.length kx2) (x0) := (by rw [hX]; repeat (first | (with_reducible exact T0.out) | (with_reducible refine Seg.alloc ?_ _) | (with_reducible refine Seg.drew ?_) | (with_reducible refine Seg.drewN ?_ _)))
  clear hX HB CP00 CP01 T0 yCP00
  refine (specFormatStepsC _ _ x0 c0 _ gT0.ints).mono ?_
  rintro e w3 ⟨rfl, b3⟩
  have HB := Lib.hid (bel_step gB b3 gB.size)
  have z3 : w2.heap.size + 0 ≤ w3.heap.size := Nat.le_trans gz b3.size
  have CP00 := cellAfter b3 gCP00
  have CP01 := cellAfter b3 gCP01
  have T0 := Lib.hid (gT0.after b3)
  clear gB gz gCP00 gCP01 gT0 b3 X
  have yCP00 : w.heap.size < w3.heap.size := World.block_lt_of_cell? _ _ CP00
  clear T0
  go_wp2_with fail
  refine withWorld fun X hX => ?_
  have gB : Below w.heap.size w X := (by rw [hX]; repeat (first | (with_reducible exact HB.out) | (with_reducible refine bel_alloc ?_ _) | (with_reducible refine Below.drew ?_) | (with_reducible refine bel_drewN ?_ _)))
  have gz : w3.heap.size + 0 ≤ X.heap.size := (by rw [hX]; simp)
  have gCP00 : X.cell? ⟨w.heap.size, 0, none⟩ = some (.int .i64 n0) := (by rw [hX]; repeat (first | (with_reducible exact CP00) | (with_reducible refine cellAlloc _ ?_) | (with_reducible refine cellDrew ?_) | (with_reducible refine cellDrewN ?_)))
  have gCP01 : X.cell? ⟨w.heap.size, 1, none⟩ = some (.slice ad0 x0.length cap0) := (by rw [hX]; repeat (first | (with_reducible exact CP01) | (with_reducible refine cellAlloc _ ?_) | (with_reducible refine cellDrew ?_) | (with_reducible refine cellDrewN ?_)))
  clear hX HB CP00 CP01 yCP00
  refine (lawToRhythm _ _ x0 _ (by omega) (Ints.ofBelow h0 gB)).mono ?_
  rintro e w4 ⟨ax4, kx4, rfl, o4, b4⟩
  have HB := Lib.hid (bel_step gB b4 gB.size)
  have z4 : w3.heap.size + 0 ≤ w4.heap.size := Nat.le_trans gz b4.size
  have CP00 := cellAfter b4 gCP00
  have CP01 := cellAfter b4 gCP01
  have Sx0 := Lib.hid (Seg.mk' (o4.mono gz))
  clear gB gz gCP00 gCP01  b4 o4 X
  have yCP00 : w.heap.size < w4.heap.size := World.block_lt_of_cell? _ _ CP00
  go_wp2_with fail
  refine withWorld fun X hX => ?_
  have gB : Below w.heap.size w X := (by rw [hX]; repeat (first | (with_reducible exact HB.out) | (with_reducible refine bel_alloc ?_ _) | (with_reducible refine Below.drew ?_) | (with_reducible refine bel_drewN ?_ _)))
  have gz : w4.heap.size + 1 ≤ X.heap.size := (by rw [hX]; simp)
  have gCP00 : X.cell? ⟨w.heap.size, 0, none⟩ = some (.int .i64 n0) := (by rw [hX]; repeat (first | (with_reducible exact CP00) | (with_reducible refine cellAlloc _ ?_) | (with_reducible refine cellDrew ?_) | (with_reducible refine cellDrewN ?_)))
  have gCP01 : X.cell? ⟨w.heap.size, 1, none⟩ = some (.slice ad0 x0.length cap0) := (by rw [hX]; repeat (first | (with_reducible exact CP01) | (with_reducible refine cellAlloc _ ?_) | (with_reducible refine cellDrew ?_) | (with_reducible refine cellDrewN ?_)))
  have gCx00 : X.cell? ⟨w4.heap.size, 0, none⟩ = some (.int .i64 n0) := (by rw [hX]; (repeat (first | (with_reducible refine cellDrew ?_) | (with_reducible refine cellDrewN ?_))); exact cellNewAt _ _ _ _ (by simp) rfl)
  have gCx01 : X.cell? ⟨w4.heap.size, 1, none⟩ = some (.slice ax4 x0.length kx4) := (by rw [hX]; (repeat (first | (with_reducible refine cellDrew ?_) | (with_reducible refine cellDrewN ?_))); exact cellNewAt _ _ _ _ (by simp) rfl)
  have gSx0 : Seg X (w3.heap.size + 0) (w4.heap.size) (.slice ax4 x0.length kx4) (x0) := (by rw [hX]; repeat (first | (with_reducible exact Sx0.out) | (with_reducible refine Seg.alloc ?_ _) | (with_reducible refine Seg.drew ?_) | (with_reducible refine Seg.drewN ?_ _)))
  clear hX HB CP00 CP01 Sx0 yCP00
  refine (implFormatStepsC _ _ x0 c0 _ (HM.out.below gB) gSx0.ints).mono ?_
  rintro e w5 ⟨rfl, b5⟩
  have HB := Lib.hid (bel_step gB b5 gB.size)
  have z5 : w4.heap.size + 1 ≤ w5.heap.size := Nat.le_trans gz b5.size
  have CP00 := cellAfter b5 gCP00
  have CP01 := cellAfter b5 gCP01
  have Cx00 := cellAfter b5 gCx00
  have Cx01 := cellAfter b5 gCx01
  have Sx0 := Lib.hid (gSx0.after b5)
  clear gB gz gCP00 gCP01 gCx00 gCx01 gSx0 b5 X
  have yCP00 : w.heap.size < w5.heap.size := World.block_lt_of_cell? _ _ CP00
  have yCx00 : w4.heap.size < w5.heap.size := World.block_lt_of_cell? _ _ Cx00
  go_wp2_with fail
  refine withWorldC fun Y hY => ?_
  have gB : Below w.heap.size w Y := (by rw [hY]; repeat (first | (with_reducible exact HB.out) | (with_reducible refine bel_alloc ?_ _) | (with_reducible refine Below.drew ?_) | (with_reducible refine bel_drewN ?_ _)))
  have gz : w5.heap.size + 0 ≤ Y.heap.size := (by rw [hY]; simp)
  have gCP00 : Y.cell? ⟨w.heap.size, 0, none⟩ = some (.int .i64 n0) := (by rw [hY]; repeat (first | (with_reducible exact CP00) | (with_reducible refine cellAlloc _ ?_) | (with_reducible refine cellDrew ?_) | (with_reducible refine cellDrewN ?_)))
  have gCP01 : Y.cell? ⟨w.heap.size, 1, none⟩ = some (.slice ad0 x0.length cap0) := (by rw [hY]; repeat (first | (with_reducible exact CP01) | (with_reducible refine cellAlloc _ ?_) | (with_reducible refine cellDrew ?_) | (with_reducible refine cellDrewN ?_)))
  have gCx00 : Y.cell? ⟨w4.heap.size, 0, none⟩ = some (.int .i64 n0) := (by rw [hY]; repeat (first | (with_reducible exact Cx00) | (with_reducible refine cellAlloc _ ?_) | (with_reducible refine cellDrew ?_) | (with_reducible refine cellDrewN ?_)))
  have gCx01 : Y.cell? ⟨w4.heap.size, 1, none⟩ = some (.slice ax4 x0.length kx4) := (by rw [hY]; repeat (first | (with_reducible exact Cx01) | (with_reducible refine cellAlloc _ ?_) | (with_reducible refine cellDrew ?_) | (with_reducible refine cellDrewN ?_)))
  have gSx0 : Seg Y (w3.heap.size + 0) (w4.heap.size) (.slice ax4 x0.length kx4) (x0) := (by rw [hY]; repeat (first | (with_reducible exact Sx0.out) | (with_reducible refine Seg.alloc ?_ _) | (with_reducible refine Seg.drew ?_) | (with_reducible refine Seg.drewN ?_ _)))
  clear hY HB CP00 CP01 Cx00 Cx01 Sx0 yCP00 yCx00
  have CP00 := gCP00
  have CP01 := gCP01
  have Cx00 := gCx00
  have Cx01 := gCx01
  have Sx0 := Lib.hid gSx0
  have HB := Lib.hid gB
  have zY5 := gz
  clear gB gz gCP00 gCP01 gCx00 gCx01 gSx0
  have yCP00 : w.heap.size < Y.heap.size := World.block_lt_of_cell? _ _ CP00
  have yCx00 : w4.heap.size < Y.heap.size := World.block_lt_of_cell? _ _ Cx00
  go_region_held3 (fun w' => w'.cell? ⟨w.heap.size, 0, none⟩ = some (.int .i64 n0) ∧ w'.cell? ⟨w.heap.size, 1, none⟩ = some (.slice ad0 x0.length cap0) ∧ w'.cell? ⟨w4.heap.size, 0, none⟩ = some (.int .i64 n0) ∧ w'.cell? ⟨w4.heap.size, 1, none⟩ = some (.slice ax4 x0.length kx4)) (first | exact ⟨CP00, CP01, Cx00, Cx01⟩ | exact ⟨cellAlloc _ CP00, cellAlloc _ CP01, cellAlloc _ Cx00, cellAlloc _ Cx01⟩) (first | (go_at_call_of 25 (Value.slice ad0 x0.length cap0); refine withWorld fun X hX => ?_; have gB : Below w.heap.size w X := (by rw [hX]; repeat (first | (with_reducible exact HB.out) | (with_reducible refine bel_alloc ?_ _) | (with_reducible refine Below.drew ?_) | (with_reducible refine bel_drewN ?_ _))); have gz : Y.heap.size + 0 ≤ X.heap.size := (by rw [hX]; simp); have gCP00 : X.cell? ⟨w.heap.size, 0, none⟩ = some (.int .i64 n0) := (by rw [hX]; repeat (first | (with_reducible exact CP00) | (with_reducible refine cellAlloc _ ?_) | (with_reducible refine cellDrew ?_) | (with_reducible refine cellDrewN ?_))); have gCP01 : X.cell? ⟨w.heap.size, 1, none⟩ = some (.slice ad0 x0.length cap0) := (by rw [hX]; repeat (first | (with_reducible exact CP01) | (with_reducible refine cellAlloc _ ?_) | (with_reducible refine cellDrew ?_) | (with_reducible refine cellDrewN ?_))); have gCx00 : X.cell? ⟨w4.heap.size, 0, none⟩ = some (.int .i64 n0) := (by rw [hX]; repeat (first | (with_reducible exact Cx00) | (with_reducible refine cellAlloc _ ?_) | (with_reducible refine cellDrew ?_) | (with_reducible refine cellDrewN ?_))); have gCx01 : X.cell? ⟨w4.heap.size, 1, none⟩ = some (.slice ax4 x0.length kx4) := (by rw [hX]; repeat (first | (with_reducible exact Cx01) | (with_reducible refine cellAlloc _ ?_) | (with_reducible refine cellDrew ?_) | (with_reducible refine cellDrewN ?_))); have gSx0 : Seg X (w3.heap.size + 0) (w4.heap.size) (.slice ax4 x0.length kx4) (x0) := (by rw [hX]; repeat (first | (with_reducible exact Sx0.out) | (with_reducible refine Seg.alloc ?_ _) | (with_reducible refine Seg.drew ?_) | (with_reducible refine Seg.drewN ?_ _))); clear hX HB CP00 CP01 Cx00 Cx01 Sx0 yCP00 yCx00; refine (lawToRhythm _ _ x0 _ (by omega) (Ints.ofBelow h0 gB)).mono ?_; rintro e w6 ⟨ax6, kx6, rfl, o6, b6⟩; have HB := Lib.hid (bel_step gB b6 gB.size); have z6 : Y.heap.size + 0 ≤ w6.heap.size := Nat.le_trans gz b6.size; have CP00 := cellAfter b6 gCP00; have CP01 := cellAfter b6 gCP01; have Cx00 := cellAfter b6 gCx00; have Cx01 := cellAfter b6 gCx01; have Sx0 := Lib.hid (gSx0.after b6); have T1 := Lib.hid (Seg.mk' (o6.mono gz)); clear gB gz gCP00 gCP01 gCx00 gCx01 gSx0 b6 o6 X; have yCP00 : w.heap.size < w6.heap.size := World.block_lt_of_cell? _ _ CP00; have yCx00 : w4.heap.size < w6.heap.size := World.block_lt_of_cell? _ _ Cx00) | (go_at_call 18; refine withWorld fun X hX => ?_; have gB : Below w.heap.size w X := (by rw [hX]; repeat (first | (with_reducible exact HB.out) | (with_reducible refine bel_alloc ?_ _) | (with_reducible refine Below.drew ?_) | (with_reducible refine bel_drewN ?_ _))); have gz : w6.heap.size + 0 ≤ X.heap.size := (by rw [hX]; simp); have gCP00 : X.cell? ⟨w.heap.size, 0, none⟩ = some (.int .i64 n0) := (by rw [hX]; repeat (first | (with_reducible exact CP00) | (with_reducible refine cellAlloc _ ?_) | (with_reducible refine cellDrew ?_) | (with_reducible refine cellDrewN ?_))); have gCP01 : X.cell? ⟨w.heap.size, 1, none⟩ = some (.slice ad0 x0.length cap0) := (by rw [hX]; repeat (first | (with_reducible exact CP01) | (with_reducible refine cellAlloc _ ?_) | (with_reducible refine cellDrew ?_) | (with_reducible refine cellDrewN ?_))); have gCx00 : X.cell? ⟨w4.heap.size, 0, none⟩ = some (.int .i64 n0) := (by rw [hX]; repeat (first | (with_reducible exact Cx00) | (with_reducible refine cellAlloc _ ?_) | (with_reducible refine cellDrew ?_) | (with_reducible refine cellDrewN ?_))); have gCx01 : X.cell? ⟨w4.heap.size, 1, none⟩ = some (.slice ax4 x0.length kx4) := (by rw [hX]; repeat (first | (with_reducible exact Cx01) | (with_reducible refine cellAlloc _ ?_) | (with_reducible refine cellDrew ?_) | (with_reducible refine cellDrewN ?_))); have gSx0 : Seg X (w3.heap.size + 0) (w4.heap.size) (.slice ax4 x0.length kx4) (x0) := (by rw [hX]; repeat (first | (with_reducible exact Sx0.out) | (with_reducible refine Seg.alloc ?_ _) | (with_reducible refine Seg.drew ?_) | (with_reducible refine Seg.drewN ?_ _))); have gT1 : Seg X (Y.heap.size + 0) (w6.heap.size) (.slice ax6 x0.length kx6) (x0) := (by rw [hX]; repeat (first | (with_reducible exact T1.out) | (with_reducible refine Seg.alloc ?_ _) | (with_reducible refine Seg.drew ?_) | (with_reducible refine Seg.drewN ?_ _))); clear hX HB CP00 CP01 Cx00 Cx01 Sx0 T1 yCP00 yCx00; refine (lawEqRhythm _ _ _ _ x0 x0 _ gSx0.ints gT1.ints).mono ?_; rintro e w7 ⟨rfl, b7⟩; have HB := Lib.hid (bel_step gB b7 gB.size); have z7 : w6.heap.size + 0 ≤ w7.heap.size := Nat.le_trans gz b7.size; have CP00 := cellAfter b7 gCP00; have CP01 := cellAfter b7 gCP01; have Cx00 := cellAfter b7 gCx00; have Cx01 := cellAfter b7 gCx01; have Sx0 := Lib.hid (gSx0.after b7); have T1 := Lib.hid (gT1.after b7); clear gB gz gCP00 gCP01 gCx00 gCx01 gSx0 gT1 b7 X; have yCP00 : w.heap.size < w7.heap.size := World.block_lt_of_cell? _ _ CP00; have yCx00 : w4.heap.size < w7.heap.size := World.block_lt_of_cell? _ _ Cx00; rw [eqR_self]))
  clear T1
  go_wp2
  go_ret
  exact ⟨rfl, by repeat (first | (with_reducible exact HB.out) | refine bel_alloc ?_ _ | refine Below.drew ?_ | refine bel_drewN ?_ _ | exact Below.refl _ _)⟩
end Go.Proofs.YtcgpmdfcdngnlaaDoor.fnExactFormatSteps
