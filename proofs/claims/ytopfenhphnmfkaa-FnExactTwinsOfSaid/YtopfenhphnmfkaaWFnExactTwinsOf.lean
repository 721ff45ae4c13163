/-
  The walk of FnExactTwinsOf: it returns true and writes nothing that was there.
  Conditions: the arguments lie in memory as the statement's reading says.
-/
import Derived.Test.YtopfenhphnmfkaaR6
import Derived.Test.YtopfenhphnmfkaaR7
import Derived.Test.YtopfenhphnmfkaaC3
import Derived.Test.YtopfenhphnmfkaaB0
set_option linter.unusedVariables false
set_option linter.unusedSimpArgs false
namespace Go.Proofs.Ytopfenhphnmfkaa.fnExactTwinsOf
open Go.RowKit
set_option linter.unusedVariables false


theorem walk (w : World) (n0 : Int) (v0 : Value) (x0 : List Int) (c0 : I64 n0) (h0 : Ints w w.heap.size v0 x0) (b0 : ∀ n ∈ x0, I64 n) :
    Calls Try.prog 9 #[.agg #[.int .i64 n0, v0]] w fun e w' => e = .returned (.bool true) ∧ Below w.heap.size w w' := by
  have h0' := h0
  obtain ⟨ad0, cap0, hv0, -⟩ := h0'
  subst hv0
  go_enter Try.func9, Try.ntmps9
  go_wp2_with fail
  refine withWorld fun X hX => ?_
  have gB : Below w.heap.size w X := (by rw [hX]; repeat (first | (with_reducible exact (Below.refl _ _)) | (with_reducible refine bel_alloc ?_ _) | (with_reducible refine Below.drew ?_) | (with_reducible refine bel_drewN ?_ _)))
  have gz : w.heap.size + 1 ≤ X.heap.size := (by rw [hX]; simp)
  have gCP00 : X.cell? ⟨w.heap.size, 0, none⟩ = some (.int .i64 n0) := (by rw [hX]; (repeat (first | (with_reducible refine cellDrew ?_) | (with_reducible refine cellDrewN ?_))); exact cellNewAt _ _ _ _ (by simp) rfl)
  have gCP01 : X.cell? ⟨w.heap.size, 1, none⟩ = some (.slice ad0 x0.length cap0) := (by rw [hX]; (repeat (first | (with_reducible refine cellDrew ?_) | (with_reducible refine cellDrewN ?_))); exact cellNewAt _ _ _ _ (by simp) rfl)
  clear hX 
  refine (lawSzRhythm' _ _ x0 _ _ (by omega) (by omega) (Ints.ofBelow h0 gB)).mono ?_
  rintro e w1 ⟨rfl, b1⟩
  have HB := Lib.hid (bel_step gB b1 gB.size)
  have z1 : w.heap.size + 1 ≤ w1.heap.size := Nat.le_trans gz b1.size
  have CP00 := cellAfter b1 gCP00
  have CP01 := cellAfter b1 gCP01
  clear gB gz gCP00 gCP01  b1 X
  have yCP00 : w.heap.size < w1.heap.size := World.block_lt_of_cell? _ _ CP00
  rcases szOf_lt (left := 1048576) (xs := x0) with s0 | s0
  · go_wp2
    go_ret
    exact ⟨rfl, by repeat (first | (with_reducible exact HB.out) | refine bel_alloc ?_ _ | refine Below.drew ?_ | refine bel_drewN ?_ _ | exact Below.refl _ _)⟩
  have l0 := szOf_len s0
  have m0 : (szOf 1048576 x0) ≤ 1048576 := szOf_le (by omega) (by omega)
  go_wp2_with fail
  refine withWorld fun X hX => ?_
  have gB : Below w.heap.size w X := (by rw [hX]; repeat (first | (with_reducible exact HB.out) | (with_reducible refine bel_alloc ?_ _) | (with_reducible refine Below.drew ?_) | (with_reducible refine bel_drewN ?_ _)))
  have gz : w1.heap.size + 0 ≤ X.heap.size := (by rw [hX]; simp)
  have gCP00 : X.cell? ⟨w.heap.size, 0, none⟩ = some (.int .i64 n0) := (by rw [hX]; repeat (first | (with_reducible exact CP00) | (with_reducible refine cellAlloc _ ?_) | (with_reducible refine cellDrew ?_) | (with_reducible refine cellDrewN ?_)))
  have gCP01 : X.cell? ⟨w.heap.size, 1, none⟩ = some (.slice ad0 x0.length cap0) := (by rw [hX]; repeat (first | (with_reducible exact CP01) | (with_reducible refine cellAlloc _ ?_) | (with_reducible refine cellDrew ?_) | (with_reducible refine cellDrewN ?_)))
  clear hX HB CP00 CP01 yCP00
  refine (lawToRhythm _ _ x0 _ (by omega) (Ints.ofBelow h0 gB)).mono ?_
  rintro e w2 ⟨ax2, kx2, rfl, o2, b2⟩
  have HB := Lib.hid (bel_step gB b2 gB.size)
  have z2 : w1.heap.size + 0 ≤ w2.heap.size := Nat.le_trans gz b2.size
  have CP00 := cellAfter b2 gCP00
  have CP01 := cellAfter b2 gCP01
  have T0 := Lib.hid (Seg.mk' (o2.mono gz))
  clear gB gz gCP00 gCP01  b2 o2 X
  have yCP00 : w.heap.size < w2.heap.size := World.block_lt_of_cell? _ _ CP00
  go_wp2_with fail
  refine withWorld fun X hX => ?_
  have gB : Below w.heap.size w X := (by rw [hX]; repeat (first | (with_reducible exact HB.out) | (with_reducible refine bel_alloc ?_ _) | (with_reducible refine Below.drew ?_) | (with_reducible refine bel_drewN ?_ _)))
  have gz : w2.heap.size + 0 ≤ X.heap.size := (by rw [hX]; simp)
  have gCP00 : X.cell? ⟨w.heap.size, 0, none⟩ = some (.int .i64 n0) := (by rw [hX]; repeat (first | (with_reducible exact CP00) | (with_reducible refine cellAlloc _ ?_) | (with_reducible refine cellDrew ?_) | (with_reducible refine cellDrewN ?_)))
  have gCP01 : X.cell? ⟨w.heap.size, 1, none⟩ = some (.slice ad0 x0.length cap0) := (by rw [hX]; repeat (first | (with_reducible exact CP01) | (with_reducible refine cellAlloc _ ?_) | (with_reducible refine cellDrew ?_) | (with_reducible refine cellDrewN ?_)))
  have gT0 : Seg X (w1.heap.size + 0) (w2.heap.size) (.slice ax2 x0.length kx2) (x0) := (by rw [hX]; repeat (first | (with_reducible exact T0.out) | (with_reducible refine Seg.alloc ?_ _) | (with_reducible refine Seg.drew ?_) | (with_reducible refine Seg.drewN ?_ _)))
  clear hX HB CP00 CP01 T0 yCP00
  refine (specTwinsOfC _ _ x0 c0 _ gT0.ints).mono ?_
  rintro e w3 ⟨ax3, kx3, rfl, o3, b3⟩
  have HB := Lib.hid (bel_step gB b3 gB.size)
  have z3 : w2.heap.size + 0 ≤ w3.heap.size := Nat.le_trans gz b3.size
  have CP00 := cellAfter b3 gCP00
  have CP01 := cellAfter b3 gCP01
  have T0 := Lib.hid (gT0.after b3)
  have Sw0 := Lib.hid (o3.low gz (Nat.le_refl _))
  clear gB gz gCP00 gCP01 gT0 b3 o3 X
  have yCP00 : w.heap.size < w3.heap.size := World.block_lt_of_cell? _ _ CP00
  clear T0
  go_wp2_with fail
  refine withWorld fun X hX => ?_
  have gB : Below w.heap.size w X := (by rw [hX]; repeat (first | (with_reducible exact HB.out) | (with_reducible refine bel_alloc ?_ _) | (with_reducible refine Below.drew ?_) | (with_reducible refine bel_drewN ?_ _)))
  have gz : w3.heap.size + 0 ≤ X.heap.size := (by rw [hX]; simp)
  have gCP00 : X.cell? ⟨w.heap.size, 0, none⟩ = some (.int .i64 n0) := (by rw [hX]; repeat (first | (with_reducible exact CP00) | (with_reducible refine cellAlloc _ ?_) | (with_reducible refine cellDrew ?_) | (with_reducible refine cellDrewN ?_)))
  have gCP01 : X.cell? ⟨w.heap.size, 1, none⟩ = some (.slice ad0 x0.length cap0) := (by rw [hX]; repeat (first | (with_reducible exact CP01) | (with_reducible refine cellAlloc _ ?_) | (with_reducible refine cellDrew ?_) | (with_reducible refine cellDrewN ?_)))
  have gSw0 : SegR X (w2.heap.size + 0) (w3.heap.size) (.slice ax3 (lstTwinsOf n0 x0).length kx3) ((lstTwinsOf n0 x0)) := (by rw [hX]; repeat (first | (with_reducible exact Sw0.out) | (with_reducible refine SegR.alloc ?_ _) | (with_reducible refine SegR.drew ?_) | (with_reducible refine SegR.drewN ?_ _)))
  clear hX HB CP00 CP01 Sw0 yCP00
  refine (lawToRhythm _ _ x0 _ (by omega) (Ints.ofBelow h0 gB)).mono ?_
  rintro e w4 ⟨ax4, kx4, rfl, o4, b4⟩
  have HB := Lib.hid (bel_step gB b4 gB.size)
  have z4 : w3.heap.size + 0 ≤ w4.heap.size := Nat.le_trans gz b4.size
  have CP00 := cellAfter b4 gCP00
  have CP01 := cellAfter b4 gCP01
  have Sw0 := Lib.hid (gSw0.after b4)
  have Sx0 := Lib.hid (Seg.mk' (o4.mono gz))
  clear gB gz gCP00 gCP01 gSw0 b4 o4 X
  have yCP00 : w.heap.size < w4.heap.size := World.block_lt_of_cell? _ _ CP00
  go_wp2_with fail
  refine withWorld fun X hX => ?_
  have gB : Below w.heap.size w X := (by rw [hX]; repeat (first | (with_reducible exact HB.out) | (with_reducible refine bel_alloc ?_ _) | (with_reducible refine Below.drew ?_) | (with_reducible refine bel_drewN ?_ _)))
  have gz : w4.heap.size + 1 ≤ X.heap.size := (by rw [hX]; simp)
  have gCP00 : X.cell? ⟨w.heap.size, 0, none⟩ = some (.int .i64 n0) := (by rw [hX]; repeat (first | (with_reducible exact CP00) | (with_reducible refine cellAlloc _ ?_) | (with_reducible refine cellDrew ?_) | (with_reducible refine cellDrewN ?_)))
  have gCP01 : X.cell? ⟨w.heap.size, 1, none⟩ = some (.slice ad0 x0.length cap0) := (by rw [hX]; repeat (first | (with_reducible exact CP01) | (with_reducible refine cellAlloc _ ?_) | (with_reducible refine cellDrew ?_) | (with_reducible refine cellDrewN ?_)))
  have gCx00 : X.cell? ⟨w4.heap.size, 0, none⟩ = some (.int .i64 n0) := (by rw [hX]; (repeat (first | (with_reducible refine cellDrew ?_) | (with_reducible refine cellDrewN ?_))); exact cellNewAt _ _ _ _ (by simp) rfl)
  have gCx01 : X.cell? ⟨w4.heap.size, 1, none⟩ = some (.slice ax4 x0.length kx4) := (by rw [hX]; (repeat (first | (with_reducible refine cellDrew ?_) | (with_reducible refine cellDrewN ?_))); exact cellNewAt _ _ _ _ (by simp) rfl)
  have gSw0 : SegR X (w2.heap.size + 0) (w3.heap.size) (.slice ax3 (lstTwinsOf n0 x0).length kx3) ((lstTwinsOf n0 x0)) := (by rw [hX]; repeat (first | (with_reducible exact Sw0.out) | (with_reducible refine SegR.alloc ?_ _) | (with_reducible refine SegR.drew ?_) | (with_reducible refine SegR.drewN ?_ _)))
  have gSx0 : Seg X (w3.heap.size + 0) (w4.heap.size) (.slice ax4 x0.length kx4) (x0) := (by rw [hX]; repeat (first | (with_reducible exact Sx0.out) | (with_reducible refine Seg.alloc ?_ _) | (with_reducible refine Seg.drew ?_) | (with_reducible refine Seg.drewN ?_ _)))
  clear hX HB CP00 CP01 Sw0 Sx0 yCP00
  refine (implTwinsOfC _ _ x0 c0 _ gSx0.ints).mono ?_
  rintro e w5 ⟨ax5, kx5, rfl, o5, b5⟩
  have HB := Lib.hid (bel_step gB b5 gB.size)
  have z5 : w4.heap.size + 1 ≤ w5.heap.size := Nat.le_trans gz b5.size
  have CP00 := cellAfter b5 gCP00
  have CP01 := cellAfter b5 gCP01
  have Cx00 := cellAfter b5 gCx00
  have Cx01 := cellAfter b5 gCx01
  have Sw0 := Lib.hid (gSw0.after b5)
  have Sx0 := Lib.hid (gSx0.after b5)
  have Sg0 := Lib.hid (o5.low gz (Nat.le_refl _))
  clear gB gz gCP00 gCP01 gCx00 gCx01 gSw0 gSx0 b5 o5 X
  have yCP00 : w.heap.size < w5.heap.size := World.block_lt_of_cell? _ _ CP00
  have yCx00 : w4.heap.size < w5.heap.size := World.block_lt_of_cell? _ _ Cx00
  go_wp2_with fail
  refine withWorld fun X hX => ?_
  have gB : Below w.heap.size w X := (by rw [hX]; repeat (first | (with_reducible exact HB.out) | (with_reducible refine bel_alloc ?_ _) | (with_reducible refine Below.drew ?_) | (with_reducible refine bel_drewN ?_ _)))
  have gz : w5.heap.size + 0 ≤ X.heap.size := (by rw [hX]; simp)
  have gCP00 : X.cell? ⟨w.heap.size, 0, none⟩ = some (.int .i64 n0) := (by rw [hX]; repeat (first | (with_reducible exact CP00) | (with_reducible refine cellAlloc _ ?_) | (with_reducible refine cellDrew ?_) | (with_reducible refine cellDrewN ?_)))
  have gCP01 : X.cell? ⟨w.heap.size, 1, none⟩ = some (.slice ad0 x0.length cap0) := (by rw [hX]; repeat (first | (with_reducible exact CP01) | (with_reducible refine cellAlloc _ ?_) | (with_reducible refine cellDrew ?_) | (with_reducible refine cellDrewN ?_)))
  have gCx00 : X.cell? ⟨w4.heap.size, 0, none⟩ = some (.int .i64 n0) := (by rw [hX]; repeat (first | (with_reducible exact Cx00) | (with_reducible refine cellAlloc _ ?_) | (with_reducible refine cellDrew ?_) | (with_reducible refine cellDrewN ?_)))
  have gCx01 : X.cell? ⟨w4.heap.size, 1, none⟩ = some (.slice ax4 x0.length kx4) := (by rw [hX]; repeat (first | (with_reducible exact Cx01) | (with_reducible refine cellAlloc _ ?_) | (with_reducible refine cellDrew ?_) | (with_reducible refine cellDrewN ?_)))
  have gSw0 : SegR X (w2.heap.size + 0) (w3.heap.size) (.slice ax3 (lstTwinsOf n0 x0).length kx3) ((lstTwinsOf n0 x0)) := (by rw [hX]; repeat (first | (with_reducible exact Sw0.out) | (with_reducible refine SegR.alloc ?_ _) | (with_reducible refine SegR.drew ?_) | (with_reducible refine SegR.drewN ?_ _)))
  have gSx0 : Seg X (w3.heap.size + 0) (w4.heap.size) (.slice ax4 x0.length kx4) (x0) := (by rw [hX]; repeat (first | (with_reducible exact Sx0.out) | (with_reducible refine Seg.alloc ?_ _) | (with_reducible refine Seg.drew ?_) | (with_reducible refine Seg.drewN ?_ _)))
  have gSg0 : SegR X (w4.heap.size + 1) (w5.heap.size) (.slice ax5 (lstTwinsOf n0 x0).length kx5) ((lstTwinsOf n0 x0)) := (by rw [hX]; repeat (first | (with_reducible exact Sg0.out) | (with_reducible refine SegR.alloc ?_ _) | (with_reducible refine SegR.drew ?_) | (with_reducible refine SegR.drewN ?_ _)))
  clear hX HB CP00 CP01 Cx00 Cx01 Sw0 Sx0 Sg0 yCP00 yCx00
  refine (lawEqRhythmS _ _ (lstTwinsOf n0 x0) (lstTwinsOf n0 x0) _ _ _ _ _ rfl gSg0 gSw0).mono ?_
  rintro e w6 ⟨rfl, b6⟩
  have HB := Lib.hid (bel_step gB b6 gB.size)
  have z6 : w5.heap.size + 0 ≤ w6.heap.size := Nat.le_trans gz b6.size
  have CP00 := cellAfter b6 gCP00
  have CP01 := cellAfter b6 gCP01
  have Cx00 := cellAfter b6 gCx00
  have Cx01 := cellAfter b6 gCx01
  have Sw0 := Lib.hid (gSw0.after b6)
  have Sx0 := Lib.hid (gSx0.after b6)
  have Sg0 := Lib.hid (gSg0.after b6)
  clear gB gz gCP00 gCP01 gCx00 gCx01 gSw0 gSx0 gSg0 b6 X
  have yCP00 : w.heap.size < w6.heap.size := World.block_lt_of_cell? _ _ CP00
  have yCx00 : w4.heap.size < w6.heap.size := World.block_lt_of_cell? _ _ Cx00
  go_wp2_with fail
  refine withWorldC fun Y hY => ?_
  have gB : Below w.heap.size w Y := (by rw [hY]; repeat (first | (with_reducible exact HB.out) | (with_reducible refine bel_alloc ?_ _) | (with_reducible refine Below.drew ?_) | (with_reducible refine bel_drewN ?_ _)))
  have gz : w6.heap.size + 0 ≤ Y.heap.size := (by rw [hY]; simp)
  have gCP00 : Y.cell? ⟨w.heap.size, 0, none⟩ = some (.int .i64 n0) := (by rw [hY]; repeat (first | (with_reducible exact CP00) | (with_reducible refine cellAlloc _ ?_) | (with_reducible refine cellDrew ?_) | (with_reducible refine cellDrewN ?_)))
  have gCP01 : Y.cell? ⟨w.heap.size, 1, none⟩ = some (.slice ad0 x0.length cap0) := (by rw [hY]; repeat (first | (with_reducible exact CP01) | (with_reducible refine cellAlloc _ ?_) | (with_reducible refine cellDrew ?_) | (with_reducible refine cellDrewN ?_)))
  have gCx00 : Y.cell? ⟨w4.heap.size, 0, none⟩ = some (.int .i64 n0) := (by rw [hY]; repeat (first | (with_reducible exact Cx00) | (with_reducible refine cellAlloc _ ?_) | (with_reducible refine cellDrew ?_) | (with_reducible refine cellDrewN ?_)))
  have gCx01 : Y.cell? ⟨w4.heap.size, 1, none⟩ = some (.slice ax4 x0.length kx4) := (by rw [hY]; repeat (first | (with_reducible exact Cx01) | (with_reducible refine cellAlloc _ ?_) | (with_reducible refine cellDrew ?_) | (with_reducible refine cellDrewN ?_)))
  have gSw0 : SegR Y (w2.heap.size + 0) (w3.heap.size) (.slice ax3 (lstTwinsOf n0 x0).length kx3) ((lstTwinsOf n0 x0)) := (by rw [hY]; repeat (first | (with_reducible exact Sw0.out) | (with_reducible refine SegR.alloc ?_ _) | (with_reducible refine SegR.drew ?_) | (with_reducible refine SegR.drewN ?_ _)))
  have gSx0 : Seg Y (w3.heap.size + 0) (w4.heap.size) (.slice ax4 x0.length kx4) (x0) := (by rw [hY]; repeat (first | (with_reducible exact Sx0.out) | (with_reducible refine Seg.alloc ?_ _) | (with_reducible refine Seg.drew ?_) | (with_reducible refine Seg.drewN ?_ _)))
  have gSg0 : SegR Y (w4.heap.size + 1) (w5.heap.size) (.slice ax5 (lstTwinsOf n0 x0).length kx5) ((lstTwinsOf n0 x0)) := (by rw [hY]; repeat (first | (with_reducible exact Sg0.out) | (with_reducible refine SegR.alloc ?_ _) | (with_reducible refine SegR.drew ?_) | (with_reducible refine SegR.drewN ?_ _)))
  clear hY HB CP00 CP01 Cx00 Cx01 Sw0 Sx0 Sg0 yCP00 yCx00
  have CP00 := gCP00
  have CP01 := gCP01
  have Cx00 := gCx00
  have Cx01 := gCx01
  have Sw0 := Lib.hid gSw0
  have Sx0 := Lib.hid gSx0
  have Sg0 := Lib.hid gSg0
  have HB := Lib.hid gB
  have zY6 := gz
  clear gB gz gCP00 gCP01 gCx00 gCx01 gSw0 gSx0 gSg0
  have yCP00 : w.heap.size < Y.heap.size := World.block_lt_of_cell? _ _ CP00
  have yCx00 : w4.heap.size < Y.heap.size := World.block_lt_of_cell? _ _ Cx00
  go_region_held3 (fun w' => w'.cell? ⟨w.heap.size, 0, none⟩ = some (.int .i64 n0) ∧ w'.cell? ⟨w.heap.size, 1, none⟩ = some (.slice ad0 x0.length cap0) ∧ w'.cell? ⟨w4.heap.size, 0, none⟩ = some (.int .i64 n0) ∧ w'.cell? ⟨w4.heap.size, 1, none⟩ = some (.slice ax4 x0.length kx4)) (first | exact ⟨CP00, CP01, Cx00, Cx01⟩ | exact ⟨cellAlloc _ CP00, cellAlloc _ CP01, cellAlloc _ Cx00, cellAlloc _ Cx01⟩) (first | (go_at_call_of 29 (Value.slice ad0 x0.length cap0); refine withWorld fun X hX => ?_; have gB : Below w.heap.size w X := (by rw [hX]; repeat (first | (with_reducible exact HB.out) | (with_reducible refine bel_alloc ?_ _) | (with_reducible refine Below.drew ?_) | (with_reducible refine bel_drewN ?_ _))); have gz : Y.heap.size + 0 ≤ X.heap.size := (by rw [hX]; simp); have gCP00 : X.cell? ⟨w.heap.size, 0, none⟩ = some (.int .i64 n0) := (by rw [hX]; repeat (first | (with_reducible exact CP00) | (with_reducible refine cellAlloc _ ?_) | (with_reducible refine cellDrew ?_) | (with_reducible refine cellDrewN ?_))); have gCP01 : X.cell? ⟨w.heap.size, 1, none⟩ = some (.slice ad0 x0.length cap0) := (by rw [hX]; repeat (first | (with_reducible exact CP01) | (with_reducible refine cellAlloc _ ?_) | (with_reducible refine cellDrew ?_) | (with_reducible refine cellDrewN ?_))); have gCx00 : X.cell? ⟨w4.heap.size, 0, none⟩ = some (.int .i64 n0) := (by rw [hX]; repeat (first | (with_reducible exact Cx00) | (with_reducible refine cellAlloc _ ?_) | (with_reducible refine cellDrew ?_) | (with_reducible refine cellDrewN ?_))); have gCx01 : X.cell? ⟨w4.heap.size, 1, none⟩ = some (.slice ax4 x0.length kx4) := (by rw [hX]; repeat (first | (with_reducible exact Cx01) | (with_reducible refine cellAlloc _ ?_) | (with_reducible refine cellDrew ?_) | (with_reducible refine cellDrewN ?_))); have gSw0 : SegR X (w2.heap.size + 0) (w3.heap.size) (.slice ax3 (lstTwinsOf n0 x0).length kx3) ((lstTwinsOf n0 x0)) := (by rw [hX]; repeat (first | (with_reducible exact Sw0.out) | (with_reducible refine SegR.alloc ?_ _) | (with_reducible refine SegR.drew ?_) | (with_reducible refine SegR.drewN ?_ _))); have gSx0 : Seg X (w3.heap.size + 0) (w4.heap.size) (.slice ax4 x0.length kx4) (x0) := (by rw [hX]; repeat (first | (with_reducible exact Sx0.out) | (with_reducible refine Seg.alloc ?_ _) | (with_reducible refine Seg.drew ?_) | (with_reducible refine Seg.drewN ?_ _))); have gSg0 : SegR X (w4.heap.size + 1) (w5.heap.size) (.slice ax5 (lstTwinsOf n0 x0).length kx5) ((lstTwinsOf n0 x0)) := (by rw [hX]; repeat (first | (with_reducible exact Sg0.out) | (with_reducible refine SegR.alloc ?_ _) | (with_reducible refine SegR.drew ?_) | (with_reducible refine SegR.drewN ?_ _))); clear hX HB CP00 CP01 Cx00 Cx01 Sw0 Sx0 Sg0 yCP00 yCx00; refine (lawToRhythm _ _ x0 _ (by omega) (Ints.ofBelow h0 gB)).mono ?_; rintro e w7 ⟨ax7, kx7, rfl, o7, b7⟩; have HB := Lib.hid (bel_step gB b7 gB.size); have z7 : Y.heap.size + 0 ≤ w7.heap.size := Nat.le_trans gz b7.size; have CP00 := cellAfter b7 gCP00; have CP01 := cellAfter b7 gCP01; have Cx00 := cellAfter b7 gCx00; have Cx01 := cellAfter b7 gCx01; have Sw0 := Lib.hid (gSw0.after b7); have Sx0 := Lib.hid (gSx0.after b7); have Sg0 := Lib.hid (gSg0.after b7); have T1 := Lib.hid (Seg.mk' (o7.mono gz)); clear gB gz gCP00 gCP01 gCx00 gCx01 gSw0 gSx0 gSg0 b7 o7 X; have yCP00 : w.heap.size < w7.heap.size := World.block_lt_of_cell? _ _ CP00; have yCx00 : w4.heap.size < w7.heap.size := World.block_lt_of_cell? _ _ Cx00) | (go_at_call 32; refine withWorld fun X hX => ?_; have gB : Below w.heap.size w X := (by rw [hX]; repeat (first | (with_reducible exact HB.out) | (with_reducible refine bel_alloc ?_ _) | (with_reducible refine Below.drew ?_) | (with_reducible refine bel_drewN ?_ _))); have gz : w7.heap.size + 0 ≤ X.heap.size := (by rw [hX]; simp); have gCP00 : X.cell? ⟨w.heap.size, 0, none⟩ = some (.int .i64 n0) := (by rw [hX]; repeat (first | (with_reducible exact CP00) | (with_reducible refine cellAlloc _ ?_) | (with_reducible refine cellDrew ?_) | (with_reducible refine cellDrewN ?_))); have gCP01 : X.cell? ⟨w.heap.size, 1, none⟩ = some (.slice ad0 x0.length cap0) := (by rw [hX]; repeat (first | (with_reducible exact CP01) | (with_reducible refine cellAlloc _ ?_) | (with_reducible refine cellDrew ?_) | (with_reducible refine cellDrewN ?_))); have gCx00 : X.cell? ⟨w4.heap.size, 0, none⟩ = some (.int .i64 n0) := (by rw [hX]; repeat (first | (with_reducible exact Cx00) | (with_reducible refine cellAlloc _ ?_) | (with_reducible refine cellDrew ?_) | (with_reducible refine cellDrewN ?_))); have gCx01 : X.cell? ⟨w4.heap.size, 1, none⟩ = some (.slice ax4 x0.length kx4) := (by rw [hX]; repeat (first | (with_reducible exact Cx01) | (with_reducible refine cellAlloc _ ?_) | (with_reducible refine cellDrew ?_) | (with_reducible refine cellDrewN ?_))); have gSw0 : SegR X (w2.heap.size + 0) (w3.heap.size) (.slice ax3 (lstTwinsOf n0 x0).length kx3) ((lstTwinsOf n0 x0)) := (by rw [hX]; repeat (first | (with_reducible exact Sw0.out) | (with_reducible refine SegR.alloc ?_ _) | (with_reducible refine SegR.drew ?_) | (with_reducible refine SegR.drewN ?_ _))); have gSx0 : Seg X (w3.heap.size + 0) (w4.heap.size) (.slice ax4 x0.length kx4) (x0) := (by rw [hX]; repeat (first | (with_reducible exact Sx0.out) | (with_reducible refine Seg.alloc ?_ _) | (with_reducible refine Seg.drew ?_) | (with_reducible refine Seg.drewN ?_ _))); have gSg0 : SegR X (w4.heap.size + 1) (w5.heap.size) (.slice ax5 (lstTwinsOf n0 x0).length kx5) ((lstTwinsOf n0 x0)) := (by rw [hX]; repeat (first | (with_reducible exact Sg0.out) | (with_reducible refine SegR.alloc ?_ _) | (with_reducible refine SegR.drew ?_) | (with_reducible refine SegR.drewN ?_ _))); have gT1 : Seg X (Y.heap.size + 0) (w7.heap.size) (.slice ax7 x0.length kx7) (x0) := (by rw [hX]; repeat (first | (with_reducible exact T1.out) | (with_reducible refine Seg.alloc ?_ _) | (with_reducible refine Seg.drew ?_) | (with_reducible refine Seg.drewN ?_ _))); clear hX HB CP00 CP01 Cx00 Cx01 Sw0 Sx0 Sg0 T1 yCP00 yCx00; refine (lawEqRhythm _ _ _ _ x0 x0 _ gSx0.ints gT1.ints).mono ?_; rintro e w8 ⟨rfl, b8⟩; have HB := Lib.hid (bel_step gB b8 gB.size); have z8 : w7.heap.size + 0 ≤ w8.heap.size := Nat.le_trans gz b8.size; have CP00 := cellAfter b8 gCP00; have CP01 := cellAfter b8 gCP01; have Cx00 := cellAfter b8 gCx00; have Cx01 := cellAfter b8 gCx01; have Sw0 := Lib.hid (gSw0.after b8); have Sx0 := Lib.hid (gSx0.after b8); have Sg0 := Lib.hid (gSg0.after b8); have T1 := Lib.hid (gT1.after b8); clear gB gz gCP00 gCP01 gCx00 gCx01 gSw0 gSx0 gSg0 gT1 b8 X; have yCP00 : w.heap.size < w8.heap.size := World.block_lt_of_cell? _ _ CP00; have yCx00 : w4.heap.size < w8.heap.size := World.block_lt_of_cell? _ _ Cx00; rw [eqR_self]))
  clear T1
  go_wp2_with fail
  refine withWorld fun X hX => ?_
  have gB : Below w.heap.size w X := (by rw [hX]; repeat (first | (with_reducible exact HB.out) | (with_reducible refine bel_alloc ?_ _) | (with_reducible refine Below.drew ?_) | (with_reducible refine bel_drewN ?_ _)))
  have gz : w8.heap.size + 0 ≤ X.heap.size := (by rw [hX]; simp)
  have gCP00 : X.cell? ⟨w.heap.size, 0, none⟩ = some (.int .i64 n0) := (by rw [hX]; repeat (first | (with_reducible exact CP00) | (with_reducible refine cellAlloc _ ?_) | (with_reducible refine cellDrew ?_) | (with_reducible refine cellDrewN ?_)))
  have gCP01 : X.cell? ⟨w.heap.size, 1, none⟩ = some (.slice ad0 x0.length cap0) := (by rw [hX]; repeat (first | (with_reducible exact CP01) | (with_reducible refine cellAlloc _ ?_) | (with_reducible refine cellDrew ?_) | (with_reducible refine cellDrewN ?_)))
  have gCx00 : X.cell? ⟨w4.heap.size, 0, none⟩ = some (.int .i64 n0) := (by rw [hX]; repeat (first | (with_reducible exact Cx00) | (with_reducible refine cellAlloc _ ?_) | (with_reducible refine cellDrew ?_) | (with_reducible refine cellDrewN ?_)))
  have gCx01 : X.cell? ⟨w4.heap.size, 1, none⟩ = some (.slice ax4 x0.length kx4) := (by rw [hX]; repeat (first | (with_reducible exact Cx01) | (with_reducible refine cellAlloc _ ?_) | (with_reducible refine cellDrew ?_) | (with_reducible refine cellDrewN ?_)))
  have gSw0 : SegR X (w2.heap.size + 0) (w3.heap.size) (.slice ax3 (lstTwinsOf n0 x0).length kx3) ((lstTwinsOf n0 x0)) := (by rw [hX]; repeat (first | (with_reducible exact Sw0.out) | (with_reducible refine SegR.alloc ?_ _) | (with_reducible refine SegR.drew ?_) | (with_reducible refine SegR.drewN ?_ _)))
  have gSx0 : Seg X (w3.heap.size + 0) (w4.heap.size) (.slice ax4 x0.length kx4) (x0) := (by rw [hX]; repeat (first | (with_reducible exact Sx0.out) | (with_reducible refine Seg.alloc ?_ _) | (with_reducible refine Seg.drew ?_) | (with_reducible refine Seg.drewN ?_ _)))
  have gSg0 : SegR X (w4.heap.size + 1) (w5.heap.size) (.slice ax5 (lstTwinsOf n0 x0).length kx5) ((lstTwinsOf n0 x0)) := (by rw [hX]; repeat (first | (with_reducible exact Sg0.out) | (with_reducible refine SegR.alloc ?_ _) | (with_reducible refine SegR.drew ?_) | (with_reducible refine SegR.drewN ?_ _)))
  clear hX HB CP00 CP01 Cx00 Cx01 Sw0 Sx0 Sg0 yCP00 yCx00
  refine (lawMarkRhythm2 _ _ x0 _ _ _ _ (by omega) (by omega) (by omega) gSx0).mono ?_
  rintro e w9 ⟨rfl, o9, b9⟩
  have HB := Lib.hid (bel_outside gB b9 (by omega) gB.size)
  have z9 : w8.heap.size + 0 ≤ w9.heap.size := Nat.le_trans gz b9.size
  have CP00 := cellOutside gCP00 b9 (by omega)
  have CP01 := cellOutside gCP01 b9 (by omega)
  have Cx00 := cellOutside gCx00 b9 (by omega)
  have Cx01 := cellOutside gCx01 b9 (by omega)
  have Sw0 := Lib.hid (gSw0.outside b9 (by omega))
  have Sg0 := Lib.hid (gSg0.outside b9 (by omega))
  have Sx0 := Lib.hid o9
  clear gB gz gCP00 gCP01 gCx00 gCx01 gSw0 gSx0 gSg0 b9 o9 X
  have yCP00 : w.heap.size < w9.heap.size := World.block_lt_of_cell? _ _ CP00
  have yCx00 : w4.heap.size < w9.heap.size := World.block_lt_of_cell? _ _ Cx00
  go_wp2_with fail
  refine withWorld fun X hX => ?_
  have gB : Below w.heap.size w X := (by rw [hX]; repeat (first | (with_reducible exact HB.out) | (with_reducible refine bel_alloc ?_ _) | (with_reducible refine Below.drew ?_) | (with_reducible refine bel_drewN ?_ _)))
  have gz : w9.heap.size + 0 ≤ X.heap.size := (by rw [hX]; simp)
  have gCP00 : X.cell? ⟨w.heap.size, 0, none⟩ = some (.int .i64 n0) := (by rw [hX]; repeat (first | (with_reducible exact CP00) | (with_reducible refine cellAlloc _ ?_) | (with_reducible refine cellDrew ?_) | (with_reducible refine cellDrewN ?_)))
  have gCP01 : X.cell? ⟨w.heap.size, 1, none⟩ = some (.slice ad0 x0.length cap0) := (by rw [hX]; repeat (first | (with_reducible exact CP01) | (with_reducible refine cellAlloc _ ?_) | (with_reducible refine cellDrew ?_) | (with_reducible refine cellDrewN ?_)))
  have gCx00 : X.cell? ⟨w4.heap.size, 0, none⟩ = some (.int .i64 n0) := (by rw [hX]; repeat (first | (with_reducible exact Cx00) | (with_reducible refine cellAlloc _ ?_) | (with_reducible refine cellDrew ?_) | (with_reducible refine cellDrewN ?_)))
  have gCx01 : X.cell? ⟨w4.heap.size, 1, none⟩ = some (.slice ax4 x0.length kx4) := (by rw [hX]; repeat (first | (with_reducible exact Cx01) | (with_reducible refine cellAlloc _ ?_) | (with_reducible refine cellDrew ?_) | (with_reducible refine cellDrewN ?_)))
  have gSw0 : SegR X (w2.heap.size + 0) (w3.heap.size) (.slice ax3 (lstTwinsOf n0 x0).length kx3) ((lstTwinsOf n0 x0)) := (by rw [hX]; repeat (first | (with_reducible exact Sw0.out) | (with_reducible refine SegR.alloc ?_ _) | (with_reducible refine SegR.drew ?_) | (with_reducible refine SegR.drewN ?_ _)))
  have gSx0 : Seg X (w3.heap.size + 0) (w4.heap.size) (.slice ax4 x0.length kx4) (marks 1 x0.length) := (by rw [hX]; repeat (first | (with_reducible exact Sx0.out) | (with_reducible refine Seg.alloc ?_ _) | (with_reducible refine Seg.drew ?_) | (with_reducible refine Seg.drewN ?_ _)))
  have gSg0 : SegR X (w4.heap.size + 1) (w5.heap.size) (.slice ax5 (lstTwinsOf n0 x0).length kx5) ((lstTwinsOf n0 x0)) := (by rw [hX]; repeat (first | (with_reducible exact Sg0.out) | (with_reducible refine SegR.alloc ?_ _) | (with_reducible refine SegR.drew ?_) | (with_reducible refine SegR.drewN ?_ _)))
  clear hX HB CP00 CP01 Cx00 Cx01 Sw0 Sx0 Sg0 yCP00 yCx00
  refine (lawEqRhythmS _ _ (lstTwinsOf n0 x0) (lstTwinsOf n0 x0) _ _ _ _ _ rfl gSg0 gSw0).mono ?_
  rintro e w10 ⟨rfl, b10⟩
  have HB := Lib.hid (bel_step gB b10 gB.size)
  have z10 : w9.heap.size + 0 ≤ w10.heap.size := Nat.le_trans gz b10.size
  have CP00 := cellAfter b10 gCP00
  have CP01 := cellAfter b10 gCP01
  have Cx00 := cellAfter b10 gCx00
  have Cx01 := cellAfter b10 gCx01
  have Sw0 := Lib.hid (gSw0.after b10)
  have Sx0 := Lib.hid (gSx0.after b10)
  have Sg0 := Lib.hid (gSg0.after b10)
  clear gB gz gCP00 gCP01 gCx00 gCx01 gSw0 gSx0 gSg0 b10 X
  have yCP00 : w.heap.size < w10.heap.size := World.block_lt_of_cell? _ _ CP00
  have yCx00 : w4.heap.size < w10.heap.size := World.block_lt_of_cell? _ _ Cx00
  go_wp2_with fail
  refine withWorld fun X hX => ?_
  have gB : Below w.heap.size w X := (by rw [hX]; repeat (first | (with_reducible exact HB.out) | (with_reducible refine bel_alloc ?_ _) | (with_reducible refine Below.drew ?_) | (with_reducible refine bel_drewN ?_ _)))
  have gz : w10.heap.size + 0 ≤ X.heap.size := (by rw [hX]; simp)
  have gCP00 : X.cell? ⟨w.heap.size, 0, none⟩ = some (.int .i64 n0) := (by rw [hX]; repeat (first | (with_reducible exact CP00) | (with_reducible refine cellAlloc _ ?_) | (with_reducible refine cellDrew ?_) | (with_reducible refine cellDrewN ?_)))
  have gCP01 : X.cell? ⟨w.heap.size, 1, none⟩ = some (.slice ad0 x0.length cap0) := (by rw [hX]; repeat (first | (with_reducible exact CP01) | (with_reducible refine cellAlloc _ ?_) | (with_reducible refine cellDrew ?_) | (with_reducible refine cellDrewN ?_)))
  have gCx00 : X.cell? ⟨w4.heap.size, 0, none⟩ = some (.int .i64 n0) := (by rw [hX]; repeat (first | (with_reducible exact Cx00) | (with_reducible refine cellAlloc _ ?_) | (with_reducible refine cellDrew ?_) | (with_reducible refine cellDrewN ?_)))
  have gCx01 : X.cell? ⟨w4.heap.size, 1, none⟩ = some (.slice ax4 x0.length kx4) := (by rw [hX]; repeat (first | (with_reducible exact Cx01) | (with_reducible refine cellAlloc _ ?_) | (with_reducible refine cellDrew ?_) | (with_reducible refine cellDrewN ?_)))
  have gSw0 : SegR X (w2.heap.size + 0) (w3.heap.size) (.slice ax3 (lstTwinsOf n0 x0).length kx3) ((lstTwinsOf n0 x0)) := (by rw [hX]; repeat (first | (with_reducible exact Sw0.out) | (with_reducible refine SegR.alloc ?_ _) | (with_reducible refine SegR.drew ?_) | (with_reducible refine SegR.drewN ?_ _)))
  have gSx0 : Seg X (w3.heap.size + 0) (w4.heap.size) (.slice ax4 x0.length kx4) (marks 1 x0.length) := (by rw [hX]; repeat (first | (with_reducible exact Sx0.out) | (with_reducible refine Seg.alloc ?_ _) | (with_reducible refine Seg.drew ?_) | (with_reducible refine Seg.drewN ?_ _)))
  have gSg0 : SegR X (w4.heap.size + 1) (w5.heap.size) (.slice ax5 (lstTwinsOf n0 x0).length kx5) ((lstTwinsOf n0 x0)) := (by rw [hX]; repeat (first | (with_reducible exact Sg0.out) | (with_reducible refine SegR.alloc ?_ _) | (with_reducible refine SegR.drew ?_) | (with_reducible refine SegR.drewN ?_ _)))
  clear hX HB CP00 CP01 Cx00 Cx01 Sw0 Sx0 Sg0 yCP00 yCx00
  refine (lawMarkRhythmS _ (lstTwinsOf n0 x0) _ _ _ _ (by have := (lenTwinsOf n0 x0).1; omega) (lenTwinsOf n0 x0).2 (by omega) (by omega) gSg0).mono ?_
  rintro e w11 ⟨rfl, o11, b11⟩
  have HB := Lib.hid (bel_outside gB b11 (by omega) gB.size)
  have z11 : w10.heap.size + 0 ≤ w11.heap.size := Nat.le_trans gz b11.size
  have CP00 := cellOutside gCP00 b11 (by omega)
  have CP01 := cellOutside gCP01 b11 (by omega)
  have Cx00 := cellOutside gCx00 b11 (by omega)
  have Cx01 := cellOutside gCx01 b11 (by omega)
  have Sw0 := Lib.hid (gSw0.outside b11 (by omega))
  have Sx0 := Lib.hid (gSx0.outside b11 (by omega))
  have Sg0 := Lib.hid o11
  clear gB gz gCP00 gCP01 gCx00 gCx01 gSw0 gSx0 gSg0 b11 o11 X
  have yCP00 : w.heap.size < w11.heap.size := World.block_lt_of_cell? _ _ CP00
  have yCx00 : w4.heap.size < w11.heap.size := World.block_lt_of_cell? _ _ Cx00
  go_wp2_with fail
  refine withWorld fun X hX => ?_
  have gB : Below w.heap.size w X := (by rw [hX]; repeat (first | (with_reducible exact HB.out) | (with_reducible refine bel_alloc ?_ _) | (with_reducible refine Below.drew ?_) | (with_reducible refine bel_drewN ?_ _)))
  have gz : w11.heap.size + 0 ≤ X.heap.size := (by rw [hX]; simp)
  have gCP00 : X.cell? ⟨w.heap.size, 0, none⟩ = some (.int .i64 n0) := (by rw [hX]; repeat (first | (with_reducible exact CP00) | (with_reducible refine cellAlloc _ ?_) | (with_reducible refine cellDrew ?_) | (with_reducible refine cellDrewN ?_)))
  have gCP01 : X.cell? ⟨w.heap.size, 1, none⟩ = some (.slice ad0 x0.length cap0) := (by rw [hX]; repeat (first | (with_reducible exact CP01) | (with_reducible refine cellAlloc _ ?_) | (with_reducible refine cellDrew ?_) | (with_reducible refine cellDrewN ?_)))
  have gCx00 : X.cell? ⟨w4.heap.size, 0, none⟩ = some (.int .i64 n0) := (by rw [hX]; repeat (first | (with_reducible exact Cx00) | (with_reducible refine cellAlloc _ ?_) | (with_reducible refine cellDrew ?_) | (with_reducible refine cellDrewN ?_)))
  have gCx01 : X.cell? ⟨w4.heap.size, 1, none⟩ = some (.slice ax4 x0.length kx4) := (by rw [hX]; repeat (first | (with_reducible exact Cx01) | (with_reducible refine cellAlloc _ ?_) | (with_reducible refine cellDrew ?_) | (with_reducible refine cellDrewN ?_)))
  have gSw0 : SegR X (w2.heap.size + 0) (w3.heap.size) (.slice ax3 (lstTwinsOf n0 x0).length kx3) ((lstTwinsOf n0 x0)) := (by rw [hX]; repeat (first | (with_reducible exact Sw0.out) | (with_reducible refine SegR.alloc ?_ _) | (with_reducible refine SegR.drew ?_) | (with_reducible refine SegR.drewN ?_ _)))
  have gSx0 : Seg X (w3.heap.size + 0) (w4.heap.size) (.slice ax4 x0.length kx4) (marks 1 x0.length) := (by rw [hX]; repeat (first | (with_reducible exact Sx0.out) | (with_reducible refine Seg.alloc ?_ _) | (with_reducible refine Seg.drew ?_) | (with_reducible refine Seg.drewN ?_ _)))
  have gSg0 : SegR X (w4.heap.size + 1) (w5.heap.size) (.slice ax5 (lstTwinsOf n0 x0).length kx5) (markR 1 (lstTwinsOf n0 x0)) := (by rw [hX]; repeat (first | (with_reducible exact Sg0.out) | (with_reducible refine SegR.alloc ?_ _) | (with_reducible refine SegR.drew ?_) | (with_reducible refine SegR.drewN ?_ _)))
  clear hX HB CP00 CP01 Cx00 Cx01 Sw0 Sx0 Sg0 yCP00 yCx00
  refine (lawHeldRhythmS _ (lstTwinsOf n0 x0) (markR 1 (lstTwinsOf n0 x0)) _ _ _ _ rfl (by have := (lenTwinsOf n0 x0).1; omega) (lenTwinsOf n0 x0).2 (by omega) (by omega) gSg0).mono ?_
  rintro e w12 ⟨rfl, b12⟩
  have HB := Lib.hid (bel_step gB b12 gB.size)
  have z12 : w11.heap.size + 0 ≤ w12.heap.size := Nat.le_trans gz b12.size
  have CP00 := cellAfter b12 gCP00
  have CP01 := cellAfter b12 gCP01
  have Cx00 := cellAfter b12 gCx00
  have Cx01 := cellAfter b12 gCx01
  have Sw0 := Lib.hid (gSw0.after b12)
  have Sx0 := Lib.hid (gSx0.after b12)
  have Sg0 := Lib.hid (gSg0.after b12)
  clear gB gz gCP00 gCP01 gCx00 gCx01 gSw0 gSx0 gSg0 b12 X
  have yCP00 : w.heap.size < w12.heap.size := World.block_lt_of_cell? _ _ CP00
  have yCx00 : w4.heap.size < w12.heap.size := World.block_lt_of_cell? _ _ Cx00
  have hmk := mkAt_bd (k := 1) (lenTwinsOf n0 x0).2 _ (Nat.le_refl _)
  go_wp2_with fail
  refine withWorld fun X hX => ?_
  have gB : Below w.heap.size w X := (by rw [hX]; repeat (first | (with_reducible exact HB.out) | (with_reducible refine bel_alloc ?_ _) | (with_reducible refine Below.drew ?_) | (with_reducible refine bel_drewN ?_ _)))
  have gz : w12.heap.size + 0 ≤ X.heap.size := (by rw [hX]; simp)
  have gCP00 : X.cell? ⟨w.heap.size, 0, none⟩ = some (.int .i64 n0) := (by rw [hX]; repeat (first | (with_reducible exact CP00) | (with_reducible refine cellAlloc _ ?_) | (with_reducible refine cellDrew ?_) | (with_reducible refine cellDrewN ?_)))
  have gCP01 : X.cell? ⟨w.heap.size, 1, none⟩ = some (.slice ad0 x0.length cap0) := (by rw [hX]; repeat (first | (with_reducible exact CP01) | (with_reducible refine cellAlloc _ ?_) | (with_reducible refine cellDrew ?_) | (with_reducible refine cellDrewN ?_)))
  have gCx00 : X.cell? ⟨w4.heap.size, 0, none⟩ = some (.int .i64 n0) := (by rw [hX]; repeat (first | (with_reducible exact Cx00) | (with_reducible refine cellAlloc _ ?_) | (with_reducible refine cellDrew ?_) | (with_reducible refine cellDrewN ?_)))
  have gCx01 : X.cell? ⟨w4.heap.size, 1, none⟩ = some (.slice ax4 x0.length kx4) := (by rw [hX]; repeat (first | (with_reducible exact Cx01) | (with_reducible refine cellAlloc _ ?_) | (with_reducible refine cellDrew ?_) | (with_reducible refine cellDrewN ?_)))
  have gSw0 : SegR X (w2.heap.size + 0) (w3.heap.size) (.slice ax3 (lstTwinsOf n0 x0).length kx3) ((lstTwinsOf n0 x0)) := (by rw [hX]; repeat (first | (with_reducible exact Sw0.out) | (with_reducible refine SegR.alloc ?_ _) | (with_reducible refine SegR.drew ?_) | (with_reducible refine SegR.drewN ?_ _)))
  have gSx0 : Seg X (w3.heap.size + 0) (w4.heap.size) (.slice ax4 x0.length kx4) (marks 1 x0.length) := (by rw [hX]; repeat (first | (with_reducible exact Sx0.out) | (with_reducible refine Seg.alloc ?_ _) | (with_reducible refine Seg.drew ?_) | (with_reducible refine Seg.drewN ?_ _)))
  have gSg0 : SegR X (w4.heap.size + 1) (w5.heap.size) (.slice ax5 (lstTwinsOf n0 x0).length kx5) (markR 1 (lstTwinsOf n0 x0)) := (by rw [hX]; repeat (first | (with_reducible exact Sg0.out) | (with_reducible refine SegR.alloc ?_ _) | (with_reducible refine SegR.drew ?_) | (with_reducible refine SegR.drewN ?_ _)))
  clear hX HB CP00 CP01 Cx00 Cx01 Sw0 Sx0 Sg0 yCP00 yCx00
  refine (lawToRhythm _ _ x0 _ (by omega) (Ints.ofBelow h0 gB)).mono ?_
  rintro e w13 ⟨ax13, kx13, rfl, o13, b13⟩
  have HB := Lib.hid (bel_step gB b13 gB.size)
  have z13 : w12.heap.size + 0 ≤ w13.heap.size := Nat.le_trans gz b13.size
  have CP00 := cellAfter b13 gCP00
  have CP01 := cellAfter b13 gCP01
  have Cx00 := cellAfter b13 gCx00
  have Cx01 := cellAfter b13 gCx01
  have Sw0 := Lib.hid (gSw0.after b13)
  have Sx0 := Lib.hid (gSx0.after b13)
  have Sg0 := Lib.hid (gSg0.after b13)
  have T2 := Lib.hid (Seg.mk' (o13.mono gz))
  clear gB gz gCP00 gCP01 gCx00 gCx01 gSw0 gSx0 gSg0 b13 o13 X
  have yCP00 : w.heap.size < w13.heap.size := World.block_lt_of_cell? _ _ CP00
  have yCx00 : w4.heap.size < w13.heap.size := World.block_lt_of_cell? _ _ Cx00
  go_wp2_with fail
  refine withWorld fun X hX => ?_
  have gB : Below w.heap.size w X := (by rw [hX]; repeat (first | (with_reducible exact HB.out) | (with_reducible refine bel_alloc ?_ _) | (with_reducible refine Below.drew ?_) | (with_reducible refine bel_drewN ?_ _)))
  have gz : w13.heap.size + 0 ≤ X.heap.size := (by rw [hX]; simp)
  have gCP00 : X.cell? ⟨w.heap.size, 0, none⟩ = some (.int .i64 n0) := (by rw [hX]; repeat (first | (with_reducible exact CP00) | (with_reducible refine cellAlloc _ ?_) | (with_reducible refine cellDrew ?_) | (with_reducible refine cellDrewN ?_)))
  have gCP01 : X.cell? ⟨w.heap.size, 1, none⟩ = some (.slice ad0 x0.length cap0) := (by rw [hX]; repeat (first | (with_reducible exact CP01) | (with_reducible refine cellAlloc _ ?_) | (with_reducible refine cellDrew ?_) | (with_reducible refine cellDrewN ?_)))
  have gCx00 : X.cell? ⟨w4.heap.size, 0, none⟩ = some (.int .i64 n0) := (by rw [hX]; repeat (first | (with_reducible exact Cx00) | (with_reducible refine cellAlloc _ ?_) | (with_reducible refine cellDrew ?_) | (with_reducible refine cellDrewN ?_)))
  have gCx01 : X.cell? ⟨w4.heap.size, 1, none⟩ = some (.slice ax4 x0.length kx4) := (by rw [hX]; repeat (first | (with_reducible exact Cx01) | (with_reducible refine cellAlloc _ ?_) | (with_reducible refine cellDrew ?_) | (with_reducible refine cellDrewN ?_)))
  have gSw0 : SegR X (w2.heap.size + 0) (w3.heap.size) (.slice ax3 (lstTwinsOf n0 x0).length kx3) ((lstTwinsOf n0 x0)) := (by rw [hX]; repeat (first | (with_reducible exact Sw0.out) | (with_reducible refine SegR.alloc ?_ _) | (with_reducible refine SegR.drew ?_) | (with_reducible refine SegR.drewN ?_ _)))
  have gSx0 : Seg X (w3.heap.size + 0) (w4.heap.size) (.slice ax4 x0.length kx4) (marks 1 x0.length) := (by rw [hX]; repeat (first | (with_reducible exact Sx0.out) | (with_reducible refine Seg.alloc ?_ _) | (with_reducible refine Seg.drew ?_) | (with_reducible refine Seg.drewN ?_ _)))
  have gSg0 : SegR X (w4.heap.size + 1) (w5.heap.size) (.slice ax5 (lstTwinsOf n0 x0).length kx5) (markR 1 (lstTwinsOf n0 x0)) := (by rw [hX]; repeat (first | (with_reducible exact Sg0.out) | (with_reducible refine SegR.alloc ?_ _) | (with_reducible refine SegR.drew ?_) | (with_reducible refine SegR.drewN ?_ _)))
  have gT2 : Seg X (w12.heap.size + 0) (w13.heap.size) (.slice ax13 x0.length kx13) (x0) := (by rw [hX]; repeat (first | (with_reducible exact T2.out) | (with_reducible refine Seg.alloc ?_ _) | (with_reducible refine Seg.drew ?_) | (with_reducible refine Seg.drewN ?_ _)))
  clear hX HB CP00 CP01 Cx00 Cx01 Sw0 Sx0 Sg0 T2 yCP00 yCx00
  refine (implTwinsOfC _ _ x0 c0 _ gT2.ints).mono ?_
  rintro e w14 ⟨ax14, kx14, rfl, o14, b14⟩
  have HB := Lib.hid (bel_step gB b14 gB.size)
  have z14 : w13.heap.size + 0 ≤ w14.heap.size := Nat.le_trans gz b14.size
  have CP00 := cellAfter b14 gCP00
  have CP01 := cellAfter b14 gCP01
  have Cx00 := cellAfter b14 gCx00
  have Cx01 := cellAfter b14 gCx01
  have Sw0 := Lib.hid (gSw0.after b14)
  have Sx0 := Lib.hid (gSx0.after b14)
  have Sg0 := Lib.hid (gSg0.after b14)
  have T2 := Lib.hid (gT2.after b14)
  have Sh0 := Lib.hid (o14.low gz (Nat.le_refl _))
  clear gB gz gCP00 gCP01 gCx00 gCx01 gSw0 gSx0 gSg0 gT2 b14 o14 X
  have yCP00 : w.heap.size < w14.heap.size := World.block_lt_of_cell? _ _ CP00
  have yCx00 : w4.heap.size < w14.heap.size := World.block_lt_of_cell? _ _ Cx00
  clear T2
  go_wp2_with fail
  refine withWorld fun X hX => ?_
  have gB : Below w.heap.size w X := (by rw [hX]; repeat (first | (with_reducible exact HB.out) | (with_reducible refine bel_alloc ?_ _) | (with_reducible refine Below.drew ?_) | (with_reducible refine bel_drewN ?_ _)))
  have gz : w14.heap.size + 0 ≤ X.heap.size := (by rw [hX]; simp)
  have gCP00 : X.cell? ⟨w.heap.size, 0, none⟩ = some (.int .i64 n0) := (by rw [hX]; repeat (first | (with_reducible exact CP00) | (with_reducible refine cellAlloc _ ?_) | (with_reducible refine cellDrew ?_) | (with_reducible refine cellDrewN ?_)))
  have gCP01 : X.cell? ⟨w.heap.size, 1, none⟩ = some (.slice ad0 x0.length cap0) := (by rw [hX]; repeat (first | (with_reducible exact CP01) | (with_reducible refine cellAlloc _ ?_) | (with_reducible refine cellDrew ?_) | (with_reducible refine cellDrewN ?_)))
  have gCx00 : X.cell? ⟨w4.heap.size, 0, none⟩ = some (.int .i64 n0) := (by rw [hX]; repeat (first | (with_reducible exact Cx00) | (with_reducible refine cellAlloc _ ?_) | (with_reducible refine cellDrew ?_) | (with_reducible refine cellDrewN ?_)))
  have gCx01 : X.cell? ⟨w4.heap.size, 1, none⟩ = some (.slice ax4 x0.length kx4) := (by rw [hX]; repeat (first | (with_reducible exact Cx01) | (with_reducible refine cellAlloc _ ?_) | (with_reducible refine cellDrew ?_) | (with_reducible refine cellDrewN ?_)))
  have gSw0 : SegR X (w2.heap.size + 0) (w3.heap.size) (.slice ax3 (lstTwinsOf n0 x0).length kx3) ((lstTwinsOf n0 x0)) := (by rw [hX]; repeat (first | (with_reducible exact Sw0.out) | (with_reducible refine SegR.alloc ?_ _) | (with_reducible refine SegR.drew ?_) | (with_reducible refine SegR.drewN ?_ _)))
  have gSx0 : Seg X (w3.heap.size + 0) (w4.heap.size) (.slice ax4 x0.length kx4) (marks 1 x0.length) := (by rw [hX]; repeat (first | (with_reducible exact Sx0.out) | (with_reducible refine Seg.alloc ?_ _) | (with_reducible refine Seg.drew ?_) | (with_reducible refine Seg.drewN ?_ _)))
  have gSg0 : SegR X (w4.heap.size + 1) (w5.heap.size) (.slice ax5 (lstTwinsOf n0 x0).length kx5) (markR 1 (lstTwinsOf n0 x0)) := (by rw [hX]; repeat (first | (with_reducible exact Sg0.out) | (with_reducible refine SegR.alloc ?_ _) | (with_reducible refine SegR.drew ?_) | (with_reducible refine SegR.drewN ?_ _)))
  have gSh0 : SegR X (w13.heap.size + 0) (w14.heap.size) (.slice ax14 (lstTwinsOf n0 x0).length kx14) ((lstTwinsOf n0 x0)) := (by rw [hX]; repeat (first | (with_reducible exact Sh0.out) | (with_reducible refine SegR.alloc ?_ _) | (with_reducible refine SegR.drew ?_) | (with_reducible refine SegR.drewN ?_ _)))
  clear hX HB CP00 CP01 Cx00 Cx01 Sw0 Sx0 Sg0 Sh0 yCP00 yCx00
  refine (lawEqRhythmS _ _ (lstTwinsOf n0 x0) (lstTwinsOf n0 x0) _ _ _ _ _ rfl gSh0 gSw0).mono ?_
  rintro e w15 ⟨rfl, b15⟩
  have HB := Lib.hid (bel_step gB b15 gB.size)
  have z15 : w14.heap.size + 0 ≤ w15.heap.size := Nat.le_trans gz b15.size
  have CP00 := cellAfter b15 gCP00
  have CP01 := cellAfter b15 gCP01
  have Cx00 := cellAfter b15 gCx00
  have Cx01 := cellAfter b15 gCx01
  have Sw0 := Lib.hid (gSw0.after b15)
  have Sx0 := Lib.hid (gSx0.after b15)
  have Sg0 := Lib.hid (gSg0.after b15)
  have Sh0 := Lib.hid (gSh0.after b15)
  clear gB gz gCP00 gCP01 gCx00 gCx01 gSw0 gSx0 gSg0 gSh0 b15 X
  have yCP00 : w.heap.size < w15.heap.size := World.block_lt_of_cell? _ _ CP00
  have yCx00 : w4.heap.size < w15.heap.size := World.block_lt_of_cell? _ _ Cx00
  go_wp2_with fail
  refine withWorld fun X hX => ?_
  have gB : Below w.heap.size w X := (by rw [hX]; repeat (first | (with_reducible exact HB.out) | (with_reducible refine bel_alloc ?_ _) | (with_reducible refine Below.drew ?_) | (with_reducible refine bel_drewN ?_ _)))
  have gz : w15.heap.size + 0 ≤ X.heap.size := (by rw [hX]; simp)
  have gCP00 : X.cell? ⟨w.heap.size, 0, none⟩ = some (.int .i64 n0) := (by rw [hX]; repeat (first | (with_reducible exact CP00) | (with_reducible refine cellAlloc _ ?_) | (with_reducible refine cellDrew ?_) | (with_reducible refine cellDrewN ?_)))
  have gCP01 : X.cell? ⟨w.heap.size, 1, none⟩ = some (.slice ad0 x0.length cap0) := (by rw [hX]; repeat (first | (with_reducible exact CP01) | (with_reducible refine cellAlloc _ ?_) | (with_reducible refine cellDrew ?_) | (with_reducible refine cellDrewN ?_)))
  have gCx00 : X.cell? ⟨w4.heap.size, 0, none⟩ = some (.int .i64 n0) := (by rw [hX]; repeat (first | (with_reducible exact Cx00) | (with_reducible refine cellAlloc _ ?_) | (with_reducible refine cellDrew ?_) | (with_reducible refine cellDrewN ?_)))
  have gCx01 : X.cell? ⟨w4.heap.size, 1, none⟩ = some (.slice ax4 x0.length kx4) := (by rw [hX]; repeat (first | (with_reducible exact Cx01) | (with_reducible refine cellAlloc _ ?_) | (with_reducible refine cellDrew ?_) | (with_reducible refine cellDrewN ?_)))
  have gSw0 : SegR X (w2.heap.size + 0) (w3.heap.size) (.slice ax3 (lstTwinsOf n0 x0).length kx3) ((lstTwinsOf n0 x0)) := (by rw [hX]; repeat (first | (with_reducible exact Sw0.out) | (with_reducible refine SegR.alloc ?_ _) | (with_reducible refine SegR.drew ?_) | (with_reducible refine SegR.drewN ?_ _)))
  have gSx0 : Seg X (w3.heap.size + 0) (w4.heap.size) (.slice ax4 x0.length kx4) (marks 1 x0.length) := (by rw [hX]; repeat (first | (with_reducible exact Sx0.out) | (with_reducible refine Seg.alloc ?_ _) | (with_reducible refine Seg.drew ?_) | (with_reducible refine Seg.drewN ?_ _)))
  have gSg0 : SegR X (w4.heap.size + 1) (w5.heap.size) (.slice ax5 (lstTwinsOf n0 x0).length kx5) (markR 1 (lstTwinsOf n0 x0)) := (by rw [hX]; repeat (first | (with_reducible exact Sg0.out) | (with_reducible refine SegR.alloc ?_ _) | (with_reducible refine SegR.drew ?_) | (with_reducible refine SegR.drewN ?_ _)))
  have gSh0 : SegR X (w13.heap.size + 0) (w14.heap.size) (.slice ax14 (lstTwinsOf n0 x0).length kx14) ((lstTwinsOf n0 x0)) := (by rw [hX]; repeat (first | (with_reducible exact Sh0.out) | (with_reducible refine SegR.alloc ?_ _) | (with_reducible refine SegR.drew ?_) | (with_reducible refine SegR.drewN ?_ _)))
  clear hX HB CP00 CP01 Cx00 Cx01 Sw0 Sx0 Sg0 Sh0 yCP00 yCx00
  refine (lawHeldRhythmS _ (lstTwinsOf n0 x0) (markR 1 (lstTwinsOf n0 x0)) _ _ _ _ rfl (by have := (lenTwinsOf n0 x0).1; omega) (lenTwinsOf n0 x0).2 (by omega) (by omega) gSg0).mono ?_
  rintro e w16 ⟨rfl, b16⟩
  have HB := Lib.hid (bel_step gB b16 gB.size)
  have z16 : w15.heap.size + 0 ≤ w16.heap.size := Nat.le_trans gz b16.size
  have CP00 := cellAfter b16 gCP00
  have CP01 := cellAfter b16 gCP01
  have Cx00 := cellAfter b16 gCx00
  have Cx01 := cellAfter b16 gCx01
  have Sw0 := Lib.hid (gSw0.after b16)
  have Sx0 := Lib.hid (gSx0.after b16)
  have Sg0 := Lib.hid (gSg0.after b16)
  have Sh0 := Lib.hid (gSh0.after b16)
  clear gB gz gCP00 gCP01 gCx00 gCx01 gSw0 gSx0 gSg0 gSh0 b16 X
  have yCP00 : w.heap.size < w16.heap.size := World.block_lt_of_cell? _ _ CP00
  have yCx00 : w4.heap.size < w16.heap.size := World.block_lt_of_cell? _ _ Cx00
  have hmk := mkAt_bd (k := 1) (lenTwinsOf n0 x0).2 _ (Nat.le_refl _)
  go_wp2
  go_ret
  exact ⟨rfl, by repeat (first | (with_reducible exact HB.out) | refine bel_alloc ?_ _ | refine Below.drew ?_ | refine bel_drewN ?_ _ | exact Below.refl _ _)⟩
end Go.Proofs.Ytopfenhphnmfkaa.fnExactTwinsOf
