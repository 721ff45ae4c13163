/-
  The walk of FnExactParseRhythm: it returns true and writes nothing that was there.
  Conditions: the arguments lie in memory as the statement's reading says.
-/
import Derived.Test.YtcgpmdfcdngnlaaDoorT9
import Derived.Test.YtcgpmdfcdngnlaaDoorC3
import Derived.Test.YtcgpmdfcdngnlaaDoorB0
set_option linter.unusedVariables false
set_option linter.unusedSimpArgs false
namespace Go.Proofs.YtcgpmdfcdngnlaaDoor.fnExactParseRhythm
open Go.RowKit
set_option linter.unusedVariables false

def G (w : World) : Prop := True
set_option maxRecDepth 20000 in
set_option maxHeartbeats 1600000 in
theorem walk (w : World) (hG : G w) (a0 : ByteArray) (h0 : a0.size ≤ maxLen) :
    Calls Tryd.prog 5 #[.string a0] w fun e w' => e = .returned (.bool true) ∧ Below w.heap.size w w' := by
  clear hG
  go_enter Tryd.func5, Tryd.ntmps5
  by_cases s0 : 1048576 < a0.size
  · go_wp2
    go_ret
    exact ⟨rfl, by repeat (first | (with_reducible exact HB.out) | refine bel_alloc ?_ _ | refine Below.drew ?_ | refine bel_drewN ?_ _ | exact Below.refl _ _)⟩
  go_wp2_with fail
  refine withWorld fun X hX => ?_
  have gB : Below w.heap.size w X := (by rw [hX]; repeat (first | (with_reducible exact (Below.refl _ _)) | (with_reducible refine bel_alloc ?_ _) | (with_reducible refine Below.drew ?_) | (with_reducible refine bel_drewN ?_ _)))
  have gz : w.heap.size + 0 ≤ X.heap.size := (by rw [hX]; simp)
  clear hX 
  refine (specParseRhythmC _ (by omega) _).mono ?_
  rintro e w1 ⟨ax1, kx1, rfl, o1, b1⟩
  have HB := Lib.hid (bel_step gB b1 gB.size)
  have z1 : w.heap.size + 0 ≤ w1.heap.size := Nat.le_trans gz b1.size
  have Sw0 := Lib.hid (Seg.mk' (o1.mono gz))
  clear gB gz   b1 o1 X
  go_wp2_with fail
  refine withWorld fun X hX => ?_
  have gB : Below w.heap.size w X := (by rw [hX]; repeat (first | (with_reducible exact HB.out) | (with_reducible refine bel_alloc ?_ _) | (with_reducible refine Below.drew ?_) | (with_reducible refine bel_drewN ?_ _)))
  have gz : w1.heap.size + 1 ≤ X.heap.size := (by rw [hX]; simp)
  have gCw00 : X.cell? ⟨w1.heap.size, 0, none⟩ = some (.int .i64 (numParseRhythm a0)) := (by rw [hX]; (repeat (first | (with_reducible refine cellDrew ?_) | (with_reducible refine cellDrewN ?_))); exact cellNewAt _ _ _ _ (by simp) rfl)
  have gCw01 : X.cell? ⟨w1.heap.size, 1, none⟩ = some (.slice ax1 (lstParseRhythm a0).length kx1) := (by rw [hX]; (repeat (first | (with_reducible refine cellDrew ?_) | (with_reducible refine cellDrewN ?_))); exact cellNewAt _ _ _ _ (by simp) rfl)
  have gSw0 : Seg X (w.heap.size + 0) (w1.heap.size) (.slice ax1 (lstParseRhythm a0).length kx1) ((lstParseRhythm a0)) := (by rw [hX]; repeat (first | (with_reducible exact Sw0.out) | (with_reducible refine Seg.alloc ?_ _) | (with_reducible refine Seg.drew ?_) | (with_reducible refine Seg.drewN ?_ _)))
  clear hX HB Sw0
  refine (implParseRhythmC _ (by omega) _).mono ?_
  rintro e w2 ⟨ax2, kx2, rfl, o2, b2⟩
  have HB := Lib.hid (bel_step gB b2 gB.size)
  have z2 : w1.heap.size + 1 ≤ w2.heap.size := Nat.le_trans gz b2.size
  have Cw00 := cellAfter b2 gCw00
  have Cw01 := cellAfter b2 gCw01
  have Sw0 := Lib.hid (gSw0.after b2)
  have Sg0 := Lib.hid (Seg.mk' (o2.mono gz))
  clear gB gz gCw00 gCw01 gSw0 b2 o2 X
  have yCw00 : w1.heap.size < w2.heap.size := World.block_lt_of_cell? _ _ Cw00
  go_wp2_with fail
  refine withWorld fun X hX => ?_
  have gB : Below w.heap.size w X := (by rw [hX]; repeat (first | (with_reducible exact HB.out) | (with_reducible refine bel_alloc ?_ _) | (with_reducible refine Below.drew ?_) | (with_reducible refine bel_drewN ?_ _)))
  have gz : w2.heap.size + 1 ≤ X.heap.size := (by rw [hX]; simp)
  have gCw00 : X.cell? ⟨w1.heap.size, 0, none⟩ = some (.int .i64 (numParseRhythm a0)) := (by rw [hX]; repeat (first | (with_reducible exact Cw00) | (with_reducible refine cellAlloc _ ?_) | (with_reducible refine cellDrew ?_) | (with_reducible refine cellDrewN ?_)))
  have gCw01 : X.cell? ⟨w1.heap.size, 1, none⟩ = some (.slice ax1 (lstParseRhythm a0).length kx1) := (by rw [hX]; repeat (first | (with_reducible exact Cw01) | (with_reducible refine cellAlloc _ ?_) | (with_reducible refine cellDrew ?_) | (with_reducible refine cellDrewN ?_)))
  have gCg00 : X.cell? ⟨w2.heap.size, 0, none⟩ = some (.int .i64 (numParseRhythm a0)) := (by rw [hX]; (repeat (first | (with_reducible refine cellDrew ?_) | (with_reducible refine cellDrewN ?_))); exact cellNewAt _ _ _ _ (by simp) rfl)
  have gCg01 : X.cell? ⟨w2.heap.size, 1, none⟩ = some (.slice ax2 (lstParseRhythm a0).length kx2) := (by rw [hX]; (repeat (first | (with_reducible refine cellDrew ?_) | (with_reducible refine cellDrewN ?_))); exact cellNewAt _ _ _ _ (by simp) rfl)
  have gSw0 : Seg X (w.heap.size + 0) (w1.heap.size) (.slice ax1 (lstParseRhythm a0).length kx1) ((lstParseRhythm a0)) := (by rw [hX]; repeat (first | (with_reducible exact Sw0.out) | (with_reducible refine Seg.alloc ?_ _) | (with_reducible refine Seg.drew ?_) | (with_reducible refine Seg.drewN ?_ _)))
  have gSg0 : Seg X (w1.heap.size + 1) (w2.heap.size) (.slice ax2 (lstParseRhythm a0).length kx2) ((lstParseRhythm a0)) := (by rw [hX]; repeat (first | (with_reducible exact Sg0.out) | (with_reducible refine Seg.alloc ?_ _) | (with_reducible refine Seg.drew ?_) | (with_reducible refine Seg.drewN ?_ _)))
  clear hX HB Cw00 Cw01 Sw0 Sg0 yCw00
  refine (lawEqRhythm _ _ _ _ (lstParseRhythm a0) (lstParseRhythm a0) _ gSg0.ints gSw0.ints).mono ?_
  rintro e w3 ⟨rfl, b3⟩
  have HB := Lib.hid (bel_step gB b3 gB.size)
  have z3 : w2.heap.size + 1 ≤ w3.heap.size := Nat.le_trans gz b3.size
  have Cw00 := cellAfter b3 gCw00
  have Cw01 := cellAfter b3 gCw01
  have Cg00 := cellAfter b3 gCg00
  have Cg01 := cellAfter b3 gCg01
  have Sw0 := Lib.hid (gSw0.after b3)
  have Sg0 := Lib.hid (gSg0.after b3)
  clear gB gz gCw00 gCw01 gCg00 gCg01 gSw0 gSg0 b3 X
  have yCw00 : w1.heap.size < w3.heap.size := World.block_lt_of_cell? _ _ Cw00
  have yCg00 : w2.heap.size < w3.heap.size := World.block_lt_of_cell? _ _ Cg00
  rw [eqR_self]
  go_wp2_with fail
  refine withWorld fun X hX => ?_
  have gB : Below w.heap.size w X := (by rw [hX]; repeat (first | (with_reducible exact HB.out) | (with_reducible refine bel_alloc ?_ _) | (with_reducible refine Below.drew ?_) | (with_reducible refine bel_drewN ?_ _)))
  have gz : w3.heap.size + 0 ≤ X.heap.size := (by rw [hX]; simp)
  have gCw00 : X.cell? ⟨w1.heap.size, 0, none⟩ = some (.int .i64 (numParseRhythm a0)) := (by rw [hX]; repeat (first | (with_reducible exact Cw00) | (with_reducible refine cellAlloc _ ?_) | (with_reducible refine cellDrew ?_) | (with_reducible refine cellDrewN ?_)))
  have gCw01 : X.cell? ⟨w1.heap.size, 1, none⟩ = some (.slice ax1 (lstParseRhythm a0).length kx1) := (by rw [hX]; repeat (first | (with_reducible exact Cw01) | (with_reducible refine cellAlloc _ ?_) | (with_reducible refine cellDrew ?_) | (with_reducible refine cellDrewN ?_)))
  have gCg00 : X.cell? ⟨w2.heap.size, 0, none⟩ = some (.int .i64 (numParseRhythm a0)) := (by rw [hX]; repeat (first | (with_reducible exact Cg00) | (with_reducible refine cellAlloc _ ?_) | (with_reducible refine cellDrew ?_) | (with_reducible refine cellDrewN ?_)))
  have gCg01 : X.cell? ⟨w2.heap.size, 1, none⟩ = some (.slice ax2 (lstParseRhythm a0).length kx2) := (by rw [hX]; repeat (first | (with_reducible exact Cg01) | (with_reducible refine cellAlloc _ ?_) | (with_reducible refine cellDrew ?_) | (with_reducible refine cellDrewN ?_)))
  have gSw0 : Seg X (w.heap.size + 0) (w1.heap.size) (.slice ax1 (lstParseRhythm a0).length kx1) ((lstParseRhythm a0)) := (by rw [hX]; repeat (first | (with_reducible exact Sw0.out) | (with_reducible refine Seg.alloc ?_ _) | (with_reducible refine Seg.drew ?_) | (with_reducible refine Seg.drewN ?_ _)))
  have gSg0 : Seg X (w1.heap.size + 1) (w2.heap.size) (.slice ax2 (lstParseRhythm a0).length kx2) ((lstParseRhythm a0)) := (by rw [hX]; repeat (first | (with_reducible exact Sg0.out) | (with_reducible refine Seg.alloc ?_ _) | (with_reducible refine Seg.drew ?_) | (with_reducible refine Seg.drewN ?_ _)))
  clear hX HB Cw00 Cw01 Cg00 Cg01 Sw0 Sg0 yCw00 yCg00
  refine (lawMarkRhythm2 _ _ (lstParseRhythm a0) _ _ _ _ (by have := lenParseRhythm a0; omega) (by omega) (by omega) gSg0).mono ?_
  rintro e w4 ⟨rfl, o4, b4⟩
  have HB := Lib.hid (bel_outside gB b4 (by omega) gB.size)
  have z4 : w3.heap.size + 0 ≤ w4.heap.size := Nat.le_trans gz b4.size
  have Cw00 := cellOutside gCw00 b4 (by omega)
  have Cw01 := cellOutside gCw01 b4 (by omega)
  have Cg00 := cellOutside gCg00 b4 (by omega)
  have Cg01 := cellOutside gCg01 b4 (by omega)
  have Sw0 := Lib.hid (gSw0.outside b4 (by omega))
  have Sg0 := Lib.hid o4
  clear gB gz gCw00 gCw01 gCg00 gCg01 gSw0 gSg0 b4 o4 X
  have yCw00 : w1.heap.size < w4.heap.size := World.block_lt_of_cell? _ _ Cw00
  have yCg00 : w2.heap.size < w4.heap.size := World.block_lt_of_cell? _ _ Cg00
  go_wp2_with fail
  refine withWorld fun X hX => ?_
  have gB : Below w.heap.size w X := (by rw [hX]; repeat (first | (with_reducible exact HB.out) | (with_reducible refine bel_alloc ?_ _) | (with_reducible refine Below.drew ?_) | (with_reducible refine bel_drewN ?_ _)))
  have gz : w4.heap.size + 0 ≤ X.heap.size := (by rw [hX]; simp)
  have gCw00 : X.cell? ⟨w1.heap.size, 0, none⟩ = some (.int .i64 (numParseRhythm a0)) := (by rw [hX]; repeat (first | (with_reducible exact Cw00) | (with_reducible refine cellAlloc _ ?_) | (with_reducible refine cellDrew ?_) | (with_reducible refine cellDrewN ?_)))
  have gCw01 : X.cell? ⟨w1.heap.size, 1, none⟩ = some (.slice ax1 (lstParseRhythm a0).length kx1) := (by rw [hX]; repeat (first | (with_reducible exact Cw01) | (with_reducible refine cellAlloc _ ?_) | (with_reducible refine cellDrew ?_) | (with_reducible refine cellDrewN ?_)))
  have gCg00 : X.cell? ⟨w2.heap.size, 0, none⟩ = some (.int .i64 (numParseRhythm a0)) := (by rw [hX]; repeat (first | (with_reducible exact Cg00) | (with_reducible refine cellAlloc _ ?_) | (with_reducible refine cellDrew ?_) | (with_reducible refine cellDrewN ?_)))
  have gCg01 : X.cell? ⟨w2.heap.size, 1, none⟩ = some (.slice ax2 (lstParseRhythm a0).length kx2) := (by rw [hX]; repeat (first | (with_reducible exact Cg01) | (with_reducible refine cellAlloc _ ?_) | (with_reducible refine cellDrew ?_) | (with_reducible refine cellDrewN ?_)))
  have gSw0 : Seg X (w.heap.size + 0) (w1.heap.size) (.slice ax1 (lstParseRhythm a0).length kx1) ((lstParseRhythm a0)) := (by rw [hX]; repeat (first | (with_reducible exact Sw0.out) | (with_reducible refine Seg.alloc ?_ _) | (with_reducible refine Seg.drew ?_) | (with_reducible refine Seg.drewN ?_ _)))
  have gSg0 : Seg X (w1.heap.size + 1) (w2.heap.size) (.slice ax2 (lstParseRhythm a0).length kx2) (marks 1 (lstParseRhythm a0).length) := (by rw [hX]; repeat (first | (with_reducible exact Sg0.out) | (with_reducible refine Seg.alloc ?_ _) | (with_reducible refine Seg.drew ?_) | (with_reducible refine Seg.drewN ?_ _)))
  clear hX HB Cw00 Cw01 Cg00 Cg01 Sw0 Sg0 yCw00 yCg00
  refine (lawHeldRhythm' _ _ (marks 1 (lstParseRhythm a0).length) _ _ (by rw [marks_len]; have := lenParseRhythm a0; omega) (by omega) (by omega) gSg0.ints).mono ?_
  rintro e w5 ⟨rfl, b5⟩
  have HB := Lib.hid (bel_step gB b5 gB.size)
  have z5 : w4.heap.size + 0 ≤ w5.heap.size := Nat.le_trans gz b5.size
  have Cw00 := cellAfter b5 gCw00
  have Cw01 := cellAfter b5 gCw01
  have Cg00 := cellAfter b5 gCg00
  have Cg01 := cellAfter b5 gCg01
  have Sw0 := Lib.hid (gSw0.after b5)
  have Sg0 := Lib.hid (gSg0.after b5)
  clear gB gz gCw00 gCw01 gCg00 gCg01 gSw0 gSg0 b5 X
  have yCw00 : w1.heap.size < w5.heap.size := World.block_lt_of_cell? _ _ Cw00
  have yCg00 : w2.heap.size < w5.heap.size := World.block_lt_of_cell? _ _ Cg00
  rw [heldOf_marks]
  go_wp2_with fail
  refine withWorld fun X hX => ?_
  have gB : Below w.heap.size w X := (by rw [hX]; repeat (first | (with_reducible exact HB.out) | (with_reducible refine bel_alloc ?_ _) | (with_reducible refine Below.drew ?_) | (with_reducible refine bel_drewN ?_ _)))
  have gz : w5.heap.size + 0 ≤ X.heap.size := (by rw [hX]; simp)
  have gCw00 : X.cell? ⟨w1.heap.size, 0, none⟩ = some (.int .i64 (numParseRhythm a0)) := (by rw [hX]; repeat (first | (with_reducible exact Cw00) | (with_reducible refine cellAlloc _ ?_) | (with_reducible refine cellDrew ?_) | (with_reducible refine cellDrewN ?_)))
  have gCw01 : X.cell? ⟨w1.heap.size, 1, none⟩ = some (.slice ax1 (lstParseRhythm a0).length kx1) := (by rw [hX]; repeat (first | (with_reducible exact Cw01) | (with_reducible refine cellAlloc _ ?_) | (with_reducible refine cellDrew ?_) | (with_reducible refine cellDrewN ?_)))
  have gCg00 : X.cell? ⟨w2.heap.size, 0, none⟩ = some (.int .i64 (numParseRhythm a0)) := (by rw [hX]; repeat (first | (with_reducible exact Cg00) | (with_reducible refine cellAlloc _ ?_) | (with_reducible refine cellDrew ?_) | (with_reducible refine cellDrewN ?_)))
  have gCg01 : X.cell? ⟨w2.heap.size, 1, none⟩ = some (.slice ax2 (lstParseRhythm a0).length kx2) := (by rw [hX]; repeat (first | (with_reducible exact Cg01) | (with_reducible refine cellAlloc _ ?_) | (with_reducible refine cellDrew ?_) | (with_reducible refine cellDrewN ?_)))
  have gSw0 : Seg X (w.heap.size + 0) (w1.heap.size) (.slice ax1 (lstParseRhythm a0).length kx1) ((lstParseRhythm a0)) := (by rw [hX]; repeat (first | (with_reducible exact Sw0.out) | (with_reducible refine Seg.alloc ?_ _) | (with_reducible refine Seg.drew ?_) | (with_reducible refine Seg.drewN ?_ _)))
  have gSg0 : Seg X (w1.heap.size + 1) (w2.heap.size) (.slice ax2 (lstParseRhythm a0).length kx2) (marks 1 (lstParseRhythm a0).length) := (by rw [hX]; repeat (first | (with_reducible exact Sg0.out) | (with_reducible refine Seg.alloc ?_ _) | (with_reducible refine Seg.drew ?_) | (with_reducible refine Seg.drewN ?_ _)))
  clear hX HB Cw00 Cw01 Cg00 Cg01 Sw0 Sg0 yCw00 yCg00
  refine (implParseRhythmC _ (by omega) _).mono ?_
  rintro e w6 ⟨ax6, kx6, rfl, o6, b6⟩
  have HB := Lib.hid (bel_step gB b6 gB.size)
  have z6 : w5.heap.size + 0 ≤ w6.heap.size := Nat.le_trans gz b6.size
  have Cw00 := cellAfter b6 gCw00
  have Cw01 := cellAfter b6 gCw01
  have Cg00 := cellAfter b6 gCg00
  have Cg01 := cellAfter b6 gCg01
  have Sw0 := Lib.hid (gSw0.after b6)
  have Sg0 := Lib.hid (gSg0.after b6)
  have Sh0 := Lib.hid (Seg.mk' (o6.mono gz))
  clear gB gz gCw00 gCw01 gCg00 gCg01 gSw0 gSg0 b6 o6 X
  have yCw00 : w1.heap.size < w6.heap.size := World.block_lt_of_cell? _ _ Cw00
  have yCg00 : w2.heap.size < w6.heap.size := World.block_lt_of_cell? _ _ Cg00
  go_wp2_with fail
  refine withWorld fun X hX => ?_
  have gB : Below w.heap.size w X := (by rw [hX]; repeat (first | (with_reducible exact HB.out) | (with_reducible refine bel_alloc ?_ _) | (with_reducible refine Below.drew ?_) | (with_reducible refine bel_drewN ?_ _)))
  have gz : w6.heap.size + 1 ≤ X.heap.size := (by rw [hX]; simp)
  have gCw00 : X.cell? ⟨w1.heap.size, 0, none⟩ = some (.int .i64 (numParseRhythm a0)) := (by rw [hX]; repeat (first | (with_reducible exact Cw00) | (with_reducible refine cellAlloc _ ?_) | (with_reducible refine cellDrew ?_) | (with_reducible refine cellDrewN ?_)))
  have gCw01 : X.cell? ⟨w1.heap.size, 1, none⟩ = some (.slice ax1 (lstParseRhythm a0).length kx1) := (by rw [hX]; repeat (first | (with_reducible exact Cw01) | (with_reducible refine cellAlloc _ ?_) | (with_reducible refine cellDrew ?_) | (with_reducible refine cellDrewN ?_)))
  have gCg00 : X.cell? ⟨w2.heap.size, 0, none⟩ = some (.int .i64 (numParseRhythm a0)) := (by rw [hX]; repeat (first | (with_reducible exact Cg00) | (with_reducible refine cellAlloc _ ?_) | (with_reducible refine cellDrew ?_) | (with_reducible refine cellDrewN ?_)))
  have gCg01 : X.cell? ⟨w2.heap.size, 1, none⟩ = some (.slice ax2 (lstParseRhythm a0).length kx2) := (by rw [hX]; repeat (first | (with_reducible exact Cg01) | (with_reducible refine cellAlloc _ ?_) | (with_reducible refine cellDrew ?_) | (with_reducible refine cellDrewN ?_)))
  have gCh00 : X.cell? ⟨w6.heap.size, 0, none⟩ = some (.int .i64 (numParseRhythm a0)) := (by rw [hX]; (repeat (first | (with_reducible refine cellDrew ?_) | (with_reducible refine cellDrewN ?_))); exact cellNewAt _ _ _ _ (by simp) rfl)
  have gCh01 : X.cell? ⟨w6.heap.size, 1, none⟩ = some (.slice ax6 (lstParseRhythm a0).length kx6) := (by rw [hX]; (repeat (first | (with_reducible refine cellDrew ?_) | (with_reducible refine cellDrewN ?_))); exact cellNewAt _ _ _ _ (by simp) rfl)
  have gSw0 : Seg X (w.heap.size + 0) (w1.heap.size) (.slice ax1 (lstParseRhythm a0).length kx1) ((lstParseRhythm a0)) := (by rw [hX]; repeat (first | (with_reducible exact Sw0.out) | (with_reducible refine Seg.alloc ?_ _) | (with_reducible refine Seg.drew ?_) | (with_reducible refine Seg.drewN ?_ _)))
  have gSg0 : Seg X (w1.heap.size + 1) (w2.heap.size) (.slice ax2 (lstParseRhythm a0).length kx2) (marks 1 (lstParseRhythm a0).length) := (by rw [hX]; repeat (first | (with_reducible exact Sg0.out) | (with_reducible refine Seg.alloc ?_ _) | (with_reducible refine Seg.drew ?_) | (with_reducible refine Seg.drewN ?_ _)))
  have gSh0 : Seg X (w5.heap.size + 0) (w6.heap.size) (.slice ax6 (lstParseRhythm a0).length kx6) ((lstParseRhythm a0)) := (by rw [hX]; repeat (first | (with_reducible exact Sh0.out) | (with_reducible refine Seg.alloc ?_ _) | (with_reducible refine Seg.drew ?_) | (with_reducible refine Seg.drewN ?_ _)))
  clear hX HB Cw00 Cw01 Cg00 Cg01 Sw0 Sg0 Sh0 yCw00 yCg00
  refine (lawEqRhythm _ _ _ _ (lstParseRhythm a0) (lstParseRhythm a0) _ gSh0.ints gSw0.ints).mono ?_
  rintro e w7 ⟨rfl, b7⟩
  have HB := Lib.hid (bel_step gB b7 gB.size)
  have z7 : w6.heap.size + 1 ≤ w7.heap.size := Nat.le_trans gz b7.size
  have Cw00 := cellAfter b7 gCw00
  have Cw01 := cellAfter b7 gCw01
  have Cg00 := cellAfter b7 gCg00
  have Cg01 := cellAfter b7 gCg01
  have Ch00 := cellAfter b7 gCh00
  have Ch01 := cellAfter b7 gCh01
  have Sw0 := Lib.hid (gSw0.after b7)
  have Sg0 := Lib.hid (gSg0.after b7)
  have Sh0 := Lib.hid (gSh0.after b7)
  clear gB gz gCw00 gCw01 gCg00 gCg01 gCh00 gCh01 gSw0 gSg0 gSh0 b7 X
  have yCw00 : w1.heap.size < w7.heap.size := World.block_lt_of_cell? _ _ Cw00
  have yCg00 : w2.heap.size < w7.heap.size := World.block_lt_of_cell? _ _ Cg00
  have yCh00 : w6.heap.size < w7.heap.size := World.block_lt_of_cell? _ _ Ch00
  rw [eqR_self]
  go_wp2_with fail
  refine withWorld fun X hX => ?_
  have gB : Below w.heap.size w X := (by rw [hX]; repeat (first | (with_reducible exact HB.out) | (with_reducible refine bel_alloc ?_ _) | (with_reducible refine Below.drew ?_) | (with_reducible refine bel_drewN ?_ _)))
  have gz : w7.heap.size + 0 ≤ X.heap.size := (by rw [hX]; simp)
  have gCw00 : X.cell? ⟨w1.heap.size, 0, none⟩ = some (.int .i64 (numParseRhythm a0)) := (by rw [hX]; repeat (first | (with_reducible exact Cw00) | (with_reducible refine cellAlloc _ ?_) | (with_reducible refine cellDrew ?_) | (with_reducible refine cellDrewN ?_)))
  have gCw01 : X.cell? ⟨w1.heap.size, 1, none⟩ = some (.slice ax1 (lstParseRhythm a0).length kx1) := (by rw [hX]; repeat (first | (with_reducible exact Cw01) | (with_reducible refine cellAlloc _ ?_) | (with_reducible refine cellDrew ?_) | (with_reducible refine cellDrewN ?_)))
  have gCg00 : X.cell? ⟨w2.heap.size, 0, none⟩ = some (.int .i64 (numParseRhythm a0)) := (by rw [hX]; repeat (first | (with_reducible exact Cg00) | (with_reducible refine cellAlloc _ ?_) | (with_reducible refine cellDrew ?_) | (with_reducible refine cellDrewN ?_)))
  have gCg01 : X.cell? ⟨w2.heap.size, 1, none⟩ = some (.slice ax2 (lstParseRhythm a0).length kx2) := (by rw [hX]; repeat (first | (with_reducible exact Cg01) | (with_reducible refine cellAlloc _ ?_) | (with_reducible refine cellDrew ?_) | (with_reducible refine cellDrewN ?_)))
  have gCh00 : X.cell? ⟨w6.heap.size, 0, none⟩ = some (.int .i64 (numParseRhythm a0)) := (by rw [hX]; repeat (first | (with_reducible exact Ch00) | (with_reducible refine cellAlloc _ ?_) | (with_reducible refine cellDrew ?_) | (with_reducible refine cellDrewN ?_)))
  have gCh01 : X.cell? ⟨w6.heap.size, 1, none⟩ = some (.slice ax6 (lstParseRhythm a0).length kx6) := (by rw [hX]; repeat (first | (with_reducible exact Ch01) | (with_reducible refine cellAlloc _ ?_) | (with_reducible refine cellDrew ?_) | (with_reducible refine cellDrewN ?_)))
  have gSw0 : Seg X (w.heap.size + 0) (w1.heap.size) (.slice ax1 (lstParseRhythm a0).length kx1) ((lstParseRhythm a0)) := (by rw [hX]; repeat (first | (with_reducible exact Sw0.out) | (with_reducible refine Seg.alloc ?_ _) | (with_reducible refine Seg.drew ?_) | (with_reducible refine Seg.drewN ?_ _)))
  have gSg0 : Seg X (w1.heap.size + 1) (w2.heap.size) (.slice ax2 (lstParseRhythm a0).length kx2) (marks 1 (lstParseRhythm a0).length) := (by rw [hX]; repeat (first | (with_reducible exact Sg0.out) | (with_reducible refine Seg.alloc ?_ _) | (with_reducible refine Seg.drew ?_) | (with_reducible refine Seg.drewN ?_ _)))
  have gSh0 : Seg X (w5.heap.size + 0) (w6.heap.size) (.slice ax6 (lstParseRhythm a0).length kx6) ((lstParseRhythm a0)) := (by rw [hX]; repeat (first | (with_reducible exact Sh0.out) | (with_reducible refine Seg.alloc ?_ _) | (with_reducible refine Seg.drew ?_) | (with_reducible refine Seg.drewN ?_ _)))
  clear hX HB Cw00 Cw01 Cg00 Cg01 Ch00 Ch01 Sw0 Sg0 Sh0 yCw00 yCg00 yCh00
  refine (lawHeldRhythm' _ _ (marks 1 (lstParseRhythm a0).length) _ _ (by rw [marks_len]; have := lenParseRhythm a0; omega) (by omega) (by omega) gSg0.ints).mono ?_
  rintro e w8 ⟨rfl, b8⟩
  have HB := Lib.hid (bel_step gB b8 gB.size)
  have z8 : w7.heap.size + 0 ≤ w8.heap.size := Nat.le_trans gz b8.size
  have Cw00 := cellAfter b8 gCw00
  have Cw01 := cellAfter b8 gCw01
  have Cg00 := cellAfter b8 gCg00
  have Cg01 := cellAfter b8 gCg01
  have Ch00 := cellAfter b8 gCh00
  have Ch01 := cellAfter b8 gCh01
  have Sw0 := Lib.hid (gSw0.after b8)
  have Sg0 := Lib.hid (gSg0.after b8)
  have Sh0 := Lib.hid (gSh0.after b8)
  clear gB gz gCw00 gCw01 gCg00 gCg01 gCh00 gCh01 gSw0 gSg0 gSh0 b8 X
  have yCw00 : w1.heap.size < w8.heap.size := World.block_lt_of_cell? _ _ Cw00
  have yCg00 : w2.heap.size < w8.heap.size := World.block_lt_of_cell? _ _ Cg00
  have yCh00 : w6.heap.size < w8.heap.size := World.block_lt_of_cell? _ _ Ch00
  rw [heldOf_marks]
  go_wp2
  go_ret
  exact ⟨rfl, by repeat (first | (with_reducible exact HB.out) | refine bel_alloc ?_ _ | refine Below.drew ?_ | refine bel_drewN ?_ _ | exact Below.refl _ _)⟩
end Go.Proofs.YtcgpmdfcdngnlaaDoor.fnExactParseRhythm
