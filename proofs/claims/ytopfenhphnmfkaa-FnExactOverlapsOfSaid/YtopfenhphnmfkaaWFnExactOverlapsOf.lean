/-
  The walk of FnExactOverlapsOf: it returns true and writes nothing that was there.
  Conditions: the arguments lie in memory as the statement's reading says.
-/
import Derived.Test.YtopfenhphnmfkaaN16
import Derived.Test.YtopfenhphnmfkaaC3
import Derived.Test.YtopfenhphnmfkaaB0
set_option linter.unusedVariables false
set_option linter.unusedSimpArgs false
namespace Go.Proofs.Ytopfenhphnmfkaa.fnExactOverlapsOf
open Go.RowKit
set_option linter.unusedVariables false


theorem walk (w : World) (n0 : Int) (v0 : Value) (x0 : List Int) (c0 : I64 n0) (h0 : Ints w w.heap.size v0 x0) (b0 : ∀ n ∈ x0, I64 n) (n1 : Int) (v1 : Value) (x1 : List Int) (c1 : I64 n1) (h1 : Ints w w.heap.size v1 x1) (b1 : ∀ n ∈ x1, I64 n) :
    Calls Try.prog 4 #[.agg #[.int .i64 n0, v0], .agg #[.int .i64 n1, v1]] w fun e w' => e = .returned (.bool true) ∧ Below w.heap.size w w' := by
  have h0' := h0
  obtain ⟨ad0, cap0, hv0, -⟩ := h0'
  subst hv0
  have h1' := h1
  obtain ⟨ad1, cap1, hv1, -⟩ := h1'
  subst hv1
  go_enter Try.func4, Try.ntmps4
  go_wp2_with fail
  refine withWorld fun X hX => ?_
  have gB : Below w.heap.size w X := (by rw [hX]; repeat (first | (with_reducible exact (Below.refl _ _)) | (with_reducible refine bel_alloc ?_ _) | (with_reducible refine Below.drew ?_) | (with_reducible refine bel_drewN ?_ _)))
  have gz : w.heap.size + 2 ≤ X.heap.size := (by rw [hX]; simp)
  have gCP00 : X.cell? ⟨w.heap.size, 0, none⟩ = some (.int .i64 n0) := (by rw [hX]; (repeat (first | (with_reducible refine cellDrew ?_) | (with_reducible refine cellDrewN ?_))); refine cellAlloc _ ?_; exact cellNewAt _ _ _ _ (by simp) rfl)
  have gCP01 : X.cell? ⟨w.heap.size, 1, none⟩ = some (.slice ad0 x0.length cap0) := (by rw [hX]; (repeat (first | (with_reducible refine cellDrew ?_) | (with_reducible refine cellDrewN ?_))); refine cellAlloc _ ?_; exact cellNewAt _ _ _ _ (by simp) rfl)
  have gCP10 : X.cell? ⟨w.heap.size + 1, 0, none⟩ = some (.int .i64 n1) := (by rw [hX]; (repeat (first | (with_reducible refine cellDrew ?_) | (with_reducible refine cellDrewN ?_))); exact cellNewAt _ _ _ _ (by simp) rfl)
  have gCP11 : X.cell? ⟨w.heap.size + 1, 1, none⟩ = some (.slice ad1 x1.length cap1) := (by rw [hX]; (repeat (first | (with_reducible refine cellDrew ?_) | (with_reducible refine cellDrewN ?_))); exact cellNewAt _ _ _ _ (by simp) rfl)
  clear hX 
  refine (lawSzRhythm' _ _ x0 _ _ (by omega) (by omega) (Ints.ofBelow h0 gB)).mono ?_
  rintro e w1 ⟨rfl, b1⟩
  have HB := Lib.hid (bel_step gB b1 gB.size)
  have z1 : w.heap.size + 2 ≤ w1.heap.size := Nat.le_trans gz b1.size
  have CP00 := cellAfter b1 gCP00
  have CP01 := cellAfter b1 gCP01
  have CP10 := cellAfter b1 gCP10
  have CP11 := cellAfter b1 gCP11
  clear gB gz gCP00 gCP01 gCP10 gCP11  b1 X
  have yCP00 : w.heap.size < w1.heap.size := World.block_lt_of_cell? _ _ CP00
  have yCP10 : w.heap.size + 1 < w1.heap.size := World.block_lt_of_cell? _ _ CP10
  rcases szOf_lt (left := 1048576) (xs := x0) with s0 | s0
  · go_wp2
    go_ret
    exact ⟨rfl, by repeat (first | (with_reducible exact HB.out) | refine bel_alloc ?_ _ | refine Below.drew ?_ | refine bel_drewN ?_ _ | exact Below.refl _ _)⟩
  have l0 := szOf_len s0
  have m0 : (szOf 1048576 x0) ≤ 1048576 := szOf_le (by omega) (by omega)
  go_wp2_with fail
  refine withWorld fun X hX => ?_
  have gB : Below w.heap.size w X := (by rw [hX]; repeat (first | (with_reducible exact HB.out) | (with_reducible refine bel_alloc ?_ _) | (with_reducible refine Below.drew ?_) | (with_reducible refine bel_drewN ?_ _)))
  have gz : w1.heap.size + 0 ≤ X.heap.size := (by rw [hX]; simp)
  have gCP00 : X.cell? ⟨w.heap.size, 0, none⟩ = some (.int .i64 n0) := (by rw [hX]; repeat (first | (with_reducible exact CP00) | (with_reducible refine cellAlloc _ ?_) | (with_reducible refine cellDrew ?_) | (with_reducible refine cellDrewN ?_)))
  have gCP01 : X.cell? ⟨w.heap.size, 1, none⟩ = some (.slice ad0 x0.length cap0) := (by rw [hX]; repeat (first | (with_reducible exact CP01) | (with_reducible refine cellAlloc _ ?_) | (with_reducible refine cellDrew ?_) | (with_reducible refine cellDrewN ?_)))
  have gCP10 : X.cell? ⟨w.heap.size + 1, 0, none⟩ = some (.int .i64 n1) := (by rw [hX]; repeat (first | (with_reducible exact CP10) | (with_reducible refine cellAlloc _ ?_) | (with_reducible refine cellDrew ?_) | (with_reducible refine cellDrewN ?_)))
  have gCP11 : X.cell? ⟨w.heap.size + 1, 1, none⟩ = some (.slice ad1 x1.length cap1) := (by rw [hX]; repeat (first | (with_reducible exact CP11) | (with_reducible refine cellAlloc _ ?_) | (with_reducible refine cellDrew ?_) | (with_reducible refine cellDrewN ?_)))
  clear hX HB CP00 CP01 CP10 CP11 yCP00 yCP10
  refine (lawSzRhythm' _ _ x1 _ _ (by omega) (by omega) (Ints.ofBelow h1 gB)).mono ?_
  rintro e w2 ⟨rfl, b2⟩
  have HB := Lib.hid (bel_step gB b2 gB.size)
  have z2 : w1.heap.size + 0 ≤ w2.heap.size := Nat.le_trans gz b2.size
  have CP00 := cellAfter b2 gCP00
  have CP01 := cellAfter b2 gCP01
  have CP10 := cellAfter b2 gCP10
  have CP11 := cellAfter b2 gCP11
  clear gB gz gCP00 gCP01 gCP10 gCP11  b2 X
  have yCP00 : w.heap.size < w2.heap.size := World.block_lt_of_cell? _ _ CP00
  have yCP10 : w.heap.size + 1 < w2.heap.size := World.block_lt_of_cell? _ _ CP10
  rcases szOf_lt (left := (szOf 1048576 x0)) (xs := x1) with s1 | s1
  · go_wp2
    go_ret
    exact ⟨rfl, by repeat (first | (with_reducible exact HB.out) | refine bel_alloc ?_ _ | refine Below.drew ?_ | refine bel_drewN ?_ _ | exact Below.refl _ _)⟩
  have l1 := szOf_len s1
  have m1 : (szOf (szOf 1048576 x0) x1) ≤ 1048576 := szOf_le (by omega) (by omega)
  go_wp2_with fail
  refine withWorldC fun Y hY => ?_
  have gB : Below w.heap.size w Y := (by rw [hY]; repeat (first | (with_reducible exact HB.out) | (with_reducible refine bel_alloc ?_ _) | (with_reducible refine Below.drew ?_) | (with_reducible refine bel_drewN ?_ _)))
  have gz : w2.heap.size + 0 ≤ Y.heap.size := (by rw [hY]; simp)
  have gCP00 : Y.cell? ⟨w.heap.size, 0, none⟩ = some (.int .i64 n0) := (by rw [hY]; repeat (first | (with_reducible exact CP00) | (with_reducible refine cellAlloc _ ?_) | (with_reducible refine cellDrew ?_) | (with_reducible refine cellDrewN ?_)))
  have gCP01 : Y.cell? ⟨w.heap.size, 1, none⟩ = some (.slice ad0 x0.length cap0) := (by rw [hY]; repeat (first | (with_reducible exact CP01) | (with_reducible refine cellAlloc _ ?_) | (with_reducible refine cellDrew ?_) | (with_reducible refine cellDrewN ?_)))
  have gCP10 : Y.cell? ⟨w.heap.size + 1, 0, none⟩ = some (.int .i64 n1) := (by rw [hY]; repeat (first | (with_reducible exact CP10) | (with_reducible refine cellAlloc _ ?_) | (with_reducible refine cellDrew ?_) | (with_reducible refine cellDrewN ?_)))
  have gCP11 : Y.cell? ⟨w.heap.size + 1, 1, none⟩ = some (.slice ad1 x1.length cap1) := (by rw [hY]; repeat (first | (with_reducible exact CP11) | (with_reducible refine cellAlloc _ ?_) | (with_reducible refine cellDrew ?_) | (with_reducible refine cellDrewN ?_)))
  clear hY HB CP00 CP01 CP10 CP11 yCP00 yCP10
  have CP00 := gCP00
  have CP01 := gCP01
  have CP10 := gCP10
  have CP11 := gCP11
  have HB := Lib.hid gB
  have zY2 := gz
  clear gB gz gCP00 gCP01 gCP10 gCP11 
  have yCP00 : w.heap.size < Y.heap.size := World.block_lt_of_cell? _ _ CP00
  have yCP10 : w.heap.size + 1 < Y.heap.size := World.block_lt_of_cell? _ _ CP10
  go_region_held3 (fun w' => w'.cell? ⟨w.heap.size, 0, none⟩ = some (.int .i64 n0) ∧ w'.cell? ⟨w.heap.size, 1, none⟩ = some (.slice ad0 x0.length cap0) ∧ w'.cell? ⟨w.heap.size + 1, 0, none⟩ = some (.int .i64 n1) ∧ w'.cell? ⟨w.heap.size + 1, 1, none⟩ = some (.slice ad1 x1.length cap1)) (first | exact ⟨CP00, CP01, CP10, CP11⟩ | exact ⟨cellAlloc _ CP00, cellAlloc _ CP01, cellAlloc _ CP10, cellAlloc _ CP11⟩) (first | (go_at_call_of 29 (Value.slice ad0 x0.length cap0); refine withWorld fun X hX => ?_; have gB : Below w.heap.size w X := (by rw [hX]; repeat (first | (with_reducible exact HB.out) | (with_reducible refine bel_alloc ?_ _) | (with_reducible refine Below.drew ?_) | (with_reducible refine bel_drewN ?_ _))); have gz : Y.heap.size + 0 ≤ X.heap.size := (by rw [hX]; simp); have gCP00 : X.cell? ⟨w.heap.size, 0, none⟩ = some (.int .i64 n0) := (by rw [hX]; repeat (first | (with_reducible exact CP00) | (with_reducible refine cellAlloc _ ?_) | (with_reducible refine cellDrew ?_) | (with_reducible refine cellDrewN ?_))); have gCP01 : X.cell? ⟨w.heap.size, 1, none⟩ = some (.slice ad0 x0.length cap0) := (by rw [hX]; repeat (first | (with_reducible exact CP01) | (with_reducible refine cellAlloc _ ?_) | (with_reducible refine cellDrew ?_) | (with_reducible refine cellDrewN ?_))); have gCP10 : X.cell? ⟨w.heap.size + 1, 0, none⟩ = some (.int .i64 n1) := (by rw [hX]; repeat (first | (with_reducible exact CP10) | (with_reducible refine cellAlloc _ ?_) | (with_reducible refine cellDrew ?_) | (with_reducible refine cellDrewN ?_))); have gCP11 : X.cell? ⟨w.heap.size + 1, 1, none⟩ = some (.slice ad1 x1.length cap1) := (by rw [hX]; repeat (first | (with_reducible exact CP11) | (with_reducible refine cellAlloc _ ?_) | (with_reducible refine cellDrew ?_) | (with_reducible refine cellDrewN ?_))); clear hX HB CP00 CP01 CP10 CP11 yCP00 yCP10; refine (lawToRhythm _ _ x0 _ (by omega) (Ints.ofBelow h0 gB)).mono ?_; rintro e w3 ⟨ax3, kx3, rfl, o3, b3⟩; have HB := Lib.hid (bel_step gB b3 gB.size); have z3 : Y.heap.size + 0 ≤ w3.heap.size := Nat.le_trans gz b3.size; have CP00 := cellAfter b3 gCP00; have CP01 := cellAfter b3 gCP01; have CP10 := cellAfter b3 gCP10; have CP11 := cellAfter b3 gCP11; have T0 := Lib.hid (Seg.mk' (o3.mono gz)); clear gB gz gCP00 gCP01 gCP10 gCP11  b3 o3 X; have yCP00 : w.heap.size < w3.heap.size := World.block_lt_of_cell? _ _ CP00; have yCP10 : w.heap.size + 1 < w3.heap.size := World.block_lt_of_cell? _ _ CP10) | (go_at_call_of 29 (Value.slice ad1 x1.length cap1); refine withWorld fun X hX => ?_; have gB : Below w.heap.size w X := (by rw [hX]; repeat (first | (with_reducible exact HB.out) | (with_reducible refine bel_alloc ?_ _) | (with_reducible refine Below.drew ?_) | (with_reducible refine bel_drewN ?_ _))); have gz : w3.heap.size + 0 ≤ X.heap.size := (by rw [hX]; simp); have gCP00 : X.cell? ⟨w.heap.size, 0, none⟩ = some (.int .i64 n0) := (by rw [hX]; repeat (first | (with_reducible exact CP00) | (with_reducible refine cellAlloc _ ?_) | (with_reducible refine cellDrew ?_) | (with_reducible refine cellDrewN ?_))); have gCP01 : X.cell? ⟨w.heap.size, 1, none⟩ = some (.slice ad0 x0.length cap0) := (by rw [hX]; repeat (first | (with_reducible exact CP01) | (with_reducible refine cellAlloc _ ?_) | (with_reducible refine cellDrew ?_) | (with_reducible refine cellDrewN ?_))); have gCP10 : X.cell? ⟨w.heap.size + 1, 0, none⟩ = some (.int .i64 n1) := (by rw [hX]; repeat (first | (with_reducible exact CP10) | (with_reducible refine cellAlloc _ ?_) | (with_reducible refine cellDrew ?_) | (with_reducible refine cellDrewN ?_))); have gCP11 : X.cell? ⟨w.heap.size + 1, 1, none⟩ = some (.slice ad1 x1.length cap1) := (by rw [hX]; repeat (first | (with_reducible exact CP11) | (with_reducible refine cellAlloc _ ?_) | (with_reducible refine cellDrew ?_) | (with_reducible refine cellDrewN ?_))); have gT0 : Seg X (Y.heap.size + 0) (w3.heap.size) (.slice ax3 x0.length kx3) (x0) := (by rw [hX]; repeat (first | (with_reducible exact T0.out) | (with_reducible refine Seg.alloc ?_ _) | (with_reducible refine Seg.drew ?_) | (with_reducible refine Seg.drewN ?_ _))); clear hX HB CP00 CP01 CP10 CP11 T0 yCP00 yCP10; refine (lawToRhythm _ _ x1 _ (by omega) (Ints.ofBelow h1 gB)).mono ?_; rintro e w4 ⟨ax4, kx4, rfl, o4, b4⟩; have HB := Lib.hid (bel_step gB b4 gB.size); have z4 : w3.heap.size + 0 ≤ w4.heap.size := Nat.le_trans gz b4.size; have CP00 := cellAfter b4 gCP00; have CP01 := cellAfter b4 gCP01; have CP10 := cellAfter b4 gCP10; have CP11 := cellAfter b4 gCP11; have T0 := Lib.hid (gT0.after b4); have T1 := Lib.hid (Seg.mk' (o4.mono gz)); clear gB gz gCP00 gCP01 gCP10 gCP11 gT0 b4 o4 X; have yCP00 : w.heap.size < w4.heap.size := World.block_lt_of_cell? _ _ CP00; have yCP10 : w.heap.size + 1 < w4.heap.size := World.block_lt_of_cell? _ _ CP10) | (go_at_call 28; refine withWorld fun X hX => ?_; have gB : Below w.heap.size w X := (by rw [hX]; repeat (first | (with_reducible exact HB.out) | (with_reducible refine bel_alloc ?_ _) | (with_reducible refine Below.drew ?_) | (with_reducible refine bel_drewN ?_ _))); have gz : w4.heap.size + 0 ≤ X.heap.size := (by rw [hX]; simp); have gCP00 : X.cell? ⟨w.heap.size, 0, none⟩ = some (.int .i64 n0) := (by rw [hX]; repeat (first | (with_reducible exact CP00) | (with_reducible refine cellAlloc _ ?_) | (with_reducible refine cellDrew ?_) | (with_reducible refine cellDrewN ?_))); have gCP01 : X.cell? ⟨w.heap.size, 1, none⟩ = some (.slice ad0 x0.length cap0) := (by rw [hX]; repeat (first | (with_reducible exact CP01) | (with_reducible refine cellAlloc _ ?_) | (with_reducible refine cellDrew ?_) | (with_reducible refine cellDrewN ?_))); have gCP10 : X.cell? ⟨w.heap.size + 1, 0, none⟩ = some (.int .i64 n1) := (by rw [hX]; repeat (first | (with_reducible exact CP10) | (with_reducible refine cellAlloc _ ?_) | (with_reducible refine cellDrew ?_) | (with_reducible refine cellDrewN ?_))); have gCP11 : X.cell? ⟨w.heap.size + 1, 1, none⟩ = some (.slice ad1 x1.length cap1) := (by rw [hX]; repeat (first | (with_reducible exact CP11) | (with_reducible refine cellAlloc _ ?_) | (with_reducible refine cellDrew ?_) | (with_reducible refine cellDrewN ?_))); have gT0 : Seg X (Y.heap.size + 0) (w3.heap.size) (.slice ax3 x0.length kx3) (x0) := (by rw [hX]; repeat (first | (with_reducible exact T0.out) | (with_reducible refine Seg.alloc ?_ _) | (with_reducible refine Seg.drew ?_) | (with_reducible refine Seg.drewN ?_ _))); have gT1 : Seg X (w3.heap.size + 0) (w4.heap.size) (.slice ax4 x1.length kx4) (x1) := (by rw [hX]; repeat (first | (with_reducible exact T1.out) | (with_reducible refine Seg.alloc ?_ _) | (with_reducible refine Seg.drew ?_) | (with_reducible refine Seg.drewN ?_ _))); clear hX HB CP00 CP01 CP10 CP11 T0 T1 yCP00 yCP10; refine (specOverlapsOfC _ _ x0 c0 _ _ x1 c1 _ gT0.ints gT1.ints).mono ?_; rintro e w5 ⟨ax5, kx5, rfl, o5, b5⟩; have HB := Lib.hid (bel_step gB b5 gB.size); have z5 : w4.heap.size + 0 ≤ w5.heap.size := Nat.le_trans gz b5.size; have CP00 := cellAfter b5 gCP00; have CP01 := cellAfter b5 gCP01; have CP10 := cellAfter b5 gCP10; have CP11 := cellAfter b5 gCP11; have T0 := Lib.hid (gT0.after b5); have T1 := Lib.hid (gT1.after b5); have Sw0 := Lib.hid (Seg.mk' (o5.mono gz)); clear gB gz gCP00 gCP01 gCP10 gCP11 gT0 gT1 b5 o5 X; have yCP00 : w.heap.size < w5.heap.size := World.block_lt_of_cell? _ _ CP00; have yCP10 : w.heap.size + 1 < w5.heap.size := World.block_lt_of_cell? _ _ CP10))
  clear T0
  clear T1
  go_wp2_with fail
  refine withWorld fun X hX => ?_
  have gB : Below w.heap.size w X := (by rw [hX]; repeat (first | (with_reducible exact HB.out) | (with_reducible refine bel_alloc ?_ _) | (with_reducible refine Below.drew ?_) | (with_reducible refine bel_drewN ?_ _)))
  have gz : w5.heap.size + 0 ≤ X.heap.size := (by rw [hX]; simp)
  have gCP00 : X.cell? ⟨w.heap.size, 0, none⟩ = some (.int .i64 n0) := (by rw [hX]; repeat (first | (with_reducible exact CP00) | (with_reducible refine cellAlloc _ ?_) | (with_reducible refine cellDrew ?_) | (with_reducible refine cellDrewN ?_)))
  have gCP01 : X.cell? ⟨w.heap.size, 1, none⟩ = some (.slice ad0 x0.length cap0) := (by rw [hX]; repeat (first | (with_reducible exact CP01) | (with_reducible refine cellAlloc _ ?_) | (with_reducible refine cellDrew ?_) | (with_reducible refine cellDrewN ?_)))
  have gCP10 : X.cell? ⟨w.heap.size + 1, 0, none⟩ = some (.int .i64 n1) := (by rw [hX]; repeat (first | (with_reducible exact CP10) | (with_reducible refine cellAlloc _ ?_) | (with_reducible refine cellDrew ?_) | (with_reducible refine cellDrewN ?_)))
  have gCP11 : X.cell? ⟨w.heap.size + 1, 1, none⟩ = some (.slice ad1 x1.length cap1) := (by rw [hX]; repeat (first | (with_reducible exact CP11) | (with_reducible refine cellAlloc _ ?_) | (with_reducible refine cellDrew ?_) | (with_reducible refine cellDrewN ?_)))
  have gSw0 : Seg X (w4.heap.size + 0) (w5.heap.size) (.slice ax5 (lstOverlapsOf n0 x0 n1 x1).length kx5) ((lstOverlapsOf n0 x0 n1 x1)) := (by rw [hX]; repeat (first | (with_reducible exact Sw0.out) | (with_reducible refine Seg.alloc ?_ _) | (with_reducible refine Seg.drew ?_) | (with_reducible refine Seg.drewN ?_ _)))
  clear hX HB CP00 CP01 CP10 CP11 Sw0 yCP00 yCP10
  refine (lawToRhythm _ _ x0 _ (by omega) (Ints.ofBelow h0 gB)).mono ?_
  rintro e w6 ⟨ax6, kx6, rfl, o6, b6⟩
  have HB := Lib.hid (bel_step gB b6 gB.size)
  have z6 : w5.heap.size + 0 ≤ w6.heap.size := Nat.le_trans gz b6.size
  have CP00 := cellAfter b6 gCP00
  have CP01 := cellAfter b6 gCP01
  have CP10 := cellAfter b6 gCP10
  have CP11 := cellAfter b6 gCP11
  have Sw0 := Lib.hid (gSw0.after b6)
  have Sx0 := Lib.hid (Seg.mk' (o6.mono gz))
  clear gB gz gCP00 gCP01 gCP10 gCP11 gSw0 b6 o6 X
  have yCP00 : w.heap.size < w6.heap.size := World.block_lt_of_cell? _ _ CP00
  have yCP10 : w.heap.size + 1 < w6.heap.size := World.block_lt_of_cell? _ _ CP10
  go_wp2_with fail
  refine withWorld fun X hX => ?_
  have gB : Below w.heap.size w X := (by rw [hX]; repeat (first | (with_reducible exact HB.out) | (with_reducible refine bel_alloc ?_ _) | (with_reducible refine Below.drew ?_) | (with_reducible refine bel_drewN ?_ _)))
  have gz : w6.heap.size + 1 ≤ X.heap.size := (by rw [hX]; simp)
  have gCP00 : X.cell? ⟨w.heap.size, 0, none⟩ = some (.int .i64 n0) := (by rw [hX]; repeat (first | (with_reducible exact CP00) | (with_reducible refine cellAlloc _ ?_) | (with_reducible refine cellDrew ?_) | (with_reducible refine cellDrewN ?_)))
  have gCP01 : X.cell? ⟨w.heap.size, 1, none⟩ = some (.slice ad0 x0.length cap0) := (by rw [hX]; repeat (first | (with_reducible exact CP01) | (with_reducible refine cellAlloc _ ?_) | (with_reducible refine cellDrew ?_) | (with_reducible refine cellDrewN ?_)))
  have gCP10 : X.cell? ⟨w.heap.size + 1, 0, none⟩ = some (.int .i64 n1) := (by rw [hX]; repeat (first | (with_reducible exact CP10) | (with_reducible refine cellAlloc _ ?_) | (with_reducible refine cellDrew ?_) | (with_reducible refine cellDrewN ?_)))
  have gCP11 : X.cell? ⟨w.heap.size + 1, 1, none⟩ = some (.slice ad1 x1.length cap1) := (by rw [hX]; repeat (first | (with_reducible exact CP11) | (with_reducible refine cellAlloc _ ?_) | (with_reducible refine cellDrew ?_) | (with_reducible refine cellDrewN ?_)))
  have gCx00 : X.cell? ⟨w6.heap.size, 0, none⟩ = some (.int .i64 n0) := (by rw [hX]; (repeat (first | (with_reducible refine cellDrew ?_) | (with_reducible refine cellDrewN ?_))); exact cellNewAt _ _ _ _ (by simp) rfl)
  have gCx01 : X.cell? ⟨w6.heap.size, 1, none⟩ = some (.slice ax6 x0.length kx6) := (by rw [hX]; (repeat (first | (with_reducible refine cellDrew ?_) | (with_reducible refine cellDrewN ?_))); exact cellNewAt _ _ _ _ (by simp) rfl)
  have gSw0 : Seg X (w4.heap.size + 0) (w5.heap.size) (.slice ax5 (lstOverlapsOf n0 x0 n1 x1).length kx5) ((lstOverlapsOf n0 x0 n1 x1)) := (by rw [hX]; repeat (first | (with_reducible exact Sw0.out) | (with_reducible refine Seg.alloc ?_ _) | (with_reducible refine Seg.drew ?_) | (with_reducible refine Seg.drewN ?_ _)))
  have gSx0 : Seg X (w5.heap.size + 0) (w6.heap.size) (.slice ax6 x0.length kx6) (x0) := (by rw [hX]; repeat (first | (with_reducible exact Sx0.out) | (with_reducible refine Seg.alloc ?_ _) | (with_reducible refine Seg.drew ?_) | (with_reducible refine Seg.drewN ?_ _)))
  clear hX HB CP00 CP01 CP10 CP11 Sw0 Sx0 yCP00 yCP10
  refine (lawToRhythm _ _ x1 _ (by omega) (Ints.ofBelow h1 gB)).mono ?_
  rintro e w7 ⟨ax7, kx7, rfl, o7, b7⟩
  have HB := Lib.hid (bel_step gB b7 gB.size)
  have z7 : w6.heap.size + 1 ≤ w7.heap.size := Nat.le_trans gz b7.size
  have CP00 := cellAfter b7 gCP00
  have CP01 := cellAfter b7 gCP01
  have CP10 := cellAfter b7 gCP10
  have CP11 := cellAfter b7 gCP11
  have Cx00 := cellAfter b7 gCx00
  have Cx01 := cellAfter b7 gCx01
  have Sw0 := Lib.hid (gSw0.after b7)
  have Sx0 := Lib.hid (gSx0.after b7)
  have Sx1 := Lib.hid (Seg.mk' (o7.mono gz))
  clear gB gz gCP00 gCP01 gCP10 gCP11 gCx00 gCx01 gSw0 gSx0 b7 o7 X
  have yCP00 : w.heap.size < w7.heap.size := World.block_lt_of_cell? _ _ CP00
  have yCP10 : w.heap.size + 1 < w7.heap.size := World.block_lt_of_cell? _ _ CP10
  have yCx00 : w6.heap.size < w7.heap.size := World.block_lt_of_cell? _ _ Cx00
  go_wp2_with fail
  refine withWorld fun X hX => ?_
  have gB : Below w.heap.size w X := (by rw [hX]; repeat (first | (with_reducible exact HB.out) | (with_reducible refine bel_alloc ?_ _) | (with_reducible refine Below.drew ?_) | (with_reducible refine bel_drewN ?_ _)))
  have gz : w7.heap.size + 1 ≤ X.heap.size := (by rw [hX]; simp)
  have gCP00 : X.cell? ⟨w.heap.size, 0, none⟩ = some (.int .i64 n0) := (by rw [hX]; repeat (first | (with_reducible exact CP00) | (with_reducible refine cellAlloc _ ?_) | (with_reducible refine cellDrew ?_) | (with_reducible refine cellDrewN ?_)))
  have gCP01 : X.cell? ⟨w.heap.size, 1, none⟩ = some (.slice ad0 x0.length cap0) := (by rw [hX]; repeat (first | (with_reducible exact CP01) | (with_reducible refine cellAlloc _ ?_) | (with_reducible refine cellDrew ?_) | (with_reducible refine cellDrewN ?_)))
  have gCP10 : X.cell? ⟨w.heap.size + 1, 0, none⟩ = some (.int .i64 n1) := (by rw [hX]; repeat (first | (with_reducible exact CP10) | (with_reducible refine cellAlloc _ ?_) | (with_reducible refine cellDrew ?_) | (with_reducible refine cellDrewN ?_)))
  have gCP11 : X.cell? ⟨w.heap.size + 1, 1, none⟩ = some (.slice ad1 x1.length cap1) := (by rw [hX]; repeat (first | (with_reducible exact CP11) | (with_reducible refine cellAlloc _ ?_) | (with_reducible refine cellDrew ?_) | (with_reducible refine cellDrewN ?_)))
  have gCx00 : X.cell? ⟨w6.heap.size, 0, none⟩ = some (.int .i64 n0) := (by rw [hX]; repeat (first | (with_reducible exact Cx00) | (with_reducible refine cellAlloc _ ?_) | (with_reducible refine cellDrew ?_) | (with_reducible refine cellDrewN ?_)))
  have gCx01 : X.cell? ⟨w6.heap.size, 1, none⟩ = some (.slice ax6 x0.length kx6) := (by rw [hX]; repeat (first | (with_reducible exact Cx01) | (with_reducible refine cellAlloc _ ?_) | (with_reducible refine cellDrew ?_) | (with_reducible refine cellDrewN ?_)))
  have gCx10 : X.cell? ⟨w7.heap.size, 0, none⟩ = some (.int .i64 n1) := (by rw [hX]; (repeat (first | (with_reducible refine cellDrew ?_) | (with_reducible refine cellDrewN ?_))); exact cellNewAt _ _ _ _ (by simp) rfl)
  have gCx11 : X.cell? ⟨w7.heap.size, 1, none⟩ = some (.slice ax7 x1.length kx7) := (by rw [hX]; (repeat (first | (with_reducible refine cellDrew ?_) | (with_reducible refine cellDrewN ?_))); exact cellNewAt _ _ _ _ (by simp) rfl)
  have gSw0 : Seg X (w4.heap.size + 0) (w5.heap.size) (.slice ax5 (lstOverlapsOf n0 x0 n1 x1).length kx5) ((lstOverlapsOf n0 x0 n1 x1)) := (by rw [hX]; repeat (first | (with_reducible exact Sw0.out) | (with_reducible refine Seg.alloc ?_ _) | (with_reducible refine Seg.drew ?_) | (with_reducible refine Seg.drewN ?_ _)))
  have gSx0 : Seg X (w5.heap.size + 0) (w6.heap.size) (.slice ax6 x0.length kx6) (x0) := (by rw [hX]; repeat (first | (with_reducible exact Sx0.out) | (with_reducible refine Seg.alloc ?_ _) | (with_reducible refine Seg.drew ?_) | (with_reducible refine Seg.drewN ?_ _)))
  have gSx1 : Seg X (w6.heap.size + 1) (w7.heap.size) (.slice ax7 x1.length kx7) (x1) := (by rw [hX]; repeat (first | (with_reducible exact Sx1.out) | (with_reducible refine Seg.alloc ?_ _) | (with_reducible refine Seg.drew ?_) | (with_reducible refine Seg.drewN ?_ _)))
  clear hX HB CP00 CP01 CP10 CP11 Cx00 Cx01 Sw0 Sx0 Sx1 yCP00 yCP10 yCx00
  refine (implOverlapsOfC _ _ x0 c0 _ _ x1 c1 _ gSx0.ints gSx1.ints).mono ?_
  rintro e w8 ⟨ax8, kx8, rfl, o8, b8⟩
  have HB := Lib.hid (bel_step gB b8 gB.size)
  have z8 : w7.heap.size + 1 ≤ w8.heap.size := Nat.le_trans gz b8.size
  have CP00 := cellAfter b8 gCP00
  have CP01 := cellAfter b8 gCP01
  have CP10 := cellAfter b8 gCP10
  have CP11 := cellAfter b8 gCP11
  have Cx00 := cellAfter b8 gCx00
  have Cx01 := cellAfter b8 gCx01
  have Cx10 := cellAfter b8 gCx10
  have Cx11 := cellAfter b8 gCx11
  have Sw0 := Lib.hid (gSw0.after b8)
  have Sx0 := Lib.hid (gSx0.after b8)
  have Sx1 := Lib.hid (gSx1.after b8)
  have Sg0 := Lib.hid (Seg.mk' (o8.mono gz))
  clear gB gz gCP00 gCP01 gCP10 gCP11 gCx00 gCx01 gCx10 gCx11 gSw0 gSx0 gSx1 b8 o8 X
  have yCP00 : w.heap.size < w8.heap.size := World.block_lt_of_cell? _ _ CP00
  have yCP10 : w.heap.size + 1 < w8.heap.size := World.block_lt_of_cell? _ _ CP10
  have yCx00 : w6.heap.size < w8.heap.size := World.block_lt_of_cell? _ _ Cx00
  have yCx10 : w7.heap.size < w8.heap.size := World.block_lt_of_cell? _ _ Cx10
  go_wp2_with fail
  refine withWorld fun X hX => ?_
  have gB : Below w.heap.size w X := (by rw [hX]; repeat (first | (with_reducible exact HB.out) | (with_reducible refine bel_alloc ?_ _) | (with_reducible refine Below.drew ?_) | (with_reducible refine bel_drewN ?_ _)))
  have gz : w8.heap.size + 0 ≤ X.heap.size := (by rw [hX]; simp)
  have gCP00 : X.cell? ⟨w.heap.size, 0, none⟩ = some (.int .i64 n0) := (by rw [hX]; repeat (first | (with_reducible exact CP00) | (with_reducible refine cellAlloc _ ?_) | (with_reducible refine cellDrew ?_) | (with_reducible refine cellDrewN ?_)))
  have gCP01 : X.cell? ⟨w.heap.size, 1, none⟩ = some (.slice ad0 x0.length cap0) := (by rw [hX]; repeat (first | (with_reducible exact CP01) | (with_reducible refine cellAlloc _ ?_) | (with_reducible refine cellDrew ?_) | (with_reducible refine cellDrewN ?_)))
  have gCP10 : X.cell? ⟨w.heap.size + 1, 0, none⟩ = some (.int .i64 n1) := (by rw [hX]; repeat (first | (with_reducible exact CP10) | (with_reducible refine cellAlloc _ ?_) | (with_reducible refine cellDrew ?_) | (with_reducible refine cellDrewN ?_)))
  have gCP11 : X.cell? ⟨w.heap.size + 1, 1, none⟩ = some (.slice ad1 x1.length cap1) := (by rw [hX]; repeat (first | (with_reducible exact CP11) | (with_reducible refine cellAlloc _ ?_) | (with_reducible refine cellDrew ?_) | (with_reducible refine cellDrewN ?_)))
  have gCx00 : X.cell? ⟨w6.heap.size, 0, none⟩ = some (.int .i64 n0) := (by rw [hX]; repeat (first | (with_reducible exact Cx00) | (with_reducible refine cellAlloc _ ?_) | (with_reducible refine cellDrew ?_) | (with_reducible refine cellDrewN ?_)))
  have gCx01 : X.cell? ⟨w6.heap.size, 1, none⟩ = some (.slice ax6 x0.length kx6) := (by rw [hX]; repeat (first | (with_reducible exact Cx01) | (with_reducible refine cellAlloc _ ?_) | (with_reducible refine cellDrew ?_) | (with_reducible refine cellDrewN ?_)))
  have gCx10 : X.cell? ⟨w7.heap.size, 0, none⟩ = some (.int .i64 n1) := (by rw [hX]; repeat (first | (with_reducible exact Cx10) | (with_reducible refine cellAlloc _ ?_) | (with_reducible refine cellDrew ?_) | (with_reducible refine cellDrewN ?_)))
  have gCx11 : X.cell? ⟨w7.heap.size, 1, none⟩ = some (.slice ax7 x1.length kx7) := (by rw [hX]; repeat (first | (with_reducible exact Cx11) | (with_reducible refine cellAlloc _ ?_) | (with_reducible refine cellDrew ?_) | (with_reducible refine cellDrewN ?_)))
  have gSw0 : Seg X (w4.heap.size + 0) (w5.heap.size) (.slice ax5 (lstOverlapsOf n0 x0 n1 x1).length kx5) ((lstOverlapsOf n0 x0 n1 x1)) := (by rw [hX]; repeat (first | (with_reducible exact Sw0.out) | (with_reducible refine Seg.alloc ?_ _) | (with_reducible refine Seg.drew ?_) | (with_reducible refine Seg.drewN ?_ _)))
  have gSx0 : Seg X (w5.heap.size + 0) (w6.heap.size) (.slice ax6 x0.length kx6) (x0) := (by rw [hX]; repeat (first | (with_reducible exact Sx0.out) | (with_reducible refine Seg.alloc ?_ _) | (with_reducible refine Seg.drew ?_) | (with_reducible refine Seg.drewN ?_ _)))
  have gSx1 : Seg X (w6.heap.size + 1) (w7.heap.size) (.slice ax7 x1.length kx7) (x1) := (by rw [hX]; repeat (first | (with_reducible exact Sx1.out) | (with_reducible refine Seg.alloc ?_ _) | (with_reducible refine Seg.drew ?_) | (with_reducible refine Seg.drewN ?_ _)))
  have gSg0 : Seg X (w7.heap.size + 1) (w8.heap.size) (.slice ax8 (lstOverlapsOf n0 x0 n1 x1).length kx8) ((lstOverlapsOf n0 x0 n1 x1)) := (by rw [hX]; repeat (first | (with_reducible exact Sg0.out) | (with_reducible refine Seg.alloc ?_ _) | (with_reducible refine Seg.drew ?_) | (with_reducible refine Seg.drewN ?_ _)))
  clear hX HB CP00 CP01 CP10 CP11 Cx00 Cx01 Cx10 Cx11 Sw0 Sx0 Sx1 Sg0 yCP00 yCP10 yCx00 yCx10
  refine (lawEqIntS' _ _ (lstOverlapsOf n0 x0 n1 x1) (lstOverlapsOf n0 x0 n1 x1) _ gSg0.ints gSw0.ints).mono ?_
  rintro e w9 ⟨rfl, b9⟩
  have HB := Lib.hid (bel_step gB b9 gB.size)
  have z9 : w8.heap.size + 0 ≤ w9.heap.size := Nat.le_trans gz b9.size
  have CP00 := cellAfter b9 gCP00
  have CP01 := cellAfter b9 gCP01
  have CP10 := cellAfter b9 gCP10
  have CP11 := cellAfter b9 gCP11
  have Cx00 := cellAfter b9 gCx00
  have Cx01 := cellAfter b9 gCx01
  have Cx10 := cellAfter b9 gCx10
  have Cx11 := cellAfter b9 gCx11
  have Sw0 := Lib.hid (gSw0.after b9)
  have Sx0 := Lib.hid (gSx0.after b9)
  have Sx1 := Lib.hid (gSx1.after b9)
  have Sg0 := Lib.hid (gSg0.after b9)
  clear gB gz gCP00 gCP01 gCP10 gCP11 gCx00 gCx01 gCx10 gCx11 gSw0 gSx0 gSx1 gSg0 b9 X
  have yCP00 : w.heap.size < w9.heap.size := World.block_lt_of_cell? _ _ CP00
  have yCP10 : w.heap.size + 1 < w9.heap.size := World.block_lt_of_cell? _ _ CP10
  have yCx00 : w6.heap.size < w9.heap.size := World.block_lt_of_cell? _ _ Cx00
  have yCx10 : w7.heap.size < w9.heap.size := World.block_lt_of_cell? _ _ Cx10
  rw [eqL_self]
  go_wp2_with fail
  refine withWorldC fun Y hY => ?_
  have gB : Below w.heap.size w Y := (by rw [hY]; repeat (first | (with_reducible exact HB.out) | (with_reducible refine bel_alloc ?_ _) | (with_reducible refine Below.drew ?_) | (with_reducible refine bel_drewN ?_ _)))
  have gz : w9.heap.size + 0 ≤ Y.heap.size := (by rw [hY]; simp)
  have gCP00 : Y.cell? ⟨w.heap.size, 0, none⟩ = some (.int .i64 n0) := (by rw [hY]; repeat (first | (with_reducible exact CP00) | (with_reducible refine cellAlloc _ ?_) | (with_reducible refine cellDrew ?_) | (with_reducible refine cellDrewN ?_)))
  have gCP01 : Y.cell? ⟨w.heap.size, 1, none⟩ = some (.slice ad0 x0.length cap0) := (by rw [hY]; repeat (first | (with_reducible exact CP01) | (with_reducible refine cellAlloc _ ?_) | (with_reducible refine cellDrew ?_) | (with_reducible refine cellDrewN ?_)))
  have gCP10 : Y.cell? ⟨w.heap.size + 1, 0, none⟩ = some (.int .i64 n1) := (by rw [hY]; repeat (first | (with_reducible exact CP10) | (with_reducible refine cellAlloc _ ?_) | (with_reducible refine cellDrew ?_) | (with_reducible refine cellDrewN ?_)))
  have gCP11 : Y.cell? ⟨w.heap.size + 1, 1, none⟩ = some (.slice ad1 x1.length cap1) := (by rw [hY]; repeat (first | (with_reducible exact CP11) | (with_reducible refine cellAlloc _ ?_) | (with_reducible refine cellDrew ?_) | (with_reducible refine cellDrewN ?_)))
  have gCx00 : Y.cell? ⟨w6.heap.size, 0, none⟩ = some (.int .i64 n0) := (by rw [hY]; repeat (first | (with_reducible exact Cx00) | (with_reducible refine cellAlloc _ ?_) | (with_reducible refine cellDrew ?_) | (with_reducible refine cellDrewN ?_)))
  have gCx01 : Y.cell? ⟨w6.heap.size, 1, none⟩ = some (.slice ax6 x0.length kx6) := (by rw [hY]; repeat (first | (with_reducible exact Cx01) | (with_reducible refine cellAlloc _ ?_) | (with_reducible refine cellDrew ?_) | (with_reducible refine cellDrewN ?_)))
  have gCx10 : Y.cell? ⟨w7.heap.size, 0, none⟩ = some (.int .i64 n1) := (by rw [hY]; repeat (first | (with_reducible exact Cx10) | (with_reducible refine cellAlloc _ ?_) | (with_reducible refine cellDrew ?_) | (with_reducible refine cellDrewN ?_)))
  have gCx11 : Y.cell? ⟨w7.heap.size, 1, none⟩ = some (.slice ax7 x1.length kx7) := (by rw [hY]; repeat (first | (with_reducible exact Cx11) | (with_reducible refine cellAlloc _ ?_) | (with_reducible refine cellDrew ?_) | (with_reducible refine cellDrewN ?_)))
  have gSw0 : Seg Y (w4.heap.size + 0) (w5.heap.size) (.slice ax5 (lstOverlapsOf n0 x0 n1 x1).length kx5) ((lstOverlapsOf n0 x0 n1 x1)) := (by rw [hY]; repeat (first | (with_reducible exact Sw0.out) | (with_reducible refine Seg.alloc ?_ _) | (with_reducible refine Seg.drew ?_) | (with_reducible refine Seg.drewN ?_ _)))
  have gSx0 : Seg Y (w5.heap.size + 0) (w6.heap.size) (.slice ax6 x0.length kx6) (x0) := (by rw [hY]; repeat (first | (with_reducible exact Sx0.out) | (with_reducible refine Seg.alloc ?_ _) | (with_reducible refine Seg.drew ?_) | (with_reducible refine Seg.drewN ?_ _)))
  have gSx1 : Seg Y (w6.heap.size + 1) (w7.heap.size) (.slice ax7 x1.length kx7) (x1) := (by rw [hY]; repeat (first | (with_reducible exact Sx1.out) | (with_reducible refine Seg.alloc ?_ _) | (with_reducible refine Seg.drew ?_) | (with_reducible refine Seg.drewN ?_ _)))
  have gSg0 : Seg Y (w7.heap.size + 1) (w8.heap.size) (.slice ax8 (lstOverlapsOf n0 x0 n1 x1).length kx8) ((lstOverlapsOf n0 x0 n1 x1)) := (by rw [hY]; repeat (first | (with_reducible exact Sg0.out) | (with_reducible refine Seg.alloc ?_ _) | (with_reducible refine Seg.drew ?_) | (with_reducible refine Seg.drewN ?_ _)))
  clear hY HB CP00 CP01 CP10 CP11 Cx00 Cx01 Cx10 Cx11 Sw0 Sx0 Sx1 Sg0 yCP00 yCP10 yCx00 yCx10
  have CP00 := gCP00
  have CP01 := gCP01
  have CP10 := gCP10
  have CP11 := gCP11
  have Cx00 := gCx00
  have Cx01 := gCx01
  have Cx10 := gCx10
  have Cx11 := gCx11
  have Sw0 := Lib.hid gSw0
  have Sx0 := Lib.hid gSx0
  have Sx1 := Lib.hid gSx1
  have Sg0 := Lib.hid gSg0
  have HB := Lib.hid gB
  have zY9 := gz
  clear gB gz gCP00 gCP01 gCP10 gCP11 gCx00 gCx01 gCx10 gCx11 gSw0 gSx0 gSx1 gSg0
  have yCP00 : w.heap.size < Y.heap.size := World.block_lt_of_cell? _ _ CP00
  have yCP10 : w.heap.size + 1 < Y.heap.size := World.block_lt_of_cell? _ _ CP10
  have yCx00 : w6.heap.size < Y.heap.size := World.block_lt_of_cell? _ _ Cx00
  have yCx10 : w7.heap.size < Y.heap.size := World.block_lt_of_cell? _ _ Cx10
  go_region_held3 (fun w' => w'.cell? ⟨w.heap.size, 0, none⟩ = some (.int .i64 n0) ∧ w'.cell? ⟨w.heap.size, 1, none⟩ = some (.slice ad0 x0.length cap0) ∧ w'.cell? ⟨w.heap.size + 1, 0, none⟩ = some (.int .i64 n1) ∧ w'.cell? ⟨w.heap.size + 1, 1, none⟩ = some (.slice ad1 x1.length cap1) ∧ w'.cell? ⟨w6.heap.size, 0, none⟩ = some (.int .i64 n0) ∧ w'.cell? ⟨w6.heap.size, 1, none⟩ = some (.slice ax6 x0.length kx6) ∧ w'.cell? ⟨w7.heap.size, 0, none⟩ = some (.int .i64 n1) ∧ w'.cell? ⟨w7.heap.size, 1, none⟩ = some (.slice ax7 x1.length kx7)) (first | exact ⟨CP00, CP01, CP10, CP11, Cx00, Cx01, Cx10, Cx11⟩ | exact ⟨cellAlloc _ CP00, cellAlloc _ CP01, cellAlloc _ CP10, cellAlloc _ CP11, cellAlloc _ Cx00, cellAlloc _ Cx01, cellAlloc _ Cx10, cellAlloc _ Cx11⟩) (first | (go_at_call_of 29 (Value.slice ad0 x0.length cap0); refine withWorld fun X hX => ?_; have gB : Below w.heap.size w X := (by rw [hX]; repeat (first | (with_reducible exact HB.out) | (with_reducible refine bel_alloc ?_ _) | (with_reducible refine Below.drew ?_) | (with_reducible refine bel_drewN ?_ _))); have gz : Y.heap.size + 0 ≤ X.heap.size := (by rw [hX]; simp); have gCP00 : X.cell? ⟨w.heap.size, 0, none⟩ = some (.int .i64 n0) := (by rw [hX]; repeat (first | (with_reducible exact CP00) | (with_reducible refine cellAlloc _ ?_) | (with_reducible refine cellDrew ?_) | (with_reducible refine cellDrewN ?_))); have gCP01 : X.cell? ⟨w.heap.size, 1, none⟩ = some (.slice ad0 x0.length cap0) := (by rw [hX]; repeat (first | (with_reducible exact CP01) | (with_reducible refine cellAlloc _ ?_) | (with_reducible refine cellDrew ?_) | (with_reducible refine cellDrewN ?_))); have gCP10 : X.cell? ⟨w.heap.size + 1, 0, none⟩ = some (.int .i64 n1) := (by rw [hX]; repeat (first | (with_reducible exact CP10) | (with_reducible refine cellAlloc _ ?_) | (with_reducible refine cellDrew ?_) | (with_reducible refine cellDrewN ?_))); have gCP11 : X.cell? ⟨w.heap.size + 1, 1, none⟩ = some (.slice ad1 x1.length cap1) := (by rw [hX]; repeat (first | (with_reducible exact CP11) | (with_reducible refine cellAlloc _ ?_) | (with_reducible refine cellDrew ?_) | (with_reducible refine cellDrewN ?_))); have gCx00 : X.cell? ⟨w6.heap.size, 0, none⟩ = some (.int .i64 n0) := (by rw [hX]; repeat (first | (with_reducible exact Cx00) | (with_reducible refine cellAlloc _ ?_) | (with_reducible refine cellDrew ?_) | (with_reducible refine cellDrewN ?_))); have gCx01 : X.cell? ⟨w6.heap.size, 1, none⟩ = some (.slice ax6 x0.length kx6) := (by rw [hX]; repeat (first | (with_reducible exact Cx01) | (with_reducible refine cellAlloc _ ?_) | (with_reducible refine cellDrew ?_) | (with_reducible refine cellDrewN ?_))); have gCx10 : X.cell? ⟨w7.heap.size, 0, none⟩ = some (.int .i64 n1) := (by rw [hX]; repeat (first | (with_reducible exact Cx10) | (with_reducible refine cellAlloc _ ?_) | (with_reducible refine cellDrew ?_) | (with_reducible refine cellDrewN ?_))); have gCx11 : X.cell? ⟨w7.heap.size, 1, none⟩ = some (.slice ax7 x1.length kx7) := (by rw [hX]; repeat (first | (with_reducible exact Cx11) | (with_reducible refine cellAlloc _ ?_) | (with_reducible refine cellDrew ?_) | (with_reducible refine cellDrewN ?_))); have gSw0 : Seg X (w4.heap.size + 0) (w5.heap.size) (.slice ax5 (lstOverlapsOf n0 x0 n1 x1).length kx5) ((lstOverlapsOf n0 x0 n1 x1)) := (by rw [hX]; repeat (first | (with_reducible exact Sw0.out) | (with_reducible refine Seg.alloc ?_ _) | (with_reducible refine Seg.drew ?_) | (with_reducible refine Seg.drewN ?_ _))); have gSx0 : Seg X (w5.heap.size + 0) (w6.heap.size) (.slice ax6 x0.length kx6) (x0) := (by rw [hX]; repeat (first | (with_reducible exact Sx0.out) | (with_reducible refine Seg.alloc ?_ _) | (with_reducible refine Seg.drew ?_) | (with_reducible refine Seg.drewN ?_ _))); have gSx1 : Seg X (w6.heap.size + 1) (w7.heap.size) (.slice ax7 x1.length kx7) (x1) := (by rw [hX]; repeat (first | (with_reducible exact Sx1.out) | (with_reducible refine Seg.alloc ?_ _) | (with_reducible refine Seg.drew ?_) | (with_reducible refine Seg.drewN ?_ _))); have gSg0 : Seg X (w7.heap.size + 1) (w8.heap.size) (.slice ax8 (lstOverlapsOf n0 x0 n1 x1).length kx8) ((lstOverlapsOf n0 x0 n1 x1)) := (by rw [hX]; repeat (first | (with_reducible exact Sg0.out) | (with_reducible refine Seg.alloc ?_ _) | (with_reducible refine Seg.drew ?_) | (with_reducible refine Seg.drewN ?_ _))); clear hX HB CP00 CP01 CP10 CP11 Cx00 Cx01 Cx10 Cx11 Sw0 Sx0 Sx1 Sg0 yCP00 yCP10 yCx00 yCx10; refine (lawToRhythm _ _ x0 _ (by omega) (Ints.ofBelow h0 gB)).mono ?_; rintro e w10 ⟨ax10, kx10, rfl, o10, b10⟩; have HB := Lib.hid (bel_step gB b10 gB.size); have z10 : Y.heap.size + 0 ≤ w10.heap.size := Nat.le_trans gz b10.size; have CP00 := cellAfter b10 gCP00; have CP01 := cellAfter b10 gCP01; have CP10 := cellAfter b10 gCP10; have CP11 := cellAfter b10 gCP11; have Cx00 := cellAfter b10 gCx00; have Cx01 := cellAfter b10 gCx01; have Cx10 := cellAfter b10 gCx10; have Cx11 := cellAfter b10 gCx11; have Sw0 := Lib.hid (gSw0.after b10); have Sx0 := Lib.hid (gSx0.after b10); have Sx1 := Lib.hid (gSx1.after b10); have Sg0 := Lib.hid (gSg0.after b10); have T2 := Lib.hid (Seg.mk' (o10.mono gz)); clear gB gz gCP00 gCP01 gCP10 gCP11 gCx00 gCx01 gCx10 gCx11 gSw0 gSx0 gSx1 gSg0 b10 o10 X; have yCP00 : w.heap.size < w10.heap.size := World.block_lt_of_cell? _ _ CP00; have yCP10 : w.heap.size + 1 < w10.heap.size := World.block_lt_of_cell? _ _ CP10; have yCx00 : w6.heap.size < w10.heap.size := World.block_lt_of_cell? _ _ Cx00; have yCx10 : w7.heap.size < w10.heap.size := World.block_lt_of_cell? _ _ Cx10) | (go_at_call 32; refine withWorld fun X hX => ?_; have gB : Below w.heap.size w X := (by rw [hX]; repeat (first | (with_reducible exact HB.out) | (with_reducible refine bel_alloc ?_ _) | (with_reducible refine Below.drew ?_) | (with_reducible refine bel_drewN ?_ _))); have gz : w10.heap.size + 0 ≤ X.heap.size := (by rw [hX]; simp); have gCP00 : X.cell? ⟨w.heap.size, 0, none⟩ = some (.int .i64 n0) := (by rw [hX]; repeat (first | (with_reducible exact CP00) | (with_reducible refine cellAlloc _ ?_) | (with_reducible refine cellDrew ?_) | (with_reducible refine cellDrewN ?_))); have gCP01 : X.cell? ⟨w.heap.size, 1, none⟩ = some (.slice ad0 x0.length cap0) := (by rw [hX]; repeat (first | (with_reducible exact CP01) | (with_reducible refine cellAlloc _ ?_) | (with_reducible refine cellDrew ?_) | (with_reducible refine cellDrewN ?_))); have gCP10 : X.cell? ⟨w.heap.size + 1, 0, none⟩ = some (.int .i64 n1) := (by rw [hX]; repeat (first | (with_reducible exact CP10) | (with_reducible refine cellAlloc _ ?_) | (with_reducible refine cellDrew ?_) | (with_reducible refine cellDrewN ?_))); have gCP11 : X.cell? ⟨w.heap.size + 1, 1, none⟩ = some (.slice ad1 x1.length cap1) := (by rw [hX]; repeat (first | (with_reducible exact CP11) | (with_reducible refine cellAlloc _ ?_) | (with_reducible refine cellDrew ?_) | (with_reducible refine cellDrewN ?_))); have gCx00 : X.cell? ⟨w6.heap.size, 0, none⟩ = some (.int .i64 n0) := (by rw [hX]; repeat (first | (with_reducible exact Cx00) | (with_reducible refine cellAlloc _ ?_) | (with_reducible refine cellDrew ?_) | (with_reducible refine cellDrewN ?_))); have gCx01 : X.cell? ⟨w6.heap.size, 1, none⟩ = some (.slice ax6 x0.length kx6) := (by rw [hX]; repeat (first | (with_reducible exact Cx01) | (with_reducible refine cellAlloc _ ?_) | (with_reducible refine cellDrew ?_) | (with_reducible refine cellDrewN ?_))); have gCx10 : X.cell? ⟨w7.heap.size, 0, none⟩ = some (.int .i64 n1) := (by rw [hX]; repeat (first | (with_reducible exact Cx10) | (with_reducible refine cellAlloc _ ?_) | (with_reducible refine cellDrew ?_) | (with_reducible refine cellDrewN ?_))); have gCx11 : X.cell? ⟨w7.heap.size, 1, none⟩ = some (.slice ax7 x1.length kx7) := (by rw [hX]; repeat (first | (with_reducible exact Cx11) | (with_reducible refine cellAlloc _ ?_) | (with_reducible refine cellDrew ?_) | (with_reducible refine cellDrewN ?_))); have gSw0 : Seg X (w4.heap.size + 0) (w5.heap.size) (.slice ax5 (lstOverlapsOf n0 x0 n1 x1).length kx5) ((lstOverlapsOf n0 x0 n1 x1)) := (by rw [hX]; repeat (first | (with_reducible exact Sw0.out) | (with_reducible refine Seg.alloc ?_ _) | (with_reducible refine Seg.drew ?_) | (with_reducible refine Seg.drewN ?_ _))); have gSx0 : Seg X (w5.heap.size + 0) (w6.heap.size) (.slice ax6 x0.length kx6) (x0) := (by rw [hX]; repeat (first | (with_reducible exact Sx0.out) | (with_reducible refine Seg.alloc ?_ _) | (with_reducible refine Seg.drew ?_) | (with_reducible refine Seg.drewN ?_ _))); have gSx1 : Seg X (w6.heap.size + 1) (w7.heap.size) (.slice ax7 x1.length kx7) (x1) := (by rw [hX]; repeat (first | (with_reducible exact Sx1.out) | (with_reducible refine Seg.alloc ?_ _) | (with_reducible refine Seg.drew ?_) | (with_reducible refine Seg.drewN ?_ _))); have gSg0 : Seg X (w7.heap.size + 1) (w8.heap.size) (.slice ax8 (lstOverlapsOf n0 x0 n1 x1).length kx8) ((lstOverlapsOf n0 x0 n1 x1)) := (by rw [hX]; repeat (first | (with_reducible exact Sg0.out) | (with_reducible refine Seg.alloc ?_ _) | (with_reducible refine Seg.drew ?_) | (with_reducible refine Seg.drewN ?_ _))); have gT2 : Seg X (Y.heap.size + 0) (w10.heap.size) (.slice ax10 x0.length kx10) (x0) := (by rw [hX]; repeat (first | (with_reducible exact T2.out) | (with_reducible refine Seg.alloc ?_ _) | (with_reducible refine Seg.drew ?_) | (with_reducible refine Seg.drewN ?_ _))); clear hX HB CP00 CP01 CP10 CP11 Cx00 Cx01 Cx10 Cx11 Sw0 Sx0 Sx1 Sg0 T2 yCP00 yCP10 yCx00 yCx10; refine (lawEqRhythm _ _ _ _ x0 x0 _ gSx0.ints gT2.ints).mono ?_; rintro e w11 ⟨rfl, b11⟩; have HB := Lib.hid (bel_step gB b11 gB.size); have z11 : w10.heap.size + 0 ≤ w11.heap.size := Nat.le_trans gz b11.size; have CP00 := cellAfter b11 gCP00; have CP01 := cellAfter b11 gCP01; have CP10 := cellAfter b11 gCP10; have CP11 := cellAfter b11 gCP11; have Cx00 := cellAfter b11 gCx00; have Cx01 := cellAfter b11 gCx01; have Cx10 := cellAfter b11 gCx10; have Cx11 := cellAfter b11 gCx11; have Sw0 := Lib.hid (gSw0.after b11); have Sx0 := Lib.hid (gSx0.after b11); have Sx1 := Lib.hid (gSx1.after b11); have Sg0 := Lib.hid (gSg0.after b11); have T2 := Lib.hid (gT2.after b11); clear gB gz gCP00 gCP01 gCP10 gCP11 gCx00 gCx01 gCx10 gCx11 gSw0 gSx0 gSx1 gSg0 gT2 b11 X; have yCP00 : w.heap.size < w11.heap.size := World.block_lt_of_cell? _ _ CP00; have yCP10 : w.heap.size + 1 < w11.heap.size := World.block_lt_of_cell? _ _ CP10; have yCx00 : w6.heap.size < w11.heap.size := World.block_lt_of_cell? _ _ Cx00; have yCx10 : w7.heap.size < w11.heap.size := World.block_lt_of_cell? _ _ Cx10; rw [eqR_self]))
  clear T2
  go_wp2_with fail
  refine withWorldC fun Y hY => ?_
  have gB : Below w.heap.size w Y := (by rw [hY]; repeat (first | (with_reducible exact HB.out) | (with_reducible refine bel_alloc ?_ _) | (with_reducible refine Below.drew ?_) | (with_reducible refine bel_drewN ?_ _)))
  have gz : w11.heap.size + 0 ≤ Y.heap.size := (by rw [hY]; simp)
  have gCP00 : Y.cell? ⟨w.heap.size, 0, none⟩ = some (.int .i64 n0) := (by rw [hY]; repeat (first | (with_reducible exact CP00) | (with_reducible refine cellAlloc _ ?_) | (with_reducible refine cellDrew ?_) | (with_reducible refine cellDrewN ?_)))
  have gCP01 : Y.cell? ⟨w.heap.size, 1, none⟩ = some (.slice ad0 x0.length cap0) := (by rw [hY]; repeat (first | (with_reducible exact CP01) | (with_reducible refine cellAlloc _ ?_) | (with_reducible refine cellDrew ?_) | (with_reducible refine cellDrewN ?_)))
  have gCP10 : Y.cell? ⟨w.heap.size + 1, 0, none⟩ = some (.int .i64 n1) := (by rw [hY]; repeat (first | (with_reducible exact CP10) | (with_reducible refine cellAlloc _ ?_) | (with_reducible refine cellDrew ?_) | (with_reducible refine cellDrewN ?_)))
  have gCP11 : Y.cell? ⟨w.heap.size + 1, 1, none⟩ = some (.slice ad1 x1.length cap1) := (by rw [hY]; repeat (first | (with_reducible exact CP11) | (with_reducible refine cellAlloc _ ?_) | (with_reducible refine cellDrew ?_) | (with_reducible refine cellDrewN ?_)))
  have gCx00 : Y.cell? ⟨w6.heap.size, 0, none⟩ = some (.int .i64 n0) := (by rw [hY]; repeat (first | (with_reducible exact Cx00) | (with_reducible refine cellAlloc _ ?_) | (with_reducible refine cellDrew ?_) | (with_reducible refine cellDrewN ?_)))
  have gCx01 : Y.cell? ⟨w6.heap.size, 1, none⟩ = some (.slice ax6 x0.length kx6) := (by rw [hY]; repeat (first | (with_reducible exact Cx01) | (with_reducible refine cellAlloc _ ?_) | (with_reducible refine cellDrew ?_) | (with_reducible refine cellDrewN ?_)))
  have gCx10 : Y.cell? ⟨w7.heap.size, 0, none⟩ = some (.int .i64 n1) := (by rw [hY]; repeat (first | (with_reducible exact Cx10) | (with_reducible refine cellAlloc _ ?_) | (with_reducible refine cellDrew ?_) | (with_reducible refine cellDrewN ?_)))
  have gCx11 : Y.cell? ⟨w7.heap.size, 1, none⟩ = some (.slice ax7 x1.length kx7) := (by rw [hY]; repeat (first | (with_reducible exact Cx11) | (with_reducible refine cellAlloc _ ?_) | (with_reducible refine cellDrew ?_) | (with_reducible refine cellDrewN ?_)))
  have gSw0 : Seg Y (w4.heap.size + 0) (w5.heap.size) (.slice ax5 (lstOverlapsOf n0 x0 n1 x1).length kx5) ((lstOverlapsOf n0 x0 n1 x1)) := (by rw [hY]; repeat (first | (with_reducible exact Sw0.out) | (with_reducible refine Seg.alloc ?_ _) | (with_reducible refine Seg.drew ?_) | (with_reducible refine Seg.drewN ?_ _)))
  have gSx0 : Seg Y (w5.heap.size + 0) (w6.heap.size) (.slice ax6 x0.length kx6) (x0) := (by rw [hY]; repeat (first | (with_reducible exact Sx0.out) | (with_reducible refine Seg.alloc ?_ _) | (with_reducible refine Seg.drew ?_) | (with_reducible refine Seg.drewN ?_ _)))
  have gSx1 : Seg Y (w6.heap.size + 1) (w7.heap.size) (.slice ax7 x1.length kx7) (x1) := (by rw [hY]; repeat (first | (with_reducible exact Sx1.out) | (with_reducible refine Seg.alloc ?_ _) | (with_reducible refine Seg.drew ?_) | (with_reducible refine Seg.drewN ?_ _)))
  have gSg0 : Seg Y (w7.heap.size + 1) (w8.heap.size) (.slice ax8 (lstOverlapsOf n0 x0 n1 x1).length kx8) ((lstOverlapsOf n0 x0 n1 x1)) := (by rw [hY]; repeat (first | (with_reducible exact Sg0.out) | (with_reducible refine Seg.alloc ?_ _) | (with_reducible refine Seg.drew ?_) | (with_reducible refine Seg.drewN ?_ _)))
  clear hY HB CP00 CP01 CP10 CP11 Cx00 Cx01 Cx10 Cx11 Sw0 Sx0 Sx1 Sg0 yCP00 yCP10 yCx00 yCx10
  have CP00 := gCP00
  have CP01 := gCP01
  have CP10 := gCP10
  have CP11 := gCP11
  have Cx00 := gCx00
  have Cx01 := gCx01
  have Cx10 := gCx10
  have Cx11 := gCx11
  have Sw0 := Lib.hid gSw0
  have Sx0 := Lib.hid gSx0
  have Sx1 := Lib.hid gSx1
  have Sg0 := Lib.hid gSg0
  have HB := Lib.hid gB
  have zY11 := gz
  clear gB gz gCP00 gCP01 gCP10 gCP11 gCx00 gCx01 gCx10 gCx11 gSw0 gSx0 gSx1 gSg0
  have yCP00 : w.heap.size < Y.heap.size := World.block_lt_of_cell? _ _ CP00
  have yCP10 : w.heap.size + 1 < Y.heap.size := World.block_lt_of_cell? _ _ CP10
  have yCx00 : w6.heap.size < Y.heap.size := World.block_lt_of_cell? _ _ Cx00
  have yCx10 : w7.heap.size < Y.heap.size := World.block_lt_of_cell? _ _ Cx10
  go_region_held3 (fun w' => w'.cell? ⟨w.heap.size, 0, none⟩ = some (.int .i64 n0) ∧ w'.cell? ⟨w.heap.size, 1, none⟩ = some (.slice ad0 x0.length cap0) ∧ w'.cell? ⟨w.heap.size + 1, 0, none⟩ = some (.int .i64 n1) ∧ w'.cell? ⟨w.heap.size + 1, 1, none⟩ = some (.slice ad1 x1.length cap1) ∧ w'.cell? ⟨w6.heap.size, 0, none⟩ = some (.int .i64 n0) ∧ w'.cell? ⟨w6.heap.size, 1, none⟩ = some (.slice ax6 x0.length kx6) ∧ w'.cell? ⟨w7.heap.size, 0, none⟩ = some (.int .i64 n1) ∧ w'.cell? ⟨w7.heap.size, 1, none⟩ = some (.slice ax7 x1.length kx7)) (first | exact ⟨CP00, CP01, CP10, CP11, Cx00, Cx01, Cx10, Cx11⟩ | exact ⟨cellAlloc _ CP00, cellAlloc _ CP01, cellAlloc _ CP10, cellAlloc _ CP11, cellAlloc _ Cx00, cellAlloc _ Cx01, cellAlloc _ Cx10, cellAlloc _ Cx11⟩) (first | (go_at_call_of 29 (Value.slice ad1 x1.length cap1); refine withWorld fun X hX => ?_; have gB : Below w.heap.size w X := (by rw [hX]; repeat (first | (with_reducible exact HB.out) | (with_reducible refine bel_alloc ?_ _) | (with_reducible refine Below.drew ?_) | (with_reducible refine bel_drewN ?_ _))); have gz : Y.heap.size + 0 ≤ X.heap.size := (by rw [hX]; simp); have gCP00 : X.cell? ⟨w.heap.size, 0, none⟩ = some (.int .i64 n0) := (by rw [hX]; repeat (first | (with_reducible exact CP00) | (with_reducible refine cellAlloc _ ?_) | (with_reducible refine cellDrew ?_) | (with_reducible refine cellDrewN ?_))); have gCP01 : X.cell? ⟨w.heap.size, 1, none⟩ = some (.slice ad0 x0.length cap0) := (by rw [hX]; repeat (first | (with_reducible exact CP01) | (with_reducible refine cellAlloc _ ?_) | (with_reducible refine cellDrew ?_) | (with_reducible refine cellDrewN ?_))); have gCP10 : X.cell? ⟨w.heap.size + 1, 0, none⟩ = some (.int .i64 n1) := (by rw [hX]; repeat (first | (with_reducible exact CP10) | (with_reducible refine cellAlloc _ ?_) | (with_reducible refine cellDrew ?_) | (with_reducible refine cellDrewN ?_))); have gCP11 : X.cell? ⟨w.heap.size + 1, 1, none⟩ = some (.slice ad1 x1.length cap1) := (by rw [hX]; repeat (first | (with_reducible exact CP11) | (with_reducible refine cellAlloc _ ?_) | (with_reducible refine cellDrew ?_) | (with_reducible refine cellDrewN ?_))); have gCx00 : X.cell? ⟨w6.heap.size, 0, none⟩ = some (.int .i64 n0) := (by rw [hX]; repeat (first | (with_reducible exact Cx00) | (with_reducible refine cellAlloc _ ?_) | (with_reducible refine cellDrew ?_) | (with_reducible refine cellDrewN ?_))); have gCx01 : X.cell? ⟨w6.heap.size, 1, none⟩ = some (.slice ax6 x0.length kx6) := (by rw [hX]; repeat (first | (with_reducible exact Cx01) | (with_reducible refine cellAlloc _ ?_) | (with_reducible refine cellDrew ?_) | (with_reducible refine cellDrewN ?_))); have gCx10 : X.cell? ⟨w7.heap.size, 0, none⟩ = some (.int .i64 n1) := (by rw [hX]; repeat (first | (with_reducible exact Cx10) | (with_reducible refine cellAlloc _ ?_) | (with_reducible refine cellDrew ?_) | (with_reducible refine cellDrewN ?_))); have gCx11 : X.cell? ⟨w7.heap.size, 1, none⟩ = some (.slice ax7 x1.length kx7) := (by rw [hX]; repeat (first | (with_reducible exact Cx11) | (with_reducible refine cellAlloc _ ?_) | (with_reducible refine cellDrew ?_) | (with_reducible refine cellDrewN ?_))); have gSw0 : Seg X (w4.heap.size + 0) (w5.heap.size) (.slice ax5 (lstOverlapsOf n0 x0 n1 x1).length kx5) ((lstOverlapsOf n0 x0 n1 x1)) := (by rw [hX]; repeat (first | (with_reducible exact Sw0.out) | (with_reducible refine Seg.alloc ?_ _) | (with_reducible refine Seg.drew ?_) | (with_reducible refine Seg.drewN ?_ _))); have gSx0 : Seg X (w5.heap.size + 0) (w6.heap.size) (.slice ax6 x0.length kx6) (x0) := (by rw [hX]; repeat (first | (with_reducible exact Sx0.out) | (with_reducible refine Seg.alloc ?_ _) | (with_reducible refine Seg.drew ?_) | (with_reducible refine Seg.drewN ?_ _))); have gSx1 : Seg X (w6.heap.size + 1) (w7.heap.size) (.slice ax7 x1.length kx7) (x1) := (by rw [hX]; repeat (first | (with_reducible exact Sx1.out) | (with_reducible refine Seg.alloc ?_ _) | (with_reducible refine Seg.drew ?_) | (with_reducible refine Seg.drewN ?_ _))); have gSg0 : Seg X (w7.heap.size + 1) (w8.heap.size) (.slice ax8 (lstOverlapsOf n0 x0 n1 x1).length kx8) ((lstOverlapsOf n0 x0 n1 x1)) := (by rw [hX]; repeat (first | (with_reducible exact Sg0.out) | (with_reducible refine Seg.alloc ?_ _) | (with_reducible refine Seg.drew ?_) | (with_reducible refine Seg.drewN ?_ _))); clear hX HB CP00 CP01 CP10 CP11 Cx00 Cx01 Cx10 Cx11 Sw0 Sx0 Sx1 Sg0 yCP00 yCP10 yCx00 yCx10; refine (lawToRhythm _ _ x1 _ (by omega) (Ints.ofBelow h1 gB)).mono ?_; rintro e w12 ⟨ax12, kx12, rfl, o12, b12⟩; have HB := Lib.hid (bel_step gB b12 gB.size); have z12 : Y.heap.size + 0 ≤ w12.heap.size := Nat.le_trans gz b12.size; have CP00 := cellAfter b12 gCP00; have CP01 := cellAfter b12 gCP01; have CP10 := cellAfter b12 gCP10; have CP11 := cellAfter b12 gCP11; have Cx00 := cellAfter b12 gCx00; have Cx01 := cellAfter b12 gCx01; have Cx10 := cellAfter b12 gCx10; have Cx11 := cellAfter b12 gCx11; have Sw0 := Lib.hid (gSw0.after b12); have Sx0 := Lib.hid (gSx0.after b12); have Sx1 := Lib.hid (gSx1.after b12); have Sg0 := Lib.hid (gSg0.after b12); have T3 := Lib.hid (Seg.mk' (o12.mono gz)); clear gB gz gCP00 gCP01 gCP10 gCP11 gCx00 gCx01 gCx10 gCx11 gSw0 gSx0 gSx1 gSg0 b12 o12 X; have yCP00 : w.heap.size < w12.heap.size := World.block_lt_of_cell? _ _ CP00; have yCP10 : w.heap.size + 1 < w12.heap.size := World.block_lt_of_cell? _ _ CP10; have yCx00 : w6.heap.size < w12.heap.size := World.block_lt_of_cell? _ _ Cx00; have yCx10 : w7.heap.size < w12.heap.size := World.block_lt_of_cell? _ _ Cx10) | (go_at_call 32; refine withWorld fun X hX => ?_; have gB : Below w.heap.size w X := (by rw [hX]; repeat (first | (with_reducible exact HB.out) | (with_reducible refine bel_alloc ?_ _) | (with_reducible refine Below.drew ?_) | (with_reducible refine bel_drewN ?_ _))); have gz : w12.heap.size + 0 ≤ X.heap.size := (by rw [hX]; simp); have gCP00 : X.cell? ⟨w.heap.size, 0, none⟩ = some (.int .i64 n0) := (by rw [hX]; repeat (first | (with_reducible exact CP00) | (with_reducible refine cellAlloc _ ?_) | (with_reducible refine cellDrew ?_) | (with_reducible refine cellDrewN ?_))); have gCP01 : X.cell? ⟨w.heap.size, 1, none⟩ = some (.slice ad0 x0.length cap0) := (by rw [hX]; repeat (first | (with_reducible exact CP01) | (with_reducible refine cellAlloc _ ?_) | (with_reducible refine cellDrew ?_) | (with_reducible refine cellDrewN ?_))); have gCP10 : X.cell? ⟨w.heap.size + 1, 0, none⟩ = some (.int .i64 n1) := (by rw [hX]; repeat (first | (with_reducible exact CP10) | (with_reducible refine cellAlloc _ ?_) | (with_reducible refine cellDrew ?_) | (with_reducible refine cellDrewN ?_))); have gCP11 : X.cell? ⟨w.heap.size + 1, 1, none⟩ = some (.slice ad1 x1.length cap1) := (by rw [hX]; repeat (first | (with_reducible exact CP11) | (with_reducible refine cellAlloc _ ?_) | (with_reducible refine cellDrew ?_) | (with_reducible refine cellDrewN ?_))); have gCx00 : X.cell? ⟨w6.heap.size, 0, none⟩ = some (.int .i64 n0) := (by rw [hX]; repeat (first | (with_reducible exact Cx00) | (with_reducible refine cellAlloc _ ?_) | (with_reducible refine cellDrew ?_) | (with_reducible refine cellDrewN ?_))); have gCx01 : X.cell? ⟨w6.heap.size, 1, none⟩ = some (.slice ax6 x0.length kx6) := (by rw [hX]; repeat (first | (with_reducible exact Cx01) | (with_reducible refine cellAlloc _ ?_) | (with_reducible refine cellDrew ?_) | (with_reducible refine cellDrewN ?_))); have gCx10 : X.cell? ⟨w7.heap.size, 0, none⟩ = some (.int .i64 n1) := (by rw [hX]; repeat (first | (with_reducible exact Cx10) | (with_reducible refine cellAlloc _ ?_) | (with_reducible refine cellDrew ?_) | (with_reducible refine cellDrewN ?_))); have gCx11 : X.cell? ⟨w7.heap.size, 1, none⟩ = some (.slice ax7 x1.length kx7) := (by rw [hX]; repeat (first | (with_reducible exact Cx11) | (with_reducible refine cellAlloc _ ?_) | (with_reducible refine cellDrew ?_) | (with_reducible refine cellDrewN ?_))); have gSw0 : Seg X (w4.heap.size + 0) (w5.heap.size) (.slice ax5 (lstOverlapsOf n0 x0 n1 x1).length kx5) ((lstOverlapsOf n0 x0 n1 x1)) := (by rw [hX]; repeat (first | (with_reducible exact Sw0.out) | (with_reducible refine Seg.alloc ?_ _) | (with_reducible refine Seg.drew ?_) | (with_reducible refine Seg.drewN ?_ _))); have gSx0 : Seg X (w5.heap.size + 0) (w6.heap.size) (.slice ax6 x0.length kx6) (x0) := (by rw [hX]; repeat (first | (with_reducible exact Sx0.out) | (with_reducible refine Seg.alloc ?_ _) | (with_reducible refine Seg.drew ?_) | (with_reducible refine Seg.drewN ?_ _))); have gSx1 : Seg X (w6.heap.size + 1) (w7.heap.size) (.slice ax7 x1.length kx7) (x1) := (by rw [hX]; repeat (first | (with_reducible exact Sx1.out) | (with_reducible refine Seg.alloc ?_ _) | (with_reducible refine Seg.drew ?_) | (with_reducible refine Seg.drewN ?_ _))); have gSg0 : Seg X (w7.heap.size + 1) (w8.heap.size) (.slice ax8 (lstOverlapsOf n0 x0 n1 x1).length kx8) ((lstOverlapsOf n0 x0 n1 x1)) := (by rw [hX]; repeat (first | (with_reducible exact Sg0.out) | (with_reducible refine Seg.alloc ?_ _) | (with_reducible refine Seg.drew ?_) | (with_reducible refine Seg.drewN ?_ _))); have gT3 : Seg X (Y.heap.size + 0) (w12.heap.size) (.slice ax12 x1.length kx12) (x1) := (by rw [hX]; repeat (first | (with_reducible exact T3.out) | (with_reducible refine Seg.alloc ?_ _) | (with_reducible refine Seg.drew ?_) | (with_reducible refine Seg.drewN ?_ _))); clear hX HB CP00 CP01 CP10 CP11 Cx00 Cx01 Cx10 Cx11 Sw0 Sx0 Sx1 Sg0 T3 yCP00 yCP10 yCx00 yCx10; refine (lawEqRhythm _ _ _ _ x1 x1 _ gSx1.ints gT3.ints).mono ?_; rintro e w13 ⟨rfl, b13⟩; have HB := Lib.hid (bel_step gB b13 gB.size); have z13 : w12.heap.size + 0 ≤ w13.heap.size := Nat.le_trans gz b13.size; have CP00 := cellAfter b13 gCP00; have CP01 := cellAfter b13 gCP01; have CP10 := cellAfter b13 gCP10; have CP11 := cellAfter b13 gCP11; have Cx00 := cellAfter b13 gCx00; have Cx01 := cellAfter b13 gCx01; have Cx10 := cellAfter b13 gCx10; have Cx11 := cellAfter b13 gCx11; have Sw0 := Lib.hid (gSw0.after b13); have Sx0 := Lib.hid (gSx0.after b13); have Sx1 := Lib.hid (gSx1.after b13); have Sg0 := Lib.hid (gSg0.after b13); have T3 := Lib.hid (gT3.after b13); clear gB gz gCP00 gCP01 gCP10 gCP11 gCx00 gCx01 gCx10 gCx11 gSw0 gSx0 gSx1 gSg0 gT3 b13 X; have yCP00 : w.heap.size < w13.heap.size := World.block_lt_of_cell? _ _ CP00; have yCP10 : w.heap.size + 1 < w13.heap.size := World.block_lt_of_cell? _ _ CP10; have yCx00 : w6.heap.size < w13.heap.size := World.block_lt_of_cell? _ _ Cx00; have yCx10 : w7.heap.size < w13.heap.size := World.block_lt_of_cell? _ _ Cx10; rw [eqR_self]))
  clear T3
  go_wp2_with fail
  refine withWorld fun X hX => ?_
  have gB : Below w.heap.size w X := (by rw [hX]; repeat (first | (with_reducible exact HB.out) | (with_reducible refine bel_alloc ?_ _) | (with_reducible refine Below.drew ?_) | (with_reducible refine bel_drewN ?_ _)))
  have gz : w13.heap.size + 0 ≤ X.heap.size := (by rw [hX]; simp)
  have gCP00 : X.cell? ⟨w.heap.size, 0, none⟩ = some (.int .i64 n0) := (by rw [hX]; repeat (first | (with_reducible exact CP00) | (with_reducible refine cellAlloc _ ?_) | (with_reducible refine cellDrew ?_) | (with_reducible refine cellDrewN ?_)))
  have gCP01 : X.cell? ⟨w.heap.size, 1, none⟩ = some (.slice ad0 x0.length cap0) := (by rw [hX]; repeat (first | (with_reducible exact CP01) | (with_reducible refine cellAlloc _ ?_) | (with_reducible refine cellDrew ?_) | (with_reducible refine cellDrewN ?_)))
  have gCP10 : X.cell? ⟨w.heap.size + 1, 0, none⟩ = some (.int .i64 n1) := (by rw [hX]; repeat (first | (with_reducible exact CP10) | (with_reducible refine cellAlloc _ ?_) | (with_reducible refine cellDrew ?_) | (with_reducible refine cellDrewN ?_)))
  have gCP11 : X.cell? ⟨w.heap.size + 1, 1, none⟩ = some (.slice ad1 x1.length cap1) := (by rw [hX]; repeat (first | (with_reducible exact CP11) | (with_reducible refine cellAlloc _ ?_) | (with_reducible refine cellDrew ?_) | (with_reducible refine cellDrewN ?_)))
  have gCx00 : X.cell? ⟨w6.heap.size, 0, none⟩ = some (.int .i64 n0) := (by rw [hX]; repeat (first | (with_reducible exact Cx00) | (with_reducible refine cellAlloc _ ?_) | (with_reducible refine cellDrew ?_) | (with_reducible refine cellDrewN ?_)))
  have gCx01 : X.cell? ⟨w6.heap.size, 1, none⟩ = some (.slice ax6 x0.length kx6) := (by rw [hX]; repeat (first | (with_reducible exact Cx01) | (with_reducible refine cellAlloc _ ?_) | (with_reducible refine cellDrew ?_) | (with_reducible refine cellDrewN ?_)))
  have gCx10 : X.cell? ⟨w7.heap.size, 0, none⟩ = some (.int .i64 n1) := (by rw [hX]; repeat (first | (with_reducible exact Cx10) | (with_reducible refine cellAlloc _ ?_) | (with_reducible refine cellDrew ?_) | (with_reducible refine cellDrewN ?_)))
  have gCx11 : X.cell? ⟨w7.heap.size, 1, none⟩ = some (.slice ax7 x1.length kx7) := (by rw [hX]; repeat (first | (with_reducible exact Cx11) | (with_reducible refine cellAlloc _ ?_) | (with_reducible refine cellDrew ?_) | (with_reducible refine cellDrewN ?_)))
  have gSw0 : Seg X (w4.heap.size + 0) (w5.heap.size) (.slice ax5 (lstOverlapsOf n0 x0 n1 x1).length kx5) ((lstOverlapsOf n0 x0 n1 x1)) := (by rw [hX]; repeat (first | (with_reducible exact Sw0.out) | (with_reducible refine Seg.alloc ?_ _) | (with_reducible refine Seg.drew ?_) | (with_reducible refine Seg.drewN ?_ _)))
  have gSx0 : Seg X (w5.heap.size + 0) (w6.heap.size) (.slice ax6 x0.length kx6) (x0) := (by rw [hX]; repeat (first | (with_reducible exact Sx0.out) | (with_reducible refine Seg.alloc ?_ _) | (with_reducible refine Seg.drew ?_) | (with_reducible refine Seg.drewN ?_ _)))
  have gSx1 : Seg X (w6.heap.size + 1) (w7.heap.size) (.slice ax7 x1.length kx7) (x1) := (by rw [hX]; repeat (first | (with_reducible exact Sx1.out) | (with_reducible refine Seg.alloc ?_ _) | (with_reducible refine Seg.drew ?_) | (with_reducible refine Seg.drewN ?_ _)))
  have gSg0 : Seg X (w7.heap.size + 1) (w8.heap.size) (.slice ax8 (lstOverlapsOf n0 x0 n1 x1).length kx8) ((lstOverlapsOf n0 x0 n1 x1)) := (by rw [hX]; repeat (first | (with_reducible exact Sg0.out) | (with_reducible refine Seg.alloc ?_ _) | (with_reducible refine Seg.drew ?_) | (with_reducible refine Seg.drewN ?_ _)))
  clear hX HB CP00 CP01 CP10 CP11 Cx00 Cx01 Cx10 Cx11 Sw0 Sx0 Sx1 Sg0 yCP00 yCP10 yCx00 yCx10
  refine (lawMarkRhythm2 _ _ x0 _ _ _ _ (by omega) (by omega) (by omega) gSx0).mono ?_
  rintro e w14 ⟨rfl, o14, b14⟩
  have HB := Lib.hid (bel_outside gB b14 (by omega) gB.size)
  have z14 : w13.heap.size + 0 ≤ w14.heap.size := Nat.le_trans gz b14.size
  have CP00 := cellOutside gCP00 b14 (by omega)
  have CP01 := cellOutside gCP01 b14 (by omega)
  have CP10 := cellOutside gCP10 b14 (by omega)
  have CP11 := cellOutside gCP11 b14 (by omega)
  have Cx00 := cellOutside gCx00 b14 (by omega)
  have Cx01 := cellOutside gCx01 b14 (by omega)
  have Cx10 := cellOutside gCx10 b14 (by omega)
  have Cx11 := cellOutside gCx11 b14 (by omega)
  have Sw0 := Lib.hid (gSw0.outside b14 (by omega))
  have Sx1 := Lib.hid (gSx1.outside b14 (by omega))
  have Sg0 := Lib.hid (gSg0.outside b14 (by omega))
  have Sx0 := Lib.hid o14
  clear gB gz gCP00 gCP01 gCP10 gCP11 gCx00 gCx01 gCx10 gCx11 gSw0 gSx0 gSx1 gSg0 b14 o14 X
  have yCP00 : w.heap.size < w14.heap.size := World.block_lt_of_cell? _ _ CP00
  have yCP10 : w.heap.size + 1 < w14.heap.size := World.block_lt_of_cell? _ _ CP10
  have yCx00 : w6.heap.size < w14.heap.size := World.block_lt_of_cell? _ _ Cx00
  have yCx10 : w7.heap.size < w14.heap.size := World.block_lt_of_cell? _ _ Cx10
  go_wp2_with fail
  refine withWorld fun X hX => ?_
  have gB : Below w.heap.size w X := (by rw [hX]; repeat (first | (with_reducible exact HB.out) | (with_reducible refine bel_alloc ?_ _) | (with_reducible refine Below.drew ?_) | (with_reducible refine bel_drewN ?_ _)))
  have gz : w14.heap.size + 0 ≤ X.heap.size := (by rw [hX]; simp)
  have gCP00 : X.cell? ⟨w.heap.size, 0, none⟩ = some (.int .i64 n0) := (by rw [hX]; repeat (first | (with_reducible exact CP00) | (with_reducible refine cellAlloc _ ?_) | (with_reducible refine cellDrew ?_) | (with_reducible refine cellDrewN ?_)))
  have gCP01 : X.cell? ⟨w.heap.size, 1, none⟩ = some (.slice ad0 x0.length cap0) := (by rw [hX]; repeat (first | (with_reducible exact CP01) | (with_reducible refine cellAlloc _ ?_) | (with_reducible refine cellDrew ?_) | (with_reducible refine cellDrewN ?_)))
  have gCP10 : X.cell? ⟨w.heap.size + 1, 0, none⟩ = some (.int .i64 n1) := (by rw [hX]; repeat (first | (with_reducible exact CP10) | (with_reducible refine cellAlloc _ ?_) | (with_reducible refine cellDrew ?_) | (with_reducible refine cellDrewN ?_)))
  have gCP11 : X.cell? ⟨w.heap.size + 1, 1, none⟩ = some (.slice ad1 x1.length cap1) := (by rw [hX]; repeat (first | (with_reducible exact CP11) | (with_reducible refine cellAlloc _ ?_) | (with_reducible refine cellDrew ?_) | (with_reducible refine cellDrewN ?_)))
  have gCx00 : X.cell? ⟨w6.heap.size, 0, none⟩ = some (.int .i64 n0) := (by rw [hX]; repeat (first | (with_reducible exact Cx00) | (with_reducible refine cellAlloc _ ?_) | (with_reducible refine cellDrew ?_) | (with_reducible refine cellDrewN ?_)))
  have gCx01 : X.cell? ⟨w6.heap.size, 1, none⟩ = some (.slice ax6 x0.length kx6) := (by rw [hX]; repeat (first | (with_reducible exact Cx01) | (with_reducible refine cellAlloc _ ?_) | (with_reducible refine cellDrew ?_) | (with_reducible refine cellDrewN ?_)))
  have gCx10 : X.cell? ⟨w7.heap.size, 0, none⟩ = some (.int .i64 n1) := (by rw [hX]; repeat (first | (with_reducible exact Cx10) | (with_reducible refine cellAlloc _ ?_) | (with_reducible refine cellDrew ?_) | (with_reducible refine cellDrewN ?_)))
  have gCx11 : X.cell? ⟨w7.heap.size, 1, none⟩ = some (.slice ax7 x1.length kx7) := (by rw [hX]; repeat (first | (with_reducible exact Cx11) | (with_reducible refine cellAlloc _ ?_) | (with_reducible refine cellDrew ?_) | (with_reducible refine cellDrewN ?_)))
  have gSw0 : Seg X (w4.heap.size + 0) (w5.heap.size) (.slice ax5 (lstOverlapsOf n0 x0 n1 x1).length kx5) ((lstOverlapsOf n0 x0 n1 x1)) := (by rw [hX]; repeat (first | (with_reducible exact Sw0.out) | (with_reducible refine Seg.alloc ?_ _) | (with_reducible refine Seg.drew ?_) | (with_reducible refine Seg.drewN ?_ _)))
  have gSx0 : Seg X (w5.heap.size + 0) (w6.heap.size) (.slice ax6 x0.length kx6) (marks 1 x0.length) := (by rw [hX]; repeat (first | (with_reducible exact Sx0.out) | (with_reducible refine Seg.alloc ?_ _) | (with_reducible refine Seg.drew ?_) | (with_reducible refine Seg.drewN ?_ _)))
  have gSx1 : Seg X (w6.heap.size + 1) (w7.heap.size) (.slice ax7 x1.length kx7) (x1) := (by rw [hX]; repeat (first | (with_reducible exact Sx1.out) | (with_reducible refine Seg.alloc ?_ _) | (with_reducible refine Seg.drew ?_) | (with_reducible refine Seg.drewN ?_ _)))
  have gSg0 : Seg X (w7.heap.size + 1) (w8.heap.size) (.slice ax8 (lstOverlapsOf n0 x0 n1 x1).length kx8) ((lstOverlapsOf n0 x0 n1 x1)) := (by rw [hX]; repeat (first | (with_reducible exact Sg0.out) | (with_reducible refine Seg.alloc ?_ _) | (with_reducible refine Seg.drew ?_) | (with_reducible refine Seg.drewN ?_ _)))
  clear hX HB CP00 CP01 CP10 CP11 Cx00 Cx01 Cx10 Cx11 Sw0 Sx0 Sx1 Sg0 yCP00 yCP10 yCx00 yCx10
  refine (lawMarkRhythm2 _ _ x1 _ _ _ _ (by omega) (by omega) (by omega) gSx1).mono ?_
  rintro e w15 ⟨rfl, o15, b15⟩
  have HB := Lib.hid (bel_outside gB b15 (by omega) gB.size)
  have z15 : w14.heap.size + 0 ≤ w15.heap.size := Nat.le_trans gz b15.size
  have CP00 := cellOutside gCP00 b15 (by omega)
  have CP01 := cellOutside gCP01 b15 (by omega)
  have CP10 := cellOutside gCP10 b15 (by omega)
  have CP11 := cellOutside gCP11 b15 (by omega)
  have Cx00 := cellOutside gCx00 b15 (by omega)
  have Cx01 := cellOutside gCx01 b15 (by omega)
  have Cx10 := cellOutside gCx10 b15 (by omega)
  have Cx11 := cellOutside gCx11 b15 (by omega)
  have Sw0 := Lib.hid (gSw0.outside b15 (by omega))
  have Sx0 := Lib.hid (gSx0.outside b15 (by omega))
  have Sg0 := Lib.hid (gSg0.outside b15 (by omega))
  have Sx1 := Lib.hid o15
  clear gB gz gCP00 gCP01 gCP10 gCP11 gCx00 gCx01 gCx10 gCx11 gSw0 gSx0 gSx1 gSg0 b15 o15 X
  have yCP00 : w.heap.size < w15.heap.size := World.block_lt_of_cell? _ _ CP00
  have yCP10 : w.heap.size + 1 < w15.heap.size := World.block_lt_of_cell? _ _ CP10
  have yCx00 : w6.heap.size < w15.heap.size := World.block_lt_of_cell? _ _ Cx00
  have yCx10 : w7.heap.size < w15.heap.size := World.block_lt_of_cell? _ _ Cx10
  go_wp2_with fail
  refine withWorld fun X hX => ?_
  have gB : Below w.heap.size w X := (by rw [hX]; repeat (first | (with_reducible exact HB.out) | (with_reducible refine bel_alloc ?_ _) | (with_reducible refine Below.drew ?_) | (with_reducible refine bel_drewN ?_ _)))
  have gz : w15.heap.size + 0 ≤ X.heap.size := (by rw [hX]; simp)
  have gCP00 : X.cell? ⟨w.heap.size, 0, none⟩ = some (.int .i64 n0) := (by rw [hX]; repeat (first | (with_reducible exact CP00) | (with_reducible refine cellAlloc _ ?_) | (with_reducible refine cellDrew ?_) | (with_reducible refine cellDrewN ?_)))
  have gCP01 : X.cell? ⟨w.heap.size, 1, none⟩ = some (.slice ad0 x0.length cap0) := (by rw [hX]; repeat (first | (with_reducible exact CP01) | (with_reducible refine cellAlloc _ ?_) | (with_reducible refine cellDrew ?_) | (with_reducible refine cellDrewN ?_)))
  have gCP10 : X.cell? ⟨w.heap.size + 1, 0, none⟩ = some (.int .i64 n1) := (by rw [hX]; repeat (first | (with_reducible exact CP10) | (with_reducible refine cellAlloc _ ?_) | (with_reducible refine cellDrew ?_) | (with_reducible refine cellDrewN ?_)))
  have gCP11 : X.cell? ⟨w.heap.size + 1, 1, none⟩ = some (.slice ad1 x1.length cap1) := (by rw [hX]; repeat (first | (with_reducible exact CP11) | (with_reducible refine cellAlloc _ ?_) | (with_reducible refine cellDrew ?_) | (with_reducible refine cellDrewN ?_)))
  have gCx00 : X.cell? ⟨w6.heap.size, 0, none⟩ = some (.int .i64 n0) := (by rw [hX]; repeat (first | (with_reducible exact Cx00) | (with_reducible refine cellAlloc _ ?_) | (with_reducible refine cellDrew ?_) | (with_reducible refine cellDrewN ?_)))
  have gCx01 : X.cell? ⟨w6.heap.size, 1, none⟩ = some (.slice ax6 x0.length kx6) := (by rw [hX]; repeat (first | (with_reducible exact Cx01) | (with_reducible refine cellAlloc _ ?_) | (with_reducible refine cellDrew ?_) | (with_reducible refine cellDrewN ?_)))
  have gCx10 : X.cell? ⟨w7.heap.size, 0, none⟩ = some (.int .i64 n1) := (by rw [hX]; repeat (first | (with_reducible exact Cx10) | (with_reducible refine cellAlloc _ ?_) | (with_reducible refine cellDrew ?_) | (with_reducible refine cellDrewN ?_)))
  have gCx11 : X.cell? ⟨w7.heap.size, 1, none⟩ = some (.slice ax7 x1.length kx7) := (by rw [hX]; repeat (first | (with_reducible exact Cx11) | (with_reducible refine cellAlloc _ ?_) | (with_reducible refine cellDrew ?_) | (with_reducible refine cellDrewN ?_)))
  have gSw0 : Seg X (w4.heap.size + 0) (w5.heap.size) (.slice ax5 (lstOverlapsOf n0 x0 n1 x1).length kx5) ((lstOverlapsOf n0 x0 n1 x1)) := (by rw [hX]; repeat (first | (with_reducible exact Sw0.out) | (with_reducible refine Seg.alloc ?_ _) | (with_reducible refine Seg.drew ?_) | (with_reducible refine Seg.drewN ?_ _)))
  have gSx0 : Seg X (w5.heap.size + 0) (w6.heap.size) (.slice ax6 x0.length kx6) (marks 1 x0.length) := (by rw [hX]; repeat (first | (with_reducible exact Sx0.out) | (with_reducible refine Seg.alloc ?_ _) | (with_reducible refine Seg.drew ?_) | (with_reducible refine Seg.drewN ?_ _)))
  have gSx1 : Seg X (w6.heap.size + 1) (w7.heap.size) (.slice ax7 x1.length kx7) (marks (1 + (x0.length : Int)) x1.length) := (by rw [hX]; repeat (first | (with_reducible exact Sx1.out) | (with_reducible refine Seg.alloc ?_ _) | (with_reducible refine Seg.drew ?_) | (with_reducible refine Seg.drewN ?_ _)))
  have gSg0 : Seg X (w7.heap.size + 1) (w8.heap.size) (.slice ax8 (lstOverlapsOf n0 x0 n1 x1).length kx8) ((lstOverlapsOf n0 x0 n1 x1)) := (by rw [hX]; repeat (first | (with_reducible exact Sg0.out) | (with_reducible refine Seg.alloc ?_ _) | (with_reducible refine Seg.drew ?_) | (with_reducible refine Seg.drewN ?_ _)))
  clear hX HB CP00 CP01 CP10 CP11 Cx00 Cx01 Cx10 Cx11 Sw0 Sx0 Sx1 Sg0 yCP00 yCP10 yCx00 yCx10
  refine (lawEqIntS' _ _ (lstOverlapsOf n0 x0 n1 x1) (lstOverlapsOf n0 x0 n1 x1) _ gSg0.ints gSw0.ints).mono ?_
  rintro e w16 ⟨rfl, b16⟩
  have HB := Lib.hid (bel_step gB b16 gB.size)
  have z16 : w15.heap.size + 0 ≤ w16.heap.size := Nat.le_trans gz b16.size
  have CP00 := cellAfter b16 gCP00
  have CP01 := cellAfter b16 gCP01
  have CP10 := cellAfter b16 gCP10
  have CP11 := cellAfter b16 gCP11
  have Cx00 := cellAfter b16 gCx00
  have Cx01 := cellAfter b16 gCx01
  have Cx10 := cellAfter b16 gCx10
  have Cx11 := cellAfter b16 gCx11
  have Sw0 := Lib.hid (gSw0.after b16)
  have Sx0 := Lib.hid (gSx0.after b16)
  have Sx1 := Lib.hid (gSx1.after b16)
  have Sg0 := Lib.hid (gSg0.after b16)
  clear gB gz gCP00 gCP01 gCP10 gCP11 gCx00 gCx01 gCx10 gCx11 gSw0 gSx0 gSx1 gSg0 b16 X
  have yCP00 : w.heap.size < w16.heap.size := World.block_lt_of_cell? _ _ CP00
  have yCP10 : w.heap.size + 1 < w16.heap.size := World.block_lt_of_cell? _ _ CP10
  have yCx00 : w6.heap.size < w16.heap.size := World.block_lt_of_cell? _ _ Cx00
  have yCx10 : w7.heap.size < w16.heap.size := World.block_lt_of_cell? _ _ Cx10
  rw [eqL_self]
  go_wp2_with fail
  refine withWorld fun X hX => ?_
  have gB : Below w.heap.size w X := (by rw [hX]; repeat (first | (with_reducible exact HB.out) | (with_reducible refine bel_alloc ?_ _) | (with_reducible refine Below.drew ?_) | (with_reducible refine bel_drewN ?_ _)))
  have gz : w16.heap.size + 0 ≤ X.heap.size := (by rw [hX]; simp)
  have gCP00 : X.cell? ⟨w.heap.size, 0, none⟩ = some (.int .i64 n0) := (by rw [hX]; repeat (first | (with_reducible exact CP00) | (with_reducible refine cellAlloc _ ?_) | (with_reducible refine cellDrew ?_) | (with_reducible refine cellDrewN ?_)))
  have gCP01 : X.cell? ⟨w.heap.size, 1, none⟩ = some (.slice ad0 x0.length cap0) := (by rw [hX]; repeat (first | (with_reducible exact CP01) | (with_reducible refine cellAlloc _ ?_) | (with_reducible refine cellDrew ?_) | (with_reducible refine cellDrewN ?_)))
  have gCP10 : X.cell? ⟨w.heap.size + 1, 0, none⟩ = some (.int .i64 n1) := (by rw [hX]; repeat (first | (with_reducible exact CP10) | (with_reducible refine cellAlloc _ ?_) | (with_reducible refine cellDrew ?_) | (with_reducible refine cellDrewN ?_)))
  have gCP11 : X.cell? ⟨w.heap.size + 1, 1, none⟩ = some (.slice ad1 x1.length cap1) := (by rw [hX]; repeat (first | (with_reducible exact CP11) | (with_reducible refine cellAlloc _ ?_) | (with_reducible refine cellDrew ?_) | (with_reducible refine cellDrewN ?_)))
  have gCx00 : X.cell? ⟨w6.heap.size, 0, none⟩ = some (.int .i64 n0) := (by rw [hX]; repeat (first | (with_reducible exact Cx00) | (with_reducible refine cellAlloc _ ?_) | (with_reducible refine cellDrew ?_) | (with_reducible refine cellDrewN ?_)))
  have gCx01 : X.cell? ⟨w6.heap.size, 1, none⟩ = some (.slice ax6 x0.length kx6) := (by rw [hX]; repeat (first | (with_reducible exact Cx01) | (with_reducible refine cellAlloc _ ?_) | (with_reducible refine cellDrew ?_) | (with_reducible refine cellDrewN ?_)))
  have gCx10 : X.cell? ⟨w7.heap.size, 0, none⟩ = some (.int .i64 n1) := (by rw [hX]; repeat (first | (with_reducible exact Cx10) | (with_reducible refine cellAlloc _ ?_) | (with_reducible refine cellDrew ?_) | (with_reducible refine cellDrewN ?_)))
  have gCx11 : X.cell? ⟨w7.heap.size, 1, none⟩ = some (.slice ax7 x1.length kx7) := (by rw [hX]; repeat (first | (with_reducible exact Cx11) | (with_reducible refine cellAlloc _ ?_) | (with_reducible refine cellDrew ?_) | (with_reducible refine cellDrewN ?_)))
  have gSw0 : Seg X (w4.heap.size + 0) (w5.heap.size) (.slice ax5 (lstOverlapsOf n0 x0 n1 x1).length kx5) ((lstOverlapsOf n0 x0 n1 x1)) := (by rw [hX]; repeat (first | (with_reducible exact Sw0.out) | (with_reducible refine Seg.alloc ?_ _) | (with_reducible refine Seg.drew ?_) | (with_reducible refine Seg.drewN ?_ _)))
  have gSx0 : Seg X (w5.heap.size + 0) (w6.heap.size) (.slice ax6 x0.length kx6) (marks 1 x0.length) := (by rw [hX]; repeat (first | (with_reducible exact Sx0.out) | (with_reducible refine Seg.alloc ?_ _) | (with_reducible refine Seg.drew ?_) | (with_reducible refine Seg.drewN ?_ _)))
  have gSx1 : Seg X (w6.heap.size + 1) (w7.heap.size) (.slice ax7 x1.length kx7) (marks (1 + (x0.length : Int)) x1.length) := (by rw [hX]; repeat (first | (with_reducible exact Sx1.out) | (with_reducible refine Seg.alloc ?_ _) | (with_reducible refine Seg.drew ?_) | (with_reducible refine Seg.drewN ?_ _)))
  have gSg0 : Seg X (w7.heap.size + 1) (w8.heap.size) (.slice ax8 (lstOverlapsOf n0 x0 n1 x1).length kx8) ((lstOverlapsOf n0 x0 n1 x1)) := (by rw [hX]; repeat (first | (with_reducible exact Sg0.out) | (with_reducible refine Seg.alloc ?_ _) | (with_reducible refine Seg.drew ?_) | (with_reducible refine Seg.drewN ?_ _)))
  clear hX HB CP00 CP01 CP10 CP11 Cx00 Cx01 Cx10 Cx11 Sw0 Sx0 Sx1 Sg0 yCP00 yCP10 yCx00 yCx10
  refine (lawMarkIntS2 _ (lstOverlapsOf n0 x0 n1 x1) _ _ _ _ (by have := lenOverlapsOf n0 x0 n1 x1; omega) (by omega) (by omega) gSg0).mono ?_
  rintro e w17 ⟨rfl, o17, b17⟩
  have HB := Lib.hid (bel_outside gB b17 (by omega) gB.size)
  have z17 : w16.heap.size + 0 ≤ w17.heap.size := Nat.le_trans gz b17.size
  have CP00 := cellOutside gCP00 b17 (by omega)
  have CP01 := cellOutside gCP01 b17 (by omega)
  have CP10 := cellOutside gCP10 b17 (by omega)
  have CP11 := cellOutside gCP11 b17 (by omega)
  have Cx00 := cellOutside gCx00 b17 (by omega)
  have Cx01 := cellOutside gCx01 b17 (by omega)
  have Cx10 := cellOutside gCx10 b17 (by omega)
  have Cx11 := cellOutside gCx11 b17 (by omega)
  have Sw0 := Lib.hid (gSw0.outside b17 (by omega))
  have Sx0 := Lib.hid (gSx0.outside b17 (by omega))
  have Sx1 := Lib.hid (gSx1.outside b17 (by omega))
  have Sg0 := Lib.hid o17
  clear gB gz gCP00 gCP01 gCP10 gCP11 gCx00 gCx01 gCx10 gCx11 gSw0 gSx0 gSx1 gSg0 b17 o17 X
  have yCP00 : w.heap.size < w17.heap.size := World.block_lt_of_cell? _ _ CP00
  have yCP10 : w.heap.size + 1 < w17.heap.size := World.block_lt_of_cell? _ _ CP10
  have yCx00 : w6.heap.size < w17.heap.size := World.block_lt_of_cell? _ _ Cx00
  have yCx10 : w7.heap.size < w17.heap.size := World.block_lt_of_cell? _ _ Cx10
  go_wp2_with fail
  refine withWorld fun X hX => ?_
  have gB : Below w.heap.size w X := (by rw [hX]; repeat (first | (with_reducible exact HB.out) | (with_reducible refine bel_alloc ?_ _) | (with_reducible refine Below.drew ?_) | (with_reducible refine bel_drewN ?_ _)))
  have gz : w17.heap.size + 0 ≤ X.heap.size := (by rw [hX]; simp)
  have gCP00 : X.cell? ⟨w.heap.size, 0, none⟩ = some (.int .i64 n0) := (by rw [hX]; repeat (first | (with_reducible exact CP00) | (with_reducible refine cellAlloc _ ?_) | (with_reducible refine cellDrew ?_) | (with_reducible refine cellDrewN ?_)))
  have gCP01 : X.cell? ⟨w.heap.size, 1, none⟩ = some (.slice ad0 x0.length cap0) := (by rw [hX]; repeat (first | (with_reducible exact CP01) | (with_reducible refine cellAlloc _ ?_) | (with_reducible refine cellDrew ?_) | (with_reducible refine cellDrewN ?_)))
  have gCP10 : X.cell? ⟨w.heap.size + 1, 0, none⟩ = some (.int .i64 n1) := (by rw [hX]; repeat (first | (with_reducible exact CP10) | (with_reducible refine cellAlloc _ ?_) | (with_reducible refine cellDrew ?_) | (with_reducible refine cellDrewN ?_)))
  have gCP11 : X.cell? ⟨w.heap.size + 1, 1, none⟩ = some (.slice ad1 x1.length cap1) := (by rw [hX]; repeat (first | (with_reducible exact CP11) | (with_reducible refine cellAlloc _ ?_) | (with_reducible refine cellDrew ?_) | (with_reducible refine cellDrewN ?_)))
  have gCx00 : X.cell? ⟨w6.heap.size, 0, none⟩ = some (.int .i64 n0) := (by rw [hX]; repeat (first | (with_reducible exact Cx00) | (with_reducible refine cellAlloc _ ?_) | (with_reducible refine cellDrew ?_) | (with_reducible refine cellDrewN ?_)))
  have gCx01 : X.cell? ⟨w6.heap.size, 1, none⟩ = some (.slice ax6 x0.length kx6) := (by rw [hX]; repeat (first | (with_reducible exact Cx01) | (with_reducible refine cellAlloc _ ?_) | (with_reducible refine cellDrew ?_) | (with_reducible refine cellDrewN ?_)))
  have gCx10 : X.cell? ⟨w7.heap.size, 0, none⟩ = some (.int .i64 n1) := (by rw [hX]; repeat (first | (with_reducible exact Cx10) | (with_reducible refine cellAlloc _ ?_) | (with_reducible refine cellDrew ?_) | (with_reducible refine cellDrewN ?_)))
  have gCx11 : X.cell? ⟨w7.heap.size, 1, none⟩ = some (.slice ax7 x1.length kx7) := (by rw [hX]; repeat (first | (with_reducible exact Cx11) | (with_reducible refine cellAlloc _ ?_) | (with_reducible refine cellDrew ?_) | (with_reducible refine cellDrewN ?_)))
  have gSw0 : Seg X (w4.heap.size + 0) (w5.heap.size) (.slice ax5 (lstOverlapsOf n0 x0 n1 x1).length kx5) ((lstOverlapsOf n0 x0 n1 x1)) := (by rw [hX]; repeat (first | (with_reducible exact Sw0.out) | (with_reducible refine Seg.alloc ?_ _) | (with_reducible refine Seg.drew ?_) | (with_reducible refine Seg.drewN ?_ _)))
  have gSx0 : Seg X (w5.heap.size + 0) (w6.heap.size) (.slice ax6 x0.length kx6) (marks 1 x0.length) := (by rw [hX]; repeat (first | (with_reducible exact Sx0.out) | (with_reducible refine Seg.alloc ?_ _) | (with_reducible refine Seg.drew ?_) | (with_reducible refine Seg.drewN ?_ _)))
  have gSx1 : Seg X (w6.heap.size + 1) (w7.heap.size) (.slice ax7 x1.length kx7) (marks (1 + (x0.length : Int)) x1.length) := (by rw [hX]; repeat (first | (with_reducible exact Sx1.out) | (with_reducible refine Seg.alloc ?_ _) | (with_reducible refine Seg.drew ?_) | (with_reducible refine Seg.drewN ?_ _)))
  have gSg0 : Seg X (w7.heap.size + 1) (w8.heap.size) (.slice ax8 (lstOverlapsOf n0 x0 n1 x1).length kx8) (marks 1 (lstOverlapsOf n0 x0 n1 x1).length) := (by rw [hX]; repeat (first | (with_reducible exact Sg0.out) | (with_reducible refine Seg.alloc ?_ _) | (with_reducible refine Seg.drew ?_) | (with_reducible refine Seg.drewN ?_ _)))
  clear hX HB CP00 CP01 CP10 CP11 Cx00 Cx01 Cx10 Cx11 Sw0 Sx0 Sx1 Sg0 yCP00 yCP10 yCx00 yCx10
  refine (lawHeldIntS' _ (marks 1 (lstOverlapsOf n0 x0 n1 x1).length) _ _ (by rw [marks_len]; have := lenOverlapsOf n0 x0 n1 x1; omega) (by omega) (by omega) gSg0.ints).mono ?_
  rintro e w18 ⟨rfl, b18⟩
  have HB := Lib.hid (bel_step gB b18 gB.size)
  have z18 : w17.heap.size + 0 ≤ w18.heap.size := Nat.le_trans gz b18.size
  have CP00 := cellAfter b18 gCP00
  have CP01 := cellAfter b18 gCP01
  have CP10 := cellAfter b18 gCP10
  have CP11 := cellAfter b18 gCP11
  have Cx00 := cellAfter b18 gCx00
  have Cx01 := cellAfter b18 gCx01
  have Cx10 := cellAfter b18 gCx10
  have Cx11 := cellAfter b18 gCx11
  have Sw0 := Lib.hid (gSw0.after b18)
  have Sx0 := Lib.hid (gSx0.after b18)
  have Sx1 := Lib.hid (gSx1.after b18)
  have Sg0 := Lib.hid (gSg0.after b18)
  clear gB gz gCP00 gCP01 gCP10 gCP11 gCx00 gCx01 gCx10 gCx11 gSw0 gSx0 gSx1 gSg0 b18 X
  have yCP00 : w.heap.size < w18.heap.size := World.block_lt_of_cell? _ _ CP00
  have yCP10 : w.heap.size + 1 < w18.heap.size := World.block_lt_of_cell? _ _ CP10
  have yCx00 : w6.heap.size < w18.heap.size := World.block_lt_of_cell? _ _ Cx00
  have yCx10 : w7.heap.size < w18.heap.size := World.block_lt_of_cell? _ _ Cx10
  rw [heldOf_marks]
  go_wp2_with fail
  refine withWorldC fun Y hY => ?_
  have gB : Below w.heap.size w Y := (by rw [hY]; repeat (first | (with_reducible exact HB.out) | (with_reducible refine bel_alloc ?_ _) | (with_reducible refine Below.drew ?_) | (with_reducible refine bel_drewN ?_ _)))
  have gz : w18.heap.size + 0 ≤ Y.heap.size := (by rw [hY]; simp)
  have gCP00 : Y.cell? ⟨w.heap.size, 0, none⟩ = some (.int .i64 n0) := (by rw [hY]; repeat (first | (with_reducible exact CP00) | (with_reducible refine cellAlloc _ ?_) | (with_reducible refine cellDrew ?_) | (with_reducible refine cellDrewN ?_)))
  have gCP01 : Y.cell? ⟨w.heap.size, 1, none⟩ = some (.slice ad0 x0.length cap0) := (by rw [hY]; repeat (first | (with_reducible exact CP01) | (with_reducible refine cellAlloc _ ?_) | (with_reducible refine cellDrew ?_) | (with_reducible refine cellDrewN ?_)))
  have gCP10 : Y.cell? ⟨w.heap.size + 1, 0, none⟩ = some (.int .i64 n1) := (by rw [hY]; repeat (first | (with_reducible exact CP10) | (with_reducible refine cellAlloc _ ?_) | (with_reducible refine cellDrew ?_) | (with_reducible refine cellDrewN ?_)))
  have gCP11 : Y.cell? ⟨w.heap.size + 1, 1, none⟩ = some (.slice ad1 x1.length cap1) := (by rw [hY]; repeat (first | (with_reducible exact CP11) | (with_reducible refine cellAlloc _ ?_) | (with_reducible refine cellDrew ?_) | (with_reducible refine cellDrewN ?_)))
  have gCx00 : Y.cell? ⟨w6.heap.size, 0, none⟩ = some (.int .i64 n0) := (by rw [hY]; repeat (first | (with_reducible exact Cx00) | (with_reducible refine cellAlloc _ ?_) | (with_reducible refine cellDrew ?_) | (with_reducible refine cellDrewN ?_)))
  have gCx01 : Y.cell? ⟨w6.heap.size, 1, none⟩ = some (.slice ax6 x0.length kx6) := (by rw [hY]; repeat (first | (with_reducible exact Cx01) | (with_reducible refine cellAlloc _ ?_) | (with_reducible refine cellDrew ?_) | (with_reducible refine cellDrewN ?_)))
  have gCx10 : Y.cell? ⟨w7.heap.size, 0, none⟩ = some (.int .i64 n1) := (by rw [hY]; repeat (first | (with_reducible exact Cx10) | (with_reducible refine cellAlloc _ ?_) | (with_reducible refine cellDrew ?_) | (with_reducible refine cellDrewN ?_)))
  have gCx11 : Y.cell? ⟨w7.heap.size, 1, none⟩ = some (.slice ax7 x1.length kx7) := (by rw [hY]; repeat (first | (with_reducible exact Cx11) | (with_reducible refine cellAlloc _ ?_) | (with_reducible refine cellDrew ?_) | (with_reducible refine cellDrewN ?_)))
  have gSw0 : Seg Y (w4.heap.size + 0) (w5.heap.size) (.slice ax5 (lstOverlapsOf n0 x0 n1 x1).length kx5) ((lstOverlapsOf n0 x0 n1 x1)) := (by rw [hY]; repeat (first | (with_reducible exact Sw0.out) | (with_reducible refine Seg.alloc ?_ _) | (with_reducible refine Seg.drew ?_) | (with_reducible refine Seg.drewN ?_ _)))
  have gSx0 : Seg Y (w5.heap.size + 0) (w6.heap.size) (.slice ax6 x0.length kx6) (marks 1 x0.length) := (by rw [hY]; repeat (first | (with_reducible exact Sx0.out) | (with_reducible refine Seg.alloc ?_ _) | (with_reducible refine Seg.drew ?_) | (with_reducible refine Seg.drewN ?_ _)))
  have gSx1 : Seg Y (w6.heap.size + 1) (w7.heap.size) (.slice ax7 x1.length kx7) (marks (1 + (x0.length : Int)) x1.length) := (by rw [hY]; repeat (first | (with_reducible exact Sx1.out) | (with_reducible refine Seg.alloc ?_ _) | (with_reducible refine Seg.drew ?_) | (with_reducible refine Seg.drewN ?_ _)))
  have gSg0 : Seg Y (w7.heap.size + 1) (w8.heap.size) (.slice ax8 (lstOverlapsOf n0 x0 n1 x1).length kx8) (marks 1 (lstOverlapsOf n0 x0 n1 x1).length) := (by rw [hY]; repeat (first | (with_reducible exact Sg0.out) | (with_reducible refine Seg.alloc ?_ _) | (with_reducible refine Seg.drew ?_) | (with_reducible refine Seg.drewN ?_ _)))
  clear hY HB CP00 CP01 CP10 CP11 Cx00 Cx01 Cx10 Cx11 Sw0 Sx0 Sx1 Sg0 yCP00 yCP10 yCx00 yCx10
  have CP00 := gCP00
  have CP01 := gCP01
  have CP10 := gCP10
  have CP11 := gCP11
  have Cx00 := gCx00
  have Cx01 := gCx01
  have Cx10 := gCx10
  have Cx11 := gCx11
  have Sw0 := Lib.hid gSw0
  have Sx0 := Lib.hid gSx0
  have Sx1 := Lib.hid gSx1
  have Sg0 := Lib.hid gSg0
  have HB := Lib.hid gB
  have zY18 := gz
  clear gB gz gCP00 gCP01 gCP10 gCP11 gCx00 gCx01 gCx10 gCx11 gSw0 gSx0 gSx1 gSg0
  have yCP00 : w.heap.size < Y.heap.size := World.block_lt_of_cell? _ _ CP00
  have yCP10 : w.heap.size + 1 < Y.heap.size := World.block_lt_of_cell? _ _ CP10
  have yCx00 : w6.heap.size < Y.heap.size := World.block_lt_of_cell? _ _ Cx00
  have yCx10 : w7.heap.size < Y.heap.size := World.block_lt_of_cell? _ _ Cx10
  go_region_held3 (fun w' => w'.cell? ⟨w.heap.size, 0, none⟩ = some (.int .i64 n0) ∧ w'.cell? ⟨w.heap.size, 1, none⟩ = some (.slice ad0 x0.length cap0) ∧ w'.cell? ⟨w.heap.size + 1, 0, none⟩ = some (.int .i64 n1) ∧ w'.cell? ⟨w.heap.size + 1, 1, none⟩ = some (.slice ad1 x1.length cap1) ∧ w'.cell? ⟨w6.heap.size, 0, none⟩ = some (.int .i64 n0) ∧ w'.cell? ⟨w6.heap.size, 1, none⟩ = some (.slice ax6 x0.length kx6) ∧ w'.cell? ⟨w7.heap.size, 0, none⟩ = some (.int .i64 n1) ∧ w'.cell? ⟨w7.heap.size, 1, none⟩ = some (.slice ax7 x1.length kx7)) (first | exact ⟨CP00, CP01, CP10, CP11, Cx00, Cx01, Cx10, Cx11⟩ | exact ⟨cellAlloc _ CP00, cellAlloc _ CP01, cellAlloc _ CP10, cellAlloc _ CP11, cellAlloc _ Cx00, cellAlloc _ Cx01, cellAlloc _ Cx10, cellAlloc _ Cx11⟩) (first | (go_at_call_of 29 (Value.slice ad0 x0.length cap0); refine withWorld fun X hX => ?_; have gB : Below w.heap.size w X := (by rw [hX]; repeat (first | (with_reducible exact HB.out) | (with_reducible refine bel_alloc ?_ _) | (with_reducible refine Below.drew ?_) | (with_reducible refine bel_drewN ?_ _))); have gz : Y.heap.size + 0 ≤ X.heap.size := (by rw [hX]; simp); have gCP00 : X.cell? ⟨w.heap.size, 0, none⟩ = some (.int .i64 n0) := (by rw [hX]; repeat (first | (with_reducible exact CP00) | (with_reducible refine cellAlloc _ ?_) | (with_reducible refine cellDrew ?_) | (with_reducible refine cellDrewN ?_))); have gCP01 : X.cell? ⟨w.heap.size, 1, none⟩ = some (.slice ad0 x0.length cap0) := (by rw [hX]; repeat (first | (with_reducible exact CP01) | (with_reducible refine cellAlloc _ ?_) | (with_reducible refine cellDrew ?_) | (with_reducible refine cellDrewN ?_))); have gCP10 : X.cell? ⟨w.heap.size + 1, 0, none⟩ = some (.int .i64 n1) := (by rw [hX]; repeat (first | (with_reducible exact CP10) | (with_reducible refine cellAlloc _ ?_) | (with_reducible refine cellDrew ?_) | (with_reducible refine cellDrewN ?_))); have gCP11 : X.cell? ⟨w.heap.size + 1, 1, none⟩ = some (.slice ad1 x1.length cap1) := (by rw [hX]; repeat (first | (with_reducible exact CP11) | (with_reducible refine cellAlloc _ ?_) | (with_reducible refine cellDrew ?_) | (with_reducible refine cellDrewN ?_))); have gCx00 : X.cell? ⟨w6.heap.size, 0, none⟩ = some (.int .i64 n0) := (by rw [hX]; repeat (first | (with_reducible exact Cx00) | (with_reducible refine cellAlloc _ ?_) | (with_reducible refine cellDrew ?_) | (with_reducible refine cellDrewN ?_))); have gCx01 : X.cell? ⟨w6.heap.size, 1, none⟩ = some (.slice ax6 x0.length kx6) := (by rw [hX]; repeat (first | (with_reducible exact Cx01) | (with_reducible refine cellAlloc _ ?_) | (with_reducible refine cellDrew ?_) | (with_reducible refine cellDrewN ?_))); have gCx10 : X.cell? ⟨w7.heap.size, 0, none⟩ = some (.int .i64 n1) := (by rw [hX]; repeat (first | (with_reducible exact Cx10) | (with_reducible refine cellAlloc _ ?_) | (with_reducible refine cellDrew ?_) | (with_reducible refine cellDrewN ?_))); have gCx11 : X.cell? ⟨w7.heap.size, 1, none⟩ = some (.slice ax7 x1.length kx7) := (by rw [hX]; repeat (first | (with_reducible exact Cx11) | (with_reducible refine cellAlloc _ ?_) | (with_reducible refine cellDrew ?_) | (with_reducible refine cellDrewN ?_))); have gSw0 : Seg X (w4.heap.size + 0) (w5.heap.size) (.slice ax5 (lstOverlapsOf n0 x0 n1 x1).length kx5) ((lstOverlapsOf n0 x0 n1 x1)) := (by rw [hX]; repeat (first | (with_reducible exact Sw0.out) | (with_reducible refine Seg.alloc ?_ _) | (with_reducible refine Seg.drew ?_) | (with_reducible refine Seg.drewN ?_ _))); have gSx0 : Seg X (w5.heap.size + 0) (w6.heap.size) (.slice ax6 x0.length kx6) (marks 1 x0.length) := (by rw [hX]; repeat (first | (with_reducible exact Sx0.out) | (with_reducible refine Seg.alloc ?_ _) | (with_reducible refine Seg.drew ?_) | (with_reducible refine Seg.drewN ?_ _))); have gSx1 : Seg X (w6.heap.size + 1) (w7.heap.size) (.slice ax7 x1.length kx7) (marks (1 + (x0.length : Int)) x1.length) := (by rw [hX]; repeat (first | (with_reducible exact Sx1.out) | (with_reducible refine Seg.alloc ?_ _) | (with_reducible refine Seg.drew ?_) | (with_reducible refine Seg.drewN ?_ _))); have gSg0 : Seg X (w7.heap.size + 1) (w8.heap.size) (.slice ax8 (lstOverlapsOf n0 x0 n1 x1).length kx8) (marks 1 (lstOverlapsOf n0 x0 n1 x1).length) := (by rw [hX]; repeat (first | (with_reducible exact Sg0.out) | (with_reducible refine Seg.alloc ?_ _) | (with_reducible refine Seg.drew ?_) | (with_reducible refine Seg.drewN ?_ _))); clear hX HB CP00 CP01 CP10 CP11 Cx00 Cx01 Cx10 Cx11 Sw0 Sx0 Sx1 Sg0 yCP00 yCP10 yCx00 yCx10; refine (lawToRhythm _ _ x0 _ (by omega) (Ints.ofBelow h0 gB)).mono ?_; rintro e w19 ⟨ax19, kx19, rfl, o19, b19⟩; have HB := Lib.hid (bel_step gB b19 gB.size); have z19 : Y.heap.size + 0 ≤ w19.heap.size := Nat.le_trans gz b19.size; have CP00 := cellAfter b19 gCP00; have CP01 := cellAfter b19 gCP01; have CP10 := cellAfter b19 gCP10; have CP11 := cellAfter b19 gCP11; have Cx00 := cellAfter b19 gCx00; have Cx01 := cellAfter b19 gCx01; have Cx10 := cellAfter b19 gCx10; have Cx11 := cellAfter b19 gCx11; have Sw0 := Lib.hid (gSw0.after b19); have Sx0 := Lib.hid (gSx0.after b19); have Sx1 := Lib.hid (gSx1.after b19); have Sg0 := Lib.hid (gSg0.after b19); have T4 := Lib.hid (Seg.mk' (o19.mono gz)); clear gB gz gCP00 gCP01 gCP10 gCP11 gCx00 gCx01 gCx10 gCx11 gSw0 gSx0 gSx1 gSg0 b19 o19 X; have yCP00 : w.heap.size < w19.heap.size := World.block_lt_of_cell? _ _ CP00; have yCP10 : w.heap.size + 1 < w19.heap.size := World.block_lt_of_cell? _ _ CP10; have yCx00 : w6.heap.size < w19.heap.size := World.block_lt_of_cell? _ _ Cx00; have yCx10 : w7.heap.size < w19.heap.size := World.block_lt_of_cell? _ _ Cx10) | (go_at_call_of 29 (Value.slice ad1 x1.length cap1); refine withWorld fun X hX => ?_; have gB : Below w.heap.size w X := (by rw [hX]; repeat (first | (with_reducible exact HB.out) | (with_reducible refine bel_alloc ?_ _) | (with_reducible refine Below.drew ?_) | (with_reducible refine bel_drewN ?_ _))); have gz : w19.heap.size + 0 ≤ X.heap.size := (by rw [hX]; simp); have gCP00 : X.cell? ⟨w.heap.size, 0, none⟩ = some (.int .i64 n0) := (by rw [hX]; repeat (first | (with_reducible exact CP00) | (with_reducible refine cellAlloc _ ?_) | (with_reducible refine cellDrew ?_) | (with_reducible refine cellDrewN ?_))); have gCP01 : X.cell? ⟨w.heap.size, 1, none⟩ = some (.slice ad0 x0.length cap0) := (by rw [hX]; repeat (first | (with_reducible exact CP01) | (with_reducible refine cellAlloc _ ?_) | (with_reducible refine cellDrew ?_) | (with_reducible refine cellDrewN ?_))); have gCP10 : X.cell? ⟨w.heap.size + 1, 0, none⟩ = some (.int .i64 n1) := (by rw [hX]; repeat (first | (with_reducible exact CP10) | (with_reducible refine cellAlloc _ ?_) | (with_reducible refine cellDrew ?_) | (with_reducible refine cellDrewN ?_))); have gCP11 : X.cell? ⟨w.heap.size + 1, 1, none⟩ = some (.slice ad1 x1.length cap1) := (by rw [hX]; repeat (first | (with_reducible exact CP11) | (with_reducible refine cellAlloc _ ?_) | (with_reducible refine cellDrew ?_) | (with_reducible refine cellDrewN ?_))); have gCx00 : X.cell? ⟨w6.heap.size, 0, none⟩ = some (.int .i64 n0) := (by rw [hX]; repeat (first | (with_reducible exact Cx00) | (with_reducible refine cellAlloc _ ?_) | (with_reducible refine cellDrew ?_) | (with_reducible refine cellDrewN ?_))); have gCx01 : X.cell? ⟨w6.heap.size, 1, none⟩ = some (.slice ax6 x0.length kx6) := (by rw [hX]; repeat (first | (with_reducible exact Cx01) | (with_reducible refine cellAlloc _ ?_) | (with_reducible refine cellDrew ?_) | (with_reducible refine cellDrewN ?_))); have gCx10 : X.cell? ⟨w7.heap.size, 0, none⟩ = some (.int .i64 n1) := (by rw [hX]; repeat (first | (with_reducible exact Cx10) | (with_reducible refine cellAlloc _ ?_) | (with_reducible refine cellDrew ?_) | (with_reducible refine cellDrewN ?_))); have gCx11 : X.cell? ⟨w7.heap.size, 1, none⟩ = some (.slice ax7 x1.length kx7) := (by rw [hX]; repeat (first | (with_reducible exact Cx11) | (with_reducible refine cellAlloc _ ?_) | (with_reducible refine cellDrew ?_) | (with_reducible refine cellDrewN ?_))); have gSw0 : Seg X (w4.heap.size + 0) (w5.heap.size) (.slice ax5 (lstOverlapsOf n0 x0 n1 x1).length kx5) ((lstOverlapsOf n0 x0 n1 x1)) := (by rw [hX]; repeat (first | (with_reducible exact Sw0.out) | (with_reducible refine Seg.alloc ?_ _) | (with_reducible refine Seg.drew ?_) | (with_reducible refine Seg.drewN ?_ _))); have gSx0 : Seg X (w5.heap.size + 0) (w6.heap.size) (.slice ax6 x0.length kx6) (marks 1 x0.length) := (by rw [hX]; repeat (first | (with_reducible exact Sx0.out) | (with_reducible refine Seg.alloc ?_ _) | (with_reducible refine Seg.drew ?_) | (with_reducible refine Seg.drewN ?_ _))); have gSx1 : Seg X (w6.heap.size + 1) (w7.heap.size) (.slice ax7 x1.length kx7) (marks (1 + (x0.length : Int)) x1.length) := (by rw [hX]; repeat (first | (with_reducible exact Sx1.out) | (with_reducible refine Seg.alloc ?_ _) | (with_reducible refine Seg.drew ?_) | (with_reducible refine Seg.drewN ?_ _))); have gSg0 : Seg X (w7.heap.size + 1) (w8.heap.size) (.slice ax8 (lstOverlapsOf n0 x0 n1 x1).length kx8) (marks 1 (lstOverlapsOf n0 x0 n1 x1).length) := (by rw [hX]; repeat (first | (with_reducible exact Sg0.out) | (with_reducible refine Seg.alloc ?_ _) | (with_reducible refine Seg.drew ?_) | (with_reducible refine Seg.drewN ?_ _))); have gT4 : Seg X (Y.heap.size + 0) (w19.heap.size) (.slice ax19 x0.length kx19) (x0) := (by rw [hX]; repeat (first | (with_reducible exact T4.out) | (with_reducible refine Seg.alloc ?_ _) | (with_reducible refine Seg.drew ?_) | (with_reducible refine Seg.drewN ?_ _))); clear hX HB CP00 CP01 CP10 CP11 Cx00 Cx01 Cx10 Cx11 Sw0 Sx0 Sx1 Sg0 T4 yCP00 yCP10 yCx00 yCx10; refine (lawToRhythm _ _ x1 _ (by omega) (Ints.ofBelow h1 gB)).mono ?_; rintro e w20 ⟨ax20, kx20, rfl, o20, b20⟩; have HB := Lib.hid (bel_step gB b20 gB.size); have z20 : w19.heap.size + 0 ≤ w20.heap.size := Nat.le_trans gz b20.size; have CP00 := cellAfter b20 gCP00; have CP01 := cellAfter b20 gCP01; have CP10 := cellAfter b20 gCP10; have CP11 := cellAfter b20 gCP11; have Cx00 := cellAfter b20 gCx00; have Cx01 := cellAfter b20 gCx01; have Cx10 := cellAfter b20 gCx10; have Cx11 := cellAfter b20 gCx11; have Sw0 := Lib.hid (gSw0.after b20); have Sx0 := Lib.hid (gSx0.after b20); have Sx1 := Lib.hid (gSx1.after b20); have Sg0 := Lib.hid (gSg0.after b20); have T4 := Lib.hid (gT4.after b20); have T5 := Lib.hid (Seg.mk' (o20.mono gz)); clear gB gz gCP00 gCP01 gCP10 gCP11 gCx00 gCx01 gCx10 gCx11 gSw0 gSx0 gSx1 gSg0 gT4 b20 o20 X; have yCP00 : w.heap.size < w20.heap.size := World.block_lt_of_cell? _ _ CP00; have yCP10 : w.heap.size + 1 < w20.heap.size := World.block_lt_of_cell? _ _ CP10; have yCx00 : w6.heap.size < w20.heap.size := World.block_lt_of_cell? _ _ Cx00; have yCx10 : w7.heap.size < w20.heap.size := World.block_lt_of_cell? _ _ Cx10) | (go_at_call 30; refine withWorld fun X hX => ?_; have gB : Below w.heap.size w X := (by rw [hX]; repeat (first | (with_reducible exact HB.out) | (with_reducible refine bel_alloc ?_ _) | (with_reducible refine Below.drew ?_) | (with_reducible refine bel_drewN ?_ _))); have gz : w20.heap.size + 0 ≤ X.heap.size := (by rw [hX]; simp); have gCP00 : X.cell? ⟨w.heap.size, 0, none⟩ = some (.int .i64 n0) := (by rw [hX]; repeat (first | (with_reducible exact CP00) | (with_reducible refine cellAlloc _ ?_) | (with_reducible refine cellDrew ?_) | (with_reducible refine cellDrewN ?_))); have gCP01 : X.cell? ⟨w.heap.size, 1, none⟩ = some (.slice ad0 x0.length cap0) := (by rw [hX]; repeat (first | (with_reducible exact CP01) | (with_reducible refine cellAlloc _ ?_) | (with_reducible refine cellDrew ?_) | (with_reducible refine cellDrewN ?_))); have gCP10 : X.cell? ⟨w.heap.size + 1, 0, none⟩ = some (.int .i64 n1) := (by rw [hX]; repeat (first | (with_reducible exact CP10) | (with_reducible refine cellAlloc _ ?_) | (with_reducible refine cellDrew ?_) | (with_reducible refine cellDrewN ?_))); have gCP11 : X.cell? ⟨w.heap.size + 1, 1, none⟩ = some (.slice ad1 x1.length cap1) := (by rw [hX]; repeat (first | (with_reducible exact CP11) | (with_reducible refine cellAlloc _ ?_) | (with_reducible refine cellDrew ?_) | (with_reducible refine cellDrewN ?_))); have gCx00 : X.cell? ⟨w6.heap.size, 0, none⟩ = some (.int .i64 n0) := (by rw [hX]; repeat (first | (with_reducible exact Cx00) | (with_reducible refine cellAlloc _ ?_) | (with_reducible refine cellDrew ?_) | (with_reducible refine cellDrewN ?_))); have gCx01 : X.cell? ⟨w6.heap.size, 1, none⟩ = some (.slice ax6 x0.length kx6) := (by rw [hX]; repeat (first | (with_reducible exact Cx01) | (with_reducible refine cellAlloc _ ?_) | (with_reducible refine cellDrew ?_) | (with_reducible refine cellDrewN ?_))); have gCx10 : X.cell? ⟨w7.heap.size, 0, none⟩ = some (.int .i64 n1) := (by rw [hX]; repeat (first | (with_reducible exact Cx10) | (with_reducible refine cellAlloc _ ?_) | (with_reducible refine cellDrew ?_) | (with_reducible refine cellDrewN ?_))); have gCx11 : X.cell? ⟨w7.heap.size, 1, none⟩ = some (.slice ax7 x1.length kx7) := (by rw [hX]; repeat (first | (with_reducible exact Cx11) | (with_reducible refine cellAlloc _ ?_) | (with_reducible refine cellDrew ?_) | (with_reducible refine cellDrewN ?_))); have gSw0 : Seg X (w4.heap.size + 0) (w5.heap.size) (.slice ax5 (lstOverlapsOf n0 x0 n1 x1).length kx5) ((lstOverlapsOf n0 x0 n1 x1)) := (by rw [hX]; repeat (first | (with_reducible exact Sw0.out) | (with_reducible refine Seg.alloc ?_ _) | (with_reducible refine Seg.drew ?_) | (with_reducible refine Seg.drewN ?_ _))); have gSx0 : Seg X (w5.heap.size + 0) (w6.heap.size) (.slice ax6 x0.length kx6) (marks 1 x0.length) := (by rw [hX]; repeat (first | (with_reducible exact Sx0.out) | (with_reducible refine Seg.alloc ?_ _) | (with_reducible refine Seg.drew ?_) | (with_reducible refine Seg.drewN ?_ _))); have gSx1 : Seg X (w6.heap.size + 1) (w7.heap.size) (.slice ax7 x1.length kx7) (marks (1 + (x0.length : Int)) x1.length) := (by rw [hX]; repeat (first | (with_reducible exact Sx1.out) | (with_reducible refine Seg.alloc ?_ _) | (with_reducible refine Seg.drew ?_) | (with_reducible refine Seg.drewN ?_ _))); have gSg0 : Seg X (w7.heap.size + 1) (w8.heap.size) (.slice ax8 (lstOverlapsOf n0 x0 n1 x1).length kx8) (marks 1 (lstOverlapsOf n0 x0 n1 x1).length) := (by rw [hX]; repeat (first | (with_reducible exact Sg0.out) | (with_reducible refine Seg.alloc ?_ _) | (with_reducible refine Seg.drew ?_) | (with_reducible refine Seg.drewN ?_ _))); have gT4 : Seg X (Y.heap.size + 0) (w19.heap.size) (.slice ax19 x0.length kx19) (x0) := (by rw [hX]; repeat (first | (with_reducible exact T4.out) | (with_reducible refine Seg.alloc ?_ _) | (with_reducible refine Seg.drew ?_) | (with_reducible refine Seg.drewN ?_ _))); have gT5 : Seg X (w19.heap.size + 0) (w20.heap.size) (.slice ax20 x1.length kx20) (x1) := (by rw [hX]; repeat (first | (with_reducible exact T5.out) | (with_reducible refine Seg.alloc ?_ _) | (with_reducible refine Seg.drew ?_) | (with_reducible refine Seg.drewN ?_ _))); clear hX HB CP00 CP01 CP10 CP11 Cx00 Cx01 Cx10 Cx11 Sw0 Sx0 Sx1 Sg0 T4 T5 yCP00 yCP10 yCx00 yCx10; refine (implOverlapsOfC _ _ x0 c0 _ _ x1 c1 _ gT4.ints gT5.ints).mono ?_; rintro e w21 ⟨ax21, kx21, rfl, o21, b21⟩; have HB := Lib.hid (bel_step gB b21 gB.size); have z21 : w20.heap.size + 0 ≤ w21.heap.size := Nat.le_trans gz b21.size; have CP00 := cellAfter b21 gCP00; have CP01 := cellAfter b21 gCP01; have CP10 := cellAfter b21 gCP10; have CP11 := cellAfter b21 gCP11; have Cx00 := cellAfter b21 gCx00; have Cx01 := cellAfter b21 gCx01; have Cx10 := cellAfter b21 gCx10; have Cx11 := cellAfter b21 gCx11; have Sw0 := Lib.hid (gSw0.after b21); have Sx0 := Lib.hid (gSx0.after b21); have Sx1 := Lib.hid (gSx1.after b21); have Sg0 := Lib.hid (gSg0.after b21); have T4 := Lib.hid (gT4.after b21); have T5 := Lib.hid (gT5.after b21); have Sh0 := Lib.hid (Seg.mk' (o21.mono gz)); clear gB gz gCP00 gCP01 gCP10 gCP11 gCx00 gCx01 gCx10 gCx11 gSw0 gSx0 gSx1 gSg0 gT4 gT5 b21 o21 X; have yCP00 : w.heap.size < w21.heap.size := World.block_lt_of_cell? _ _ CP00; have yCP10 : w.heap.size + 1 < w21.heap.size := World.block_lt_of_cell? _ _ CP10; have yCx00 : w6.heap.size < w21.heap.size := World.block_lt_of_cell? _ _ Cx00; have yCx10 : w7.heap.size < w21.heap.size := World.block_lt_of_cell? _ _ Cx10))
  clear T4
  clear T5
  go_wp2_with fail
  refine withWorld fun X hX => ?_
  have gB : Below w.heap.size w X := (by rw [hX]; repeat (first | (with_reducible exact HB.out) | (with_reducible refine bel_alloc ?_ _) | (with_reducible refine Below.drew ?_) | (with_reducible refine bel_drewN ?_ _)))
  have gz : w21.heap.size + 0 ≤ X.heap.size := (by rw [hX]; simp)
  have gCP00 : X.cell? ⟨w.heap.size, 0, none⟩ = some (.int .i64 n0) := (by rw [hX]; repeat (first | (with_reducible exact CP00) | (with_reducible refine cellAlloc _ ?_) | (with_reducible refine cellDrew ?_) | (with_reducible refine cellDrewN ?_)))
  have gCP01 : X.cell? ⟨w.heap.size, 1, none⟩ = some (.slice ad0 x0.length cap0) := (by rw [hX]; repeat (first | (with_reducible exact CP01) | (with_reducible refine cellAlloc _ ?_) | (with_reducible refine cellDrew ?_) | (with_reducible refine cellDrewN ?_)))
  have gCP10 : X.cell? ⟨w.heap.size + 1, 0, none⟩ = some (.int .i64 n1) := (by rw [hX]; repeat (first | (with_reducible exact CP10) | (with_reducible refine cellAlloc _ ?_) | (with_reducible refine cellDrew ?_) | (with_reducible refine cellDrewN ?_)))
  have gCP11 : X.cell? ⟨w.heap.size + 1, 1, none⟩ = some (.slice ad1 x1.length cap1) := (by rw [hX]; repeat (first | (with_reducible exact CP11) | (with_reducible refine cellAlloc _ ?_) | (with_reducible refine cellDrew ?_) | (with_reducible refine cellDrewN ?_)))
  have gCx00 : X.cell? ⟨w6.heap.size, 0, none⟩ = some (.int .i64 n0) := (by rw [hX]; repeat (first | (with_reducible exact Cx00) | (with_reducible refine cellAlloc _ ?_) | (with_reducible refine cellDrew ?_) | (with_reducible refine cellDrewN ?_)))
  have gCx01 : X.cell? ⟨w6.heap.size, 1, none⟩ = some (.slice ax6 x0.length kx6) := (by rw [hX]; repeat (first | (with_reducible exact Cx01) | (with_reducible refine cellAlloc _ ?_) | (with_reducible refine cellDrew ?_) | (with_reducible refine cellDrewN ?_)))
  have gCx10 : X.cell? ⟨w7.heap.size, 0, none⟩ = some (.int .i64 n1) := (by rw [hX]; repeat (first | (with_reducible exact Cx10) | (with_reducible refine cellAlloc _ ?_) | (with_reducible refine cellDrew ?_) | (with_reducible refine cellDrewN ?_)))
  have gCx11 : X.cell? ⟨w7.heap.size, 1, none⟩ = some (.slice ax7 x1.length kx7) := (by rw [hX]; repeat (first | (with_reducible exact Cx11) | (with_reducible refine cellAlloc _ ?_) | (with_reducible refine cellDrew ?_) | (with_reducible refine cellDrewN ?_)))
  have gSw0 : Seg X (w4.heap.size + 0) (w5.heap.size) (.slice ax5 (lstOverlapsOf n0 x0 n1 x1).length kx5) ((lstOverlapsOf n0 x0 n1 x1)) := (by rw [hX]; repeat (first | (with_reducible exact Sw0.out) | (with_reducible refine Seg.alloc ?_ _) | (with_reducible refine Seg.drew ?_) | (with_reducible refine Seg.drewN ?_ _)))
  have gSx0 : Seg X (w5.heap.size + 0) (w6.heap.size) (.slice ax6 x0.length kx6) (marks 1 x0.length) := (by rw [hX]; repeat (first | (with_reducible exact Sx0.out) | (with_reducible refine Seg.alloc ?_ _) | (with_reducible refine Seg.drew ?_) | (with_reducible refine Seg.drewN ?_ _)))
  have gSx1 : Seg X (w6.heap.size + 1) (w7.heap.size) (.slice ax7 x1.length kx7) (marks (1 + (x0.length : Int)) x1.length) := (by rw [hX]; repeat (first | (with_reducible exact Sx1.out) | (with_reducible refine Seg.alloc ?_ _) | (with_reducible refine Seg.drew ?_) | (with_reducible refine Seg.drewN ?_ _)))
  have gSg0 : Seg X (w7.heap.size + 1) (w8.heap.size) (.slice ax8 (lstOverlapsOf n0 x0 n1 x1).length kx8) (marks 1 (lstOverlapsOf n0 x0 n1 x1).length) := (by rw [hX]; repeat (first | (with_reducible exact Sg0.out) | (with_reducible refine Seg.alloc ?_ _) | (with_reducible refine Seg.drew ?_) | (with_reducible refine Seg.drewN ?_ _)))
  have gSh0 : Seg X (w20.heap.size + 0) (w21.heap.size) (.slice ax21 (lstOverlapsOf n0 x0 n1 x1).length kx21) ((lstOverlapsOf n0 x0 n1 x1)) := (by rw [hX]; repeat (first | (with_reducible exact Sh0.out) | (with_reducible refine Seg.alloc ?_ _) | (with_reducible refine Seg.drew ?_) | (with_reducible refine Seg.drewN ?_ _)))
  clear hX HB CP00 CP01 CP10 CP11 Cx00 Cx01 Cx10 Cx11 Sw0 Sx0 Sx1 Sg0 Sh0 yCP00 yCP10 yCx00 yCx10
  refine (lawEqIntS' _ _ (lstOverlapsOf n0 x0 n1 x1) (lstOverlapsOf n0 x0 n1 x1) _ gSh0.ints gSw0.ints).mono ?_
  rintro e w22 ⟨rfl, b22⟩
  have HB := Lib.hid (bel_step gB b22 gB.size)
  have z22 : w21.heap.size + 0 ≤ w22.heap.size := Nat.le_trans gz b22.size
  have CP00 := cellAfter b22 gCP00
  have CP01 := cellAfter b22 gCP01
  have CP10 := cellAfter b22 gCP10
  have CP11 := cellAfter b22 gCP11
  have Cx00 := cellAfter b22 gCx00
  have Cx01 := cellAfter b22 gCx01
  have Cx10 := cellAfter b22 gCx10
  have Cx11 := cellAfter b22 gCx11
  have Sw0 := Lib.hid (gSw0.after b22)
  have Sx0 := Lib.hid (gSx0.after b22)
  have Sx1 := Lib.hid (gSx1.after b22)
  have Sg0 := Lib.hid (gSg0.after b22)
  have Sh0 := Lib.hid (gSh0.after b22)
  clear gB gz gCP00 gCP01 gCP10 gCP11 gCx00 gCx01 gCx10 gCx11 gSw0 gSx0 gSx1 gSg0 gSh0 b22 X
  have yCP00 : w.heap.size < w22.heap.size := World.block_lt_of_cell? _ _ CP00
  have yCP10 : w.heap.size + 1 < w22.heap.size := World.block_lt_of_cell? _ _ CP10
  have yCx00 : w6.heap.size < w22.heap.size := World.block_lt_of_cell? _ _ Cx00
  have yCx10 : w7.heap.size < w22.heap.size := World.block_lt_of_cell? _ _ Cx10
  rw [eqL_self]
  go_wp2_with fail
  refine withWorld fun X hX => ?_
  have gB : Below w.heap.size w X := (by rw [hX]; repeat (first | (with_reducible exact HB.out) | (with_reducible refine bel_alloc ?_ _) | (with_reducible refine Below.drew ?_) | (with_reducible refine bel_drewN ?_ _)))
  have gz : w22.heap.size + 0 ≤ X.heap.size := (by rw [hX]; simp)
  have gCP00 : X.cell? ⟨w.heap.size, 0, none⟩ = some (.int .i64 n0) := (by rw [hX]; repeat (first | (with_reducible exact CP00) | (with_reducible refine cellAlloc _ ?_) | (with_reducible refine cellDrew ?_) | (with_reducible refine cellDrewN ?_)))
  have gCP01 : X.cell? ⟨w.heap.size, 1, none⟩ = some (.slice ad0 x0.length cap0) := (by rw [hX]; repeat (first | (with_reducible exact CP01) | (with_reducible refine cellAlloc _ ?_) | (with_reducible refine cellDrew ?_) | (with_reducible refine cellDrewN ?_)))
  have gCP10 : X.cell? ⟨w.heap.size + 1, 0, none⟩ = some (.int .i64 n1) := (by rw [hX]; repeat (first | (with_reducible exact CP10) | (with_reducible refine cellAlloc _ ?_) | (with_reducible refine cellDrew ?_) | (with_reducible refine cellDrewN ?_)))
  have gCP11 : X.cell? ⟨w.heap.size + 1, 1, none⟩ = some (.slice ad1 x1.length cap1) := (by rw [hX]; repeat (first | (with_reducible exact CP11) | (with_reducible refine cellAlloc _ ?_) | (with_reducible refine cellDrew ?_) | (with_reducible refine cellDrewN ?_)))
  have gCx00 : X.cell? ⟨w6.heap.size, 0, none⟩ = some (.int .i64 n0) := (by rw [hX]; repeat (first | (with_reducible exact Cx00) | (with_reducible refine cellAlloc _ ?_) | (with_reducible refine cellDrew ?_) | (with_reducible refine cellDrewN ?_)))
  have gCx01 : X.cell? ⟨w6.heap.size, 1, none⟩ = some (.slice ax6 x0.length kx6) := (by rw [hX]; repeat (first | (with_reducible exact Cx01) | (with_reducible refine cellAlloc _ ?_) | (with_reducible refine cellDrew ?_) | (with_reducible refine cellDrewN ?_)))
  have gCx10 : X.cell? ⟨w7.heap.size, 0, none⟩ = some (.int .i64 n1) := (by rw [hX]; repeat (first | (with_reducible exact Cx10) | (with_reducible refine cellAlloc _ ?_) | (with_reducible refine cellDrew ?_) | (with_reducible refine cellDrewN ?_)))
  have gCx11 : X.cell? ⟨w7.heap.size, 1, none⟩ = some (.slice ax7 x1.length kx7) := (by rw [hX]; repeat (first | (with_reducible exact Cx11) | (with_reducible refine cellAlloc _ ?_) | (with_reducible refine cellDrew ?_) | (with_reducible refine cellDrewN ?_)))
  have gSw0 : Seg X (w4.heap.size + 0) (w5.heap.size) (.slice ax5 (lstOverlapsOf n0 x0 n1 x1).length kx5) ((lstOverlapsOf n0 x0 n1 x1)) := (by rw [hX]; repeat (first | (with_reducible exact Sw0.out) | (with_reducible refine Seg.alloc ?_ _) | (with_reducible refine Seg.drew ?_) | (with_reducible refine Seg.drewN ?_ _)))
  have gSx0 : Seg X (w5.heap.size + 0) (w6.heap.size) (.slice ax6 x0.length kx6) (marks 1 x0.length) := (by rw [hX]; repeat (first | (with_reducible exact Sx0.out) | (with_reducible refine Seg.alloc ?_ _) | (with_reducible refine Seg.drew ?_) | (with_reducible refine Seg.drewN ?_ _)))
  have gSx1 : Seg X (w6.heap.size + 1) (w7.heap.size) (.slice ax7 x1.length kx7) (marks (1 + (x0.length : Int)) x1.length) := (by rw [hX]; repeat (first | (with_reducible exact Sx1.out) | (with_reducible refine Seg.alloc ?_ _) | (with_reducible refine Seg.drew ?_) | (with_reducible refine Seg.drewN ?_ _)))
  have gSg0 : Seg X (w7.heap.size + 1) (w8.heap.size) (.slice ax8 (lstOverlapsOf n0 x0 n1 x1).length kx8) (marks 1 (lstOverlapsOf n0 x0 n1 x1).length) := (by rw [hX]; repeat (first | (with_reducible exact Sg0.out) | (with_reducible refine Seg.alloc ?_ _) | (with_reducible refine Seg.drew ?_) | (with_reducible refine Seg.drewN ?_ _)))
  have gSh0 : Seg X (w20.heap.size + 0) (w21.heap.size) (.slice ax21 (lstOverlapsOf n0 x0 n1 x1).length kx21) ((lstOverlapsOf n0 x0 n1 x1)) := (by rw [hX]; repeat (first | (with_reducible exact Sh0.out) | (with_reducible refine Seg.alloc ?_ _) | (with_reducible refine Seg.drew ?_) | (with_reducible refine Seg.drewN ?_ _)))
  clear hX HB CP00 CP01 CP10 CP11 Cx00 Cx01 Cx10 Cx11 Sw0 Sx0 Sx1 Sg0 Sh0 yCP00 yCP10 yCx00 yCx10
  refine (lawHeldIntS' _ (marks 1 (lstOverlapsOf n0 x0 n1 x1).length) _ _ (by rw [marks_len]; have := lenOverlapsOf n0 x0 n1 x1; omega) (by omega) (by omega) gSg0.ints).mono ?_
  rintro e w23 ⟨rfl, b23⟩
  have HB := Lib.hid (bel_step gB b23 gB.size)
  have z23 : w22.heap.size + 0 ≤ w23.heap.size := Nat.le_trans gz b23.size
  have CP00 := cellAfter b23 gCP00
  have CP01 := cellAfter b23 gCP01
  have CP10 := cellAfter b23 gCP10
  have CP11 := cellAfter b23 gCP11
  have Cx00 := cellAfter b23 gCx00
  have Cx01 := cellAfter b23 gCx01
  have Cx10 := cellAfter b23 gCx10
  have Cx11 := cellAfter b23 gCx11
  have Sw0 := Lib.hid (gSw0.after b23)
  have Sx0 := Lib.hid (gSx0.after b23)
  have Sx1 := Lib.hid (gSx1.after b23)
  have Sg0 := Lib.hid (gSg0.after b23)
  have Sh0 := Lib.hid (gSh0.after b23)
  clear gB gz gCP00 gCP01 gCP10 gCP11 gCx00 gCx01 gCx10 gCx11 gSw0 gSx0 gSx1 gSg0 gSh0 b23 X
  have yCP00 : w.heap.size < w23.heap.size := World.block_lt_of_cell? _ _ CP00
  have yCP10 : w.heap.size + 1 < w23.heap.size := World.block_lt_of_cell? _ _ CP10
  have yCx00 : w6.heap.size < w23.heap.size := World.block_lt_of_cell? _ _ Cx00
  have yCx10 : w7.heap.size < w23.heap.size := World.block_lt_of_cell? _ _ Cx10
  rw [heldOf_marks]
  go_wp2
  go_ret
  exact ⟨rfl, by repeat (first | (with_reducible exact HB.out) | refine bel_alloc ?_ _ | refine Below.drew ?_ | refine bel_drewN ?_ _ | exact Below.refl _ _)⟩
end Go.Proofs.Ytopfenhphnmfkaa.fnExactOverlapsOf
