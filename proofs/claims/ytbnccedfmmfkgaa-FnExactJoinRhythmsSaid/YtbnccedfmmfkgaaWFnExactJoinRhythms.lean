/-
  The walk of FnExactJoinRhythms: it returns true and writes nothing that was there.
  Conditions: the arguments lie in memory as the statement's reading says.
-/
import Derived.Test.YtbnccedfmmfkgaaN17
import Derived.Test.YtbnccedfmmfkgaaC3
import Derived.Test.YtbnccedfmmfkgaaB0
set_option linter.unusedVariables false
set_option linter.unusedSimpArgs false
namespace Go.Proofs.Ytbnccedfmmfkgaa.fnExactJoinRhythms
open Go.RowKit
set_option linter.unusedVariables false

set_option maxRecDepth 20000 in
set_option maxHeartbeats 16000000 in
theorem walk (w : World) (n0 : Int) (v0 : Value) (x0 : List Int) (c0 : I64 n0) (h0 : Ints w w.heap.size v0 x0) (b0 : ∀ n ∈ x0, I64 n) (n1 : Int) (v1 : Value) (x1 : List Int) (c1 : I64 n1) (h1 : Ints w w.heap.size v1 x1) (b1 : ∀ n ∈ x1, I64 n) :
    Calls Try.prog 7 #[.agg #[.int .i64 n0, v0], .agg #[.int .i64 n1, v1]] w fun e w' => e = .returned (.bool true) ∧ Below w.heap.size w w' := by
  have h0' := h0
  obtain ⟨ad0, cap0, hv0, -⟩ := h0'
  subst hv0
  have h1' := h1
  obtain ⟨ad1, cap1, hv1, -⟩ := h1'
  subst hv1
  go_enter Try.func7, Try.ntmps7
  go_wp2_with fail
  refine withWorld fun X hX => ?_
  have gB : Below w.heap.size w X := (by rw [hX]; repeat (first | (with_reducible exact (Below.refl _ _)) | (with_reducible refine bel_alloc ?_ _) | (with_reducible refine Below.drew ?_) | (with_reducible refine bel_drewN ?_ _)))
  have gz : w.heap.size + 2 ≤ X.heap.size := (by rw [hX]; simp)
  have gCP00 : X.cell? ⟨w.heap.size, 0, none⟩ = some (.int .i64 n0) := (by rw [hX]; (repeat (first | (with_reducible refine cellDrew ?_) | (with_reducible refine cellDrewN ?_))); refine cellAlloc _ ?_; exact cellNewAt _ _ _ _ (by simp) rfl)
  have gCP01 : X.cell? ⟨w.heap.size, 1, none⟩ = some (.slice ad0 x0.length cap0) := (by rw [hX]; (repeat (first | (with_reducible refine cellDrew ?_) | (with_reducible refine cellDrewN ?_))); refine cellAlloc _ ?_; exact cellNewAt _ _ _ _ (by simp) rfl)
  have gCP10 : X.cell? ⟨w.heap.size + 1, 0, none⟩ = some (.int .i64 n1) := (by rw [hX]; (repeat (first | (with_reducible refine cellDrew ?_) | (with_reducible refine cellDrewN ?_))); exact cellNewAt _ _ _ _ (by simp) rfl)
  have gCP11 : X.cell? ⟨w.heap.size + 1, 1, none⟩ = some (.slice ad1 x1.length cap1) := (by rw [hX]; (repeat (first | (with_reducible refine cellDrew ?_) | (with_reducible refine cellDrewN ?_))); exact cellNewAt _ _ _ _ (by simp) rfl)
  clear hX 
  refine (lawSzRhythm' _ _ x0 _ _ (by omega) (by omega) (Ints.ofBelow h0 gB)).mono ?_
  rintro e w1 ⟨rfl, b1⟩
  have HB := Lib.hid (bel_step gB b1 gB.size)
  have z1 : w.heap.size + 2 ≤ w1.heap.size := Nat.le_trans gz b1.size
  have CP00 := cellAfter b1 gCP00
  have CP01 := cellAfter b1 gCP01
  have CP10 := cellAfter b1 gCP10
  have CP11 := cellAfter b1 gCP11
  clear gB gz gCP00 gCP01 gCP10 gCP11  b1 X
  have yCP00 : w.heap.size < w1.heap.size := World.block_lt_of_cell? _ _ CP00
  have yCP10 : w.heap.size + 1 < w1.heap.size := World.block_lt_of_cell? _ _ CP10
  rcases szOf_lt (left := 1048576) (xs := x0) with s0 | s0
  · go_wp2
    go_ret
    exact ⟨rfl, by repeat (first | (with_reducible exact HB.out) | refine bel_alloc ?_ _ | refine Below.drew ?_ | refine bel_drewN ?_ _ | exact Below.refl _ _)⟩
  have l0 := szOf_len s0
  have m0 : (szOf 1048576 x0) ≤ 1048576 := szOf_le (by omega) (by omega)
  go_wp2_with fail
  refine withWorld fun X hX => ?_
  have gB : Below w.heap.size w X := (by rw [hX]; repeat (first | (with_reducible exact HB.out) | (with_reducible refine bel_alloc ?_ _) | (with_reducible refine Below.drew ?_) | (with_reducible refine bel_drewN ?_ _)))
  have gz : w1.heap.size + 0 ≤ X.heap.size := (by rw [hX]; simp)
  have gCP00 : X.cell? ⟨w.heap.size, 0, none⟩ = some (.int .i64 n0) := (by rw [hX]; repeat (first | (with_reducible exact CP00) | (with_reducible refine cellAlloc _ ?_) | (with_reducible refine cellDrew ?_) | (with_reducible refine cellDrewN ?_)))
  have gCP01 : X.cell? ⟨w.heap.size, 1, none⟩ = some (.slice ad0 x0.length cap0) := (by rw [hX]; repeat (first | (with_reducible exact CP01) | (with_reducible refine cellAlloc _ ?_) | (with_reducible refine cellDrew ?_) | (with_reducible refine cellDrewN ?_)))
  have gCP10 : X.cell? ⟨w.heap.size + 1, 0, none⟩ = some (.int .i64 n1) := (by rw [hX]; repeat (first | (with_reducible exact CP10) | (with_reducible refine cellAlloc _ ?_) | (with_reducible refine cellDrew ?_) | (with_reducible refine cellDrewN ?_)))
  have gCP11 : X.cell? ⟨w.heap.size + 1, 1, none⟩ = some (.slice ad1 x1.length cap1) := (by rw [hX]; repeat (first | (with_reducible exact CP11) | (with_reducible refine cellAlloc _ ?_) | (with_reducible refine cellDrew ?_) | (with_reducible refine cellDrewN ?_)))
  clear hX HB CP00 CP01 CP10 CP11 yCP00 yCP10
  refine (lawSzRhythm' _ _ x1 _ _ (by omega) (by omega) (Ints.ofBelow h1 gB)).mono ?_
  rintro e w2 ⟨rfl, b2⟩
  have HB := Lib.hid (bel_step gB b2 gB.size)
  have z2 : w1.heap.size + 0 ≤ w2.heap.size := Nat.le_trans gz b2.size
  have CP00 := cellAfter b2 gCP00
  have CP01 := cellAfter b2 gCP01
  have CP10 := cellAfter b2 gCP10
  have CP11 := cellAfter b2 gCP11
  clear gB gz gCP00 gCP01 gCP10 gCP11  b2 X
  have yCP00 : w.heap.size < w2.heap.size := World.block_lt_of_cell? _ _ CP00
  have yCP10 : w.heap.size + 1 < w2.heap.size := World.block_lt_of_cell? _ _ CP10
  rcases szOf_lt (left := (szOf 1048576 x0)) (xs := x1) with s1 | s1
  · go_wp2
    go_ret
    exact ⟨rfl, by repeat (first | (with_reducible exact HB.out) | refine bel_alloc ?_ _ | refine Below.drew ?_ | refine bel_drewN ?_ _ | exact Below.refl _ _)⟩
  have l1 := szOf_len s1
  have m1 : (szOf (szOf 1048576 x0) x1) ≤ 1048576 := szOf_le (by omega) (by omega)
  go_wp2_with fail
  refine withWorldC fun Y0c hY => ?_
  have gB : Below w.heap.size w Y0c := (by rw [hY]; repeat (first | (with_reducible exact HB.out) | (with_reducible refine bel_alloc ?_ _) | (with_reducible refine Below.drew ?_) | (with_reducible refine bel_drewN ?_ _)))
  have gz : w2.heap.size + 0 ≤ Y0c.heap.size := (by rw [hY]; simp)
  have gCP00 : Y0c.cell? ⟨w.heap.size, 0, none⟩ = some (.int .i64 n0) := (by rw [hY]; repeat (first | (with_reducible exact CP00) | (with_reducible refine cellAlloc _ ?_) | (with_reducible refine cellDrew ?_) | (with_reducible refine cellDrewN ?_)))
  have gCP01 : Y0c.cell? ⟨w.heap.size, 1, none⟩ = some (.slice ad0 x0.length cap0) := (by rw [hY]; repeat (first | (with_reducible exact CP01) | (with_reducible refine cellAlloc _ ?_) | (with_reducible refine cellDrew ?_) | (with_reducible refine cellDrewN ?_)))
  have gCP10 : Y0c.cell? ⟨w.heap.size + 1, 0, none⟩ = some (.int .i64 n1) := (by rw [hY]; repeat (first | (with_reducible exact CP10) | (with_reducible refine cellAlloc _ ?_) | (with_reducible refine cellDrew ?_) | (with_reducible refine cellDrewN ?_)))
  have gCP11 : Y0c.cell? ⟨w.heap.size + 1, 1, none⟩ = some (.slice ad1 x1.length cap1) := (by rw [hY]; repeat (first | (with_reducible exact CP11) | (with_reducible refine cellAlloc _ ?_) | (with_reducible refine cellDrew ?_) | (with_reducible refine cellDrewN ?_)))
  clear hY HB CP00 CP01 CP10 CP11 yCP00 yCP10
  have CP00 := gCP00
  have CP01 := gCP01
  have CP10 := gCP10
  have CP11 := gCP11
  have HB := Lib.hid gB
  have zY2c := gz
  clear gB gz gCP00 gCP01 gCP10 gCP11 
  have yCP00 : w.heap.size < Y0c.heap.size := World.block_lt_of_cell? _ _ CP00
  have yCP10 : w.heap.size + 1 < Y0c.heap.size := World.block_lt_of_cell? _ _ CP10
  go_cut [6, 7] (fun v6 v7 wx => ∃ (p : Nat) (ax : Option Addr) (kx : Nat), v6 = .pointer (some ⟨p, 0, none⟩) ∧ v7 = .bool (okJoinRhythms n0 x0 n1 x1) ∧ Laid Y0c p ax kx (numJoinRhythms n0 x0 n1 x1) (lstJoinRhythms n0 x0 n1 x1) wx)
  case first =>
    go_region_law (first | (go_simp; go_at_call_of 17 (Value.slice ad0 x0.length cap0); refine withWorld fun X hX => ?_; have gYA : Below Y0c.heap.size Y0c X := (by rw [hX]; repeat (first | (with_reducible exact Below.refl _ _) | (with_reducible exact Below.refl _ _) | (with_reducible refine bel_alloc ?_ _) | (with_reducible refine Below.drew ?_) | (with_reducible refine bel_drewN ?_ _))); (first | (have bxX : Bx X Y0c.heap.size (.int .i64 0) (.slice none 0 0) 27 := by rw [hX]; exact Bx.new _ _ _ _) | skip); clear hX; refine (lawToRhythm _ _ x0 _ (by omega) (Ints.ofBelow h0 (HB.out.trans (gYA.mono HB.out.size)))).mono ?_; rintro e wA ⟨axA, kxA, rfl, oA, bA⟩; have BA : Below Y0c.heap.size Y0c wA := bel_step gYA bA gYA.size; (try (have bxA := bxX.below bA bxX.lt)); have CP00A := cellAfter BA CP00; have yCP00A : w.heap.size < wA.heap.size := World.block_lt_of_cell? _ _ CP00A; have CP01A := cellAfter BA CP01; have CP10A := cellAfter BA CP10; have yCP10A : w.heap.size + 1 < wA.heap.size := World.block_lt_of_cell? _ _ CP10A; have CP11A := cellAfter BA CP11) | (go_simp; go_at_call_of 17 (Value.slice ad1 x1.length cap1); refine withWorld fun X hX => ?_; have gYB : Below Y0c.heap.size Y0c X := (by rw [hX]; repeat (first | (with_reducible exact BA) | (with_reducible exact Below.refl _ _) | (with_reducible refine bel_alloc ?_ _) | (with_reducible refine Below.drew ?_) | (with_reducible refine bel_drewN ?_ _))); have gA : Below wA.heap.size wA X := (by rw [hX]; repeat (first | (with_reducible exact Below.refl _ _) | (with_reducible exact Below.refl _ _) | (with_reducible refine bel_alloc ?_ _) | (with_reducible refine Below.drew ?_) | (with_reducible refine bel_drewN ?_ _))); have oA2 := oA.below gA; (first | (have bxX : Bx X wA.heap.size (.int .i64 0) (.slice none 0 0) 27 := by rw [hX]; exact Bx.new _ _ _ _) | (have bxX : Bx X Y0c.heap.size (.int .i64 0) (.slice none 0 0) 27 := by rw [hX]; exact bxA) | skip); clear hX; refine (lawToRhythm _ _ x1 _ (by omega) (Ints.ofBelow h1 (HB.out.trans (gYB.mono HB.out.size)))).mono ?_; rintro e wB ⟨axB, kxB, rfl, oB, bB⟩; have BB : Below Y0c.heap.size Y0c wB := bel_step gYB bB gYB.size; have oA3 := oA2.below bB; (try (have bxB := bxX.below bB bxX.lt)); have CP00B := cellAfter BB CP00; have yCP00B : w.heap.size < wB.heap.size := World.block_lt_of_cell? _ _ CP00B; have CP01B := cellAfter BB CP01; have CP10B := cellAfter BB CP10; have yCP10B : w.heap.size + 1 < wB.heap.size := World.block_lt_of_cell? _ _ CP10B; have CP11B := cellAfter BB CP11) | (go_simp; go_at_call 28; refine withWorld fun X hX => ?_; have gYC : Below Y0c.heap.size Y0c X := (by rw [hX]; repeat (first | (with_reducible exact BB) | (with_reducible exact Below.refl _ _) | (with_reducible refine bel_alloc ?_ _) | (with_reducible refine Below.drew ?_) | (with_reducible refine bel_drewN ?_ _))); have gB3 : Below wB.heap.size wB X := (by rw [hX]; repeat (first | (with_reducible exact Below.refl _ _) | (with_reducible exact Below.refl _ _) | (with_reducible refine bel_alloc ?_ _) | (with_reducible refine Below.drew ?_) | (with_reducible refine bel_drewN ?_ _))); (first | (have bxC : Bx X wB.heap.size (.int .i64 0) (.slice none 0 0) 27 := by rw [hX]; exact Bx.new _ _ _ _) | (have bxC : Bx X wA.heap.size (.int .i64 0) (.slice none 0 0) 27 := by rw [hX]; exact bxB) | (have bxC : Bx X Y0c.heap.size (.int .i64 0) (.slice none 0 0) 27 := by rw [hX]; exact bxB) | skip); clear hX; refine (specJoinRhythmsC _ _ x0 c0 _ _ x1 c1 _ (Ints.ofBelow oA3.ints gB3) (Ints.ofBelow oB.ints gB3)).mono ?_; rintro e wC ⟨axC, kxC, rfl, oC, bC⟩; (try (have bxD := bxC.below bC bxC.lt; have p0 := bxD.c0; have p1 := bxD.c1; have f0 := bxD.f 0; have f1 := bxD.f 1))))
    all_goals
      go_wp2_with fail
      go_meet
      case rel => first | exact ⟨_, axC, kxC, rfl, rfl, Laid.before bxC gYC (by first | exact Nat.le_refl _ | exact BA.size | exact BB.size) oC bC _⟩ | exact ⟨_, axC, kxC, rfl, rfl, Laid.behind gYC oC bC _⟩
  rename World => w0c
  obtain ⟨pw0, axw0, kxw0, rfl, rfl, hbx, hpl0, hph0, hown, hbl⟩ := hcut
  have HB := Lib.hid (bel_step HB.out hbl HB.out.size)
  have z0c : Y0c.heap.size + 0 ≤ w0c.heap.size := hbl.size
  have CP00 := cellAfter hbl CP00
  have CP01 := cellAfter hbl CP01
  have CP10 := cellAfter hbl CP10
  have CP11 := cellAfter hbl CP11
  have Sw0 := Lib.hid (Seg.mk' hown)
  have Cw00 := hbx.c0
  have Cw01 := hbx.c1
  clear hbx hown hbl
  have yCP00 : w.heap.size < w0c.heap.size := World.block_lt_of_cell? _ _ CP00
  have yCP10 : w.heap.size + 1 < w0c.heap.size := World.block_lt_of_cell? _ _ CP10
  have yCw00 : pw0 < w0c.heap.size := World.block_lt_of_cell? _ _ Cw00
  go_wp2_with fail
  refine withWorld fun X hX => ?_
  have gB : Below w.heap.size w X := (by rw [hX]; repeat (first | (with_reducible exact HB.out) | (with_reducible refine bel_alloc ?_ _) | (with_reducible refine Below.drew ?_) | (with_reducible refine bel_drewN ?_ _)))
  have gz : w0c.heap.size + 0 ≤ X.heap.size := (by rw [hX]; simp)
  have gCP00 : X.cell? ⟨w.heap.size, 0, none⟩ = some (.int .i64 n0) := (by rw [hX]; repeat (first | (with_reducible exact CP00) | (with_reducible refine cellAlloc _ ?_) | (with_reducible refine cellDrew ?_) | (with_reducible refine cellDrewN ?_)))
  have gCP01 : X.cell? ⟨w.heap.size, 1, none⟩ = some (.slice ad0 x0.length cap0) := (by rw [hX]; repeat (first | (with_reducible exact CP01) | (with_reducible refine cellAlloc _ ?_) | (with_reducible refine cellDrew ?_) | (with_reducible refine cellDrewN ?_)))
  have gCP10 : X.cell? ⟨w.heap.size + 1, 0, none⟩ = some (.int .i64 n1) := (by rw [hX]; repeat (first | (with_reducible exact CP10) | (with_reducible refine cellAlloc _ ?_) | (with_reducible refine cellDrew ?_) | (with_reducible refine cellDrewN ?_)))
  have gCP11 : X.cell? ⟨w.heap.size + 1, 1, none⟩ = some (.slice ad1 x1.length cap1) := (by rw [hX]; repeat (first | (with_reducible exact CP11) | (with_reducible refine cellAlloc _ ?_) | (with_reducible refine cellDrew ?_) | (with_reducible refine cellDrewN ?_)))
  have gCw00 : X.cell? ⟨pw0, 0, none⟩ = some (.int .i64 (numJoinRhythms n0 x0 n1 x1)) := (by rw [hX]; repeat (first | (with_reducible exact Cw00) | (with_reducible refine cellAlloc _ ?_) | (with_reducible refine cellDrew ?_) | (with_reducible refine cellDrewN ?_)))
  have gCw01 : X.cell? ⟨pw0, 1, none⟩ = some (.slice axw0 (lstJoinRhythms n0 x0 n1 x1).length kxw0) := (by rw [hX]; repeat (first | (with_reducible exact Cw01) | (with_reducible refine cellAlloc _ ?_) | (with_reducible refine cellDrew ?_) | (with_reducible refine cellDrewN ?_)))
  have gSw0 : Seg X (Y0c.heap.size) (w0c.heap.size) (.slice axw0 (lstJoinRhythms n0 x0 n1 x1).length kxw0) ((lstJoinRhythms n0 x0 n1 x1)) := (by rw [hX]; repeat (first | (with_reducible exact Sw0.out) | (with_reducible refine Seg.alloc ?_ _) | (with_reducible refine Seg.drew ?_) | (with_reducible refine Seg.drewN ?_ _)))
  clear hX HB CP00 CP01 CP10 CP11 Cw00 Cw01 Sw0 yCP00 yCP10 yCw00
  refine (lawToRhythm _ _ x0 _ (by omega) (Ints.ofBelow h0 gB)).mono ?_
  rintro e w3 ⟨ax3, kx3, rfl, o3, b3⟩
  have HB := Lib.hid (bel_step gB b3 gB.size)
  have z3 : w0c.heap.size + 0 ≤ w3.heap.size := Nat.le_trans gz b3.size
  have CP00 := cellAfter b3 gCP00
  have CP01 := cellAfter b3 gCP01
  have CP10 := cellAfter b3 gCP10
  have CP11 := cellAfter b3 gCP11
  have Cw00 := cellAfter b3 gCw00
  have Cw01 := cellAfter b3 gCw01
  have Sw0 := Lib.hid (gSw0.after b3)
  have Sx0 := Lib.hid (Seg.mk' (o3.mono gz))
  clear gB gz gCP00 gCP01 gCP10 gCP11 gCw00 gCw01 gSw0 b3 o3 X
  have yCP00 : w.heap.size < w3.heap.size := World.block_lt_of_cell? _ _ CP00
  have yCP10 : w.heap.size + 1 < w3.heap.size := World.block_lt_of_cell? _ _ CP10
  have yCw00 : pw0 < w3.heap.size := World.block_lt_of_cell? _ _ Cw00
  go_wp2_with fail
  refine withWorld fun X hX => ?_
  have gB : Below w.heap.size w X := (by rw [hX]; repeat (first | (with_reducible exact HB.out) | (with_reducible refine bel_alloc ?_ _) | (with_reducible refine Below.drew ?_) | (with_reducible refine bel_drewN ?_ _)))
  have gz : w3.heap.size + 1 ≤ X.heap.size := (by rw [hX]; simp)
  have gCP00 : X.cell? ⟨w.heap.size, 0, none⟩ = some (.int .i64 n0) := (by rw [hX]; repeat (first | (with_reducible exact CP00) | (with_reducible refine cellAlloc _ ?_) | (with_reducible refine cellDrew ?_) | (with_reducible refine cellDrewN ?_)))
  have gCP01 : X.cell? ⟨w.heap.size, 1, none⟩ = some (.slice ad0 x0.length cap0) := (by rw [hX]; repeat (first | (with_reducible exact CP01) | (with_reducible refine cellAlloc _ ?_) | (with_reducible refine cellDrew ?_) | (with_reducible refine cellDrewN ?_)))
  have gCP10 : X.cell? ⟨w.heap.size + 1, 0, none⟩ = some (.int .i64 n1) := (by rw [hX]; repeat (first | (with_reducible exact CP10) | (with_reducible refine cellAlloc _ ?_) | (with_reducible refine cellDrew ?_) | (with_reducible refine cellDrewN ?_)))
  have gCP11 : X.cell? ⟨w.heap.size + 1, 1, none⟩ = some (.slice ad1 x1.length cap1) := (by rw [hX]; repeat (first | (with_reducible exact CP11) | (with_reducible refine cellAlloc _ ?_) | (with_reducible refine cellDrew ?_) | (with_reducible refine cellDrewN ?_)))
  have gCw00 : X.cell? ⟨pw0, 0, none⟩ = some (.int .i64 (numJoinRhythms n0 x0 n1 x1)) := (by rw [hX]; repeat (first | (with_reducible exact Cw00) | (with_reducible refine cellAlloc _ ?_) | (with_reducible refine cellDrew ?_) | (with_reducible refine cellDrewN ?_)))
  have gCw01 : X.cell? ⟨pw0, 1, none⟩ = some (.slice axw0 (lstJoinRhythms n0 x0 n1 x1).length kxw0) := (by rw [hX]; repeat (first | (with_reducible exact Cw01) | (with_reducible refine cellAlloc _ ?_) | (with_reducible refine cellDrew ?_) | (with_reducible refine cellDrewN ?_)))
  have gCx00 : X.cell? ⟨w3.heap.size, 0, none⟩ = some (.int .i64 n0) := (by rw [hX]; (repeat (first | (with_reducible refine cellDrew ?_) | (with_reducible refine cellDrewN ?_))); exact cellNewAt _ _ _ _ (by simp) rfl)
  have gCx01 : X.cell? ⟨w3.heap.size, 1, none⟩ = some (.slice ax3 x0.length kx3) := (by rw [hX]; (repeat (first | (with_reducible refine cellDrew ?_) | (with_reducible refine cellDrewN ?_))); exact cellNewAt _ _ _ _ (by simp) rfl)
  have gSw0 : Seg X (Y0c.heap.size) (w0c.heap.size) (.slice axw0 (lstJoinRhythms n0 x0 n1 x1).length kxw0) ((lstJoinRhythms n0 x0 n1 x1)) := (by rw [hX]; repeat (first | (with_reducible exact Sw0.out) | (with_reducible refine Seg.alloc ?_ _) | (with_reducible refine Seg.drew ?_) | (with_reducible refine Seg.drewN ?_ _)))
  have gSx0 : Seg X (w0c.heap.size + 0) (w3.heap.size) (.slice ax3 x0.length kx3) (x0) := (by rw [hX]; repeat (first | (with_reducible exact Sx0.out) | (with_reducible refine Seg.alloc ?_ _) | (with_reducible refine Seg.drew ?_) | (with_reducible refine Seg.drewN ?_ _)))
  clear hX HB CP00 CP01 CP10 CP11 Cw00 Cw01 Sw0 Sx0 yCP00 yCP10 yCw00
  refine (lawToRhythm _ _ x1 _ (by omega) (Ints.ofBelow h1 gB)).mono ?_
  rintro e w4 ⟨ax4, kx4, rfl, o4, b4⟩
  have HB := Lib.hid (bel_step gB b4 gB.size)
  have z4 : w3.heap.size + 1 ≤ w4.heap.size := Nat.le_trans gz b4.size
  have CP00 := cellAfter b4 gCP00
  have CP01 := cellAfter b4 gCP01
  have CP10 := cellAfter b4 gCP10
  have CP11 := cellAfter b4 gCP11
  have Cw00 := cellAfter b4 gCw00
  have Cw01 := cellAfter b4 gCw01
  have Cx00 := cellAfter b4 gCx00
  have Cx01 := cellAfter b4 gCx01
  have Sw0 := Lib.hid (gSw0.after b4)
  have Sx0 := Lib.hid (gSx0.after b4)
  have Sx1 := Lib.hid (Seg.mk' (o4.mono gz))
  clear gB gz gCP00 gCP01 gCP10 gCP11 gCw00 gCw01 gCx00 gCx01 gSw0 gSx0 b4 o4 X
  have yCP00 : w.heap.size < w4.heap.size := World.block_lt_of_cell? _ _ CP00
  have yCP10 : w.heap.size + 1 < w4.heap.size := World.block_lt_of_cell? _ _ CP10
  have yCw00 : pw0 < w4.heap.size := World.block_lt_of_cell? _ _ Cw00
  have yCx00 : w3.heap.size < w4.heap.size := World.block_lt_of_cell? _ _ Cx00
  go_wp2_with fail
  refine withWorld fun X hX => ?_
  have gB : Below w.heap.size w X := (by rw [hX]; repeat (first | (with_reducible exact HB.out) | (with_reducible refine bel_alloc ?_ _) | (with_reducible refine Below.drew ?_) | (with_reducible refine bel_drewN ?_ _)))
  have gz : w4.heap.size + 1 ≤ X.heap.size := (by rw [hX]; simp)
  have gCP00 : X.cell? ⟨w.heap.size, 0, none⟩ = some (.int .i64 n0) := (by rw [hX]; repeat (first | (with_reducible exact CP00) | (with_reducible refine cellAlloc _ ?_) | (with_reducible refine cellDrew ?_) | (with_reducible refine cellDrewN ?_)))
  have gCP01 : X.cell? ⟨w.heap.size, 1, none⟩ = some (.slice ad0 x0.length cap0) := (by rw [hX]; repeat (first | (with_reducible exact CP01) | (with_reducible refine cellAlloc _ ?_) | (with_reducible refine cellDrew ?_) | (with_reducible refine cellDrewN ?_)))
  have gCP10 : X.cell? ⟨w.heap.size + 1, 0, none⟩ = some (.int .i64 n1) := (by rw [hX]; repeat (first | (with_reducible exact CP10) | (with_reducible refine cellAlloc _ ?_) | (with_reducible refine cellDrew ?_) | (with_reducible refine cellDrewN ?_)))
  have gCP11 : X.cell? ⟨w.heap.size + 1, 1, none⟩ = some (.slice ad1 x1.length cap1) := (by rw [hX]; repeat (first | (with_reducible exact CP11) | (with_reducible refine cellAlloc _ ?_) | (with_reducible refine cellDrew ?_) | (with_reducible refine cellDrewN ?_)))
  have gCw00 : X.cell? ⟨pw0, 0, none⟩ = some (.int .i64 (numJoinRhythms n0 x0 n1 x1)) := (by rw [hX]; repeat (first | (with_reducible exact Cw00) | (with_reducible refine cellAlloc _ ?_) | (with_reducible refine cellDrew ?_) | (with_reducible refine cellDrewN ?_)))
  have gCw01 : X.cell? ⟨pw0, 1, none⟩ = some (.slice axw0 (lstJoinRhythms n0 x0 n1 x1).length kxw0) := (by rw [hX]; repeat (first | (with_reducible exact Cw01) | (with_reducible refine cellAlloc _ ?_) | (with_reducible refine cellDrew ?_) | (with_reducible refine cellDrewN ?_)))
  have gCx00 : X.cell? ⟨w3.heap.size, 0, none⟩ = some (.int .i64 n0) := (by rw [hX]; repeat (first | (with_reducible exact Cx00) | (with_reducible refine cellAlloc _ ?_) | (with_reducible refine cellDrew ?_) | (with_reducible refine cellDrewN ?_)))
  have gCx01 : X.cell? ⟨w3.heap.size, 1, none⟩ = some (.slice ax3 x0.length kx3) := (by rw [hX]; repeat (first | (with_reducible exact Cx01) | (with_reducible refine cellAlloc _ ?_) | (with_reducible refine cellDrew ?_) | (with_reducible refine cellDrewN ?_)))
  have gCx10 : X.cell? ⟨w4.heap.size, 0, none⟩ = some (.int .i64 n1) := (by rw [hX]; (repeat (first | (with_reducible refine cellDrew ?_) | (with_reducible refine cellDrewN ?_))); exact cellNewAt _ _ _ _ (by simp) rfl)
  have gCx11 : X.cell? ⟨w4.heap.size, 1, none⟩ = some (.slice ax4 x1.length kx4) := (by rw [hX]; (repeat (first | (with_reducible refine cellDrew ?_) | (with_reducible refine cellDrewN ?_))); exact cellNewAt _ _ _ _ (by simp) rfl)
  have gSw0 : Seg X (Y0c.heap.size) (w0c.heap.size) (.slice axw0 (lstJoinRhythms n0 x0 n1 x1).length kxw0) ((lstJoinRhythms n0 x0 n1 x1)) := (by rw [hX]; repeat (first | (with_reducible exact Sw0.out) | (with_reducible refine Seg.alloc ?_ _) | (with_reducible refine Seg.drew ?_) | (with_reducible refine Seg.drewN ?_ _)))
  have gSx0 : Seg X (w0c.heap.size + 0) (w3.heap.size) (.slice ax3 x0.length kx3) (x0) := (by rw [hX]; repeat (first | (with_reducible exact Sx0.out) | (with_reducible refine Seg.alloc ?_ _) | (with_reducible refine Seg.drew ?_) | (with_reducible refine Seg.drewN ?_ _)))
  have gSx1 : Seg X (w3.heap.size + 1) (w4.heap.size) (.slice ax4 x1.length kx4) (x1) := (by rw [hX]; repeat (first | (with_reducible exact Sx1.out) | (with_reducible refine Seg.alloc ?_ _) | (with_reducible refine Seg.drew ?_) | (with_reducible refine Seg.drewN ?_ _)))
  clear hX HB CP00 CP01 CP10 CP11 Cw00 Cw01 Cx00 Cx01 Sw0 Sx0 Sx1 yCP00 yCP10 yCw00 yCx00
  refine (implJoinRhythmsC _ _ x0 c0 _ _ x1 c1 _ gSx0.ints gSx1.ints).mono ?_
  rintro e w5 ⟨ax5, kx5, rfl, o5, b5⟩
  have HB := Lib.hid (bel_step gB b5 gB.size)
  have z5 : w4.heap.size + 1 ≤ w5.heap.size := Nat.le_trans gz b5.size
  have CP00 := cellAfter b5 gCP00
  have CP01 := cellAfter b5 gCP01
  have CP10 := cellAfter b5 gCP10
  have CP11 := cellAfter b5 gCP11
  have Cw00 := cellAfter b5 gCw00
  have Cw01 := cellAfter b5 gCw01
  have Cx00 := cellAfter b5 gCx00
  have Cx01 := cellAfter b5 gCx01
  have Cx10 := cellAfter b5 gCx10
  have Cx11 := cellAfter b5 gCx11
  have Sw0 := Lib.hid (gSw0.after b5)
  have Sx0 := Lib.hid (gSx0.after b5)
  have Sx1 := Lib.hid (gSx1.after b5)
  have Sg0 := Lib.hid (Seg.mk' (o5.mono gz))
  clear gB gz gCP00 gCP01 gCP10 gCP11 gCw00 gCw01 gCx00 gCx01 gCx10 gCx11 gSw0 gSx0 gSx1 b5 o5 X
  have yCP00 : w.heap.size < w5.heap.size := World.block_lt_of_cell? _ _ CP00
  have yCP10 : w.heap.size + 1 < w5.heap.size := World.block_lt_of_cell? _ _ CP10
  have yCw00 : pw0 < w5.heap.size := World.block_lt_of_cell? _ _ Cw00
  have yCx00 : w3.heap.size < w5.heap.size := World.block_lt_of_cell? _ _ Cx00
  have yCx10 : w4.heap.size < w5.heap.size := World.block_lt_of_cell? _ _ Cx10
  go_wp2_with fail
  refine withWorld fun X hX => ?_
  have gB : Below w.heap.size w X := (by rw [hX]; repeat (first | (with_reducible exact HB.out) | (with_reducible refine bel_alloc ?_ _) | (with_reducible refine Below.drew ?_) | (with_reducible refine bel_drewN ?_ _)))
  have gz : w5.heap.size + 1 ≤ X.heap.size := (by rw [hX]; simp)
  have gCP00 : X.cell? ⟨w.heap.size, 0, none⟩ = some (.int .i64 n0) := (by rw [hX]; repeat (first | (with_reducible exact CP00) | (with_reducible refine cellAlloc _ ?_) | (with_reducible refine cellDrew ?_) | (with_reducible refine cellDrewN ?_)))
  have gCP01 : X.cell? ⟨w.heap.size, 1, none⟩ = some (.slice ad0 x0.length cap0) := (by rw [hX]; repeat (first | (with_reducible exact CP01) | (with_reducible refine cellAlloc _ ?_) | (with_reducible refine cellDrew ?_) | (with_reducible refine cellDrewN ?_)))
  have gCP10 : X.cell? ⟨w.heap.size + 1, 0, none⟩ = some (.int .i64 n1) := (by rw [hX]; repeat (first | (with_reducible exact CP10) | (with_reducible refine cellAlloc _ ?_) | (with_reducible refine cellDrew ?_) | (with_reducible refine cellDrewN ?_)))
  have gCP11 : X.cell? ⟨w.heap.size + 1, 1, none⟩ = some (.slice ad1 x1.length cap1) := (by rw [hX]; repeat (first | (with_reducible exact CP11) | (with_reducible refine cellAlloc _ ?_) | (with_reducible refine cellDrew ?_) | (with_reducible refine cellDrewN ?_)))
  have gCw00 : X.cell? ⟨pw0, 0, none⟩ = some (.int .i64 (numJoinRhythms n0 x0 n1 x1)) := (by rw [hX]; repeat (first | (with_reducible exact Cw00) | (with_reducible refine cellAlloc _ ?_) | (with_reducible refine cellDrew ?_) | (with_reducible refine cellDrewN ?_)))
  have gCw01 : X.cell? ⟨pw0, 1, none⟩ = some (.slice axw0 (lstJoinRhythms n0 x0 n1 x1).length kxw0) := (by rw [hX]; repeat (first | (with_reducible exact Cw01) | (with_reducible refine cellAlloc _ ?_) | (with_reducible refine cellDrew ?_) | (with_reducible refine cellDrewN ?_)))
  have gCx00 : X.cell? ⟨w3.heap.size, 0, none⟩ = some (.int .i64 n0) := (by rw [hX]; repeat (first | (with_reducible exact Cx00) | (with_reducible refine cellAlloc _ ?_) | (with_reducible refine cellDrew ?_) | (with_reducible refine cellDrewN ?_)))
  have gCx01 : X.cell? ⟨w3.heap.size, 1, none⟩ = some (.slice ax3 x0.length kx3) := (by rw [hX]; repeat (first | (with_reducible exact Cx01) | (with_reducible refine cellAlloc _ ?_) | (with_reducible refine cellDrew ?_) | (with_reducible refine cellDrewN ?_)))
  have gCx10 : X.cell? ⟨w4.heap.size, 0, none⟩ = some (.int .i64 n1) := (by rw [hX]; repeat (first | (with_reducible exact Cx10) | (with_reducible refine cellAlloc _ ?_) | (with_reducible refine cellDrew ?_) | (with_reducible refine cellDrewN ?_)))
  have gCx11 : X.cell? ⟨w4.heap.size, 1, none⟩ = some (.slice ax4 x1.length kx4) := (by rw [hX]; repeat (first | (with_reducible exact Cx11) | (with_reducible refine cellAlloc _ ?_) | (with_reducible refine cellDrew ?_) | (with_reducible refine cellDrewN ?_)))
  have gCg00 : X.cell? ⟨w5.heap.size, 0, none⟩ = some (.int .i64 (numJoinRhythms n0 x0 n1 x1)) := (by rw [hX]; (repeat (first | (with_reducible refine cellDrew ?_) | (with_reducible refine cellDrewN ?_))); exact cellNewAt _ _ _ _ (by simp) rfl)
  have gCg01 : X.cell? ⟨w5.heap.size, 1, none⟩ = some (.slice ax5 (lstJoinRhythms n0 x0 n1 x1).length kx5) := (by rw [hX]; (repeat (first | (with_reducible refine cellDrew ?_) | (with_reducible refine cellDrewN ?_))); exact cellNewAt _ _ _ _ (by simp) rfl)
  have gSw0 : Seg X (Y0c.heap.size) (w0c.heap.size) (.slice axw0 (lstJoinRhythms n0 x0 n1 x1).length kxw0) ((lstJoinRhythms n0 x0 n1 x1)) := (by rw [hX]; repeat (first | (with_reducible exact Sw0.out) | (with_reducible refine Seg.alloc ?_ _) | (with_reducible refine Seg.drew ?_) | (with_reducible refine Seg.drewN ?_ _)))
  have gSx0 : Seg X (w0c.heap.size + 0) (w3.heap.size) (.slice ax3 x0.length kx3) (x0) := (by rw [hX]; repeat (first | (with_reducible exact Sx0.out) | (with_reducible refine Seg.alloc ?_ _) | (with_reducible refine Seg.drew ?_) | (with_reducible refine Seg.drewN ?_ _)))
  have gSx1 : Seg X (w3.heap.size + 1) (w4.heap.size) (.slice ax4 x1.length kx4) (x1) := (by rw [hX]; repeat (first | (with_reducible exact Sx1.out) | (with_reducible refine Seg.alloc ?_ _) | (with_reducible refine Seg.drew ?_) | (with_reducible refine Seg.drewN ?_ _)))
  have gSg0 : Seg X (w4.heap.size + 1) (w5.heap.size) (.slice ax5 (lstJoinRhythms n0 x0 n1 x1).length kx5) ((lstJoinRhythms n0 x0 n1 x1)) := (by rw [hX]; repeat (first | (with_reducible exact Sg0.out) | (with_reducible refine Seg.alloc ?_ _) | (with_reducible refine Seg.drew ?_) | (with_reducible refine Seg.drewN ?_ _)))
  clear hX HB CP00 CP01 CP10 CP11 Cw00 Cw01 Cx00 Cx01 Cx10 Cx11 Sw0 Sx0 Sx1 Sg0 yCP00 yCP10 yCw00 yCx00 yCx10
  refine (lawEqRhythm _ _ _ _ (lstJoinRhythms n0 x0 n1 x1) (lstJoinRhythms n0 x0 n1 x1) _ gSg0.ints gSw0.ints).mono ?_
  rintro e w6 ⟨rfl, b6⟩
  have HB := Lib.hid (bel_step gB b6 gB.size)
  have z6 : w5.heap.size + 1 ≤ w6.heap.size := Nat.le_trans gz b6.size
  have CP00 := cellAfter b6 gCP00
  have CP01 := cellAfter b6 gCP01
  have CP10 := cellAfter b6 gCP10
  have CP11 := cellAfter b6 gCP11
  have Cw00 := cellAfter b6 gCw00
  have Cw01 := cellAfter b6 gCw01
  have Cx00 := cellAfter b6 gCx00
  have Cx01 := cellAfter b6 gCx01
  have Cx10 := cellAfter b6 gCx10
  have Cx11 := cellAfter b6 gCx11
  have Cg00 := cellAfter b6 gCg00
  have Cg01 := cellAfter b6 gCg01
  have Sw0 := Lib.hid (gSw0.after b6)
  have Sx0 := Lib.hid (gSx0.after b6)
  have Sx1 := Lib.hid (gSx1.after b6)
  have Sg0 := Lib.hid (gSg0.after b6)
  clear gB gz gCP00 gCP01 gCP10 gCP11 gCw00 gCw01 gCx00 gCx01 gCx10 gCx11 gCg00 gCg01 gSw0 gSx0 gSx1 gSg0 b6 X
  have yCP00 : w.heap.size < w6.heap.size := World.block_lt_of_cell? _ _ CP00
  have yCP10 : w.heap.size + 1 < w6.heap.size := World.block_lt_of_cell? _ _ CP10
  have yCw00 : pw0 < w6.heap.size := World.block_lt_of_cell? _ _ Cw00
  have yCx00 : w3.heap.size < w6.heap.size := World.block_lt_of_cell? _ _ Cx00
  have yCx10 : w4.heap.size < w6.heap.size := World.block_lt_of_cell? _ _ Cx10
  have yCg00 : w5.heap.size < w6.heap.size := World.block_lt_of_cell? _ _ Cg00
  rw [eqR_self]
  go_wp2_with fail
  refine withWorldC fun Y hY => ?_
  have gB : Below w.heap.size w Y := (by rw [hY]; repeat (first | (with_reducible exact HB.out) | (with_reducible refine bel_alloc ?_ _) | (with_reducible refine Below.drew ?_) | (with_reducible refine bel_drewN ?_ _)))
  have gz : w6.heap.size + 0 ≤ Y.heap.size := (by rw [hY]; simp)
  have gCP00 : Y.cell? ⟨w.heap.size, 0, none⟩ = some (.int .i64 n0) := (by rw [hY]; repeat (first | (with_reducible exact CP00) | (with_reducible refine cellAlloc _ ?_) | (with_reducible refine cellDrew ?_) | (with_reducible refine cellDrewN ?_)))
  have gCP01 : Y.cell? ⟨w.heap.size, 1, none⟩ = some (.slice ad0 x0.length cap0) := (by rw [hY]; repeat (first | (with_reducible exact CP01) | (with_reducible refine cellAlloc _ ?_) | (with_reducible refine cellDrew ?_) | (with_reducible refine cellDrewN ?_)))
  have gCP10 : Y.cell? ⟨w.heap.size + 1, 0, none⟩ = some (.int .i64 n1) := (by rw [hY]; repeat (first | (with_reducible exact CP10) | (with_reducible refine cellAlloc _ ?_) | (with_reducible refine cellDrew ?_) | (with_reducible refine cellDrewN ?_)))
  have gCP11 : Y.cell? ⟨w.heap.size + 1, 1, none⟩ = some (.slice ad1 x1.length cap1) := (by rw [hY]; repeat (first | (with_reducible exact CP11) | (with_reducible refine cellAlloc _ ?_) | (with_reducible refine cellDrew ?_) | (with_reducible refine cellDrewN ?_)))
  have gCw00 : Y.cell? ⟨pw0, 0, none⟩ = some (.int .i64 (numJoinRhythms n0 x0 n1 x1)) := (by rw [hY]; repeat (first | (with_reducible exact Cw00) | (with_reducible refine cellAlloc _ ?_) | (with_reducible refine cellDrew ?_) | (with_reducible refine cellDrewN ?_)))
  have gCw01 : Y.cell? ⟨pw0, 1, none⟩ = some (.slice axw0 (lstJoinRhythms n0 x0 n1 x1).length kxw0) := (by rw [hY]; repeat (first | (with_reducible exact Cw01) | (with_reducible refine cellAlloc _ ?_) | (with_reducible refine cellDrew ?_) | (with_reducible refine cellDrewN ?_)))
  have gCx00 : Y.cell? ⟨w3.heap.size, 0, none⟩ = some (.int .i64 n0) := (by rw [hY]; repeat (first | (with_reducible exact Cx00) | (with_reducible refine cellAlloc _ ?_) | (with_reducible refine cellDrew ?_) | (with_reducible refine cellDrewN ?_)))
  have gCx01 : Y.cell? ⟨w3.heap.size, 1, none⟩ = some (.slice ax3 x0.length kx3) := (by rw [hY]; repeat (first | (with_reducible exact Cx01) | (with_reducible refine cellAlloc _ ?_) | (with_reducible refine cellDrew ?_) | (with_reducible refine cellDrewN ?_)))
  have gCx10 : Y.cell? ⟨w4.heap.size, 0, none⟩ = some (.int .i64 n1) := (by rw [hY]; repeat (first | (with_reducible exact Cx10) | (with_reducible refine cellAlloc _ ?_) | (with_reducible refine cellDrew ?_) | (with_reducible refine cellDrewN ?_)))
  have gCx11 : Y.cell? ⟨w4.heap.size, 1, none⟩ = some (.slice ax4 x1.length kx4) := (by rw [hY]; repeat (first | (with_reducible exact Cx11) | (with_reducible refine cellAlloc _ ?_) | (with_reducible refine cellDrew ?_) | (with_reducible refine cellDrewN ?_)))
  have gCg00 : Y.cell? ⟨w5.heap.size, 0, none⟩ = some (.int .i64 (numJoinRhythms n0 x0 n1 x1)) := (by rw [hY]; repeat (first | (with_reducible exact Cg00) | (with_reducible refine cellAlloc _ ?_) | (with_reducible refine cellDrew ?_) | (with_reducible refine cellDrewN ?_)))
  have gCg01 : Y.cell? ⟨w5.heap.size, 1, none⟩ = some (.slice ax5 (lstJoinRhythms n0 x0 n1 x1).length kx5) := (by rw [hY]; repeat (first | (with_reducible exact Cg01) | (with_reducible refine cellAlloc _ ?_) | (with_reducible refine cellDrew ?_) | (with_reducible refine cellDrewN ?_)))
  have gSw0 : Seg Y (Y0c.heap.size) (w0c.heap.size) (.slice axw0 (lstJoinRhythms n0 x0 n1 x1).length kxw0) ((lstJoinRhythms n0 x0 n1 x1)) := (by rw [hY]; repeat (first | (with_reducible exact Sw0.out) | (with_reducible refine Seg.alloc ?_ _) | (with_reducible refine Seg.drew ?_) | (with_reducible refine Seg.drewN ?_ _)))
  have gSx0 : Seg Y (w0c.heap.size + 0) (w3.heap.size) (.slice ax3 x0.length kx3) (x0) := (by rw [hY]; repeat (first | (with_reducible exact Sx0.out) | (with_reducible refine Seg.alloc ?_ _) | (with_reducible refine Seg.drew ?_) | (with_reducible refine Seg.drewN ?_ _)))
  have gSx1 : Seg Y (w3.heap.size + 1) (w4.heap.size) (.slice ax4 x1.length kx4) (x1) := (by rw [hY]; repeat (first | (with_reducible exact Sx1.out) | (with_reducible refine Seg.alloc ?_ _) | (with_reducible refine Seg.drew ?_) | (with_reducible refine Seg.drewN ?_ _)))
  have gSg0 : Seg Y (w4.heap.size + 1) (w5.heap.size) (.slice ax5 (lstJoinRhythms n0 x0 n1 x1).length kx5) ((lstJoinRhythms n0 x0 n1 x1)) := (by rw [hY]; repeat (first | (with_reducible exact Sg0.out) | (with_reducible refine Seg.alloc ?_ _) | (with_reducible refine Seg.drew ?_) | (with_reducible refine Seg.drewN ?_ _)))
  clear hY HB CP00 CP01 CP10 CP11 Cw00 Cw01 Cx00 Cx01 Cx10 Cx11 Cg00 Cg01 Sw0 Sx0 Sx1 Sg0 yCP00 yCP10 yCw00 yCx00 yCx10 yCg00
  have CP00 := gCP00
  have CP01 := gCP01
  have CP10 := gCP10
  have CP11 := gCP11
  have Cw00 := gCw00
  have Cw01 := gCw01
  have Cx00 := gCx00
  have Cx01 := gCx01
  have Cx10 := gCx10
  have Cx11 := gCx11
  have Cg00 := gCg00
  have Cg01 := gCg01
  have Sw0 := Lib.hid gSw0
  have Sx0 := Lib.hid gSx0
  have Sx1 := Lib.hid gSx1
  have Sg0 := Lib.hid gSg0
  have HB := Lib.hid gB
  have zY6 := gz
  clear gB gz gCP00 gCP01 gCP10 gCP11 gCw00 gCw01 gCx00 gCx01 gCx10 gCx11 gCg00 gCg01 gSw0 gSx0 gSx1 gSg0
  have yCP00 : w.heap.size < Y.heap.size := World.block_lt_of_cell? _ _ CP00
  have yCP10 : w.heap.size + 1 < Y.heap.size := World.block_lt_of_cell? _ _ CP10
  have yCw00 : pw0 < Y.heap.size := World.block_lt_of_cell? _ _ Cw00
  have yCx00 : w3.heap.size < Y.heap.size := World.block_lt_of_cell? _ _ Cx00
  have yCx10 : w4.heap.size < Y.heap.size := World.block_lt_of_cell? _ _ Cx10
  have yCg00 : w5.heap.size < Y.heap.size := World.block_lt_of_cell? _ _ Cg00
  go_region_held3 (fun w' => w'.cell? ⟨w.heap.size, 0, none⟩ = some (.int .i64 n0) ∧ w'.cell? ⟨w.heap.size, 1, none⟩ = some (.slice ad0 x0.length cap0) ∧ w'.cell? ⟨w.heap.size + 1, 0, none⟩ = some (.int .i64 n1) ∧ w'.cell? ⟨w.heap.size + 1, 1, none⟩ = some (.slice ad1 x1.length cap1) ∧ w'.cell? ⟨pw0, 0, none⟩ = some (.int .i64 (numJoinRhythms n0 x0 n1 x1)) ∧ w'.cell? ⟨pw0, 1, none⟩ = some (.slice axw0 (lstJoinRhythms n0 x0 n1 x1).length kxw0) ∧ w'.cell? ⟨w3.heap.size, 0, none⟩ = some (.int .i64 n0) ∧ w'.cell? ⟨w3.heap.size, 1, none⟩ = some (.slice ax3 x0.length kx3) ∧ w'.cell? ⟨w4.heap.size, 0, none⟩ = some (.int .i64 n1) ∧ w'.cell? ⟨w4.heap.size, 1, none⟩ = some (.slice ax4 x1.length kx4) ∧ w'.cell? ⟨w5.heap.size, 0, none⟩ = some (.int .i64 (numJoinRhythms n0 x0 n1 x1)) ∧ w'.cell? ⟨w5.heap.size, 1, none⟩ = some (.slice ax5 (lstJoinRhythms n0 x0 n1 x1).length kx5)) (first | exact ⟨CP00, CP01, CP10, CP11, Cw00, Cw01, Cx00, Cx01, Cx10, Cx11, Cg00, Cg01⟩ | exact ⟨cellAlloc _ CP00, cellAlloc _ CP01, cellAlloc _ CP10, cellAlloc _ CP11, cellAlloc _ Cw00, cellAlloc _ Cw01, cellAlloc _ Cx00, cellAlloc _ Cx01, cellAlloc _ Cx10, cellAlloc _ Cx11, cellAlloc _ Cg00, cellAlloc _ Cg01⟩) (first | (go_at_call_of 17 (Value.slice ad0 x0.length cap0); refine withWorld fun X hX => ?_; have gB : Below w.heap.size w X := (by rw [hX]; repeat (first | (with_reducible exact HB.out) | (with_reducible refine bel_alloc ?_ _) | (with_reducible refine Below.drew ?_) | (with_reducible refine bel_drewN ?_ _))); have gz : Y.heap.size + 0 ≤ X.heap.size := (by rw [hX]; simp); have gCP00 : X.cell? ⟨w.heap.size, 0, none⟩ = some (.int .i64 n0) := (by rw [hX]; repeat (first | (with_reducible exact CP00) | (with_reducible refine cellAlloc _ ?_) | (with_reducible refine cellDrew ?_) | (with_reducible refine cellDrewN ?_))); have gCP01 : X.cell? ⟨w.heap.size, 1, none⟩ = some (.slice ad0 x0.length cap0) := (by rw [hX]; repeat (first | (with_reducible exact CP01) | (with_reducible refine cellAlloc _ ?_) | (with_reducible refine cellDrew ?_) | (with_reducible refine cellDrewN ?_))); have gCP10 : X.cell? ⟨w.heap.size + 1, 0, none⟩ = some (.int .i64 n1) := (by rw [hX]; repeat (first | (with_reducible exact CP10) | (with_reducible refine cellAlloc _ ?_) | (with_reducible refine cellDrew ?_) | (with_reducible refine cellDrewN ?_))); have gCP11 : X.cell? ⟨w.heap.size + 1, 1, none⟩ = some (.slice ad1 x1.length cap1) := (by rw [hX]; repeat (first | (with_reducible exact CP11) | (with_reducible refine cellAlloc _ ?_) | (with_reducible refine cellDrew ?_) | (with_reducible refine cellDrewN ?_))); have gCw00 : X.cell? ⟨pw0, 0, none⟩ = some (.int .i64 (numJoinRhythms n0 x0 n1 x1)) := (by rw [hX]; repeat (first | (with_reducible exact Cw00) | (with_reducible refine cellAlloc _ ?_) | (with_reducible refine cellDrew ?_) | (with_reducible refine cellDrewN ?_))); have gCw01 : X.cell? ⟨pw0, 1, none⟩ = some (.slice axw0 (lstJoinRhythms n0 x0 n1 x1).length kxw0) := (by rw [hX]; repeat (first | (with_reducible exact Cw01) | (with_reducible refine cellAlloc _ ?_) | (with_reducible refine cellDrew ?_) | (with_reducible refine cellDrewN ?_))); have gCx00 : X.cell? ⟨w3.heap.size, 0, none⟩ = some (.int .i64 n0) := (by rw [hX]; repeat (first | (with_reducible exact Cx00) | (with_reducible refine cellAlloc _ ?_) | (with_reducible refine cellDrew ?_) | (with_reducible refine cellDrewN ?_))); have gCx01 : X.cell? ⟨w3.heap.size, 1, none⟩ = some (.slice ax3 x0.length kx3) := (by rw [hX]; repeat (first | (with_reducible exact Cx01) | (with_reducible refine cellAlloc _ ?_) | (with_reducible refine cellDrew ?_) | (with_reducible refine cellDrewN ?_))); have gCx10 : X.cell? ⟨w4.heap.size, 0, none⟩ = some (.int .i64 n1) := (by rw [hX]; repeat (first | (with_reducible exact Cx10) | (with_reducible refine cellAlloc _ ?_) | (with_reducible refine cellDrew ?_) | (with_reducible refine cellDrewN ?_))); have gCx11 : X.cell? ⟨w4.heap.size, 1, none⟩ = some (.slice ax4 x1.length kx4) := (by rw [hX]; repeat (first | (with_reducible exact Cx11) | (with_reducible refine cellAlloc _ ?_) | (with_reducible refine cellDrew ?_) | (with_reducible refine cellDrewN ?_))); have gCg00 : X.cell? ⟨w5.heap.size, 0, none⟩ = some (.int .i64 (numJoinRhythms n0 x0 n1 x1)) := (by rw [hX]; repeat (first | (with_reducible exact Cg00) | (with_reducible refine cellAlloc _ ?_) | (with_reducible refine cellDrew ?_) | (with_reducible refine cellDrewN ?_))); have gCg01 : X.cell? ⟨w5.heap.size, 1, none⟩ = some (.slice ax5 (lstJoinRhythms n0 x0 n1 x1).length kx5) := (by rw [hX]; repeat (first | (with_reducible exact Cg01) | (with_reducible refine cellAlloc _ ?_) | (with_reducible refine cellDrew ?_) | (with_reducible refine cellDrewN ?_))); have gSw0 : Seg X (Y0c.heap.size) (w0c.heap.size) (.slice axw0 (lstJoinRhythms n0 x0 n1 x1).length kxw0) ((lstJoinRhythms n0 x0 n1 x1)) := (by rw [hX]; repeat (first | (with_reducible exact Sw0.out) | (with_reducible refine Seg.alloc ?_ _) | (with_reducible refine Seg.drew ?_) | (with_reducible refine Seg.drewN ?_ _))); have gSx0 : Seg X (w0c.heap.size + 0) (w3.heap.size) (.slice ax3 x0.length kx3) (x0) := (by rw [hX]; repeat (first | (with_reducible exact Sx0.out) | (with_reducible refine Seg.alloc ?_ _) | (with_reducible refine Seg.drew ?_) | (with_reducible refine Seg.drewN ?_ _))); have gSx1 : Seg X (w3.heap.size + 1) (w4.heap.size) (.slice ax4 x1.length kx4) (x1) := (by rw [hX]; repeat (first | (with_reducible exact Sx1.out) | (with_reducible refine Seg.alloc ?_ _) | (with_reducible refine Seg.drew ?_) | (with_reducible refine Seg.drewN ?_ _))); have gSg0 : Seg X (w4.heap.size + 1) (w5.heap.size) (.slice ax5 (lstJoinRhythms n0 x0 n1 x1).length kx5) ((lstJoinRhythms n0 x0 n1 x1)) := (by rw [hX]; repeat (first | (with_reducible exact Sg0.out) | (with_reducible refine Seg.alloc ?_ _) | (with_reducible refine Seg.drew ?_) | (with_reducible refine Seg.drewN ?_ _))); clear hX HB CP00 CP01 CP10 CP11 Cw00 Cw01 Cx00 Cx01 Cx10 Cx11 Cg00 Cg01 Sw0 Sx0 Sx1 Sg0 yCP00 yCP10 yCw00 yCx00 yCx10 yCg00; refine (lawToRhythm _ _ x0 _ (by omega) (Ints.ofBelow h0 gB)).mono ?_; rintro e w7 ⟨ax7, kx7, rfl, o7, b7⟩; have HB := Lib.hid (bel_step gB b7 gB.size); have z7 : Y.heap.size + 0 ≤ w7.heap.size := Nat.le_trans gz b7.size; have CP00 := cellAfter b7 gCP00; have CP01 := cellAfter b7 gCP01; have CP10 := cellAfter b7 gCP10; have CP11 := cellAfter b7 gCP11; have Cw00 := cellAfter b7 gCw00; have Cw01 := cellAfter b7 gCw01; have Cx00 := cellAfter b7 gCx00; have Cx01 := cellAfter b7 gCx01; have Cx10 := cellAfter b7 gCx10; have Cx11 := cellAfter b7 gCx11; have Cg00 := cellAfter b7 gCg00; have Cg01 := cellAfter b7 gCg01; have Sw0 := Lib.hid (gSw0.after b7); have Sx0 := Lib.hid (gSx0.after b7); have Sx1 := Lib.hid (gSx1.after b7); have Sg0 := Lib.hid (gSg0.after b7); have T2 := Lib.hid (Seg.mk' (o7.mono gz)); clear gB gz gCP00 gCP01 gCP10 gCP11 gCw00 gCw01 gCx00 gCx01 gCx10 gCx11 gCg00 gCg01 gSw0 gSx0 gSx1 gSg0 b7 o7 X; have yCP00 : w.heap.size < w7.heap.size := World.block_lt_of_cell? _ _ CP00; have yCP10 : w.heap.size + 1 < w7.heap.size := World.block_lt_of_cell? _ _ CP10; have yCw00 : pw0 < w7.heap.size := World.block_lt_of_cell? _ _ Cw00; have yCx00 : w3.heap.size < w7.heap.size := World.block_lt_of_cell? _ _ Cx00; have yCx10 : w4.heap.size < w7.heap.size := World.block_lt_of_cell? _ _ Cx10; have yCg00 : w5.heap.size < w7.heap.size := World.block_lt_of_cell? _ _ Cg00) | (go_at_call 19; refine withWorld fun X hX => ?_; have gB : Below w.heap.size w X := (by rw [hX]; repeat (first | (with_reducible exact HB.out) | (with_reducible refine bel_alloc ?_ _) | (with_reducible refine Below.drew ?_) | (with_reducible refine bel_drewN ?_ _))); have gz : w7.heap.size + 0 ≤ X.heap.size := (by rw [hX]; simp); have gCP00 : X.cell? ⟨w.heap.size, 0, none⟩ = some (.int .i64 n0) := (by rw [hX]; repeat (first | (with_reducible exact CP00) | (with_reducible refine cellAlloc _ ?_) | (with_reducible refine cellDrew ?_) | (with_reducible refine cellDrewN ?_))); have gCP01 : X.cell? ⟨w.heap.size, 1, none⟩ = some (.slice ad0 x0.length cap0) := (by rw [hX]; repeat (first | (with_reducible exact CP01) | (with_reducible refine cellAlloc _ ?_) | (with_reducible refine cellDrew ?_) | (with_reducible refine cellDrewN ?_))); have gCP10 : X.cell? ⟨w.heap.size + 1, 0, none⟩ = some (.int .i64 n1) := (by rw [hX]; repeat (first | (with_reducible exact CP10) | (with_reducible refine cellAlloc _ ?_) | (with_reducible refine cellDrew ?_) | (with_reducible refine cellDrewN ?_))); have gCP11 : X.cell? ⟨w.heap.size + 1, 1, none⟩ = some (.slice ad1 x1.length cap1) := (by rw [hX]; repeat (first | (with_reducible exact CP11) | (with_reducible refine cellAlloc _ ?_) | (with_reducible refine cellDrew ?_) | (with_reducible refine cellDrewN ?_))); have gCw00 : X.cell? ⟨pw0, 0, none⟩ = some (.int .i64 (numJoinRhythms n0 x0 n1 x1)) := (by rw [hX]; repeat (first | (with_reducible exact Cw00) | (with_reducible refine cellAlloc _ ?_) | (with_reducible refine cellDrew ?_) | (with_reducible refine cellDrewN ?_))); have gCw01 : X.cell? ⟨pw0, 1, none⟩ = some (.slice axw0 (lstJoinRhythms n0 x0 n1 x1).length kxw0) := (by rw [hX]; repeat (first | (with_reducible exact Cw01) | (with_reducible refine cellAlloc _ ?_) | (with_reducible refine cellDrew ?_) | (with_reducible refine cellDrewN ?_))); have gCx00 : X.cell? ⟨w3.heap.size, 0, none⟩ = some (.int .i64 n0) := (by rw [hX]; repeat (first | (with_reducible exact Cx00) | (with_reducible refine cellAlloc _ ?_) | (with_reducible refine cellDrew ?_) | (with_reducible refine cellDrewN ?_))); have gCx01 : X.cell? ⟨w3.heap.size, 1, none⟩ = some (.slice ax3 x0.length kx3) := (by rw [hX]; repeat (first | (with_reducible exact Cx01) | (with_reducible refine cellAlloc _ ?_) | (with_reducible refine cellDrew ?_) | (with_reducible refine cellDrewN ?_))); have gCx10 : X.cell? ⟨w4.heap.size, 0, none⟩ = some (.int .i64 n1) := (by rw [hX]; repeat (first | (with_reducible exact Cx10) | (with_reducible refine cellAlloc _ ?_) | (with_reducible refine cellDrew ?_) | (with_reducible refine cellDrewN ?_))); have gCx11 : X.cell? ⟨w4.heap.size, 1, none⟩ = some (.slice ax4 x1.length kx4) := (by rw [hX]; repeat (first | (with_reducible exact Cx11) | (with_reducible refine cellAlloc _ ?_) | (with_reducible refine cellDrew ?_) | (with_reducible refine cellDrewN ?_))); have gCg00 : X.cell? ⟨w5.heap.size, 0, none⟩ = some (.int .i64 (numJoinRhythms n0 x0 n1 x1)) := (by rw [hX]; repeat (first | (with_reducible exact Cg00) | (with_reducible refine cellAlloc _ ?_) | (with_reducible refine cellDrew ?_) | (with_reducible refine cellDrewN ?_))); have gCg01 : X.cell? ⟨w5.heap.size, 1, none⟩ = some (.slice ax5 (lstJoinRhythms n0 x0 n1 x1).length kx5) := (by rw [hX]; repeat (first | (with_reducible exact Cg01) | (with_reducible refine cellAlloc _ ?_) | (with_reducible refine cellDrew ?_) | (with_reducible refine cellDrewN ?_))); have gSw0 : Seg X (Y0c.heap.size) (w0c.heap.size) (.slice axw0 (lstJoinRhythms n0 x0 n1 x1).length kxw0) ((lstJoinRhythms n0 x0 n1 x1)) := (by rw [hX]; repeat (first | (with_reducible exact Sw0.out) | (with_reducible refine Seg.alloc ?_ _) | (with_reducible refine Seg.drew ?_) | (with_reducible refine Seg.drewN ?_ _))); have gSx0 : Seg X (w0c.heap.size + 0) (w3.heap.size) (.slice ax3 x0.length kx3) (x0) := (by rw [hX]; repeat (first | (with_reducible exact Sx0.out) | (with_reducible refine Seg.alloc ?_ _) | (with_reducible refine Seg.drew ?_) | (with_reducible refine Seg.drewN ?_ _))); have gSx1 : Seg X (w3.heap.size + 1) (w4.heap.size) (.slice ax4 x1.length kx4) (x1) := (by rw [hX]; repeat (first | (with_reducible exact Sx1.out) | (with_reducible refine Seg.alloc ?_ _) | (with_reducible refine Seg.drew ?_) | (with_reducible refine Seg.drewN ?_ _))); have gSg0 : Seg X (w4.heap.size + 1) (w5.heap.size) (.slice ax5 (lstJoinRhythms n0 x0 n1 x1).length kx5) ((lstJoinRhythms n0 x0 n1 x1)) := (by rw [hX]; repeat (first | (with_reducible exact Sg0.out) | (with_reducible refine Seg.alloc ?_ _) | (with_reducible refine Seg.drew ?_) | (with_reducible refine Seg.drewN ?_ _))); have gT2 : Seg X (Y.heap.size + 0) (w7.heap.size) (.slice ax7 x0.length kx7) (x0) := (by rw [hX]; repeat (first | (with_reducible exact T2.out) | (with_reducible refine Seg.alloc ?_ _) | (with_reducible refine Seg.drew ?_) | (with_reducible refine Seg.drewN ?_ _))); clear hX HB CP00 CP01 CP10 CP11 Cw00 Cw01 Cx00 Cx01 Cx10 Cx11 Cg00 Cg01 Sw0 Sx0 Sx1 Sg0 T2 yCP00 yCP10 yCw00 yCx00 yCx10 yCg00; refine (lawEqRhythm _ _ _ _ x0 x0 _ gSx0.ints gT2.ints).mono ?_; rintro e w8 ⟨rfl, b8⟩; have HB := Lib.hid (bel_step gB b8 gB.size); have z8 : w7.heap.size + 0 ≤ w8.heap.size := Nat.le_trans gz b8.size; have CP00 := cellAfter b8 gCP00; have CP01 := cellAfter b8 gCP01; have CP10 := cellAfter b8 gCP10; have CP11 := cellAfter b8 gCP11; have Cw00 := cellAfter b8 gCw00; have Cw01 := cellAfter b8 gCw01; have Cx00 := cellAfter b8 gCx00; have Cx01 := cellAfter b8 gCx01; have Cx10 := cellAfter b8 gCx10; have Cx11 := cellAfter b8 gCx11; have Cg00 := cellAfter b8 gCg00; have Cg01 := cellAfter b8 gCg01; have Sw0 := Lib.hid (gSw0.after b8); have Sx0 := Lib.hid (gSx0.after b8); have Sx1 := Lib.hid (gSx1.after b8); have Sg0 := Lib.hid (gSg0.after b8); have T2 := Lib.hid (gT2.after b8); clear gB gz gCP00 gCP01 gCP10 gCP11 gCw00 gCw01 gCx00 gCx01 gCx10 gCx11 gCg00 gCg01 gSw0 gSx0 gSx1 gSg0 gT2 b8 X; have yCP00 : w.heap.size < w8.heap.size := World.block_lt_of_cell? _ _ CP00; have yCP10 : w.heap.size + 1 < w8.heap.size := World.block_lt_of_cell? _ _ CP10; have yCw00 : pw0 < w8.heap.size := World.block_lt_of_cell? _ _ Cw00; have yCx00 : w3.heap.size < w8.heap.size := World.block_lt_of_cell? _ _ Cx00; have yCx10 : w4.heap.size < w8.heap.size := World.block_lt_of_cell? _ _ Cx10; have yCg00 : w5.heap.size < w8.heap.size := World.block_lt_of_cell? _ _ Cg00; rw [eqR_self]))
  clear T2
  go_wp2_with fail
  refine withWorldC fun Y hY => ?_
  have gB : Below w.heap.size w Y := (by rw [hY]; repeat (first | (with_reducible exact HB.out) | (with_reducible refine bel_alloc ?_ _) | (with_reducible refine Below.drew ?_) | (with_reducible refine bel_drewN ?_ _)))
  have gz : w8.heap.size + 0 ≤ Y.heap.size := (by rw [hY]; simp)
  have gCP00 : Y.cell? ⟨w.heap.size, 0, none⟩ = some (.int .i64 n0) := (by rw [hY]; repeat (first | (with_reducible exact CP00) | (with_reducible refine cellAlloc _ ?_) | (with_reducible refine cellDrew ?_) | (with_reducible refine cellDrewN ?_)))
  have gCP01 : Y.cell? ⟨w.heap.size, 1, none⟩ = some (.slice ad0 x0.length cap0) := (by rw [hY]; repeat (first | (with_reducible exact CP01) | (with_reducible refine cellAlloc _ ?_) | (with_reducible refine cellDrew ?_) | (with_reducible refine cellDrewN ?_)))
  have gCP10 : Y.cell? ⟨w.heap.size + 1, 0, none⟩ = some (.int .i64 n1) := (by rw [hY]; repeat (first | (with_reducible exact CP10) | (with_reducible refine cellAlloc _ ?_) | (with_reducible refine cellDrew ?_) | (with_reducible refine cellDrewN ?_)))
  have gCP11 : Y.cell? ⟨w.heap.size + 1, 1, none⟩ = some (.slice ad1 x1.length cap1) := (by rw [hY]; repeat (first | (with_reducible exact CP11) | (with_reducible refine cellAlloc _ ?_) | (with_reducible refine cellDrew ?_) | (with_reducible refine cellDrewN ?_)))
  have gCw00 : Y.cell? ⟨pw0, 0, none⟩ = some (.int .i64 (numJoinRhythms n0 x0 n1 x1)) := (by rw [hY]; repeat (first | (with_reducible exact Cw00) | (with_reducible refine cellAlloc _ ?_) | (with_reducible refine cellDrew ?_) | (with_reducible refine cellDrewN ?_)))
  have gCw01 : Y.cell? ⟨pw0, 1, none⟩ = some (.slice axw0 (lstJoinRhythms n0 x0 n1 x1).length kxw0) := (by rw [hY]; repeat (first | (with_reducible exact Cw01) | (with_reducible refine cellAlloc _ ?_) | (with_reducible refine cellDrew ?_) | (with_reducible refine cellDrewN ?_)))
  have gCx00 : Y.cell? ⟨w3.heap.size, 0, none⟩ = some (.int .i64 n0) := (by rw [hY]; repeat (first | (with_reducible exact Cx00) | (with_reducible refine cellAlloc _ ?_) | (with_reducible refine cellDrew ?_) | (with_reducible refine cellDrewN ?_)))
  have gCx01 : Y.cell? ⟨w3.heap.size, 1, none⟩ = some (.slice ax3 x0.length kx3) := (by rw [hY]; repeat (first | (with_reducible exact Cx01) | (with_reducible refine cellAlloc _ ?_) | (with_reducible refine cellDrew ?_) | (with_reducible refine cellDrewN ?_)))
  have gCx10 : Y.cell? ⟨w4.heap.size, 0, none⟩ = some (.int .i64 n1) := (by rw [hY]; repeat (first | (with_reducible exact Cx10) | (with_reducible refine cellAlloc _ ?_) | (with_reducible refine cellDrew ?_) | (with_reducible refine cellDrewN ?_)))
  have gCx11 : Y.cell? ⟨w4.heap.size, 1, none⟩ = some (.slice ax4 x1.length kx4) := (by rw [hY]; repeat (first | (with_reducible exact Cx11) | (with_reducible refine cellAlloc _ ?_) | (with_reducible refine cellDrew ?_) | (with_reducible refine cellDrewN ?_)))
  have gCg00 : Y.cell? ⟨w5.heap.size, 0, none⟩ = some (.int .i64 (numJoinRhythms n0 x0 n1 x1)) := (by rw [hY]; repeat (first | (with_reducible exact Cg00) | (with_reducible refine cellAlloc _ ?_) | (with_reducible refine cellDrew ?_) | (with_reducible refine cellDrewN ?_)))
  have gCg01 : Y.cell? ⟨w5.heap.size, 1, none⟩ = some (.slice ax5 (lstJoinRhythms n0 x0 n1 x1).length kx5) := (by rw [hY]; repeat (first | (with_reducible exact Cg01) | (with_reducible refine cellAlloc _ ?_) | (with_reducible refine cellDrew ?_) | (with_reducible refine cellDrewN ?_)))
  have gSw0 : Seg Y (Y0c.heap.size) (w0c.heap.size) (.slice axw0 (lstJoinRhythms n0 x0 n1 x1).length kxw0) ((lstJoinRhythms n0 x0 n1 x1)) := (by rw [hY]; repeat (first | (with_reducible exact Sw0.out) | (with_reducible refine Seg.alloc ?_ _) | (with_reducible refine Seg.drew ?_) | (with_reducible refine Seg.drewN ?_ _)))
  have gSx0 : Seg Y (w0c.heap.size + 0) (w3.heap.size) (.slice ax3 x0.length kx3) (x0) := (by rw [hY]; repeat (first | (with_reducible exact Sx0.out) | (with_reducible refine Seg.alloc ?_ _) | (with_reducible refine Seg.drew ?_) | (with_reducible refine Seg.drewN ?_ _)))
  have gSx1 : Seg Y (w3.heap.size + 1) (w4.heap.size) (.slice ax4 x1.length kx4) (x1) := (by rw [hY]; repeat (first | (with_reducible exact Sx1.out) | (with_reducible refine Seg.alloc ?_ _) | (with_reducible refine Seg.drew ?_) | (with_reducible refine Seg.drewN ?_ _)))
  have gSg0 : Seg Y (w4.heap.size + 1) (w5.heap.size) (.slice ax5 (lstJoinRhythms n0 x0 n1 x1).length kx5) ((lstJoinRhythms n0 x0 n1 x1)) := (by rw [hY]; repeat (first | (with_reducible exact Sg0.out) | (with_reducible refine Seg.alloc ?_ _) | (with_reducible refine Seg.drew ?_) | (with_reducible refine Seg.drewN ?_ _)))
  clear hY HB CP00 CP01 CP10 CP11 Cw00 Cw01 Cx00 Cx01 Cx10 Cx11 Cg00 Cg01 Sw0 Sx0 Sx1 Sg0 yCP00 yCP10 yCw00 yCx00 yCx10 yCg00
  have CP00 := gCP00
  have CP01 := gCP01
  have CP10 := gCP10
  have CP11 := gCP11
  have Cw00 := gCw00
  have Cw01 := gCw01
  have Cx00 := gCx00
  have Cx01 := gCx01
  have Cx10 := gCx10
  have Cx11 := gCx11
  have Cg00 := gCg00
  have Cg01 := gCg01
  have Sw0 := Lib.hid gSw0
  have Sx0 := Lib.hid gSx0
  have Sx1 := Lib.hid gSx1
  have Sg0 := Lib.hid gSg0
  have HB := Lib.hid gB
  have zY8 := gz
  clear gB gz gCP00 gCP01 gCP10 gCP11 gCw00 gCw01 gCx00 gCx01 gCx10 gCx11 gCg00 gCg01 gSw0 gSx0 gSx1 gSg0
  have yCP00 : w.heap.size < Y.heap.size := World.block_lt_of_cell? _ _ CP00
  have yCP10 : w.heap.size + 1 < Y.heap.size := World.block_lt_of_cell? _ _ CP10
  have yCw00 : pw0 < Y.heap.size := World.block_lt_of_cell? _ _ Cw00
  have yCx00 : w3.heap.size < Y.heap.size := World.block_lt_of_cell? _ _ Cx00
  have yCx10 : w4.heap.size < Y.heap.size := World.block_lt_of_cell? _ _ Cx10
  have yCg00 : w5.heap.size < Y.heap.size := World.block_lt_of_cell? _ _ Cg00
  go_region_held3 (fun w' => w'.cell? ⟨w.heap.size, 0, none⟩ = some (.int .i64 n0) ∧ w'.cell? ⟨w.heap.size, 1, none⟩ = some (.slice ad0 x0.length cap0) ∧ w'.cell? ⟨w.heap.size + 1, 0, none⟩ = some (.int .i64 n1) ∧ w'.cell? ⟨w.heap.size + 1, 1, none⟩ = some (.slice ad1 x1.length cap1) ∧ w'.cell? ⟨pw0, 0, none⟩ = some (.int .i64 (numJoinRhythms n0 x0 n1 x1)) ∧ w'.cell? ⟨pw0, 1, none⟩ = some (.slice axw0 (lstJoinRhythms n0 x0 n1 x1).length kxw0) ∧ w'.cell? ⟨w3.heap.size, 0, none⟩ = some (.int .i64 n0) ∧ w'.cell? ⟨w3.heap.size, 1, none⟩ = some (.slice ax3 x0.length kx3) ∧ w'.cell? ⟨w4.heap.size, 0, none⟩ = some (.int .i64 n1) ∧ w'.cell? ⟨w4.heap.size, 1, none⟩ = some (.slice ax4 x1.length kx4) ∧ w'.cell? ⟨w5.heap.size, 0, none⟩ = some (.int .i64 (numJoinRhythms n0 x0 n1 x1)) ∧ w'.cell? ⟨w5.heap.size, 1, none⟩ = some (.slice ax5 (lstJoinRhythms n0 x0 n1 x1).length kx5)) (first | exact ⟨CP00, CP01, CP10, CP11, Cw00, Cw01, Cx00, Cx01, Cx10, Cx11, Cg00, Cg01⟩ | exact ⟨cellAlloc _ CP00, cellAlloc _ CP01, cellAlloc _ CP10, cellAlloc _ CP11, cellAlloc _ Cw00, cellAlloc _ Cw01, cellAlloc _ Cx00, cellAlloc _ Cx01, cellAlloc _ Cx10, cellAlloc _ Cx11, cellAlloc _ Cg00, cellAlloc _ Cg01⟩) (first | (go_at_call_of 17 (Value.slice ad1 x1.length cap1); refine withWorld fun X hX => ?_; have gB : Below w.heap.size w X := (by rw [hX]; repeat (first | (with_reducible exact HB.out) | (with_reducible refine bel_alloc ?_ _) | (with_reducible refine Below.drew ?_) | (with_reducible refine bel_drewN ?_ _))); have gz : Y.heap.size + 0 ≤ X.heap.size := (by rw [hX]; simp); have gCP00 : X.cell? ⟨w.heap.size, 0, none⟩ = some (.int .i64 n0) := (by rw [hX]; repeat (first | (with_reducible exact CP00) | (with_reducible refine cellAlloc _ ?_) | (with_reducible refine cellDrew ?_) | (with_reducible refine cellDrewN ?_))); have gCP01 : X.cell? ⟨w.heap.size, 1, none⟩ = some (.slice ad0 x0.length cap0) := (by rw [hX]; repeat (first | (with_reducible exact CP01) | (with_reducible refine cellAlloc _ ?_) | (with_reducible refine cellDrew ?_) | (with_reducible refine cellDrewN ?_))); have gCP10 : X.cell? ⟨w.heap.size + 1, 0, none⟩ = some (.int .i64 n1) := (by rw [hX]; repeat (first | (with_reducible exact CP10) | (with_reducible refine cellAlloc _ ?_) | (with_reducible refine cellDrew ?_) | (with_reducible refine cellDrewN ?_))); have gCP11 : X.cell? ⟨w.heap.size + 1, 1, none⟩ = some (.slice ad1 x1.length cap1) := (by rw [hX]; repeat (first | (with_reducible exact CP11) | (with_reducible refine cellAlloc _ ?_) | (with_reducible refine cellDrew ?_) | (with_reducible refine cellDrewN ?_))); have gCw00 : X.cell? ⟨pw0, 0, none⟩ = some (.int .i64 (numJoinRhythms n0 x0 n1 x1)) := (by rw [hX]; repeat (first | (with_reducible exact Cw00) | (with_reducible refine cellAlloc _ ?_) | (with_reducible refine cellDrew ?_) | (with_reducible refine cellDrewN ?_))); have gCw01 : X.cell? ⟨pw0, 1, none⟩ = some (.slice axw0 (lstJoinRhythms n0 x0 n1 x1).length kxw0) := (by rw [hX]; repeat (first | (with_reducible exact Cw01) | (with_reducible refine cellAlloc _ ?_) | (with_reducible refine cellDrew ?_) | (with_reducible refine cellDrewN ?_))); have gCx00 : X.cell? ⟨w3.heap.size, 0, none⟩ = some (.int .i64 n0) := (by rw [hX]; repeat (first | (with_reducible exact Cx00) | (with_reducible refine cellAlloc _ ?_) | (with_reducible refine cellDrew ?_) | (with_reducible refine cellDrewN ?_))); have gCx01 : X.cell? ⟨w3.heap.size, 1, none⟩ = some (.slice ax3 x0.length kx3) := (by rw [hX]; repeat (first | (with_reducible exact Cx01) | (with_reducible refine cellAlloc _ ?_) | (with_reducible refine cellDrew ?_) | (with_reducible refine cellDrewN ?_))); have gCx10 : X.cell? ⟨w4.heap.size, 0, none⟩ = some (.int .i64 n1) := (by rw [hX]; repeat (first | (with_reducible exact Cx10) | (with_reducible refine cellAlloc _ ?_) | (with_reducible refine cellDrew ?_) | (with_reducible refine cellDrewN ?_))); have gCx11 : X.cell? ⟨w4.heap.size, 1, none⟩ = some (.slice ax4 x1.length kx4) := (by rw [hX]; repeat (first | (with_reducible exact Cx11) | (with_reducible refine cellAlloc _ ?_) | (with_reducible refine cellDrew ?_) | (with_reducible refine cellDrewN ?_))); have gCg00 : X.cell? ⟨w5.heap.size, 0, none⟩ = some (.int .i64 (numJoinRhythms n0 x0 n1 x1)) := (by rw [hX]; repeat (first | (with_reducible exact Cg00) | (with_reducible refine cellAlloc _ ?_) | (with_reducible refine cellDrew ?_) | (with_reducible refine cellDrewN ?_))); have gCg01 : X.cell? ⟨w5.heap.size, 1, none⟩ = some (.slice ax5 (lstJoinRhythms n0 x0 n1 x1).length kx5) := (by rw [hX]; repeat (first | (with_reducible exact Cg01) | (with_reducible refine cellAlloc _ ?_) | (with_reducible refine cellDrew ?_) | (with_reducible refine cellDrewN ?_))); have gSw0 : Seg X (Y0c.heap.size) (w0c.heap.size) (.slice axw0 (lstJoinRhythms n0 x0 n1 x1).length kxw0) ((lstJoinRhythms n0 x0 n1 x1)) := (by rw [hX]; repeat (first | (with_reducible exact Sw0.out) | (with_reducible refine Seg.alloc ?_ _) | (with_reducible refine Seg.drew ?_) | (with_reducible refine Seg.drewN ?_ _))); have gSx0 : Seg X (w0c.heap.size + 0) (w3.heap.size) (.slice ax3 x0.length kx3) (x0) := (by rw [hX]; repeat (first | (with_reducible exact Sx0.out) | (with_reducible refine Seg.alloc ?_ _) | (with_reducible refine Seg.drew ?_) | (with_reducible refine Seg.drewN ?_ _))); have gSx1 : Seg X (w3.heap.size + 1) (w4.heap.size) (.slice ax4 x1.length kx4) (x1) := (by rw [hX]; repeat (first | (with_reducible exact Sx1.out) | (with_reducible refine Seg.alloc ?_ _) | (with_reducible refine Seg.drew ?_) | (with_reducible refine Seg.drewN ?_ _))); have gSg0 : Seg X (w4.heap.size + 1) (w5.heap.size) (.slice ax5 (lstJoinRhythms n0 x0 n1 x1).length kx5) ((lstJoinRhythms n0 x0 n1 x1)) := (by rw [hX]; repeat (first | (with_reducible exact Sg0.out) | (with_reducible refine Seg.alloc ?_ _) | (with_reducible refine Seg.drew ?_) | (with_reducible refine Seg.drewN ?_ _))); clear hX HB CP00 CP01 CP10 CP11 Cw00 Cw01 Cx00 Cx01 Cx10 Cx11 Cg00 Cg01 Sw0 Sx0 Sx1 Sg0 yCP00 yCP10 yCw00 yCx00 yCx10 yCg00; refine (lawToRhythm _ _ x1 _ (by omega) (Ints.ofBelow h1 gB)).mono ?_; rintro e w9 ⟨ax9, kx9, rfl, o9, b9⟩; have HB := Lib.hid (bel_step gB b9 gB.size); have z9 : Y.heap.size + 0 ≤ w9.heap.size := Nat.le_trans gz b9.size; have CP00 := cellAfter b9 gCP00; have CP01 := cellAfter b9 gCP01; have CP10 := cellAfter b9 gCP10; have CP11 := cellAfter b9 gCP11; have Cw00 := cellAfter b9 gCw00; have Cw01 := cellAfter b9 gCw01; have Cx00 := cellAfter b9 gCx00; have Cx01 := cellAfter b9 gCx01; have Cx10 := cellAfter b9 gCx10; have Cx11 := cellAfter b9 gCx11; have Cg00 := cellAfter b9 gCg00; have Cg01 := cellAfter b9 gCg01; have Sw0 := Lib.hid (gSw0.after b9); have Sx0 := Lib.hid (gSx0.after b9); have Sx1 := Lib.hid (gSx1.after b9); have Sg0 := Lib.hid (gSg0.after b9); have T3 := Lib.hid (Seg.mk' (o9.mono gz)); clear gB gz gCP00 gCP01 gCP10 gCP11 gCw00 gCw01 gCx00 gCx01 gCx10 gCx11 gCg00 gCg01 gSw0 gSx0 gSx1 gSg0 b9 o9 X; have yCP00 : w.heap.size < w9.heap.size := World.block_lt_of_cell? _ _ CP00; have yCP10 : w.heap.size + 1 < w9.heap.size := World.block_lt_of_cell? _ _ CP10; have yCw00 : pw0 < w9.heap.size := World.block_lt_of_cell? _ _ Cw00; have yCx00 : w3.heap.size < w9.heap.size := World.block_lt_of_cell? _ _ Cx00; have yCx10 : w4.heap.size < w9.heap.size := World.block_lt_of_cell? _ _ Cx10; have yCg00 : w5.heap.size < w9.heap.size := World.block_lt_of_cell? _ _ Cg00) | (go_at_call 19; refine withWorld fun X hX => ?_; have gB : Below w.heap.size w X := (by rw [hX]; repeat (first | (with_reducible exact HB.out) | (with_reducible refine bel_alloc ?_ _) | (with_reducible refine Below.drew ?_) | (with_reducible refine bel_drewN ?_ _))); have gz : w9.heap.size + 0 ≤ X.heap.size := (by rw [hX]; simp); have gCP00 : X.cell? ⟨w.heap.size, 0, none⟩ = some (.int .i64 n0) := (by rw [hX]; repeat (first | (with_reducible exact CP00) | (with_reducible refine cellAlloc _ ?_) | (with_reducible refine cellDrew ?_) | (with_reducible refine cellDrewN ?_))); have gCP01 : X.cell? ⟨w.heap.size, 1, none⟩ = some (.slice ad0 x0.length cap0) := (by rw [hX]; repeat (first | (with_reducible exact CP01) | (with_reducible refine cellAlloc _ ?_) | (with_reducible refine cellDrew ?_) | (with_reducible refine cellDrewN ?_))); have gCP10 : X.cell? ⟨w.heap.size + 1, 0, none⟩ = some (.int .i64 n1) := (by rw [hX]; repeat (first | (with_reducible exact CP10) | (with_reducible refine cellAlloc _ ?_) | (with_reducible refine cellDrew ?_) | (with_reducible refine cellDrewN ?_))); have gCP11 : X.cell? ⟨w.heap.size + 1, 1, none⟩ = some (.slice ad1 x1.length cap1) := (by rw [hX]; repeat (first | (with_reducible exact CP11) | (with_reducible refine cellAlloc _ ?_) | (with_reducible refine cellDrew ?_) | (with_reducible refine cellDrewN ?_))); have gCw00 : X.cell? ⟨pw0, 0, none⟩ = some (.int .i64 (numJoinRhythms n0 x0 n1 x1)) := (by rw [hX]; repeat (first | (with_reducible exact Cw00) | (with_reducible refine cellAlloc _ ?_) | (with_reducible refine cellDrew ?_) | (with_reducible refine cellDrewN ?_))); have gCw01 : X.cell? ⟨pw0, 1, none⟩ = some (.slice axw0 (lstJoinRhythms n0 x0 n1 x1).length kxw0) := (by rw [hX]; repeat (first | (with_reducible exact Cw01) | (with_reducible refine cellAlloc _ ?_) | (with_reducible refine cellDrew ?_) | (with_reducible refine cellDrewN ?_))); have gCx00 : X.cell? ⟨w3.heap.size, 0, none⟩ = some (.int .i64 n0) := (by rw [hX]; repeat (first | (with_reducible exact Cx00) | (with_reducible refine cellAlloc _ ?_) | (with_reducible refine cellDrew ?_) | (with_reducible refine cellDrewN ?_))); have gCx01 : X.cell? ⟨w3.heap.size, 1, none⟩ = some (.slice ax3 x0.length kx3) := (by rw [hX]; repeat (first | (with_reducible exact Cx01) | (with_reducible refine cellAlloc _ ?_) | (with_reducible refine cellDrew ?_) | (with_reducible refine cellDrewN ?_))); have gCx10 : X.cell? ⟨w4.heap.size, 0, none⟩ = some (.int .i64 n1) := (by rw [hX]; repeat (first | (with_reducible exact Cx10) | (with_reducible refine cellAlloc _ ?_) | (with_reducible refine cellDrew ?_) | (with_reducible refine cellDrewN ?_))); have gCx11 : X.cell? ⟨w4.heap.size, 1, none⟩ = some (.slice ax4 x1.length kx4) := (by rw [hX]; repeat (first | (with_reducible exact Cx11) | (with_reducible refine cellAlloc _ ?_) | (with_reducible refine cellDrew ?_) | (with_reducible refine cellDrewN ?_))); have gCg00 : X.cell? ⟨w5.heap.size, 0, none⟩ = some (.int .i64 (numJoinRhythms n0 x0 n1 x1)) := (by rw [hX]; repeat (first | (with_reducible exact Cg00) | (with_reducible refine cellAlloc _ ?_) | (with_reducible refine cellDrew ?_) | (with_reducible refine cellDrewN ?_))); have gCg01 : X.cell? ⟨w5.heap.size, 1, none⟩ = some (.slice ax5 (lstJoinRhythms n0 x0 n1 x1).length kx5) := (by rw [hX]; repeat (first | (with_reducible exact Cg01) | (with_reducible refine cellAlloc _ ?_) | (with_reducible refine cellDrew ?_) | (with_reducible refine cellDrewN ?_))); have gSw0 : Seg X (Y0c.heap.size) (w0c.heap.size) (.slice axw0 (lstJoinRhythms n0 x0 n1 x1).length kxw0) ((lstJoinRhythms n0 x0 n1 x1)) := (by rw [hX]; repeat (first | (with_reducible exact Sw0.out) | (with_reducible refine Seg.alloc ?_ _) | (with_reducible refine Seg.drew ?_) | (with_reducible refine Seg.drewN ?_ _))); have gSx0 : Seg X (w0c.heap.size + 0) (w3.heap.size) (.slice ax3 x0.length kx3) (x0) := (by rw [hX]; repeat (first | (with_reducible exact Sx0.out) | (with_reducible refine Seg.alloc ?_ _) | (with_reducible refine Seg.drew ?_) | (with_reducible refine Seg.drewN ?_ _))); have gSx1 : Seg X (w3.heap.size + 1) (w4.heap.size) (.slice ax4 x1.length kx4) (x1) := (by rw [hX]; repeat (first | (with_reducible exact Sx1.out) | (with_reducible refine Seg.alloc ?_ _) | (with_reducible refine Seg.drew ?_) | (with_reducible refine Seg.drewN ?_ _))); have gSg0 : Seg X (w4.heap.size + 1) (w5.heap.size) (.slice ax5 (lstJoinRhythms n0 x0 n1 x1).length kx5) ((lstJoinRhythms n0 x0 n1 x1)) := (by rw [hX]; repeat (first | (with_reducible exact Sg0.out) | (with_reducible refine Seg.alloc ?_ _) | (with_reducible refine Seg.drew ?_) | (with_reducible refine Seg.drewN ?_ _))); have gT3 : Seg X (Y.heap.size + 0) (w9.heap.size) (.slice ax9 x1.length kx9) (x1) := (by rw [hX]; repeat (first | (with_reducible exact T3.out) | (with_reducible refine Seg.alloc ?_ _) | (with_reducible refine Seg.drew ?_) | (with_reducible refine Seg.drewN ?_ _))); clear hX HB CP00 CP01 CP10 CP11 Cw00 Cw01 Cx00 Cx01 Cx10 Cx11 Cg00 Cg01 Sw0 Sx0 Sx1 Sg0 T3 yCP00 yCP10 yCw00 yCx00 yCx10 yCg00; refine (lawEqRhythm _ _ _ _ x1 x1 _ gSx1.ints gT3.ints).mono ?_; rintro e w10 ⟨rfl, b10⟩; have HB := Lib.hid (bel_step gB b10 gB.size); have z10 : w9.heap.size + 0 ≤ w10.heap.size := Nat.le_trans gz b10.size; have CP00 := cellAfter b10 gCP00; have CP01 := cellAfter b10 gCP01; have CP10 := cellAfter b10 gCP10; have CP11 := cellAfter b10 gCP11; have Cw00 := cellAfter b10 gCw00; have Cw01 := cellAfter b10 gCw01; have Cx00 := cellAfter b10 gCx00; have Cx01 := cellAfter b10 gCx01; have Cx10 := cellAfter b10 gCx10; have Cx11 := cellAfter b10 gCx11; have Cg00 := cellAfter b10 gCg00; have Cg01 := cellAfter b10 gCg01; have Sw0 := Lib.hid (gSw0.after b10); have Sx0 := Lib.hid (gSx0.after b10); have Sx1 := Lib.hid (gSx1.after b10); have Sg0 := Lib.hid (gSg0.after b10); have T3 := Lib.hid (gT3.after b10); clear gB gz gCP00 gCP01 gCP10 gCP11 gCw00 gCw01 gCx00 gCx01 gCx10 gCx11 gCg00 gCg01 gSw0 gSx0 gSx1 gSg0 gT3 b10 X; have yCP00 : w.heap.size < w10.heap.size := World.block_lt_of_cell? _ _ CP00; have yCP10 : w.heap.size + 1 < w10.heap.size := World.block_lt_of_cell? _ _ CP10; have yCw00 : pw0 < w10.heap.size := World.block_lt_of_cell? _ _ Cw00; have yCx00 : w3.heap.size < w10.heap.size := World.block_lt_of_cell? _ _ Cx00; have yCx10 : w4.heap.size < w10.heap.size := World.block_lt_of_cell? _ _ Cx10; have yCg00 : w5.heap.size < w10.heap.size := World.block_lt_of_cell? _ _ Cg00; rw [eqR_self]))
  clear T3
  go_wp2_with fail
  refine withWorld fun X hX => ?_
  have gB : Below w.heap.size w X := (by rw [hX]; repeat (first | (with_reducible exact HB.out) | (with_reducible refine bel_alloc ?_ _) | (with_reducible refine Below.drew ?_) | (with_reducible refine bel_drewN ?_ _)))
  have gz : w10.heap.size + 0 ≤ X.heap.size := (by rw [hX]; simp)
  have gCP00 : X.cell? ⟨w.heap.size, 0, none⟩ = some (.int .i64 n0) := (by rw [hX]; repeat (first | (with_reducible exact CP00) | (with_reducible refine cellAlloc _ ?_) | (with_reducible refine cellDrew ?_) | (with_reducible refine cellDrewN ?_)))
  have gCP01 : X.cell? ⟨w.heap.size, 1, none⟩ = some (.slice ad0 x0.length cap0) := (by rw [hX]; repeat (first | (with_reducible exact CP01) | (with_reducible refine cellAlloc _ ?_) | (with_reducible refine cellDrew ?_) | (with_reducible refine cellDrewN ?_)))
  have gCP10 : X.cell? ⟨w.heap.size + 1, 0, none⟩ = some (.int .i64 n1) := (by rw [hX]; repeat (first | (with_reducible exact CP10) | (with_reducible refine cellAlloc _ ?_) | (with_reducible refine cellDrew ?_) | (with_reducible refine cellDrewN ?_)))
  have gCP11 : X.cell? ⟨w.heap.size + 1, 1, none⟩ = some (.slice ad1 x1.length cap1) := (by rw [hX]; repeat (first | (with_reducible exact CP11) | (with_reducible refine cellAlloc _ ?_) | (with_reducible refine cellDrew ?_) | (with_reducible refine cellDrewN ?_)))
  have gCw00 : X.cell? ⟨pw0, 0, none⟩ = some (.int .i64 (numJoinRhythms n0 x0 n1 x1)) := (by rw [hX]; repeat (first | (with_reducible exact Cw00) | (with_reducible refine cellAlloc _ ?_) | (with_reducible refine cellDrew ?_) | (with_reducible refine cellDrewN ?_)))
  have gCw01 : X.cell? ⟨pw0, 1, none⟩ = some (.slice axw0 (lstJoinRhythms n0 x0 n1 x1).length kxw0) := (by rw [hX]; repeat (first | (with_reducible exact Cw01) | (with_reducible refine cellAlloc _ ?_) | (with_reducible refine cellDrew ?_) | (with_reducible refine cellDrewN ?_)))
  have gCx00 : X.cell? ⟨w3.heap.size, 0, none⟩ = some (.int .i64 n0) := (by rw [hX]; repeat (first | (with_reducible exact Cx00) | (with_reducible refine cellAlloc _ ?_) | (with_reducible refine cellDrew ?_) | (with_reducible refine cellDrewN ?_)))
  have gCx01 : X.cell? ⟨w3.heap.size, 1, none⟩ = some (.slice ax3 x0.length kx3) := (by rw [hX]; repeat (first | (with_reducible exact Cx01) | (with_reducible refine cellAlloc _ ?_) | (with_reducible refine cellDrew ?_) | (with_reducible refine cellDrewN ?_)))
  have gCx10 : X.cell? ⟨w4.heap.size, 0, none⟩ = some (.int .i64 n1) := (by rw [hX]; repeat (first | (with_reducible exact Cx10) | (with_reducible refine cellAlloc _ ?_) | (with_reducible refine cellDrew ?_) | (with_reducible refine cellDrewN ?_)))
  have gCx11 : X.cell? ⟨w4.heap.size, 1, none⟩ = some (.slice ax4 x1.length kx4) := (by rw [hX]; repeat (first | (with_reducible exact Cx11) | (with_reducible refine cellAlloc _ ?_) | (with_reducible refine cellDrew ?_) | (with_reducible refine cellDrewN ?_)))
  have gCg00 : X.cell? ⟨w5.heap.size, 0, none⟩ = some (.int .i64 (numJoinRhythms n0 x0 n1 x1)) := (by rw [hX]; repeat (first | (with_reducible exact Cg00) | (with_reducible refine cellAlloc _ ?_) | (with_reducible refine cellDrew ?_) | (with_reducible refine cellDrewN ?_)))
  have gCg01 : X.cell? ⟨w5.heap.size, 1, none⟩ = some (.slice ax5 (lstJoinRhythms n0 x0 n1 x1).length kx5) := (by rw [hX]; repeat (first | (with_reducible exact Cg01) | (with_reducible refine cellAlloc _ ?_) | (with_reducible refine cellDrew ?_) | (with_reducible refine cellDrewN ?_)))
  have gSw0 : Seg X (Y0c.heap.size) (w0c.heap.size) (.slice axw0 (lstJoinRhythms n0 x0 n1 x1).length kxw0) ((lstJoinRhythms n0 x0 n1 x1)) := (by rw [hX]; repeat (first | (with_reducible exact Sw0.out) | (with_reducible refine Seg.alloc ?_ _) | (with_reducible refine Seg.drew ?_) | (with_reducible refine Seg.drewN ?_ _)))
  have gSx0 : Seg X (w0c.heap.size + 0) (w3.heap.size) (.slice ax3 x0.length kx3) (x0) := (by rw [hX]; repeat (first | (with_reducible exact Sx0.out) | (with_reducible refine Seg.alloc ?_ _) | (with_reducible refine Seg.drew ?_) | (with_reducible refine Seg.drewN ?_ _)))
  have gSx1 : Seg X (w3.heap.size + 1) (w4.heap.size) (.slice ax4 x1.length kx4) (x1) := (by rw [hX]; repeat (first | (with_reducible exact Sx1.out) | (with_reducible refine Seg.alloc ?_ _) | (with_reducible refine Seg.drew ?_) | (with_reducible refine Seg.drewN ?_ _)))
  have gSg0 : Seg X (w4.heap.size + 1) (w5.heap.size) (.slice ax5 (lstJoinRhythms n0 x0 n1 x1).length kx5) ((lstJoinRhythms n0 x0 n1 x1)) := (by rw [hX]; repeat (first | (with_reducible exact Sg0.out) | (with_reducible refine Seg.alloc ?_ _) | (with_reducible refine Seg.drew ?_) | (with_reducible refine Seg.drewN ?_ _)))
  clear hX HB CP00 CP01 CP10 CP11 Cw00 Cw01 Cx00 Cx01 Cx10 Cx11 Cg00 Cg01 Sw0 Sx0 Sx1 Sg0 yCP00 yCP10 yCw00 yCx00 yCx10 yCg00
  refine (lawMarkRhythm2 _ _ x0 _ _ _ _ (by omega) (by omega) (by omega) gSx0).mono ?_
  rintro e w11 ⟨rfl, o11, b11⟩
  have HB := Lib.hid (bel_outside gB b11 (by omega) gB.size)
  have z11 : w10.heap.size + 0 ≤ w11.heap.size := Nat.le_trans gz b11.size
  have CP00 := cellOutside gCP00 b11 (by omega)
  have CP01 := cellOutside gCP01 b11 (by omega)
  have CP10 := cellOutside gCP10 b11 (by omega)
  have CP11 := cellOutside gCP11 b11 (by omega)
  have Cw00 := cellOutside gCw00 b11 (by omega)
  have Cw01 := cellOutside gCw01 b11 (by omega)
  have Cx00 := cellOutside gCx00 b11 (by omega)
  have Cx01 := cellOutside gCx01 b11 (by omega)
  have Cx10 := cellOutside gCx10 b11 (by omega)
  have Cx11 := cellOutside gCx11 b11 (by omega)
  have Cg00 := cellOutside gCg00 b11 (by omega)
  have Cg01 := cellOutside gCg01 b11 (by omega)
  have Sw0 := Lib.hid (gSw0.outside b11 (by omega))
  have Sx1 := Lib.hid (gSx1.outside b11 (by omega))
  have Sg0 := Lib.hid (gSg0.outside b11 (by omega))
  have Sx0 := Lib.hid o11
  clear gB gz gCP00 gCP01 gCP10 gCP11 gCw00 gCw01 gCx00 gCx01 gCx10 gCx11 gCg00 gCg01 gSw0 gSx0 gSx1 gSg0 b11 o11 X
  have yCP00 : w.heap.size < w11.heap.size := World.block_lt_of_cell? _ _ CP00
  have yCP10 : w.heap.size + 1 < w11.heap.size := World.block_lt_of_cell? _ _ CP10
  have yCw00 : pw0 < w11.heap.size := World.block_lt_of_cell? _ _ Cw00
  have yCx00 : w3.heap.size < w11.heap.size := World.block_lt_of_cell? _ _ Cx00
  have yCx10 : w4.heap.size < w11.heap.size := World.block_lt_of_cell? _ _ Cx10
  have yCg00 : w5.heap.size < w11.heap.size := World.block_lt_of_cell? _ _ Cg00
  go_wp2_with fail
  refine withWorld fun X hX => ?_
  have gB : Below w.heap.size w X := (by rw [hX]; repeat (first | (with_reducible exact HB.out) | (with_reducible refine bel_alloc ?_ _) | (with_reducible refine Below.drew ?_) | (with_reducible refine bel_drewN ?_ _)))
  have gz : w11.heap.size + 0 ≤ X.heap.size := (by rw [hX]; simp)
  have gCP00 : X.cell? ⟨w.heap.size, 0, none⟩ = some (.int .i64 n0) := (by rw [hX]; repeat (first | (with_reducible exact CP00) | (with_reducible refine cellAlloc _ ?_) | (with_reducible refine cellDrew ?_) | (with_reducible refine cellDrewN ?_)))
  have gCP01 : X.cell? ⟨w.heap.size, 1, none⟩ = some (.slice ad0 x0.length cap0) := (by rw [hX]; repeat (first | (with_reducible exact CP01) | (with_reducible refine cellAlloc _ ?_) | (with_reducible refine cellDrew ?_) | (with_reducible refine cellDrewN ?_)))
  have gCP10 : X.cell? ⟨w.heap.size + 1, 0, none⟩ = some (.int .i64 n1) := (by rw [hX]; repeat (first | (with_reducible exact CP10) | (with_reducible refine cellAlloc _ ?_) | (with_reducible refine cellDrew ?_) | (with_reducible refine cellDrewN ?_)))
  have gCP11 : X.cell? ⟨w.heap.size + 1, 1, none⟩ = some (.slice ad1 x1.length cap1) := (by rw [hX]; repeat (first | (with_reducible exact CP11) | (with_reducible refine cellAlloc _ ?_) | (with_reducible refine cellDrew ?_) | (with_reducible refine cellDrewN ?_)))
  have gCw00 : X.cell? ⟨pw0, 0, none⟩ = some (.int .i64 (numJoinRhythms n0 x0 n1 x1)) := (by rw [hX]; repeat (first | (with_reducible exact Cw00) | (with_reducible refine cellAlloc _ ?_) | (with_reducible refine cellDrew ?_) | (with_reducible refine cellDrewN ?_)))
  have gCw01 : X.cell? ⟨pw0, 1, none⟩ = some (.slice axw0 (lstJoinRhythms n0 x0 n1 x1).length kxw0) := (by rw [hX]; repeat (first | (with_reducible exact Cw01) | (with_reducible refine cellAlloc _ ?_) | (with_reducible refine cellDrew ?_) | (with_reducible refine cellDrewN ?_)))
  have gCx00 : X.cell? ⟨w3.heap.size, 0, none⟩ = some (.int .i64 n0) := (by rw [hX]; repeat (first | (with_reducible exact Cx00) | (with_reducible refine cellAlloc _ ?_) | (with_reducible refine cellDrew ?_) | (with_reducible refine cellDrewN ?_)))
  have gCx01 : X.cell? ⟨w3.heap.size, 1, none⟩ = some (.slice ax3 x0.length kx3) := (by rw [hX]; repeat (first | (with_reducible exact Cx01) | (with_reducible refine cellAlloc _ ?_) | (with_reducible refine cellDrew ?_) | (with_reducible refine cellDrewN ?_)))
  have gCx10 : X.cell? ⟨w4.heap.size, 0, none⟩ = some (.int .i64 n1) := (by rw [hX]; repeat (first | (with_reducible exact Cx10) | (with_reducible refine cellAlloc _ ?_) | (with_reducible refine cellDrew ?_) | (with_reducible refine cellDrewN ?_)))
  have gCx11 : X.cell? ⟨w4.heap.size, 1, none⟩ = some (.slice ax4 x1.length kx4) := (by rw [hX]; repeat (first | (with_reducible exact Cx11) | (with_reducible refine cellAlloc _ ?_) | (with_reducible refine cellDrew ?_) | (with_reducible refine cellDrewN ?_)))
  have gCg00 : X.cell? ⟨w5.heap.size, 0, none⟩ = some (.int .i64 (numJoinRhythms n0 x0 n1 x1)) := (by rw [hX]; repeat (first | (with_reducible exact Cg00) | (with_reducible refine cellAlloc _ ?_) | (with_reducible refine cellDrew ?_) | (with_reducible refine cellDrewN ?_)))
  have gCg01 : X.cell? ⟨w5.heap.size, 1, none⟩ = some (.slice ax5 (lstJoinRhythms n0 x0 n1 x1).length kx5) := (by rw [hX]; repeat (first | (with_reducible exact Cg01) | (with_reducible refine cellAlloc _ ?_) | (with_reducible refine cellDrew ?_) | (with_reducible refine cellDrewN ?_)))
  have gSw0 : Seg X (Y0c.heap.size) (w0c.heap.size) (.slice axw0 (lstJoinRhythms n0 x0 n1 x1).length kxw0) ((lstJoinRhythms n0 x0 n1 x1)) := (by rw [hX]; repeat (first | (with_reducible exact Sw0.out) | (with_reducible refine Seg.alloc ?_ _) | (with_reducible refine Seg.drew ?_) | (with_reducible refine Seg.drewN ?_ _)))
  have gSx0 : Seg X (w0c.heap.size + 0) (w3.heap.size) (.slice ax3 x0.length kx3) (marks 1 x0.length) := (by rw [hX]; repeat (first | (with_reducible exact Sx0.out) | (with_reducible refine Seg.alloc ?_ _) | (with_reducible refine Seg.drew ?_) | (with_reducible refine Seg.drewN ?_ _)))
  have gSx1 : Seg X (w3.heap.size + 1) (w4.heap.size) (.slice ax4 x1.length kx4) (x1) := (by rw [hX]; repeat (first | (with_reducible exact Sx1.out) | (with_reducible refine Seg.alloc ?_ _) | (with_reducible refine Seg.drew ?_) | (with_reducible refine Seg.drewN ?_ _)))
  have gSg0 : Seg X (w4.heap.size + 1) (w5.heap.size) (.slice ax5 (lstJoinRhythms n0 x0 n1 x1).length kx5) ((lstJoinRhythms n0 x0 n1 x1)) := (by rw [hX]; repeat (first | (with_reducible exact Sg0.out) | (with_reducible refine Seg.alloc ?_ _) | (with_reducible refine Seg.drew ?_) | (with_reducible refine Seg.drewN ?_ _)))
  clear hX HB CP00 CP01 CP10 CP11 Cw00 Cw01 Cx00 Cx01 Cx10 Cx11 Cg00 Cg01 Sw0 Sx0 Sx1 Sg0 yCP00 yCP10 yCw00 yCx00 yCx10 yCg00
  refine (lawMarkRhythm2 _ _ x1 _ _ _ _ (by omega) (by omega) (by omega) gSx1).mono ?_
  rintro e w12 ⟨rfl, o12, b12⟩
  have HB := Lib.hid (bel_outside gB b12 (by omega) gB.size)
  have z12 : w11.heap.size + 0 ≤ w12.heap.size := Nat.le_trans gz b12.size
  have CP00 := cellOutside gCP00 b12 (by omega)
  have CP01 := cellOutside gCP01 b12 (by omega)
  have CP10 := cellOutside gCP10 b12 (by omega)
  have CP11 := cellOutside gCP11 b12 (by omega)
  have Cw00 := cellOutside gCw00 b12 (by omega)
  have Cw01 := cellOutside gCw01 b12 (by omega)
  have Cx00 := cellOutside gCx00 b12 (by omega)
  have Cx01 := cellOutside gCx01 b12 (by omega)
  have Cx10 := cellOutside gCx10 b12 (by omega)
  have Cx11 := cellOutside gCx11 b12 (by omega)
  have Cg00 := cellOutside gCg00 b12 (by omega)
  have Cg01 := cellOutside gCg01 b12 (by omega)
  have Sw0 := Lib.hid (gSw0.outside b12 (by omega))
  have Sx0 := Lib.hid (gSx0.outside b12 (by omega))
  have Sg0 := Lib.hid (gSg0.outside b12 (by omega))
  have Sx1 := Lib.hid o12
  clear gB gz gCP00 gCP01 gCP10 gCP11 gCw00 gCw01 gCx00 gCx01 gCx10 gCx11 gCg00 gCg01 gSw0 gSx0 gSx1 gSg0 b12 o12 X
  have yCP00 : w.heap.size < w12.heap.size := World.block_lt_of_cell? _ _ CP00
  have yCP10 : w.heap.size + 1 < w12.heap.size := World.block_lt_of_cell? _ _ CP10
  have yCw00 : pw0 < w12.heap.size := World.block_lt_of_cell? _ _ Cw00
  have yCx00 : w3.heap.size < w12.heap.size := World.block_lt_of_cell? _ _ Cx00
  have yCx10 : w4.heap.size < w12.heap.size := World.block_lt_of_cell? _ _ Cx10
  have yCg00 : w5.heap.size < w12.heap.size := World.block_lt_of_cell? _ _ Cg00
  go_wp2_with fail
  refine withWorld fun X hX => ?_
  have gB : Below w.heap.size w X := (by rw [hX]; repeat (first | (with_reducible exact HB.out) | (with_reducible refine bel_alloc ?_ _) | (with_reducible refine Below.drew ?_) | (with_reducible refine bel_drewN ?_ _)))
  have gz : w12.heap.size + 0 ≤ X.heap.size := (by rw [hX]; simp)
  have gCP00 : X.cell? ⟨w.heap.size, 0, none⟩ = some (.int .i64 n0) := (by rw [hX]; repeat (first | (with_reducible exact CP00) | (with_reducible refine cellAlloc _ ?_) | (with_reducible refine cellDrew ?_) | (with_reducible refine cellDrewN ?_)))
  have gCP01 : X.cell? ⟨w.heap.size, 1, none⟩ = some (.slice ad0 x0.length cap0) := (by rw [hX]; repeat (first | (with_reducible exact CP01) | (with_reducible refine cellAlloc _ ?_) | (with_reducible refine cellDrew ?_) | (with_reducible refine cellDrewN ?_)))
  have gCP10 : X.cell? ⟨w.heap.size + 1, 0, none⟩ = some (.int .i64 n1) := (by rw [hX]; repeat (first | (with_reducible exact CP10) | (with_reducible refine cellAlloc _ ?_) | (with_reducible refine cellDrew ?_) | (with_reducible refine cellDrewN ?_)))
  have gCP11 : X.cell? ⟨w.heap.size + 1, 1, none⟩ = some (.slice ad1 x1.length cap1) := (by rw [hX]; repeat (first | (with_reducible exact CP11) | (with_reducible refine cellAlloc _ ?_) | (with_reducible refine cellDrew ?_) | (with_reducible refine cellDrewN ?_)))
  have gCw00 : X.cell? ⟨pw0, 0, none⟩ = some (.int .i64 (numJoinRhythms n0 x0 n1 x1)) := (by rw [hX]; repeat (first | (with_reducible exact Cw00) | (with_reducible refine cellAlloc _ ?_) | (with_reducible refine cellDrew ?_) | (with_reducible refine cellDrewN ?_)))
  have gCw01 : X.cell? ⟨pw0, 1, none⟩ = some (.slice axw0 (lstJoinRhythms n0 x0 n1 x1).length kxw0) := (by rw [hX]; repeat (first | (with_reducible exact Cw01) | (with_reducible refine cellAlloc _ ?_) | (with_reducible refine cellDrew ?_) | (with_reducible refine cellDrewN ?_)))
  have gCx00 : X.cell? ⟨w3.heap.size, 0, none⟩ = some (.int .i64 n0) := (by rw [hX]; repeat (first | (with_reducible exact Cx00) | (with_reducible refine cellAlloc _ ?_) | (with_reducible refine cellDrew ?_) | (with_reducible refine cellDrewN ?_)))
  have gCx01 : X.cell? ⟨w3.heap.size, 1, none⟩ = some (.slice ax3 x0.length kx3) := (by rw [hX]; repeat (first | (with_reducible exact Cx01) | (with_reducible refine cellAlloc _ ?_) | (with_reducible refine cellDrew ?_) | (with_reducible refine cellDrewN ?_)))
  have gCx10 : X.cell? ⟨w4.heap.size, 0, none⟩ = some (.int .i64 n1) := (by rw [hX]; repeat (first | (with_reducible exact Cx10) | (with_reducible refine cellAlloc _ ?_) | (with_reducible refine cellDrew ?_) | (with_reducible refine cellDrewN ?_)))
  have gCx11 : X.cell? ⟨w4.heap.size, 1, none⟩ = some (.slice ax4 x1.length kx4) := (by rw [hX]; repeat (first | (with_reducible exact Cx11) | (with_reducible refine cellAlloc _ ?_) | (with_reducible refine cellDrew ?_) | (with_reducible refine cellDrewN ?_)))
  have gCg00 : X.cell? ⟨w5.heap.size, 0, none⟩ = some (.int .i64 (numJoinRhythms n0 x0 n1 x1)) := (by rw [hX]; repeat (first | (with_reducible exact Cg00) | (with_reducible refine cellAlloc _ ?_) | (with_reducible refine cellDrew ?_) | (with_reducible refine cellDrewN ?_)))
  have gCg01 : X.cell? ⟨w5.heap.size, 1, none⟩ = some (.slice ax5 (lstJoinRhythms n0 x0 n1 x1).length kx5) := (by rw [hX]; repeat (first | (with_reducible exact Cg01) | (with_reducible refine cellAlloc _ ?_) | (with_reducible refine cellDrew ?_) | (with_reducible refine cellDrewN ?_)))
  have gSw0 : Seg X (Y0c.heap.size) (w0c.heap.size) (.slice axw0 (lstJoinRhythms n0 x0 n1 x1).length kxw0) ((lstJoinRhythms n0 x0 n1 x1)) := (by rw [hX]; repeat (first | (with_reducible exact Sw0.out) | (with_reducible refine Seg.alloc ?_ _) | (with_reducible refine Seg.drew ?_) | (with_reducible refine Seg.drewN ?_ _)))
  have gSx0 : Seg X (w0c.heap.size + 0) (w3.heap.size) (.slice ax3 x0.length kx3) (marks 1 x0.length) := (by rw [hX]; repeat (first | (with_reducible exact Sx0.out) | (with_reducible refine Seg.alloc ?_ _) | (with_reducible refine Seg.drew ?_) | (with_reducible refine Seg.drewN ?_ _)))
  have gSx1 : Seg X (w3.heap.size + 1) (w4.heap.size) (.slice ax4 x1.length kx4) (marks (1 + (x0.length : Int)) x1.length) := (by rw [hX]; repeat (first | (with_reducible exact Sx1.out) | (with_reducible refine Seg.alloc ?_ _) | (with_reducible refine Seg.drew ?_) | (with_reducible refine Seg.drewN ?_ _)))
  have gSg0 : Seg X (w4.heap.size + 1) (w5.heap.size) (.slice ax5 (lstJoinRhythms n0 x0 n1 x1).length kx5) ((lstJoinRhythms n0 x0 n1 x1)) := (by rw [hX]; repeat (first | (with_reducible exact Sg0.out) | (with_reducible refine Seg.alloc ?_ _) | (with_reducible refine Seg.drew ?_) | (with_reducible refine Seg.drewN ?_ _)))
  clear hX HB CP00 CP01 CP10 CP11 Cw00 Cw01 Cx00 Cx01 Cx10 Cx11 Cg00 Cg01 Sw0 Sx0 Sx1 Sg0 yCP00 yCP10 yCw00 yCx00 yCx10 yCg00
  refine (lawEqRhythm _ _ _ _ (lstJoinRhythms n0 x0 n1 x1) (lstJoinRhythms n0 x0 n1 x1) _ gSg0.ints gSw0.ints).mono ?_
  rintro e w13 ⟨rfl, b13⟩
  have HB := Lib.hid (bel_step gB b13 gB.size)
  have z13 : w12.heap.size + 0 ≤ w13.heap.size := Nat.le_trans gz b13.size
  have CP00 := cellAfter b13 gCP00
  have CP01 := cellAfter b13 gCP01
  have CP10 := cellAfter b13 gCP10
  have CP11 := cellAfter b13 gCP11
  have Cw00 := cellAfter b13 gCw00
  have Cw01 := cellAfter b13 gCw01
  have Cx00 := cellAfter b13 gCx00
  have Cx01 := cellAfter b13 gCx01
  have Cx10 := cellAfter b13 gCx10
  have Cx11 := cellAfter b13 gCx11
  have Cg00 := cellAfter b13 gCg00
  have Cg01 := cellAfter b13 gCg01
  have Sw0 := Lib.hid (gSw0.after b13)
  have Sx0 := Lib.hid (gSx0.after b13)
  have Sx1 := Lib.hid (gSx1.after b13)
  have Sg0 := Lib.hid (gSg0.after b13)
  clear gB gz gCP00 gCP01 gCP10 gCP11 gCw00 gCw01 gCx00 gCx01 gCx10 gCx11 gCg00 gCg01 gSw0 gSx0 gSx1 gSg0 b13 X
  have yCP00 : w.heap.size < w13.heap.size := World.block_lt_of_cell? _ _ CP00
  have yCP10 : w.heap.size + 1 < w13.heap.size := World.block_lt_of_cell? _ _ CP10
  have yCw00 : pw0 < w13.heap.size := World.block_lt_of_cell? _ _ Cw00
  have yCx00 : w3.heap.size < w13.heap.size := World.block_lt_of_cell? _ _ Cx00
  have yCx10 : w4.heap.size < w13.heap.size := World.block_lt_of_cell? _ _ Cx10
  have yCg00 : w5.heap.size < w13.heap.size := World.block_lt_of_cell? _ _ Cg00
  rw [eqR_self]
  go_wp2_with fail
  refine withWorld fun X hX => ?_
  have gB : Below w.heap.size w X := (by rw [hX]; repeat (first | (with_reducible exact HB.out) | (with_reducible refine bel_alloc ?_ _) | (with_reducible refine Below.drew ?_) | (with_reducible refine bel_drewN ?_ _)))
  have gz : w13.heap.size + 0 ≤ X.heap.size := (by rw [hX]; simp)
  have gCP00 : X.cell? ⟨w.heap.size, 0, none⟩ = some (.int .i64 n0) := (by rw [hX]; repeat (first | (with_reducible exact CP00) | (with_reducible refine cellAlloc _ ?_) | (with_reducible refine cellDrew ?_) | (with_reducible refine cellDrewN ?_)))
  have gCP01 : X.cell? ⟨w.heap.size, 1, none⟩ = some (.slice ad0 x0.length cap0) := (by rw [hX]; repeat (first | (with_reducible exact CP01) | (with_reducible refine cellAlloc _ ?_) | (with_reducible refine cellDrew ?_) | (with_reducible refine cellDrewN ?_)))
  have gCP10 : X.cell? ⟨w.heap.size + 1, 0, none⟩ = some (.int .i64 n1) := (by rw [hX]; repeat (first | (with_reducible exact CP10) | (with_reducible refine cellAlloc _ ?_) | (with_reducible refine cellDrew ?_) | (with_reducible refine cellDrewN ?_)))
  have gCP11 : X.cell? ⟨w.heap.size + 1, 1, none⟩ = some (.slice ad1 x1.length cap1) := (by rw [hX]; repeat (first | (with_reducible exact CP11) | (with_reducible refine cellAlloc _ ?_) | (with_reducible refine cellDrew ?_) | (with_reducible refine cellDrewN ?_)))
  have gCw00 : X.cell? ⟨pw0, 0, none⟩ = some (.int .i64 (numJoinRhythms n0 x0 n1 x1)) := (by rw [hX]; repeat (first | (with_reducible exact Cw00) | (with_reducible refine cellAlloc _ ?_) | (with_reducible refine cellDrew ?_) | (with_reducible refine cellDrewN ?_)))
  have gCw01 : X.cell? ⟨pw0, 1, none⟩ = some (.slice axw0 (lstJoinRhythms n0 x0 n1 x1).length kxw0) := (by rw [hX]; repeat (first | (with_reducible exact Cw01) | (with_reducible refine cellAlloc _ ?_) | (with_reducible refine cellDrew ?_) | (with_reducible refine cellDrewN ?_)))
  have gCx00 : X.cell? ⟨w3.heap.size, 0, none⟩ = some (.int .i64 n0) := (by rw [hX]; repeat (first | (with_reducible exact Cx00) | (with_reducible refine cellAlloc _ ?_) | (with_reducible refine cellDrew ?_) | (with_reducible refine cellDrewN ?_)))
  have gCx01 : X.cell? ⟨w3.heap.size, 1, none⟩ = some (.slice ax3 x0.length kx3) := (by rw [hX]; repeat (first | (with_reducible exact Cx01) | (with_reducible refine cellAlloc _ ?_) | (with_reducible refine cellDrew ?_) | (with_reducible refine cellDrewN ?_)))
  have gCx10 : X.cell? ⟨w4.heap.size, 0, none⟩ = some (.int .i64 n1) := (by rw [hX]; repeat (first | (with_reducible exact Cx10) | (with_reducible refine cellAlloc _ ?_) | (with_reducible refine cellDrew ?_) | (with_reducible refine cellDrewN ?_)))
  have gCx11 : X.cell? ⟨w4.heap.size, 1, none⟩ = some (.slice ax4 x1.length kx4) := (by rw [hX]; repeat (first | (with_reducible exact Cx11) | (with_reducible refine cellAlloc _ ?_) | (with_reducible refine cellDrew ?_) | (with_reducible refine cellDrewN ?_)))
  have gCg00 : X.cell? ⟨w5.heap.size, 0, none⟩ = some (.int .i64 (numJoinRhythms n0 x0 n1 x1)) := (by rw [hX]; repeat (first | (with_reducible exact Cg00) | (with_reducible refine cellAlloc _ ?_) | (with_reducible refine cellDrew ?_) | (with_reducible refine cellDrewN ?_)))
  have gCg01 : X.cell? ⟨w5.heap.size, 1, none⟩ = some (.slice ax5 (lstJoinRhythms n0 x0 n1 x1).length kx5) := (by rw [hX]; repeat (first | (with_reducible exact Cg01) | (with_reducible refine cellAlloc _ ?_) | (with_reducible refine cellDrew ?_) | (with_reducible refine cellDrewN ?_)))
  have gSw0 : Seg X (Y0c.heap.size) (w0c.heap.size) (.slice axw0 (lstJoinRhythms n0 x0 n1 x1).length kxw0) ((lstJoinRhythms n0 x0 n1 x1)) := (by rw [hX]; repeat (first | (with_reducible exact Sw0.out) | (with_reducible refine Seg.alloc ?_ _) | (with_reducible refine Seg.drew ?_) | (with_reducible refine Seg.drewN ?_ _)))
  have gSx0 : Seg X (w0c.heap.size + 0) (w3.heap.size) (.slice ax3 x0.length kx3) (marks 1 x0.length) := (by rw [hX]; repeat (first | (with_reducible exact Sx0.out) | (with_reducible refine Seg.alloc ?_ _) | (with_reducible refine Seg.drew ?_) | (with_reducible refine Seg.drewN ?_ _)))
  have gSx1 : Seg X (w3.heap.size + 1) (w4.heap.size) (.slice ax4 x1.length kx4) (marks (1 + (x0.length : Int)) x1.length) := (by rw [hX]; repeat (first | (with_reducible exact Sx1.out) | (with_reducible refine Seg.alloc ?_ _) | (with_reducible refine Seg.drew ?_) | (with_reducible refine Seg.drewN ?_ _)))
  have gSg0 : Seg X (w4.heap.size + 1) (w5.heap.size) (.slice ax5 (lstJoinRhythms n0 x0 n1 x1).length kx5) ((lstJoinRhythms n0 x0 n1 x1)) := (by rw [hX]; repeat (first | (with_reducible exact Sg0.out) | (with_reducible refine Seg.alloc ?_ _) | (with_reducible refine Seg.drew ?_) | (with_reducible refine Seg.drewN ?_ _)))
  clear hX HB CP00 CP01 CP10 CP11 Cw00 Cw01 Cx00 Cx01 Cx10 Cx11 Cg00 Cg01 Sw0 Sx0 Sx1 Sg0 yCP00 yCP10 yCw00 yCx00 yCx10 yCg00
  refine (lawMarkRhythm2 _ _ (lstJoinRhythms n0 x0 n1 x1) _ _ _ _ (by have := lenJoinRhythms n0 x0 n1 x1; omega) (by omega) (by omega) gSg0).mono ?_
  rintro e w14 ⟨rfl, o14, b14⟩
  have HB := Lib.hid (bel_outside gB b14 (by omega) gB.size)
  have z14 : w13.heap.size + 0 ≤ w14.heap.size := Nat.le_trans gz b14.size
  have CP00 := cellOutside gCP00 b14 (by omega)
  have CP01 := cellOutside gCP01 b14 (by omega)
  have CP10 := cellOutside gCP10 b14 (by omega)
  have CP11 := cellOutside gCP11 b14 (by omega)
  have Cw00 := cellOutside gCw00 b14 (by omega)
  have Cw01 := cellOutside gCw01 b14 (by omega)
  have Cx00 := cellOutside gCx00 b14 (by omega)
  have Cx01 := cellOutside gCx01 b14 (by omega)
  have Cx10 := cellOutside gCx10 b14 (by omega)
  have Cx11 := cellOutside gCx11 b14 (by omega)
  have Cg00 := cellOutside gCg00 b14 (by omega)
  have Cg01 := cellOutside gCg01 b14 (by omega)
  have Sw0 := Lib.hid (gSw0.outside b14 (by omega))
  have Sx0 := Lib.hid (gSx0.outside b14 (by omega))
  have Sx1 := Lib.hid (gSx1.outside b14 (by omega))
  have Sg0 := Lib.hid o14
  clear gB gz gCP00 gCP01 gCP10 gCP11 gCw00 gCw01 gCx00 gCx01 gCx10 gCx11 gCg00 gCg01 gSw0 gSx0 gSx1 gSg0 b14 o14 X
  have yCP00 : w.heap.size < w14.heap.size := World.block_lt_of_cell? _ _ CP00
  have yCP10 : w.heap.size + 1 < w14.heap.size := World.block_lt_of_cell? _ _ CP10
  have yCw00 : pw0 < w14.heap.size := World.block_lt_of_cell? _ _ Cw00
  have yCx00 : w3.heap.size < w14.heap.size := World.block_lt_of_cell? _ _ Cx00
  have yCx10 : w4.heap.size < w14.heap.size := World.block_lt_of_cell? _ _ Cx10
  have yCg00 : w5.heap.size < w14.heap.size := World.block_lt_of_cell? _ _ Cg00
  go_wp2_with fail
  refine withWorld fun X hX => ?_
  have gB : Below w.heap.size w X := (by rw [hX]; repeat (first | (with_reducible exact HB.out) | (with_reducible refine bel_alloc ?_ _) | (with_reducible refine Below.drew ?_) | (with_reducible refine bel_drewN ?_ _)))
  have gz : w14.heap.size + 0 ≤ X.heap.size := (by rw [hX]; simp)
  have gCP00 : X.cell? ⟨w.heap.size, 0, none⟩ = some (.int .i64 n0) := (by rw [hX]; repeat (first | (with_reducible exact CP00) | (with_reducible refine cellAlloc _ ?_) | (with_reducible refine cellDrew ?_) | (with_reducible refine cellDrewN ?_)))
  have gCP01 : X.cell? ⟨w.heap.size, 1, none⟩ = some (.slice ad0 x0.length cap0) := (by rw [hX]; repeat (first | (with_reducible exact CP01) | (with_reducible refine cellAlloc _ ?_) | (with_reducible refine cellDrew ?_) | (with_reducible refine cellDrewN ?_)))
  have gCP10 : X.cell? ⟨w.heap.size + 1, 0, none⟩ = some (.int .i64 n1) := (by rw [hX]; repeat (first | (with_reducible exact CP10) | (with_reducible refine cellAlloc _ ?_) | (with_reducible refine cellDrew ?_) | (with_reducible refine cellDrewN ?_)))
  have gCP11 : X.cell? ⟨w.heap.size + 1, 1, none⟩ = some (.slice ad1 x1.length cap1) := (by rw [hX]; repeat (first | (with_reducible exact CP11) | (with_reducible refine cellAlloc _ ?_) | (with_reducible refine cellDrew ?_) | (with_reducible refine cellDrewN ?_)))
  have gCw00 : X.cell? ⟨pw0, 0, none⟩ = some (.int .i64 (numJoinRhythms n0 x0 n1 x1)) := (by rw [hX]; repeat (first | (with_reducible exact Cw00) | (with_reducible refine cellAlloc _ ?_) | (with_reducible refine cellDrew ?_) | (with_reducible refine cellDrewN ?_)))
  have gCw01 : X.cell? ⟨pw0, 1, none⟩ = some (.slice axw0 (lstJoinRhythms n0 x0 n1 x1).length kxw0) := (by rw [hX]; repeat (first | (with_reducible exact Cw01) | (with_reducible refine cellAlloc _ ?_) | (with_reducible refine cellDrew ?_) | (with_reducible refine cellDrewN ?_)))
  have gCx00 : X.cell? ⟨w3.heap.size, 0, none⟩ = some (.int .i64 n0) := (by rw [hX]; repeat (first | (with_reducible exact Cx00) | (with_reducible refine cellAlloc _ ?_) | (with_reducible refine cellDrew ?_) | (with_reducible refine cellDrewN ?_)))
  have gCx01 : X.cell? ⟨w3.heap.size, 1, none⟩ = some (.slice ax3 x0.length kx3) := (by rw [hX]; repeat (first | (with_reducible exact Cx01) | (with_reducible refine cellAlloc _ ?_) | (with_reducible refine cellDrew ?_) | (with_reducible refine cellDrewN ?_)))
  have gCx10 : X.cell? ⟨w4.heap.size, 0, none⟩ = some (.int .i64 n1) := (by rw [hX]; repeat (first | (with_reducible exact Cx10) | (with_reducible refine cellAlloc _ ?_) | (with_reducible refine cellDrew ?_) | (with_reducible refine cellDrewN ?_)))
  have gCx11 : X.cell? ⟨w4.heap.size, 1, none⟩ = some (.slice ax4 x1.length kx4) := (by rw [hX]; repeat (first | (with_reducible exact Cx11) | (with_reducible refine cellAlloc _ ?_) | (with_reducible refine cellDrew ?_) | (with_reducible refine cellDrewN ?_)))
  have gCg00 : X.cell? ⟨w5.heap.size, 0, none⟩ = some (.int .i64 (numJoinRhythms n0 x0 n1 x1)) := (by rw [hX]; repeat (first | (with_reducible exact Cg00) | (with_reducible refine cellAlloc _ ?_) | (with_reducible refine cellDrew ?_) | (with_reducible refine cellDrewN ?_)))
  have gCg01 : X.cell? ⟨w5.heap.size, 1, none⟩ = some (.slice ax5 (lstJoinRhythms n0 x0 n1 x1).length kx5) := (by rw [hX]; repeat (first | (with_reducible exact Cg01) | (with_reducible refine cellAlloc _ ?_) | (with_reducible refine cellDrew ?_) | (with_reducible refine cellDrewN ?_)))
  have gSw0 : Seg X (Y0c.heap.size) (w0c.heap.size) (.slice axw0 (lstJoinRhythms n0 x0 n1 x1).length kxw0) ((lstJoinRhythms n0 x0 n1 x1)) := (by rw [hX]; repeat (first | (with_reducible exact Sw0.out) | (with_reducible refine Seg.alloc ?_ _) | (with_reducible refine Seg.drew ?_) | (with_reducible refine Seg.drewN ?_ _)))
  have gSx0 : Seg X (w0c.heap.size + 0) (w3.heap.size) (.slice ax3 x0.length kx3) (marks 1 x0.length) := (by rw [hX]; repeat (first | (with_reducible exact Sx0.out) | (with_reducible refine Seg.alloc ?_ _) | (with_reducible refine Seg.drew ?_) | (with_reducible refine Seg.drewN ?_ _)))
  have gSx1 : Seg X (w3.heap.size + 1) (w4.heap.size) (.slice ax4 x1.length kx4) (marks (1 + (x0.length : Int)) x1.length) := (by rw [hX]; repeat (first | (with_reducible exact Sx1.out) | (with_reducible refine Seg.alloc ?_ _) | (with_reducible refine Seg.drew ?_) | (with_reducible refine Seg.drewN ?_ _)))
  have gSg0 : Seg X (w4.heap.size + 1) (w5.heap.size) (.slice ax5 (lstJoinRhythms n0 x0 n1 x1).length kx5) (marks 1 (lstJoinRhythms n0 x0 n1 x1).length) := (by rw [hX]; repeat (first | (with_reducible exact Sg0.out) | (with_reducible refine Seg.alloc ?_ _) | (with_reducible refine Seg.drew ?_) | (with_reducible refine Seg.drewN ?_ _)))
  clear hX HB CP00 CP01 CP10 CP11 Cw00 Cw01 Cx00 Cx01 Cx10 Cx11 Cg00 Cg01 Sw0 Sx0 Sx1 Sg0 yCP00 yCP10 yCw00 yCx00 yCx10 yCg00
  refine (lawHeldRhythm' _ _ (marks 1 (lstJoinRhythms n0 x0 n1 x1).length) _ _ (by rw [marks_len]; have := lenJoinRhythms n0 x0 n1 x1; omega) (by omega) (by omega) gSg0.ints).mono ?_
  rintro e w15 ⟨rfl, b15⟩
  have HB := Lib.hid (bel_step gB b15 gB.size)
  have z15 : w14.heap.size + 0 ≤ w15.heap.size := Nat.le_trans gz b15.size
  have CP00 := cellAfter b15 gCP00
  have CP01 := cellAfter b15 gCP01
  have CP10 := cellAfter b15 gCP10
  have CP11 := cellAfter b15 gCP11
  have Cw00 := cellAfter b15 gCw00
  have Cw01 := cellAfter b15 gCw01
  have Cx00 := cellAfter b15 gCx00
  have Cx01 := cellAfter b15 gCx01
  have Cx10 := cellAfter b15 gCx10
  have Cx11 := cellAfter b15 gCx11
  have Cg00 := cellAfter b15 gCg00
  have Cg01 := cellAfter b15 gCg01
  have Sw0 := Lib.hid (gSw0.after b15)
  have Sx0 := Lib.hid (gSx0.after b15)
  have Sx1 := Lib.hid (gSx1.after b15)
  have Sg0 := Lib.hid (gSg0.after b15)
  clear gB gz gCP00 gCP01 gCP10 gCP11 gCw00 gCw01 gCx00 gCx01 gCx10 gCx11 gCg00 gCg01 gSw0 gSx0 gSx1 gSg0 b15 X
  have yCP00 : w.heap.size < w15.heap.size := World.block_lt_of_cell? _ _ CP00
  have yCP10 : w.heap.size + 1 < w15.heap.size := World.block_lt_of_cell? _ _ CP10
  have yCw00 : pw0 < w15.heap.size := World.block_lt_of_cell? _ _ Cw00
  have yCx00 : w3.heap.size < w15.heap.size := World.block_lt_of_cell? _ _ Cx00
  have yCx10 : w4.heap.size < w15.heap.size := World.block_lt_of_cell? _ _ Cx10
  have yCg00 : w5.heap.size < w15.heap.size := World.block_lt_of_cell? _ _ Cg00
  rw [heldOf_marks]
  go_wp2_with fail
  refine withWorldC fun Y1c hY => ?_
  have gB : Below w.heap.size w Y1c := (by rw [hY]; repeat (first | (with_reducible exact HB.out) | (with_reducible refine bel_alloc ?_ _) | (with_reducible refine Below.drew ?_) | (with_reducible refine bel_drewN ?_ _)))
  have gz : w15.heap.size + 0 ≤ Y1c.heap.size := (by rw [hY]; simp)
  have gCP00 : Y1c.cell? ⟨w.heap.size, 0, none⟩ = some (.int .i64 n0) := (by rw [hY]; repeat (first | (with_reducible exact CP00) | (with_reducible refine cellAlloc _ ?_) | (with_reducible refine cellDrew ?_) | (with_reducible refine cellDrewN ?_)))
  have gCP01 : Y1c.cell? ⟨w.heap.size, 1, none⟩ = some (.slice ad0 x0.length cap0) := (by rw [hY]; repeat (first | (with_reducible exact CP01) | (with_reducible refine cellAlloc _ ?_) | (with_reducible refine cellDrew ?_) | (with_reducible refine cellDrewN ?_)))
  have gCP10 : Y1c.cell? ⟨w.heap.size + 1, 0, none⟩ = some (.int .i64 n1) := (by rw [hY]; repeat (first | (with_reducible exact CP10) | (with_reducible refine cellAlloc _ ?_) | (with_reducible refine cellDrew ?_) | (with_reducible refine cellDrewN ?_)))
  have gCP11 : Y1c.cell? ⟨w.heap.size + 1, 1, none⟩ = some (.slice ad1 x1.length cap1) := (by rw [hY]; repeat (first | (with_reducible exact CP11) | (with_reducible refine cellAlloc _ ?_) | (with_reducible refine cellDrew ?_) | (with_reducible refine cellDrewN ?_)))
  have gCw00 : Y1c.cell? ⟨pw0, 0, none⟩ = some (.int .i64 (numJoinRhythms n0 x0 n1 x1)) := (by rw [hY]; repeat (first | (with_reducible exact Cw00) | (with_reducible refine cellAlloc _ ?_) | (with_reducible refine cellDrew ?_) | (with_reducible refine cellDrewN ?_)))
  have gCw01 : Y1c.cell? ⟨pw0, 1, none⟩ = some (.slice axw0 (lstJoinRhythms n0 x0 n1 x1).length kxw0) := (by rw [hY]; repeat (first | (with_reducible exact Cw01) | (with_reducible refine cellAlloc _ ?_) | (with_reducible refine cellDrew ?_) | (with_reducible refine cellDrewN ?_)))
  have gCx00 : Y1c.cell? ⟨w3.heap.size, 0, none⟩ = some (.int .i64 n0) := (by rw [hY]; repeat (first | (with_reducible exact Cx00) | (with_reducible refine cellAlloc _ ?_) | (with_reducible refine cellDrew ?_) | (with_reducible refine cellDrewN ?_)))
  have gCx01 : Y1c.cell? ⟨w3.heap.size, 1, none⟩ = some (.slice ax3 x0.length kx3) := (by rw [hY]; repeat (first | (with_reducible exact Cx01) | (with_reducible refine cellAlloc _ ?_) | (with_reducible refine cellDrew ?_) | (with_reducible refine cellDrewN ?_)))
  have gCx10 : Y1c.cell? ⟨w4.heap.size, 0, none⟩ = some (.int .i64 n1) := (by rw [hY]; repeat (first | (with_reducible exact Cx10) | (with_reducible refine cellAlloc _ ?_) | (with_reducible refine cellDrew ?_) | (with_reducible refine cellDrewN ?_)))
  have gCx11 : Y1c.cell? ⟨w4.heap.size, 1, none⟩ = some (.slice ax4 x1.length kx4) := (by rw [hY]; repeat (first | (with_reducible exact Cx11) | (with_reducible refine cellAlloc _ ?_) | (with_reducible refine cellDrew ?_) | (with_reducible refine cellDrewN ?_)))
  have gCg00 : Y1c.cell? ⟨w5.heap.size, 0, none⟩ = some (.int .i64 (numJoinRhythms n0 x0 n1 x1)) := (by rw [hY]; repeat (first | (with_reducible exact Cg00) | (with_reducible refine cellAlloc _ ?_) | (with_reducible refine cellDrew ?_) | (with_reducible refine cellDrewN ?_)))
  have gCg01 : Y1c.cell? ⟨w5.heap.size, 1, none⟩ = some (.slice ax5 (lstJoinRhythms n0 x0 n1 x1).length kx5) := (by rw [hY]; repeat (first | (with_reducible exact Cg01) | (with_reducible refine cellAlloc _ ?_) | (with_reducible refine cellDrew ?_) | (with_reducible refine cellDrewN ?_)))
  have gSw0 : Seg Y1c (Y0c.heap.size) (w0c.heap.size) (.slice axw0 (lstJoinRhythms n0 x0 n1 x1).length kxw0) ((lstJoinRhythms n0 x0 n1 x1)) := (by rw [hY]; repeat (first | (with_reducible exact Sw0.out) | (with_reducible refine Seg.alloc ?_ _) | (with_reducible refine Seg.drew ?_) | (with_reducible refine Seg.drewN ?_ _)))
  have gSx0 : Seg Y1c (w0c.heap.size + 0) (w3.heap.size) (.slice ax3 x0.length kx3) (marks 1 x0.length) := (by rw [hY]; repeat (first | (with_reducible exact Sx0.out) | (with_reducible refine Seg.alloc ?_ _) | (with_reducible refine Seg.drew ?_) | (with_reducible refine Seg.drewN ?_ _)))
  have gSx1 : Seg Y1c (w3.heap.size + 1) (w4.heap.size) (.slice ax4 x1.length kx4) (marks (1 + (x0.length : Int)) x1.length) := (by rw [hY]; repeat (first | (with_reducible exact Sx1.out) | (with_reducible refine Seg.alloc ?_ _) | (with_reducible refine Seg.drew ?_) | (with_reducible refine Seg.drewN ?_ _)))
  have gSg0 : Seg Y1c (w4.heap.size + 1) (w5.heap.size) (.slice ax5 (lstJoinRhythms n0 x0 n1 x1).length kx5) (marks 1 (lstJoinRhythms n0 x0 n1 x1).length) := (by rw [hY]; repeat (first | (with_reducible exact Sg0.out) | (with_reducible refine Seg.alloc ?_ _) | (with_reducible refine Seg.drew ?_) | (with_reducible refine Seg.drewN ?_ _)))
  clear hY HB CP00 CP01 CP10 CP11 Cw00 Cw01 Cx00 Cx01 Cx10 Cx11 Cg00 Cg01 Sw0 Sx0 Sx1 Sg0 yCP00 yCP10 yCw00 yCx00 yCx10 yCg00
  have CP00 := gCP00
  have CP01 := gCP01
  have CP10 := gCP10
  have CP11 := gCP11
  have Cw00 := gCw00
  have Cw01 := gCw01
  have Cx00 := gCx00
  have Cx01 := gCx01
  have Cx10 := gCx10
  have Cx11 := gCx11
  have Cg00 := gCg00
  have Cg01 := gCg01
  have Sw0 := Lib.hid gSw0
  have Sx0 := Lib.hid gSx0
  have Sx1 := Lib.hid gSx1
  have Sg0 := Lib.hid gSg0
  have HB := Lib.hid gB
  have zY15c := gz
  clear gB gz gCP00 gCP01 gCP10 gCP11 gCw00 gCw01 gCx00 gCx01 gCx10 gCx11 gCg00 gCg01 gSw0 gSx0 gSx1 gSg0
  have yCP00 : w.heap.size < Y1c.heap.size := World.block_lt_of_cell? _ _ CP00
  have yCP10 : w.heap.size + 1 < Y1c.heap.size := World.block_lt_of_cell? _ _ CP10
  have yCw00 : pw0 < Y1c.heap.size := World.block_lt_of_cell? _ _ Cw00
  have yCx00 : w3.heap.size < Y1c.heap.size := World.block_lt_of_cell? _ _ Cx00
  have yCx10 : w4.heap.size < Y1c.heap.size := World.block_lt_of_cell? _ _ Cx10
  have yCg00 : w5.heap.size < Y1c.heap.size := World.block_lt_of_cell? _ _ Cg00
  go_cut [15, 16] (fun v6 v7 wx => ∃ (p : Nat) (ax : Option Addr) (kx : Nat), v6 = .pointer (some ⟨p, 0, none⟩) ∧ v7 = .bool (okJoinRhythms n0 x0 n1 x1) ∧ Laid Y1c p ax kx (numJoinRhythms n0 x0 n1 x1) (lstJoinRhythms n0 x0 n1 x1) wx)
  case first =>
    go_region_law (first | (go_simp; go_at_call_of 17 (Value.slice ad0 x0.length cap0); refine withWorld fun X hX => ?_; have gYA : Below Y1c.heap.size Y1c X := (by rw [hX]; repeat (first | (with_reducible exact Below.refl _ _) | (with_reducible exact Below.refl _ _) | (with_reducible refine bel_alloc ?_ _) | (with_reducible refine Below.drew ?_) | (with_reducible refine bel_drewN ?_ _))); (first | (have bxX : Bx X Y1c.heap.size (.int .i64 0) (.slice none 0 0) 27 := by rw [hX]; exact Bx.new _ _ _ _) | skip); clear hX; refine (lawToRhythm _ _ x0 _ (by omega) (Ints.ofBelow h0 (HB.out.trans (gYA.mono HB.out.size)))).mono ?_; rintro e wA ⟨axA, kxA, rfl, oA, bA⟩; have BA : Below Y1c.heap.size Y1c wA := bel_step gYA bA gYA.size; (try (have bxA := bxX.below bA bxX.lt)); have CP00A := cellAfter BA CP00; have yCP00A : w.heap.size < wA.heap.size := World.block_lt_of_cell? _ _ CP00A; have CP01A := cellAfter BA CP01; have CP10A := cellAfter BA CP10; have yCP10A : w.heap.size + 1 < wA.heap.size := World.block_lt_of_cell? _ _ CP10A; have CP11A := cellAfter BA CP11) | (go_simp; go_at_call_of 17 (Value.slice ad1 x1.length cap1); refine withWorld fun X hX => ?_; have gYB : Below Y1c.heap.size Y1c X := (by rw [hX]; repeat (first | (with_reducible exact BA) | (with_reducible exact Below.refl _ _) | (with_reducible refine bel_alloc ?_ _) | (with_reducible refine Below.drew ?_) | (with_reducible refine bel_drewN ?_ _))); have gA : Below wA.heap.size wA X := (by rw [hX]; repeat (first | (with_reducible exact Below.refl _ _) | (with_reducible exact Below.refl _ _) | (with_reducible refine bel_alloc ?_ _) | (with_reducible refine Below.drew ?_) | (with_reducible refine bel_drewN ?_ _))); have oA2 := oA.below gA; (first | (have bxX : Bx X wA.heap.size (.int .i64 0) (.slice none 0 0) 27 := by rw [hX]; exact Bx.new _ _ _ _) | (have bxX : Bx X Y1c.heap.size (.int .i64 0) (.slice none 0 0) 27 := by rw [hX]; exact bxA) | skip); clear hX; refine (lawToRhythm _ _ x1 _ (by omega) (Ints.ofBelow h1 (HB.out.trans (gYB.mono HB.out.size)))).mono ?_; rintro e wB ⟨axB, kxB, rfl, oB, bB⟩; have BB : Below Y1c.heap.size Y1c wB := bel_step gYB bB gYB.size; have oA3 := oA2.below bB; (try (have bxB := bxX.below bB bxX.lt)); have CP00B := cellAfter BB CP00; have yCP00B : w.heap.size < wB.heap.size := World.block_lt_of_cell? _ _ CP00B; have CP01B := cellAfter BB CP01; have CP10B := cellAfter BB CP10; have yCP10B : w.heap.size + 1 < wB.heap.size := World.block_lt_of_cell? _ _ CP10B; have CP11B := cellAfter BB CP11) | (go_simp; go_at_call 29; refine withWorld fun X hX => ?_; have gYC : Below Y1c.heap.size Y1c X := (by rw [hX]; repeat (first | (with_reducible exact BB) | (with_reducible exact Below.refl _ _) | (with_reducible refine bel_alloc ?_ _) | (with_reducible refine Below.drew ?_) | (with_reducible refine bel_drewN ?_ _))); have gB3 : Below wB.heap.size wB X := (by rw [hX]; repeat (first | (with_reducible exact Below.refl _ _) | (with_reducible exact Below.refl _ _) | (with_reducible refine bel_alloc ?_ _) | (with_reducible refine Below.drew ?_) | (with_reducible refine bel_drewN ?_ _))); (first | (have bxC : Bx X wB.heap.size (.int .i64 0) (.slice none 0 0) 27 := by rw [hX]; exact Bx.new _ _ _ _) | (have bxC : Bx X wA.heap.size (.int .i64 0) (.slice none 0 0) 27 := by rw [hX]; exact bxB) | (have bxC : Bx X Y1c.heap.size (.int .i64 0) (.slice none 0 0) 27 := by rw [hX]; exact bxB) | skip); clear hX; refine (implJoinRhythmsC _ _ x0 c0 _ _ x1 c1 _ (Ints.ofBelow oA3.ints gB3) (Ints.ofBelow oB.ints gB3)).mono ?_; rintro e wC ⟨axC, kxC, rfl, oC, bC⟩; (try (have bxD := bxC.below bC bxC.lt; have p0 := bxD.c0; have p1 := bxD.c1; have f0 := bxD.f 0; have f1 := bxD.f 1))))
    all_goals
      go_wp2_with fail
      go_meet
      case rel => first | exact ⟨_, axC, kxC, rfl, rfl, Laid.before bxC gYC (by first | exact Nat.le_refl _ | exact BA.size | exact BB.size) oC bC _⟩ | exact ⟨_, axC, kxC, rfl, rfl, Laid.behind gYC oC bC _⟩
  rename World => w1c
  obtain ⟨ph0, axh0, kxh0, rfl, rfl, hbx, hpl1, hph1, hown, hbl⟩ := hcut
  have HB := Lib.hid (bel_step HB.out hbl HB.out.size)
  have z1c : Y1c.heap.size + 0 ≤ w1c.heap.size := hbl.size
  have CP00 := cellAfter hbl CP00
  have CP01 := cellAfter hbl CP01
  have CP10 := cellAfter hbl CP10
  have CP11 := cellAfter hbl CP11
  have Cw00 := cellAfter hbl Cw00
  have Cw01 := cellAfter hbl Cw01
  have Cx00 := cellAfter hbl Cx00
  have Cx01 := cellAfter hbl Cx01
  have Cx10 := cellAfter hbl Cx10
  have Cx11 := cellAfter hbl Cx11
  have Cg00 := cellAfter hbl Cg00
  have Cg01 := cellAfter hbl Cg01
  have Sw0 := Lib.hid (Sw0.out.after hbl)
  have Sx0 := Lib.hid (Sx0.out.after hbl)
  have Sx1 := Lib.hid (Sx1.out.after hbl)
  have Sg0 := Lib.hid (Sg0.out.after hbl)
  have Sh0 := Lib.hid (Seg.mk' hown)
  have Ch00 := hbx.c0
  have Ch01 := hbx.c1
  clear hbx hown hbl
  have yCP00 : w.heap.size < w1c.heap.size := World.block_lt_of_cell? _ _ CP00
  have yCP10 : w.heap.size + 1 < w1c.heap.size := World.block_lt_of_cell? _ _ CP10
  have yCw00 : pw0 < w1c.heap.size := World.block_lt_of_cell? _ _ Cw00
  have yCx00 : w3.heap.size < w1c.heap.size := World.block_lt_of_cell? _ _ Cx00
  have yCx10 : w4.heap.size < w1c.heap.size := World.block_lt_of_cell? _ _ Cx10
  have yCg00 : w5.heap.size < w1c.heap.size := World.block_lt_of_cell? _ _ Cg00
  have yCh00 : ph0 < w1c.heap.size := World.block_lt_of_cell? _ _ Ch00
  go_wp2_with fail
  refine withWorld fun X hX => ?_
  have gB : Below w.heap.size w X := (by rw [hX]; repeat (first | (with_reducible exact HB.out) | (with_reducible refine bel_alloc ?_ _) | (with_reducible refine Below.drew ?_) | (with_reducible refine bel_drewN ?_ _)))
  have gz : w1c.heap.size + 0 ≤ X.heap.size := (by rw [hX]; simp)
  have gCP00 : X.cell? ⟨w.heap.size, 0, none⟩ = some (.int .i64 n0) := (by rw [hX]; repeat (first | (with_reducible exact CP00) | (with_reducible refine cellAlloc _ ?_) | (with_reducible refine cellDrew ?_) | (with_reducible refine cellDrewN ?_)))
  have gCP01 : X.cell? ⟨w.heap.size, 1, none⟩ = some (.slice ad0 x0.length cap0) := (by rw [hX]; repeat (first | (with_reducible exact CP01) | (with_reducible refine cellAlloc _ ?_) | (with_reducible refine cellDrew ?_) | (with_reducible refine cellDrewN ?_)))
  have gCP10 : X.cell? ⟨w.heap.size + 1, 0, none⟩ = some (.int .i64 n1) := (by rw [hX]; repeat (first | (with_reducible exact CP10) | (with_reducible refine cellAlloc _ ?_) | (with_reducible refine cellDrew ?_) | (with_reducible refine cellDrewN ?_)))
  have gCP11 : X.cell? ⟨w.heap.size + 1, 1, none⟩ = some (.slice ad1 x1.length cap1) := (by rw [hX]; repeat (first | (with_reducible exact CP11) | (with_reducible refine cellAlloc _ ?_) | (with_reducible refine cellDrew ?_) | (with_reducible refine cellDrewN ?_)))
  have gCw00 : X.cell? ⟨pw0, 0, none⟩ = some (.int .i64 (numJoinRhythms n0 x0 n1 x1)) := (by rw [hX]; repeat (first | (with_reducible exact Cw00) | (with_reducible refine cellAlloc _ ?_) | (with_reducible refine cellDrew ?_) | (with_reducible refine cellDrewN ?_)))
  have gCw01 : X.cell? ⟨pw0, 1, none⟩ = some (.slice axw0 (lstJoinRhythms n0 x0 n1 x1).length kxw0) := (by rw [hX]; repeat (first | (with_reducible exact Cw01) | (with_reducible refine cellAlloc _ ?_) | (with_reducible refine cellDrew ?_) | (with_reducible refine cellDrewN ?_)))
  have gCx00 : X.cell? ⟨w3.heap.size, 0, none⟩ = some (.int .i64 n0) := (by rw [hX]; repeat (first | (with_reducible exact Cx00) | (with_reducible refine cellAlloc _ ?_) | (with_reducible refine cellDrew ?_) | (with_reducible refine cellDrewN ?_)))
  have gCx01 : X.cell? ⟨w3.heap.size, 1, none⟩ = some (.slice ax3 x0.length kx3) := (by rw [hX]; repeat (first | (with_reducible exact Cx01) | (with_reducible refine cellAlloc _ ?_) | (with_reducible refine cellDrew ?_) | (with_reducible refine cellDrewN ?_)))
  have gCx10 : X.cell? ⟨w4.heap.size, 0, none⟩ = some (.int .i64 n1) := (by rw [hX]; repeat (first | (with_reducible exact Cx10) | (with_reducible refine cellAlloc _ ?_) | (with_reducible refine cellDrew ?_) | (with_reducible refine cellDrewN ?_)))
  have gCx11 : X.cell? ⟨w4.heap.size, 1, none⟩ = some (.slice ax4 x1.length kx4) := (by rw [hX]; repeat (first | (with_reducible exact Cx11) | (with_reducible refine cellAlloc _ ?_) | (with_reducible refine cellDrew ?_) | (with_reducible refine cellDrewN ?_)))
  have gCg00 : X.cell? ⟨w5.heap.size, 0, none⟩ = some (.int .i64 (numJoinRhythms n0 x0 n1 x1)) := (by rw [hX]; repeat (first | (with_reducible exact Cg00) | (with_reducible refine cellAlloc _ ?_) | (with_reducible refine cellDrew ?_) | (with_reducible refine cellDrewN ?_)))
  have gCg01 : X.cell? ⟨w5.heap.size, 1, none⟩ = some (.slice ax5 (lstJoinRhythms n0 x0 n1 x1).length kx5) := (by rw [hX]; repeat (first | (with_reducible exact Cg01) | (with_reducible refine cellAlloc _ ?_) | (with_reducible refine cellDrew ?_) | (with_reducible refine cellDrewN ?_)))
  have gCh00 : X.cell? ⟨ph0, 0, none⟩ = some (.int .i64 (numJoinRhythms n0 x0 n1 x1)) := (by rw [hX]; repeat (first | (with_reducible exact Ch00) | (with_reducible refine cellAlloc _ ?_) | (with_reducible refine cellDrew ?_) | (with_reducible refine cellDrewN ?_)))
  have gCh01 : X.cell? ⟨ph0, 1, none⟩ = some (.slice axh0 (lstJoinRhythms n0 x0 n1 x1).length kxh0) := (by rw [hX]; repeat (first | (with_reducible exact Ch01) | (with_reducible refine cellAlloc _ ?_) | (with_reducible refine cellDrew ?_) | (with_reducible refine cellDrewN ?_)))
  have gSw0 : Seg X (Y0c.heap.size) (w0c.heap.size) (.slice axw0 (lstJoinRhythms n0 x0 n1 x1).length kxw0) ((lstJoinRhythms n0 x0 n1 x1)) := (by rw [hX]; repeat (first | (with_reducible exact Sw0.out) | (with_reducible refine Seg.alloc ?_ _) | (with_reducible refine Seg.drew ?_) | (with_reducible refine Seg.drewN ?_ _)))
  have gSx0 : Seg X (w0c.heap.size + 0) (w3.heap.size) (.slice ax3 x0.length kx3) (marks 1 x0.length) := (by rw [hX]; repeat (first | (with_reducible exact Sx0.out) | (with_reducible refine Seg.alloc ?_ _) | (with_reducible refine Seg.drew ?_) | (with_reducible refine Seg.drewN ?_ _)))
  have gSx1 : Seg X (w3.heap.size + 1) (w4.heap.size) (.slice ax4 x1.length kx4) (marks (1 + (x0.length : Int)) x1.length) := (by rw [hX]; repeat (first | (with_reducible exact Sx1.out) | (with_reducible refine Seg.alloc ?_ _) | (with_reducible refine Seg.drew ?_) | (with_reducible refine Seg.drewN ?_ _)))
  have gSg0 : Seg X (w4.heap.size + 1) (w5.heap.size) (.slice ax5 (lstJoinRhythms n0 x0 n1 x1).length kx5) (marks 1 (lstJoinRhythms n0 x0 n1 x1).length) := (by rw [hX]; repeat (first | (with_reducible exact Sg0.out) | (with_reducible refine Seg.alloc ?_ _) | (with_reducible refine Seg.drew ?_) | (with_reducible refine Seg.drewN ?_ _)))
  have gSh0 : Seg X (Y1c.heap.size) (w1c.heap.size) (.slice axh0 (lstJoinRhythms n0 x0 n1 x1).length kxh0) ((lstJoinRhythms n0 x0 n1 x1)) := (by rw [hX]; repeat (first | (with_reducible exact Sh0.out) | (with_reducible refine Seg.alloc ?_ _) | (with_reducible refine Seg.drew ?_) | (with_reducible refine Seg.drewN ?_ _)))
  clear hX HB CP00 CP01 CP10 CP11 Cw00 Cw01 Cx00 Cx01 Cx10 Cx11 Cg00 Cg01 Ch00 Ch01 Sw0 Sx0 Sx1 Sg0 Sh0 yCP00 yCP10 yCw00 yCx00 yCx10 yCg00 yCh00
  refine (lawEqRhythm _ _ _ _ (lstJoinRhythms n0 x0 n1 x1) (lstJoinRhythms n0 x0 n1 x1) _ gSh0.ints gSw0.ints).mono ?_
  rintro e w16 ⟨rfl, b16⟩
  have HB := Lib.hid (bel_step gB b16 gB.size)
  have z16 : w1c.heap.size + 0 ≤ w16.heap.size := Nat.le_trans gz b16.size
  have CP00 := cellAfter b16 gCP00
  have CP01 := cellAfter b16 gCP01
  have CP10 := cellAfter b16 gCP10
  have CP11 := cellAfter b16 gCP11
  have Cw00 := cellAfter b16 gCw00
  have Cw01 := cellAfter b16 gCw01
  have Cx00 := cellAfter b16 gCx00
  have Cx01 := cellAfter b16 gCx01
  have Cx10 := cellAfter b16 gCx10
  have Cx11 := cellAfter b16 gCx11
  have Cg00 := cellAfter b16 gCg00
  have Cg01 := cellAfter b16 gCg01
  have Ch00 := cellAfter b16 gCh00
  have Ch01 := cellAfter b16 gCh01
  have Sw0 := Lib.hid (gSw0.after b16)
  have Sx0 := Lib.hid (gSx0.after b16)
  have Sx1 := Lib.hid (gSx1.after b16)
  have Sg0 := Lib.hid (gSg0.after b16)
  have Sh0 := Lib.hid (gSh0.after b16)
  clear gB gz gCP00 gCP01 gCP10 gCP11 gCw00 gCw01 gCx00 gCx01 gCx10 gCx11 gCg00 gCg01 gCh00 gCh01 gSw0 gSx0 gSx1 gSg0 gSh0 b16 X
  have yCP00 : w.heap.size < w16.heap.size := World.block_lt_of_cell? _ _ CP00
  have yCP10 : w.heap.size + 1 < w16.heap.size := World.block_lt_of_cell? _ _ CP10
  have yCw00 : pw0 < w16.heap.size := World.block_lt_of_cell? _ _ Cw00
  have yCx00 : w3.heap.size < w16.heap.size := World.block_lt_of_cell? _ _ Cx00
  have yCx10 : w4.heap.size < w16.heap.size := World.block_lt_of_cell? _ _ Cx10
  have yCg00 : w5.heap.size < w16.heap.size := World.block_lt_of_cell? _ _ Cg00
  have yCh00 : ph0 < w16.heap.size := World.block_lt_of_cell? _ _ Ch00
  rw [eqR_self]
  go_wp2_with fail
  refine withWorld fun X hX => ?_
  have gB : Below w.heap.size w X := (by rw [hX]; repeat (first | (with_reducible exact HB.out) | (with_reducible refine bel_alloc ?_ _) | (with_reducible refine Below.drew ?_) | (with_reducible refine bel_drewN ?_ _)))
  have gz : w16.heap.size + 0 ≤ X.heap.size := (by rw [hX]; simp)
  have gCP00 : X.cell? ⟨w.heap.size, 0, none⟩ = some (.int .i64 n0) := (by rw [hX]; repeat (first | (with_reducible exact CP00) | (with_reducible refine cellAlloc _ ?_) | (with_reducible refine cellDrew ?_) | (with_reducible refine cellDrewN ?_)))
  have gCP01 : X.cell? ⟨w.heap.size, 1, none⟩ = some (.slice ad0 x0.length cap0) := (by rw [hX]; repeat (first | (with_reducible exact CP01) | (with_reducible refine cellAlloc _ ?_) | (with_reducible refine cellDrew ?_) | (with_reducible refine cellDrewN ?_)))
  have gCP10 : X.cell? ⟨w.heap.size + 1, 0, none⟩ = some (.int .i64 n1) := (by rw [hX]; repeat (first | (with_reducible exact CP10) | (with_reducible refine cellAlloc _ ?_) | (with_reducible refine cellDrew ?_) | (with_reducible refine cellDrewN ?_)))
  have gCP11 : X.cell? ⟨w.heap.size + 1, 1, none⟩ = some (.slice ad1 x1.length cap1) := (by rw [hX]; repeat (first | (with_reducible exact CP11) | (with_reducible refine cellAlloc _ ?_) | (with_reducible refine cellDrew ?_) | (with_reducible refine cellDrewN ?_)))
  have gCw00 : X.cell? ⟨pw0, 0, none⟩ = some (.int .i64 (numJoinRhythms n0 x0 n1 x1)) := (by rw [hX]; repeat (first | (with_reducible exact Cw00) | (with_reducible refine cellAlloc _ ?_) | (with_reducible refine cellDrew ?_) | (with_reducible refine cellDrewN ?_)))
  have gCw01 : X.cell? ⟨pw0, 1, none⟩ = some (.slice axw0 (lstJoinRhythms n0 x0 n1 x1).length kxw0) := (by rw [hX]; repeat (first | (with_reducible exact Cw01) | (with_reducible refine cellAlloc _ ?_) | (with_reducible refine cellDrew ?_) | (with_reducible refine cellDrewN ?_)))
  have gCx00 : X.cell? ⟨w3.heap.size, 0, none⟩ = some (.int .i64 n0) := (by rw [hX]; repeat (first | (with_reducible exact Cx00) | (with_reducible refine cellAlloc _ ?_) | (with_reducible refine cellDrew ?_) | (with_reducible refine cellDrewN ?_)))
  have gCx01 : X.cell? ⟨w3.heap.size, 1, none⟩ = some (.slice ax3 x0.length kx3) := (by rw [hX]; repeat (first | (with_reducible exact Cx01) | (with_reducible refine cellAlloc _ ?_) | (with_reducible refine cellDrew ?_) | (with_reducible refine cellDrewN ?_)))
  have gCx10 : X.cell? ⟨w4.heap.size, 0, none⟩ = some (.int .i64 n1) := (by rw [hX]; repeat (first | (with_reducible exact Cx10) | (with_reducible refine cellAlloc _ ?_) | (with_reducible refine cellDrew ?_) | (with_reducible refine cellDrewN ?_)))
  have gCx11 : X.cell? ⟨w4.heap.size, 1, none⟩ = some (.slice ax4 x1.length kx4) := (by rw [hX]; repeat (first | (with_reducible exact Cx11) | (with_reducible refine cellAlloc _ ?_) | (with_reducible refine cellDrew ?_) | (with_reducible refine cellDrewN ?_)))
  have gCg00 : X.cell? ⟨w5.heap.size, 0, none⟩ = some (.int .i64 (numJoinRhythms n0 x0 n1 x1)) := (by rw [hX]; repeat (first | (with_reducible exact Cg00) | (with_reducible refine cellAlloc _ ?_) | (with_reducible refine cellDrew ?_) | (with_reducible refine cellDrewN ?_)))
  have gCg01 : X.cell? ⟨w5.heap.size, 1, none⟩ = some (.slice ax5 (lstJoinRhythms n0 x0 n1 x1).length kx5) := (by rw [hX]; repeat (first | (with_reducible exact Cg01) | (with_reducible refine cellAlloc _ ?_) | (with_reducible refine cellDrew ?_) | (with_reducible refine cellDrewN ?_)))
  have gCh00 : X.cell? ⟨ph0, 0, none⟩ = some (.int .i64 (numJoinRhythms n0 x0 n1 x1)) := (by rw [hX]; repeat (first | (with_reducible exact Ch00) | (with_reducible refine cellAlloc _ ?_) | (with_reducible refine cellDrew ?_) | (with_reducible refine cellDrewN ?_)))
  have gCh01 : X.cell? ⟨ph0, 1, none⟩ = some (.slice axh0 (lstJoinRhythms n0 x0 n1 x1).length kxh0) := (by rw [hX]; repeat (first | (with_reducible exact Ch01) | (with_reducible refine cellAlloc _ ?_) | (with_reducible refine cellDrew ?_) | (with_reducible refine cellDrewN ?_)))
  have gSw0 : Seg X (Y0c.heap.size) (w0c.heap.size) (.slice axw0 (lstJoinRhythms n0 x0 n1 x1).length kxw0) ((lstJoinRhythms n0 x0 n1 x1)) := (by rw [hX]; repeat (first | (with_reducible exact Sw0.out) | (with_reducible refine Seg.alloc ?_ _) | (with_reducible refine Seg.drew ?_) | (with_reducible refine Seg.drewN ?_ _)))
  have gSx0 : Seg X (w0c.heap.size + 0) (w3.heap.size) (.slice ax3 x0.length kx3) (marks 1 x0.length) := (by rw [hX]; repeat (first | (with_reducible exact Sx0.out) | (with_reducible refine Seg.alloc ?_ _) | (with_reducible refine Seg.drew ?_) | (with_reducible refine Seg.drewN ?_ _)))
  have gSx1 : Seg X (w3.heap.size + 1) (w4.heap.size) (.slice ax4 x1.length kx4) (marks (1 + (x0.length : Int)) x1.length) := (by rw [hX]; repeat (first | (with_reducible exact Sx1.out) | (with_reducible refine Seg.alloc ?_ _) | (with_reducible refine Seg.drew ?_) | (with_reducible refine Seg.drewN ?_ _)))
  have gSg0 : Seg X (w4.heap.size + 1) (w5.heap.size) (.slice ax5 (lstJoinRhythms n0 x0 n1 x1).length kx5) (marks 1 (lstJoinRhythms n0 x0 n1 x1).length) := (by rw [hX]; repeat (first | (with_reducible exact Sg0.out) | (with_reducible refine Seg.alloc ?_ _) | (with_reducible refine Seg.drew ?_) | (with_reducible refine Seg.drewN ?_ _)))
  have gSh0 : Seg X (Y1c.heap.size) (w1c.heap.size) (.slice axh0 (lstJoinRhythms n0 x0 n1 x1).length kxh0) ((lstJoinRhythms n0 x0 n1 x1)) := (by rw [hX]; repeat (first | (with_reducible exact Sh0.out) | (with_reducible refine Seg.alloc ?_ _) | (with_reducible refine Seg.drew ?_) | (with_reducible refine Seg.drewN ?_ _)))
  clear hX HB CP00 CP01 CP10 CP11 Cw00 Cw01 Cx00 Cx01 Cx10 Cx11 Cg00 Cg01 Ch00 Ch01 Sw0 Sx0 Sx1 Sg0 Sh0 yCP00 yCP10 yCw00 yCx00 yCx10 yCg00 yCh00
  refine (lawHeldRhythm' _ _ (marks 1 (lstJoinRhythms n0 x0 n1 x1).length) _ _ (by rw [marks_len]; have := lenJoinRhythms n0 x0 n1 x1; omega) (by omega) (by omega) gSg0.ints).mono ?_
  rintro e w17 ⟨rfl, b17⟩
  have HB := Lib.hid (bel_step gB b17 gB.size)
  have z17 : w16.heap.size + 0 ≤ w17.heap.size := Nat.le_trans gz b17.size
  have CP00 := cellAfter b17 gCP00
  have CP01 := cellAfter b17 gCP01
  have CP10 := cellAfter b17 gCP10
  have CP11 := cellAfter b17 gCP11
  have Cw00 := cellAfter b17 gCw00
  have Cw01 := cellAfter b17 gCw01
  have Cx00 := cellAfter b17 gCx00
  have Cx01 := cellAfter b17 gCx01
  have Cx10 := cellAfter b17 gCx10
  have Cx11 := cellAfter b17 gCx11
  have Cg00 := cellAfter b17 gCg00
  have Cg01 := cellAfter b17 gCg01
  have Ch00 := cellAfter b17 gCh00
  have Ch01 := cellAfter b17 gCh01
  have Sw0 := Lib.hid (gSw0.after b17)
  have Sx0 := Lib.hid (gSx0.after b17)
  have Sx1 := Lib.hid (gSx1.after b17)
  have Sg0 := Lib.hid (gSg0.after b17)
  have Sh0 := Lib.hid (gSh0.after b17)
  clear gB gz gCP00 gCP01 gCP10 gCP11 gCw00 gCw01 gCx00 gCx01 gCx10 gCx11 gCg00 gCg01 gCh00 gCh01 gSw0 gSx0 gSx1 gSg0 gSh0 b17 X
  have yCP00 : w.heap.size < w17.heap.size := World.block_lt_of_cell? _ _ CP00
  have yCP10 : w.heap.size + 1 < w17.heap.size := World.block_lt_of_cell? _ _ CP10
  have yCw00 : pw0 < w17.heap.size := World.block_lt_of_cell? _ _ Cw00
  have yCx00 : w3.heap.size < w17.heap.size := World.block_lt_of_cell? _ _ Cx00
  have yCx10 : w4.heap.size < w17.heap.size := World.block_lt_of_cell? _ _ Cx10
  have yCg00 : w5.heap.size < w17.heap.size := World.block_lt_of_cell? _ _ Cg00
  have yCh00 : ph0 < w17.heap.size := World.block_lt_of_cell? _ _ Ch00
  rw [heldOf_marks]
  go_wp2
  go_ret
  exact ⟨rfl, by repeat (first | (with_reducible exact HB.out) | refine bel_alloc ?_ _ | refine Below.drew ?_ | refine bel_drewN ?_ _ | exact Below.refl _ _)⟩
end Go.Proofs.Ytbnccedfmmfkgaa.fnExactJoinRhythms
