/-
  The cursor of the reference's draws: its box, and the contract of one drawn byte.
  Conditions: the bytes lie in memory.
-/
import Derived.Test.YtcgpmdfcdngnlaaDoorC3
import Derived.Laws.BitsLemmas
import Derived.Deep.DeepCutAuto
import Derived.Deep.RegionWith
set_option linter.unusedVariables false
set_option linter.unusedSimpArgs false
namespace Go.Proofs.YtcgpmdfcdngnlaaDoor
open Go.RowKit

def Bx3 (w : World) (p : Nat) (v0 v1 v2 : Value) (t : TypeId) : Prop := w.heap[p]? = some (.cells #[v0, v1, v2] t (0, 0))
theorem Bx3.c0 {w : World} {p : Nat} {v0 v1 v2 : Value} {t : TypeId} (h : Bx3 w p v0 v1 v2 t) : w.cell? ⟨p, 0, none⟩ = some v0 := by rw [cell_of_row w p 0 _ t (0, 0) h]; rfl
theorem Bx3.c1 {w : World} {p : Nat} {v0 v1 v2 : Value} {t : TypeId} (h : Bx3 w p v0 v1 v2 t) : w.cell? ⟨p, 1, none⟩ = some v1 := by rw [cell_of_row w p 1 _ t (0, 0) h]; rfl
theorem Bx3.c2 {w : World} {p : Nat} {v0 v1 v2 : Value} {t : TypeId} (h : Bx3 w p v0 v1 v2 t) : w.cell? ⟨p, 2, none⟩ = some v2 := by rw [cell_of_row w p 2 _ t (0, 0) h]; rfl
theorem Bx3.f {w : World} {p : Nat} {v0 v1 v2 : Value} {t : TypeId} (h : Bx3 w p v0 v1 v2 t) (o : Nat) : w.frozen? ⟨p, o, none⟩ = false := frozen_of_row w p o _ t h
theorem Bx3.lt {w : World} {p : Nat} {v0 v1 v2 : Value} {t : TypeId} (h : Bx3 w p v0 v1 v2 t) : p < w.heap.size := (Array.getElem?_eq_some_iff.1 h).1
theorem Bx3.below {w w' : World} {B p : Nat} {v0 v1 v2 : Value} {t : TypeId} (h : Bx3 w p v0 v1 v2 t) (hb : Below B w w') (hp : p < B) : Bx3 w' p v0 v1 v2 t := (hb.block p hp).trans h
theorem Bx3.new (w : World) (v0 v1 v2 : Value) (t : TypeId) : Bx3 (w.alloc (.cells #[v0, v1, v2] t)) w.heap.size v0 v1 v2 t := heap_alloc_new w _
theorem Bx3.alloc {w : World} {p : Nat} {v0 v1 v2 : Value} {t : TypeId} (h : Bx3 w p v0 v1 v2 t) (o : Obj) : Bx3 (w.alloc o) p v0 v1 v2 t := (Below.heap_alloc w o p h.lt).trans h
theorem Bx3.drewN {w : World} {p : Nat} {v0 v1 v2 : Value} {t : TypeId} (h : Bx3 w p v0 v1 v2 t) (n : Nat) : Bx3 (w.drewN n) p v0 v1 v2 t := h
theorem Bx3.set1 {w : World} {p : Nat} {v0 v1 v2 : Value} {t : TypeId} (h : Bx3 w p v0 v1 v2 t) (u : Value) : Bx3 (w.setCell ⟨p, 1, none⟩ u) p v0 u v2 t := by
  have := heap_setCell_same w p 1 _ t u h
  simpa [Bx3] using this
theorem Bx3.set2 {w : World} {p : Nat} {v0 v1 v2 : Value} {t : TypeId} (h : Bx3 w p v0 v1 v2 t) (u : Value) : Bx3 (w.setCell ⟨p, 2, none⟩ u) p v0 v1 u t := by
  have := heap_setCell_same w p 2 _ t u h
  simpa [Bx3] using this
theorem Out.drewN {lo hi : Nat} {w X : World} (h : Outside lo hi w X) (n : Nat) : Outside lo hi w (X.drewN n) := ⟨h.os, h.tape, h.output, h.size, h.block⟩
theorem Out.refl (lo hi : Nat) (w : World) : Outside lo hi w w := ⟨rfl, rfl, rfl, Nat.le_refl _, fun _ _ _ => rfl⟩
theorem Out.setc {lo hi : Nat} {w X : World} (h : Outside lo hi w X) {a : Addr} (h1 : lo ≤ a.block) (h2 : a.block < hi) (u : Value) : Outside lo hi w (X.setCell a u) :=
  ⟨h.os, h.tape, h.output, by simpa [World.setCell] using h.size, fun b hb1 hb2 => by rw [Below.heap_setCell _ _ _ _ (show b ≠ a.block by omega)]; exact h.block b hb1 hb2⟩

/-- The value v is a slice of m bytes; its cells lie below block B. -/
def Bytes (w : World) (B : Nat) (v : Value) (m : Nat) : Prop :=
  ∃ a cap, v = .slice a m cap ∧ m ≤ cap ∧ cap ≤ maxLen ∧ (m = 0 ∨ ∃ b o, a = some ⟨b, o, none⟩ ∧ b < B ∧ ∀ i, i < m → ∃ c : Nat, c < 256 ∧ w.cell? ⟨b, o + i, none⟩ = some (.int .u8 (c : Int)))
theorem Bytes.below {w w' : World} {B : Nat} {v : Value} {m : Nat} (h : Bytes w B v m) (hb : Below B w w') : Bytes w' B v m := by
  obtain ⟨a, cap, rfl, hl, hm, h⟩ := h
  refine ⟨a, cap, rfl, hl, hm, ?_⟩
  rcases h with h | ⟨b, o, rfl, hB, h⟩
  · exact .inl h
  · exact .inr ⟨b, o, rfl, hB, fun i hi => by rw [(bcell hb).1 _ _ hB]; exact h i hi⟩
theorem Bytes.outside {X w1 : World} {lo hi B : Nat} {v : Value} {m : Nat} (h : Bytes X B v m) (b : Outside lo hi X w1) (hB : B ≤ lo) (hX : B ≤ X.heap.size) : Bytes w1 B v m := by
  obtain ⟨a, cap, rfl, hl, hm, h⟩ := h
  refine ⟨a, cap, rfl, hl, hm, ?_⟩
  rcases h with h | ⟨bl, o, rfl, hlt, h⟩
  · exact .inl h
  · exact .inr ⟨bl, o, rfl, hlt, fun i hi => by rw [World.cell?_of_block (w := X) (w' := w1) (a := ⟨bl, o + i, none⟩) (b.block bl (by omega) (by omega))]; exact h i hi⟩
/-- A cursor over m bytes. -/
def Cur (w : World) (p : Nat) (v : Value) (m : Nat) : Prop := ∃ (i : Nat) (h : Int), Bx3 w p v (.int .i64 (i : Int)) (.int .i64 h) 83 ∧ i ≤ m ∧ I64 h
theorem i64_and255 (n : Int) : bits .and .i64 n 255 = n % 256 := by
  have h255 : (BitVec.ofInt 64 255).toNat = 2 ^ 8 - 1 := by decide
  have key : (BitVec.ofInt 64 n &&& BitVec.ofInt 64 255).toNat = (n % ((2 ^ 64 : Nat) : Int)).toNat % 2 ^ 8 := by
    rw [BitVec.toNat_and, BitVec.toNat_ofInt, h255, Nat.and_two_pow_sub_one_eq_mod]
  show IntKind.i64.wrap ((BitVec.ofInt 64 n &&& BitVec.ofInt 64 255).toNat : Nat) = n % 256
  rw [key, IntKind.wrap_i64]
  omega
theorem i64_and30 (n : Int) : bits .and .i64 n 1073741823 = n % 1073741824 := by
  have h255 : (BitVec.ofInt 64 1073741823).toNat = 2 ^ 30 - 1 := by decide
  have key : (BitVec.ofInt 64 n &&& BitVec.ofInt 64 1073741823).toNat = (n % ((2 ^ 64 : Nat) : Int)).toNat % 2 ^ 30 := by
    rw [BitVec.toNat_and, BitVec.toNat_ofInt, h255, Nat.and_two_pow_sub_one_eq_mod]
  show IntKind.i64.wrap ((BitVec.ofInt 64 n &&& BitVec.ofInt 64 1073741823).toNat : Nat) = n % 1073741824
  rw [key, IntKind.wrap_i64]
  omega

set_option maxRecDepth 20000 in
set_option maxHeartbeats 2000000 in
theorem specL01Byte (p : Nat) (v : Value) (m : Nat) (w : World) (hm : m ≤ 1048576) (hC : Cur w p v m) (hB : Bytes w p v m) :
    Calls Tryd.prog 53 #[.pointer (some ⟨p, 0, none⟩)] w fun e w' => (∃ r : Int, 0 ≤ r ∧ r ≤ 255 ∧ e = .returned (.int .i64 r)) ∧ Cur w' p v m ∧ Outside p (p + 1) w w' := by
  obtain ⟨i, h, hx, hi, hh⟩ := hC
  have hB0 := hB
  obtain ⟨a, cap, rfl, hl, hmx, -⟩ := hB
  unfold maxLen at hmx
  have hplt := hx.lt
  have c0 := hx.c0
  have c1 := hx.c1
  have c2 := hx.c2
  have f2 := hx.f 2
  have f1 := hx.f 1
  have ha := i64_and255
  go_enter Tryd.func53, Tryd.ntmps53
  go_wp2_with fail
  have hw64 : ∀ n : Int, I64 (wrap64 n) := fun n => by
    have := IntKind.wrap_i64 n
    unfold I64
    unfold wrap64
    omega
  have HI := hw64 (wrap64 (h * 6364136223846793005) + 1442695040888963407)
  clear hw64
  refine withWorldC fun Z hZ => ?_
  generalize wrap64 (wrap64 (h * 6364136223846793005) + 1442695040888963407) = H at *
  have HX : Hid (Bx3 Z p (.slice a m cap) (.int .i64 (i : Int)) (.int .i64 H) 83) := by unfold Hid; rw [hZ]; exact hx.set2 _
  have HO : Hid (Outside p (p + 1) w Z) := by unfold Hid; rw [hZ]; exact Out.setc (a := ⟨p, 2, none⟩) (Out.refl _ _ _) (Nat.le_refl _) (Nat.lt_succ_self _) _
  clear hZ c0 c1 c2 f1 f2 hx
  have c0 := HX.out.c0
  have c1 := HX.out.c1
  have c2 := HX.out.c2
  have f1 := HX.out.f 1
  go_cut [3] (fun u wx => (∃ r : Int, 0 ≤ r ∧ r ≤ 255 ∧ u = .int .i64 r) ∧ ∃ n, wx = Z.drewN n)
  case first =>
    go_region
    all_goals
      go_wp2
      go_meet
      case rel => exact ⟨⟨_, Int.emod_nonneg _ (by decide), Int.le_of_lt_add_one (Int.emod_lt_of_pos _ (by decide)), rfl⟩, _, rfl⟩
  rename World => w2
  obtain ⟨⟨r, hr0, hr1, rfl⟩, n2, rfl⟩ := hcut
  have hBZ := hB0.outside HO.out (Nat.le_refl p) (by omega)
  by_cases hlt : i < m
  · obtain ⟨b, o, rfl, hbp, c, hc, hcell⟩ : ∃ b o, a = some ⟨b, o, none⟩ ∧ b < p ∧ ∃ c : Nat, c < 256 ∧ Z.cell? ⟨b, o + i, none⟩ = some (.int .u8 (c : Int)) := by
      obtain ⟨a', cap', e, -, -, h0 | ⟨b, o, e2, hb, hcs⟩⟩ := hBZ
      · omega
      · cases e
        obtain ⟨c, hc, hcc⟩ := hcs i hlt
        exact ⟨b, o, e2, hb, c, hc, hcc⟩
    clear hBZ
    go_wp2_with fail
    go_cut [34] (fun u wx => u = .bool true ∧ ∃ n, wx = Z.drewN n)
    case first =>
      go_region
      all_goals
        go_wp2
        go_meet
        case rel => exact ⟨rfl, _, rfl⟩
    rename World => w3
    obtain ⟨rfl, n3, rfl⟩ := hcut
    go_wp2_with fail
    go_cut [3] (fun u wx => (∃ r : Int, 0 ≤ r ∧ r ≤ 255 ∧ u = .int .i64 r) ∧ ∃ n, wx = Z.drewN n)
    case first =>
      go_region
      all_goals
        go_wp2
        go_meet
        case rel => exact ⟨⟨_, Int.emod_nonneg _ (by decide), Int.le_of_lt_add_one (Int.emod_lt_of_pos _ (by decide)), rfl⟩, _, rfl⟩
    rename World => w4
    obtain ⟨⟨q, hq0, hq1, rfl⟩, n4, rfl⟩ := hcut
    go_wp2
    go_ret
    exact ⟨⟨q, hq0, hq1, rfl⟩, ⟨i + 1, H, by have := (HX.out.drewN n4).set1 (.int .i64 ((i : Int) + 1)); simpa using this, by omega, HI⟩, by
      have := Out.setc (a := ⟨p, 1, none⟩) (Out.drewN HO.out n4) (Nat.le_refl _) (Nat.lt_succ_self _) (.int .i64 ((i : Int) + 1))
      simpa using this⟩
  · clear hBZ
    go_wp2_with fail
    go_cut [34] (fun u wx => u = .bool false ∧ ∃ n, wx = Z.drewN n)
    case first =>
      go_region
      all_goals
        go_wp2
        go_meet
        case rel => exact ⟨rfl, _, rfl⟩
    rename World => w3
    obtain ⟨rfl, n3, rfl⟩ := hcut
    go_wp2
    go_ret
    exact ⟨⟨r, hr0, hr1, rfl⟩, ⟨i, H, HX.out.drewN n3, hi, HI⟩, Out.drewN HO.out n3⟩
end Go.Proofs.YtcgpmdfcdngnlaaDoor
