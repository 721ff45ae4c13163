/-
  Contracts of the reference's draws: numbers and rhythms out of a code.
  Conditions: the code's bytes lie in memory, at most two to the twentieth.
-/
import Derived.Test.YtcgpmdfcdngnlaaDoorD2
import Derived.Test.YtcgpmdfcdngnlaaDoorM12
import Derived.Test.YtcgpmdfcdngnlaaDoorG2
set_option linter.unusedVariables false
set_option linter.unusedSimpArgs false
namespace Go.Proofs.YtcgpmdfcdngnlaaDoor
open Go.RowKit

theorem Bx.outside {X w1 : World} {q lo hi : Nat} {v0 v1 : Value} {t : TypeId} (h : Bx X q v0 v1 t) (b : Outside lo hi X w1) (hd : q < lo ∨ hi ≤ q) : Bx w1 q v0 v1 t := (b.block q h.lt hd).trans h
theorem Own.outside {X w1 : World} {lo hi B : Nat} {v : Value} {xs : List Int} (h : Own X B v xs) (b : Outside lo hi X w1) (hd : hi ≤ B) : Own w1 B v xs := by
  refine ⟨h.1, ?_⟩
  rcases h.2 with hn | ⟨g, cap, cur, hv, hB, hg, rest⟩
  · exact .inl hn
  · have hlt : g < X.heap.size := (Array.getElem?_eq_some_iff.1 hg).1
    exact .inr ⟨g, cap, cur, hv, hB, by rw [b.block g hlt (by omega)]; exact hg, rest⟩
theorem Out.trans {lo hi : Nat} {w X Y : World} (h : Outside lo hi w X) (h' : Outside lo hi X Y) : Outside lo hi w Y :=
  ⟨h'.os.trans h.os, h'.tape.trans h.tape, h'.output.trans h.output, Nat.le_trans h.size h'.size, fun b hb1 hb2 => (h'.block b (Nat.lt_of_lt_of_le hb1 h.size) hb2).trans (h.block b hb1 hb2)⟩
theorem Out.below {lo hi B : Nat} {w X Y : World} (h : Outside lo hi w X) (h' : Below B X Y) (hB : w.heap.size ≤ B) (hX : w.heap.size ≤ X.heap.size) : Outside lo hi w Y :=
  ⟨h'.os.trans h.os, h'.tape.trans h.tape, h'.output.trans h.output, Nat.le_trans h.size h'.size, fun b hb1 hb2 => (h'.block b (by omega)).trans (h.block b hb1 hb2)⟩
theorem Cur.below {w w' : World} {p B : Nat} {v : Value} {m : Nat} (h : Cur w p v m) (hb : Below B w w') (hp : p < B) : Cur w' p v m := by
  obtain ⟨i, h, hx, hi, hh⟩ := h
  exact ⟨i, h, hx.below hb hp, hi, hh⟩
theorem Cur.lt {w : World} {p : Nat} {v : Value} {m : Nat} (h : Cur w p v m) : p < w.heap.size := by obtain ⟨i, h, hx, _⟩ := h; exact hx.lt

theorem specL01Below (p : Nat) (v : Value) (m : Nat) (n : Int) (w : World) (hm : m ≤ 1048576) (hn : 1 ≤ n) (hn' : n ≤ 256) (hC : Cur w p v m) (hB : Bytes w p v m) :
    Calls Tryd.prog 55 #[.pointer (some ⟨p, 0, none⟩), .int .i64 n] w fun e w' => (∃ r : Int, 0 ≤ r ∧ r < n ∧ e = .returned (.int .i64 r)) ∧ Cur w' p v m ∧ Outside p (p + 1) w w' := by
  have h1 : ¬ n ≤ 0 := by omega
  have h2 : (n == 0) = false := by simp; omega
  have h3 : ¬ n = 0 := by omega
  go_enter Tryd.func55, Tryd.ntmps55
  go_wp2_with (go_at_call 53; refine (specL01Byte p v m _ hm hC hB).mono ?_; rintro e w1 ⟨⟨r, hr0, hr1, rfl⟩, hC1, hO1⟩; have HC := Lib.hid hC1; have HO := Lib.hid hO1; clear hC1 hO1)
  go_ret
  refine ⟨⟨r % n, Int.emod_nonneg _ h3, Int.emod_lt_of_pos _ (by omega), ?_⟩, HC.out, HO.out⟩
  first | rfl | (rw [Int.tmod_eq_emod_of_nonneg hr0])

set_option maxRecDepth 20000 in
set_option maxHeartbeats 2000000 in
theorem specL01New (v : Value) (m : Nat) (w : World) (hm : m ≤ 1048576) (hB : Bytes w w.heap.size v m) :
    Calls Tryd.prog 54 #[v] w fun e w' => (∃ p, w.heap.size ≤ p ∧ p < w'.heap.size ∧ e = .returned (.pointer (some ⟨p, 0, none⟩)) ∧ Cur w' p v m) ∧ Below w.heap.size w w' := by
  have hB0 := hB
  obtain ⟨a, cap, rfl, hl, hmx, hbb⟩ := hB
  unfold maxLen at hmx
  have ha := i64_and30
  have hw64 : ∀ n : Int, I64 (wrap64 n) := fun n => by
    unfold I64 wrap64
    omega
  go_enter Tryd.func54, Tryd.ntmps54
  go_wp2
  go_loopw [3, 4] (fun h i wr => ∃ (k : Nat) (H : Int), k ≤ m ∧ i = .int .i64 (k : Int) ∧ h = .int .i64 H ∧ 0 ≤ H ∧ H ≤ 1073741824 ∧ wr = w) (fun _ i _ => m - (intOf i).toNat)
  case atStart => exact ⟨0, _, Nat.zero_le _, rfl, rfl, by omega, by omega, by first | rfl | trivial⟩
  case round =>
    obtain ⟨k, H, hk, rfl, rfl, hH0, hH1, rfl⟩ := hrel
    by_cases hlt : k < m
    · obtain ⟨b, o, rfl, c, hc, hcell⟩ : ∃ b o, a = some ⟨b, o, none⟩ ∧ ∃ c : Nat, c < 256 ∧ wr.cell? ⟨b, o + k, none⟩ = some (.int .u8 (c : Int)) := by
        rcases hbb with h0 | ⟨b, o, rfl, hb, hcs⟩
        · omega
        · obtain ⟨c, hc, hcc⟩ := hcs k hlt
          exact ⟨b, o, rfl, c, hc, hcc⟩
      by_cases hlt4 : k < 4000
      · clear hbb hw64
        go_wp2
        go_roundw
        case rel => exact ⟨k + 1, _, by omega, by go_num, rfl, Int.emod_nonneg _ (by decide), Int.le_of_lt (Int.emod_lt_of_pos _ (by decide)), by first | rfl | trivial⟩
        case measure => simp [intOf]; omega
      · clear hbb hcell hw64
        go_wp2
        go_ret
        exact ⟨⟨_, Nat.le_refl _, by simp, rfl, 0, H, Bx3.new _ _ _ _ _, Nat.zero_le _, ⟨by omega, by omega⟩⟩, (Below.refl _ _).alloc (Nat.le_refl _) _⟩
    · clear hbb hw64
      go_wp2
      go_ret
      exact ⟨⟨_, Nat.le_refl _, by simp, rfl, 0, H, Bx3.new _ _ _ _ _, Nat.zero_le _, ⟨by omega, by omega⟩⟩, (Below.refl _ _).alloc (Nat.le_refl _) _⟩
end Go.Proofs.YtcgpmdfcdngnlaaDoor
