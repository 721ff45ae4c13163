/-
  Contracts of MakeNum and MakeRhythm: a number and a valid rhythm out of a code.
  Conditions: the code's bytes lie in memory, at most two to the twentieth.
-/
import Derived.Test.YtcgpmdfcdngnlaaDoorD3
set_option linter.unusedVariables false
set_option linter.unusedSimpArgs false
namespace Go.Proofs.YtcgpmdfcdngnlaaDoor
open Go.RowKit

theorem Bytes.mono {w : World} {B B' : Nat} {v : Value} {m : Nat} (h : Bytes w B v m) (hB : B ≤ B') : Bytes w B' v m := by
  obtain ⟨a, cap, rfl, hl, hm, h⟩ := h
  refine ⟨a, cap, rfl, hl, hm, ?_⟩
  rcases h with h | ⟨b, o, rfl, hlt, h⟩
  · exact .inl h
  · exact .inr ⟨b, o, rfl, by omega, h⟩
theorem Bytes.cur {w X : World} {p : Nat} {v : Value} {m : Nat} (h : Bytes w w.heap.size v m) (b : Below w.heap.size w X) (hp : w.heap.size ≤ p) : Bytes X p v m := (h.below b).mono hp
theorem bel_out {B p : Nat} {w X w1 : World} (h : Below B w X) (b : Outside p (p + 1) X w1) (hp : B ≤ p) (hX : B ≤ X.heap.size) : Below B w w1 := bel_outside h b hp hX

theorem Cur.setc {w : World} {p : Nat} {v : Value} {m : Nat} (h : Cur w p v m) {a : Addr} (ha : p ≠ a.block) (u : Value) : Cur (w.setCell a u) p v m := by
  obtain ⟨i, h, hx, hi, hh⟩ := h
  exact ⟨i, h, (Below.heap_setCell w a u p ha).trans hx, hi, hh⟩
theorem Out.setNew {lo hi : Nat} {w X : World} (h : Outside lo hi w X) {a : Addr} (ha : w.heap.size ≤ a.block) (u : Value) : Outside lo hi w (X.setCell a u) :=
  ⟨h.os, h.tape, h.output, by simpa [World.setCell] using h.size, fun b hb1 hb2 => by rw [Below.heap_setCell _ _ _ _ (show b ≠ a.block by omega)]; exact h.block b hb1 hb2⟩
set_option maxRecDepth 20000 in
set_option maxHeartbeats 2000000 in
theorem specL31New (v : Value) (m : Nat) (n : Nat) (w : World) (hm : m ≤ 1048576) (hn : n ≤ 1000) (hB : Bytes w w.heap.size v m) :
    Calls Tryd.prog 52 #[v, .int .i64 (n : Int)] w fun e w' => (∃ p, w.heap.size ≤ p ∧ p < w'.heap.size ∧ e = .returned (.pointer (some ⟨p, 0, none⟩)) ∧ Cur w' p v m) ∧ Below w.heap.size w w' := by
  have hB0 := hB
  obtain ⟨a, cap, rfl, -⟩ := hB
  go_enter Tryd.func52, Tryd.ntmps52
  go_wp2_with (go_at_call 54; refine (specL01New _ m _ hm hB0).mono ?_; rintro e w1 ⟨⟨p, hp0, hp1, rfl, hC1⟩, hb1⟩; have HC1 := Lib.hid hC1; have HB1 := Lib.hid hb1; clear hC1 hb1)
  go_loopw [6] (fun i wr => ∃ k : Nat, k ≤ n ∧ i = .int .i64 (k : Int) ∧ Cur wr p (.slice a m cap) m ∧ Below w.heap.size w wr) (fun i _ => n - (intOf i).toNat)
  case atStart => exact ⟨0, Nat.zero_le _, rfl, HC1.out, HB1.out⟩
  case round =>
    obtain ⟨k, hk, rfl, hC, hb⟩ := hrel
    have HC := Lib.hid hC
    have HB := Lib.hid hb
    clear hC hb
    by_cases hlt : k < n
    · go_wp2_with (go_at_call 53; refine (specL01Byte p _ m _ hm HC.out (hB0.cur HB.out hp0)).mono ?_; rintro e w2 ⟨⟨r, hr0, hr1, rfl⟩, hC2, hO2⟩; have HC2 := Lib.hid hC2; have HB2 := Lib.hid (bel_out HB.out hO2 hp0 HB.out.size); clear hC2 hO2)
      go_roundw
      case rel => exact ⟨k + 1, by omega, by go_num, HC2.out, HB2.out⟩
      case measure => simp [intOf]; omega
    · go_wp2
      go_ret
      exact ⟨⟨p, hp0, HC.out.lt, rfl, HC.out⟩, HB.out⟩

set_option maxRecDepth 20000 in
set_option maxHeartbeats 2000000 in
theorem specMakeNum (v : Value) (m : Nat) (n : Nat) (w : World) (hm : m ≤ 1048576) (hn : n ≤ 1000) (hB : Bytes w w.heap.size v m) :
    Calls Tryd.prog 27 #[v, .int .i64 (n : Int)] w fun e w' => (∃ r : Int, 0 ≤ r ∧ r ≤ 65535 ∧ e = .returned (.int .i64 r)) ∧ Below w.heap.size w w' := by
  have hB0 := hB
  obtain ⟨a, cap, rfl, -⟩ := hB
  go_enter Tryd.func27, Tryd.ntmps27
  go_wp2_with (first
    | (go_at_call 52; refine (specL31New _ m n _ hm hn hB0).mono ?_; rintro e w1 ⟨⟨p, hp0, hp1, rfl, hC1⟩, hb1⟩; have HC1 := Lib.hid hC1; have HB1 := Lib.hid hb1; clear hC1 hb1)
    | (go_at_call 53; first
        | (have hfresh := HB2.out; refine (specL01Byte p _ m _ hm HC2.out (hB0.cur HB2.out hp0)).mono ?_; rintro e w3 ⟨⟨q, hq0, hq1, rfl⟩, hC3, hO3⟩; have HB3 := Lib.hid (bel_out HB2.out hO3 hp0 HB2.out.size); clear hC3 hO3)
        | (refine (specL01Byte p _ m _ hm HC1.out (hB0.cur HB1.out hp0)).mono ?_; rintro e w2 ⟨⟨r, hr0, hr1, rfl⟩, hC2, hO2⟩; have HC2 := Lib.hid hC2; have HB2 := Lib.hid (bel_out HB1.out hO2 hp0 HB1.out.size); clear hC2 hO2)))
  go_ret
  exact ⟨⟨r * 256 + q, by omega, by omega, rfl⟩, HB3.out⟩

end Go.Proofs.YtcgpmdfcdngnlaaDoor
