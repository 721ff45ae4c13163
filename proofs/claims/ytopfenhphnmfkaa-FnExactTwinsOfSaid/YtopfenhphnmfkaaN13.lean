/-
  Contract of bits.OnesCount at small numbers.
  Condition: the number is below two to the twenty-fourth.
-/
import Derived.Test.YtopfenhphnmfkaaB0
import Derived.Test.YtopfenhphnmfkaaM16
import Derived.Laws.BitsLemmas
import Derived.Laws.Bits64
set_option linter.unusedVariables false
set_option linter.unusedSimpArgs false
namespace Go.Proofs.Ytopfenhphnmfkaa
open Go.RowKit

theorem band (x m : Nat) (hx : x < 2 ^ 64) (hm : m < 2 ^ 64) : bits .and .u64 (x : Int) (m : Int) = ((x &&& m : Nat) : Int) :=
  (bits_nat .u64 64 (by decide) (fun n h0 h1 => by rw [IntKind.wrap_u64]; omega) x m hx hm).1
theorem wrapNat (x : Nat) (hx : x < 18446744073709551616) : IntKind.u64.wrap (x : Int) = (x : Int) := by rw [IntKind.wrap_u64]; omega
def I1 (a : Int) : Int := IntKind.u64.wrap (bits BinOp.and IntKind.u64 (a / 2) 6148914691236517205 + bits BinOp.and IntKind.u64 a 6148914691236517205)
def I2 (a : Int) : Int := IntKind.u64.wrap (bits BinOp.and IntKind.u64 (a / 4) 3689348814741910323 + bits BinOp.and IntKind.u64 a 3689348814741910323)
def I3 (a : Int) : Int := bits BinOp.and IntKind.u64 (IntKind.u64.wrap (a / 16 + a)) 1085102592571150095
def I4 (a : Int) : Int := IntKind.u64.wrap (a + a / 256)
def I5 (a : Int) : Int := IntKind.u64.wrap (a + a / 65536)
def I6 (a : Int) : Int := IntKind.u64.wrap (a + a / 4294967296)
theorem I1_nat {a : Nat} (h : a < 16777216) (h' : q1 a < 16777216) : I1 a = (q1 a : Nat) := by
  unfold I1
  have e : (a : Int) / 2 = ((a / 2 : Nat) : Int) := by omega
  rw [e]
  have b1 := band (a / 2) 6148914691236517205 (by omega) (by decide)
  have b2 := band a 6148914691236517205 (by omega) (by decide)
  have c : ((6148914691236517205 : Nat) : Int) = 6148914691236517205 := rfl
  rw [c] at b1 b2
  rw [b1, b2, ← Int.natCast_add]
  exact wrapNat _ (by unfold q1 at h'; omega)
theorem I2_nat {a : Nat} (h : a < 16777216) (h' : q2 a < 16777216) : I2 a = (q2 a : Nat) := by
  unfold I2
  have e : (a : Int) / 4 = ((a / 4 : Nat) : Int) := by omega
  rw [e]
  have b1 := band (a / 4) 3689348814741910323 (by omega) (by decide)
  have b2 := band a 3689348814741910323 (by omega) (by decide)
  have c : ((3689348814741910323 : Nat) : Int) = 3689348814741910323 := rfl
  rw [c] at b1 b2
  rw [b1, b2, ← Int.natCast_add]
  exact wrapNat _ (by unfold q2 at h'; omega)
theorem I3_nat {a : Nat} (h : a < 16777216) : I3 a = (q3 a : Nat) := by
  unfold I3
  have e : (a : Int) / 16 + a = ((a / 16 + a : Nat) : Int) := by omega
  rw [e, wrapNat _ (by omega)]
  exact band (a / 16 + a) 1085102592571150095 (by omega) (by decide)
theorem band127 (x : Nat) (hx : x < 16777216) : bits .and .i64 (x : Int) 127 = ((x % 128 : Nat) : Int) := by
  have h := (bits_nat .i64 24 (by decide) (fun n h0 h1 => by rw [IntKind.wrap_i64]; omega) x 127 hx (by decide)).1
  have e : x &&& 127 = x % 128 := Nat.and_two_pow_sub_one_eq_mod x 7
  rw [e] at h
  exact h

set_option maxHeartbeats 1000000 in
theorem implOnes64 (a : Nat) (w : World) (ha : a < 16777216) :
    Calls Try.prog 127 #[.int .u64 (a : Int)] w fun e w' => e = .returned (.int .i64 (pop 24 a : Nat)) ∧ w = w' := by
  obtain ⟨l1, l2, x, y, z, hx, hy, hz, h3, hp⟩ := q_bytes a ha
  have r1 := I1_nat ha l1
  have r2 := I2_nat l1 l2
  have r3 := I3_nat l2
  have hd : (q3 (q2 (q1 a)) : Nat) < 16777216 := by omega
  have Hp := Lib.hid hp
  generalize hD : q3 (q2 (q1 a)) = D at *
  go_enter Try.func127, Try.ntmps127
  go_wp2
  go_ret
  refine ⟨ret_int ?_, rfl⟩
  show bits BinOp.and IntKind.i64 (wrap64 (I6 (I5 (I4 (I3 (I2 (I1 (a : Int)))))))) 127 = _
  rw [r1, r2, r3]
  have e4 : I4 (D : Int) = ((D + D / 256 : Nat) : Int) := by
    unfold I4
    rw [← wrapNat (D + D / 256) (by omega)]; rfl
  have e5 : I5 ((D + D / 256 : Nat) : Int) = ((D + D / 256 + (D + D / 256) / 65536 : Nat) : Int) := by
    unfold I5
    rw [← wrapNat (D + D / 256 + (D + D / 256) / 65536) (by omega)]; rfl
  generalize hE : D + D / 256 + (D + D / 256) / 65536 = E at *
  have hE1 : E < 17000000 := by omega
  have e6 : I6 (E : Int) = (E : Int) := by
    unfold I6
    have e : (E : Int) + (E : Int) / 4294967296 = (E : Int) := by omega
    rw [e, wrapNat _ (by omega)]
  rw [e4, e5, e6, IntWalk.wrap64_in _ ⟨by omega, by omega⟩, band127 E (by omega), Hp.out]
  have g1 : D / 256 = y + 256 * z := by omega
  have g2 : (D + D / 256) / 65536 = z := by rw [g1]; omega
  have g3 : E = x + y + z + 256 * (y + z) + 65536 * z := by rw [← hE, g2, g1]; omega
  have h8 : E % 128 = x + y + z := by omega
  rw [h8]

theorem implOnes (a : Nat) (w : World) (ha : a < 16777216) :
    Calls Try.prog 110 #[.int .u64 (a : Int)] w fun e w' => e = .returned (.int .i64 (pop 24 a : Nat)) ∧ w = w' := by
  have Ha := Lib.hid ha
  clear ha
  go_enter Try.func110, Try.ntmps110
  go_wp2_with (first | (go_at_call 127; refine (implOnes64 a _ Ha.out).mono ?_; rintro e w1 ⟨rfl, rfl⟩))
  go_ret
  exact ⟨rfl, rfl⟩
end Go.Proofs.Ytopfenhphnmfkaa
