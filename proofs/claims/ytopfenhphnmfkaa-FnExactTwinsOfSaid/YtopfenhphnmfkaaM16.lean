/-
  The number of bits set, in the manner of halves, quarters and bytes.
  Condition: the number is below two to the twenty-fourth.
-/
import Derived.Test.YtopfenhphnmfkaaM13
set_option linter.unusedVariables false
set_option linter.unusedSimpArgs false
namespace Go.Proofs.Ytopfenhphnmfkaa
set_option maxRecDepth 100000

def q1 (a : Nat) : Nat := (a / 2 &&& 6148914691236517205) + (a &&& 6148914691236517205)
def q2 (a : Nat) : Nat := (a / 4 &&& 3689348814741910323) + (a &&& 3689348814741910323)
def q3 (a : Nat) : Nat := (a / 16 + a) &&& 1085102592571150095
def t1 (x : Nat) : Nat := (x / 2 &&& 85) + (x &&& 85)
def t2 (x : Nat) : Nat := (x / 4 &&& 51) + (x &&& 51)
def t3 (x : Nat) : Nat := (x / 16 + x) % 16
theorem k85 : ∀ z, z < 256 → z &&& 85 = z % 128 &&& 85 := by decide
theorem k51 : ∀ z, z < 256 → z &&& 51 = z % 64 &&& 51 := by decide
theorem k15 : ∀ z, z < 256 → z &&& 15 = z % 16 := by decide
theorem t1_lt : ∀ x, x < 256 → t1 x < 256 := by decide
theorem t2_le : ∀ x, x < 256 → t2 (t1 x) % 16 ≤ 4 ∧ t2 (t1 x) / 16 ≤ 4 := by decide
theorem t3_pop : ∀ x, x < 256 → t3 (t2 (t1 x)) = pop 8 x := by decide
theorem and3 (a m : Nat) (h : a < 16777216) : a &&& m = (a % 256 &&& m % 256) + 256 * (a / 256 % 256 &&& m / 256 % 256) + 65536 * (a / 65536 &&& m / 65536 % 256) := by
  rw [and_split a m, and_split (a / 256) (m / 256), and_split (a / 256 / 256) (m / 256 / 256)]
  have e0 : a / 256 / 256 / 256 = 0 := by omega
  have e1 : a / 256 / 256 % 256 = a / 65536 := by omega
  have e2 : m / 256 / 256 % 256 = m / 65536 % 256 := by omega
  rw [e0, Nat.zero_and, e1, e2]
  omega
theorem q1_split (a : Nat) (h : a < 16777216) : q1 a = t1 (a % 256) + 256 * t1 (a / 256 % 256) + 65536 * t1 (a / 65536) := by
  unfold q1 t1
  rw [and3 (a / 2) _ (by omega), and3 a _ h]
  have h0 := k85 (a / 2 % 256) (by omega)
  have h1 := k85 (a / 2 / 256 % 256) (by omega)
  have h2 : a / 2 / 65536 = a / 65536 / 2 := by omega
  have e0 : a / 2 % 256 % 128 = a % 256 / 2 := by omega
  have e1 : a / 2 / 256 % 256 % 128 = a / 256 % 256 / 2 := by omega
  rw [e0] at h0
  rw [e1] at h1
  rw [show 6148914691236517205 % 256 = 85 from rfl, h0, h1, h2]
  omega
theorem q2_split (a : Nat) (h : a < 16777216) : q2 a = t2 (a % 256) + 256 * t2 (a / 256 % 256) + 65536 * t2 (a / 65536) := by
  unfold q2 t2
  rw [and3 (a / 4) _ (by omega), and3 a _ h]
  have h0 := k51 (a / 4 % 256) (by omega)
  have h1 := k51 (a / 4 / 256 % 256) (by omega)
  have h2 : a / 4 / 65536 = a / 65536 / 4 := by omega
  have e0 : a / 4 % 256 % 64 = a % 256 / 4 := by omega
  have e1 : a / 4 / 256 % 256 % 64 = a / 256 % 256 / 4 := by omega
  rw [e0] at h0
  rw [e1] at h1
  rw [show 3689348814741910323 % 256 = 51 from rfl, h0, h1, h2]
  omega
theorem q3_split (x y z : Nat) (hx : x % 16 ≤ 4 ∧ x / 16 ≤ 4) (hy : y % 16 ≤ 4 ∧ y / 16 ≤ 4) (hz : z % 16 ≤ 4 ∧ z / 16 ≤ 4) : q3 (x + 256 * y + 65536 * z) = t3 x + 256 * t3 y + 65536 * t3 z := by
  unfold q3
  have h16 : (x + 256 * y + 65536 * z) / 16 = x / 16 + 16 * y + 4096 * z := by omega
  rw [h16]
  rw [and3 _ _ (by omega)]
  rw [show 1085102592571150095 % 256 = 15 from rfl]
  rw [k15 _ (by omega), k15 _ (by omega), k15 _ (by omega)]
  generalize hs : x / 16 + 16 * y + 4096 * z + (x + 256 * y + 65536 * z) = S
  have f0 : S % 256 = x / 16 + x + 16 * (y % 16) := by omega
  have f1 : S / 256 = y / 16 + y + 16 * z + 256 * z := by omega
  have f2 : S / 65536 = z / 16 + z := by omega
  have e0 : S % 256 % 16 = t3 x := by rw [f0]; unfold t3; omega
  have e1 : S / 256 % 256 % 16 = t3 y := by rw [f1]; unfold t3; omega
  have e2 : S / 65536 % 16 = t3 z := by rw [f2]; rfl
  rw [e0, e1, e2]
/-- The three bytes. -/
theorem q_bytes (a : Nat) (h : a < 16777216) : q1 a < 16777216 ∧ q2 (q1 a) < 16777216 ∧ ∃ x y z, x ≤ 8 ∧ y ≤ 8 ∧ z ≤ 8 ∧ q3 (q2 (q1 a)) = x + 256 * y + 65536 * z ∧ pop 24 a = x + y + z := by
  have b0 : a % 256 < 256 := by omega
  have b1 : a / 256 % 256 < 256 := by omega
  have b2 : a / 65536 < 256 := by omega
  have e1 := q1_split a h
  have u0 := t1_lt _ b0
  have u1 := t1_lt _ b1
  have u2 := t1_lt _ b2
  have l1 : q1 a < 16777216 := by omega
  have e2 := q2_split (q1 a) l1
  rw [show q1 a % 256 = t1 (a % 256) by omega, show q1 a / 256 % 256 = t1 (a / 256 % 256) by omega, show q1 a / 65536 = t1 (a / 65536) by omega] at e2
  have v0 := t2_le _ b0
  have v1 := t2_le _ b1
  have v2 := t2_le _ b2
  have e3 := q3_split _ _ _ v0 v1 v2
  rw [← e2] at e3
  have w0 := t3_pop _ b0
  have w1 := t3_pop _ b1
  have w2 := t3_pop _ b2
  have hp : pop 24 a = pop 8 (a % 256) + pop 8 (a / 256 % 256) + pop 8 (a / 65536) := by
    have p1 : pop 24 a = pop 8 (a % 256) + pop 16 (a / 256) := pop_split 16 a
    have p2 : pop 16 (a / 256) = pop 8 (a / 256 % 256) + pop 8 (a / 256 / 256) := pop_split 8 (a / 256)
    have p3 : a / 256 / 256 = a / 65536 := by omega
    rw [p1, p2, p3]; omega
  have c8 : ∀ x, pop 8 x ≤ 8 := by
    intro x
    rw [pop_bits]
    exact Nat.le_trans (List.length_filter_le _ _) (by simp)
  refine ⟨l1, by omega, _, _, _, c8 (a % 256), c8 (a / 256 % 256), c8 (a / 65536), ?_, hp⟩
  rw [e3, w0, w1, w2]
end Go.Proofs.Ytopfenhphnmfkaa
