/-
  Contract of HasBeat in the program, for seats that lack the reference's.
  Conditions: the rhythm's beats lie in memory.
-/
import Derived.Test.YtopfenhphnmfkaaE2
set_option linter.unusedVariables false
set_option linter.unusedSimpArgs false
namespace Go.Proofs.Ytopfenhphnmfkaa
open Go.RowKit

def valHasBeat (n : Int) (x : List Int) (k : Int) : Bool := rok n x && hasL x (mo k n)
theorem valHasBeat_no {n : Int} {x : List Int} (k : Int) (h : rok n x = false) : valHasBeat n x k = false := by simp [valHasBeat, h]
theorem valHasBeat_yes {n : Int} {x : List Int} (k : Int) (h : rok n x = true) : valHasBeat n x k = hasL x (mo k n) := by simp [valHasBeat, h]

theorem implHasBeatC (n : Int) (v : Value) (x : List Int) (c : I64 n) (k : Int) (ck : I64 k) (w : World) (h : Ints w w.heap.size v x) :
    Calls Try.prog 44 #[.agg #[.int .i64 n, v], .int .i64 k] w fun e w' => e = .returned (.bool (valHasBeat n x k)) ∧ Below w.heap.size w w' := by
  have h' := h
  obtain ⟨a, cap, rfl, -⟩ := h'
  cases hr : rok n x with
  | false =>
    have Hr := Lib.hid hr
    have Hf := Lib.hid (valHasBeat_no k hr)
    clear hr
    go_enter Try.func44, Try.ntmps44
    go_wp2_with (go_at_call 49; refine (implRhythmOk _ _ x _ _ c.1 c.2 (h.alloc (Nat.le_refl _) _)).mono ?_; rintro e w' ⟨rfl, rfl⟩; rw [Hr.out])
    go_ret
    exact ⟨ret_bool Hf.out.symm, ((Below.refl _ _).alloc (Nat.le_refl _) _).alloc (by simp) _⟩
  | true =>
    have Hr := Lib.hid hr
    have Hf := Lib.hid (valHasBeat_yes k hr)
    have hR := (rok_iff n x).1 hr
    have hlo := hR.lo
    have hhi := hR.hi
    clear hr hR
    go_enter Try.func44, Try.ntmps44
    go_wp2_with (go_at_call 49; refine (implRhythmOk _ _ x _ _ c.1 c.2 (h.alloc (Nat.le_refl _) _)).mono ?_; rintro e w' ⟨rfl, rfl⟩; rw [Hr.out])
    refine (implHas _ _ x _ _ hlo hhi ck (((h.alloc (Nat.le_refl _) _).alloc (by simp) _).mono (by simp; omega))).mono ?_
    rintro e w1 ⟨rfl, b1⟩
    go_wp2
    go_ret
    exact ⟨ret_bool Hf.out.symm, bel_step (((Below.refl _ _).alloc (Nat.le_refl _) _).alloc (by simp) _) b1 (by simp; omega)⟩

end Go.Proofs.Ytopfenhphnmfkaa
