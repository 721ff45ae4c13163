/-
  Contracts of CountBeats, in the program and in the reference: the number of beats of a valid rhythm, else -1.
  Conditions: the rhythm's beats lie in memory.
-/
import Derived.Test.YtopfenhphnmfkaaB1
set_option linter.unusedVariables false
set_option linter.unusedSimpArgs false
namespace Go.Proofs.Ytopfenhphnmfkaa
open Go.RowKit

def valCountBeats (n : Int) (x : List Int) : Int := if rok n x = true then (x.length : Int) else -1
theorem valCountBeats_yes {n : Int} {x : List Int} (h : rok n x = true) : valCountBeats n x = (x.length : Int) := by simp [valCountBeats, h]
theorem valCountBeats_no {n : Int} {x : List Int} (h : rok n x = false) : valCountBeats n x = -1 := by simp [valCountBeats, h]

theorem implCountBeatsC (n : Int) (v : Value) (x : List Int) (c : I64 n) (w : World) (h : Ints w w.heap.size v x) :
    Calls Try.prog 43 #[.agg #[.int .i64 n, v]] w fun e w' => e = .returned (.int .i64 (valCountBeats n x)) ∧ Below w.heap.size w w' := by
  have h' := h
  obtain ⟨a, cap, rfl, -⟩ := h'
  cases hr : rok n x with
  | false =>
    have Hr := Lib.hid hr
    have Hf := Lib.hid (valCountBeats_no hr)
    clear hr
    go_enter Try.func43, Try.ntmps43
    go_wp2_with (go_at_call 49; refine (implRhythmOk _ _ x _ _ c.1 c.2 (h.alloc (Nat.le_refl _) _)).mono ?_; rintro e w' ⟨rfl, rfl⟩; rw [Hr.out])
    go_ret
    exact ⟨ret_int Hf.out.symm, ((Below.refl _ _).alloc (Nat.le_refl _) _).alloc (by simp) _⟩
  | true =>
    have Hr := Lib.hid hr
    have Hf := Lib.hid (valCountBeats_yes hr)
    clear hr
    go_enter Try.func43, Try.ntmps43
    go_wp2_with (go_at_call 49; refine (implRhythmOk _ _ x _ _ c.1 c.2 (h.alloc (Nat.le_refl _) _)).mono ?_; rintro e w' ⟨rfl, rfl⟩; rw [Hr.out])
    go_ret
    exact ⟨ret_int Hf.out.symm, ((Below.refl _ _).alloc (Nat.le_refl _) _).alloc (by simp) _⟩

end Go.Proofs.Ytopfenhphnmfkaa
