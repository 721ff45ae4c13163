/-
  Contracts of the period of a rhythm and of the rotation that leads to another one, in the program and in the reference.
  Conditions: the rhythms' beats lie in memory.
-/
import Derived.Test.YtoedmdefjibaoaaN2
import Derived.Test.YtoedmdefjibaoaaE2
import Derived.Test.YtoedmdefjibaoaaM12
import Derived.Deep.RegionHeld3
import Derived.Deep.RegionWith
set_option linter.unusedVariables false
set_option linter.unusedSimpArgs false
namespace Go.Proofs.Ytoedmdefjibaoaa
open Go.RowKit

theorem eqR_same (n : Int) (x y : List Int) : eqR n n x y = eqL x y := by simp [eqR]
theorem runField1 (a b : Value) (w : World) : (Instr.field 24 (.agg #[a, b]) 1).run Try.prog w = .ok b w := by rfl
theorem bool_case (b : Bool) : b = true ∨ b = false := by cases b <;> simp







theorem valRotationTo_no {n m : Int} {x y : List Int} (h : sameSz n m x y = false) : valRotationTo n x m y = -1 := by
  unfold valRotationTo; unfold sameSz at h; rw [h]; rfl
theorem valRotationTo_yes {n m : Int} {x y : List Int} (h : sameSz n m x y = true) : valRotationTo n x m y = rotTo n x y := by
  unfold valRotationTo; unfold sameSz at h; rw [h]; rfl





end Go.Proofs.Ytoedmdefjibaoaa
