/-
  The walk of FnExactPadZeros: it returns true and writes nothing that was there.
  Conditions: the arguments lie in memory as the statement's reading says.
-/
import Derived.Test.YtcgpmdfcdngnlaaP1
import Derived.Test.YtcgpmdfcdngnlaaC3
import Derived.Test.YtcgpmdfcdngnlaaB0
set_option linter.unusedVariables false
set_option linter.unusedSimpArgs false
namespace Go.Proofs.Ytcgpmdfcdngnlaa.fnExactPadZeros
open Go.RowKit
set_option linter.unusedVariables false


theorem walk (w : World) (a0 : ByteArray) (h0 : a0.size ≤ maxLen) (a1 : Int) (h1 : I64 a1) :
    Calls Try.prog 5 #[.string a0, .int .i64 a1] w fun e w' => e = .returned (.bool true) ∧ Below w.heap.size w w' := by
  go_enter Try.func5, Try.ntmps5
  by_cases s0 : 1048576 < a0.size
  · go_wp2
    go_ret
    exact ⟨rfl, by repeat (first | (with_reducible exact HB.out) | refine bel_alloc ?_ _ | refine Below.drew ?_ | refine bel_drewN ?_ _ | exact Below.refl _ _)⟩
  go_wp2_with fail
  refine withWorld fun X hX => ?_
  have gB : Below w.heap.size w X := (by rw [hX]; repeat (first | (with_reducible exact (Below.refl _ _)) | (with_reducible refine bel_alloc ?_ _) | (with_reducible refine Below.drew ?_) | (with_reducible refine bel_drewN ?_ _)))
  have gz : w.heap.size + 0 ≤ X.heap.size := (by rw [hX]; simp)
  clear hX 
  refine (specPadZerosC _ (by omega) _ h1 _).mono ?_
  rintro e w1 ⟨rfl, b1⟩
  have HB := Lib.hid (bel_step gB b1 gB.size)
  have z1 : w.heap.size + 0 ≤ w1.heap.size := Nat.le_trans gz b1.size
  clear gB gz   b1 X
  go_wp2_with fail
  refine withWorld fun X hX => ?_
  have gB : Below w.heap.size w X := (by rw [hX]; repeat (first | (with_reducible exact HB.out) | (with_reducible refine bel_alloc ?_ _) | (with_reducible refine Below.drew ?_) | (with_reducible refine bel_drewN ?_ _)))
  have gz : w1.heap.size + 0 ≤ X.heap.size := (by rw [hX]; simp)
  clear hX HB
  refine (implPadZerosC _ (by omega) _ h1 _).mono ?_
  rintro e w2 ⟨rfl, b2⟩
  have HB := Lib.hid (bel_step gB b2 gB.size)
  have z2 : w1.heap.size + 0 ≤ w2.heap.size := Nat.le_trans gz b2.size
  clear gB gz   b2 X
  go_wp2
  go_ret
  exact ⟨rfl, by repeat (first | (with_reducible exact HB.out) | refine bel_alloc ?_ _ | refine Below.drew ?_ | refine bel_drewN ?_ _ | exact Below.refl _ _)⟩
end Go.Proofs.Ytcgpmdfcdngnlaa.fnExactPadZeros
