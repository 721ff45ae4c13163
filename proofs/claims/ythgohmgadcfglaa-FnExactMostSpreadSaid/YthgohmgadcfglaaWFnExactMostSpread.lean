/-
  The walk of FnExactMostSpread: it returns true and writes nothing that was there.
  Conditions: the arguments lie in memory as the statement's reading says.
-/
import Derived.Test.YthgohmgadcfglaaG3
import Derived.Test.YthgohmgadcfglaaC3
import Derived.Test.YthgohmgadcfglaaB0
namespace Go.Proofs.Ythgohmgadcfglaa.fnExactMostSpread
open Go.RowKit
set_option linter.unusedVariables false


theorem walk (w : World) (a0 : Int) (h0 : I64 a0) (a1 : Int) (h1 : I64 a1) :
    Calls Try.prog 7 #[.int .i64 a0, .int .i64 a1] w fun e w' => e = .returned (.bool true) ∧ Below w.heap.size w w' := by
  go_enter Try.func7, Try.ntmps7
  go_wp2_with fail
  refine withWorld fun X hX => ?_
  have gB : Below w.heap.size w X := (by rw [hX]; repeat (first | (with_reducible exact (Below.refl _ _)) | (with_reducible refine bel_alloc ?_ _) | (with_reducible refine Below.drew ?_) | (with_reducible refine bel_drewN ?_ _)))
  have gz : w.heap.size + 0 ≤ X.heap.size := (by rw [hX]; simp)
  clear hX 
  refine (specMostSpreadC _ h0 _ h1 _).mono ?_
  rintro e w1 ⟨rfl, b1⟩
  have HB := Lib.hid (bel_step gB b1 gB.size)
  have z1 : w.heap.size + 0 ≤ w1.heap.size := Nat.le_trans gz b1.size
  clear gB gz   b1 X
  go_wp2_with fail
  refine withWorld fun X hX => ?_
  have gB : Below w.heap.size w X := (by rw [hX]; repeat (first | (with_reducible exact HB.out) | (with_reducible refine bel_alloc ?_ _) | (with_reducible refine Below.drew ?_) | (with_reducible refine bel_drewN ?_ _)))
  have gz : w1.heap.size + 0 ≤ X.heap.size := (by rw [hX]; simp)
  clear hX HB
  refine (implMostSpreadC _ h0 _ h1 _).mono ?_
  rintro e w2 ⟨rfl, b2⟩
  have HB := Lib.hid (bel_step gB b2 gB.size)
  have z2 : w1.heap.size + 0 ≤ w2.heap.size := Nat.le_trans gz b2.size
  clear gB gz   b2 X
  go_wp2
  go_ret
  exact ⟨rfl, by repeat (first | (with_reducible exact HB.out) | refine bel_alloc ?_ _ | refine Below.drew ?_ | refine bel_drewN ?_ _ | exact Below.refl _ _)⟩
end Go.Proofs.Ythgohmgadcfglaa.fnExactMostSpread
