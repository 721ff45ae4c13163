/-
  Contracts of ShiftedEven and EvenRhythm, in the program and in the reference.
  Conditions: none beyond the integers' width.
-/
import Derived.Test.YtcgpmdfcdngnlaaDoorG1
set_option linter.unusedVariables false
set_option linter.unusedSimpArgs false
namespace Go.Proofs.YtcgpmdfcdngnlaaDoor
open Go.RowKit

theorem shifted_no {k n m : Int} (h : okShiftedEven k n m = false) : numShiftedEven k n m = 0 ∧ lstShiftedEven k n m = [] := by simp [numShiftedEven, lstShiftedEven, h]
theorem shifted_yes {k n m : Int} (h : okShiftedEven k n m = true) : numShiftedEven k n m = n ∧ lstShiftedEven k n m = evTo k n m k.toNat := by simp [numShiftedEven, lstShiftedEven, h]
theorem RetRhythm2.zero {w w' : World} {e : Ending} {n : Int} {xs : List Int} {ok : Bool} (he : e = .returned (.tuple #[.agg #[.int .i64 0, .slice none 0 0], .bool false])) (hb : Below w.heap.size w w') (hn : n = 0) (hx : xs = []) (ho : ok = false) : RetRhythm2 w n xs ok e w' := by
  subst hn hx ho
  exact ⟨none, 0, he, Own.nil _ _, hb⟩
theorem RetRhythm2.one {w w' : World} {e : Ending} {n n' : Int} {xs xs' : List Int} {ok : Bool} {a : Option Addr} {l c : Nat} (he : e = .returned (.tuple #[.agg #[.int .i64 n, .slice a l c], .bool true])) (ho : Own w' w.heap.size (.slice a l c) xs) (hl : xs.length = l) (hb : Below w.heap.size w w') (hn : n' = n) (hx : xs' = xs) (hk : ok = true) : RetRhythm2 w n' xs' ok e w' := by
  subst hn hx hk hl
  exact ⟨a, c, he, ho, hb⟩


end Go.Proofs.YtcgpmdfcdngnlaaDoor
