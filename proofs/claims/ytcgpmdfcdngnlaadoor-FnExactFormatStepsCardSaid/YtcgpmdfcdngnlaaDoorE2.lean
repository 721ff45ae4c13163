/-
  Contracts of HasBeat and SameRhythm, in the program and in the reference, and of the helpers has, equals, sameSize.
  Conditions: the rhythms' beats lie in memory.
-/
import Derived.Test.YtcgpmdfcdngnlaaDoorE1
import Derived.Test.YtcgpmdfcdngnlaaDoorQ1
set_option linter.unusedVariables false
set_option linter.unusedSimpArgs false
namespace Go.Proofs.YtcgpmdfcdngnlaaDoor
open Go.RowKit



/-- Two valid rhythms of one size. -/
def sameSz (n m : Int) (x y : List Int) : Bool := rok n x && rok m y && decide (n = m)
theorem sameSz_no1 {n m : Int} {x : List Int} (y : List Int) (h : rok n x = false) : sameSz n m x y = false := by simp [sameSz, h]
theorem sameSz_no2 {n m : Int} (x : List Int) {y : List Int} (h : rok m y = false) : sameSz n m x y = false := by simp [sameSz, h]
theorem sameSz_yes {n m : Int} {x y : List Int} (h : rok n x = true) (h' : rok m y = true) : sameSz n m x y = (n == m) := by
  simp only [sameSz, h, h', Bool.true_and, Bool.and_self]
  by_cases e : n = m <;> simp [e]
theorem sameSz_iff {n m : Int} {x y : List Int} : sameSz n m x y = true ↔ Rok n x ∧ Rok m y ∧ n = m := by
  simp only [sameSz, Bool.and_eq_true, decide_eq_true_eq, rok_iff, and_assoc]


end Go.Proofs.YtcgpmdfcdngnlaaDoor
