/-
  The walk of FnExactFormatInt: it returns true and writes nothing that was there.
  Conditions: the arguments lie in memory as the statement's reading says.
-/
import Derived.Test.YtcgpmdfcdngnlaaDoorT1
import Derived.Test.YtcgpmdfcdngnlaaDoorB0
set_option linter.unusedVariables false
set_option linter.unusedSimpArgs false
namespace Go.Proofs.YtcgpmdfcdngnlaaDoor.fnExactFormatInt
open Go.RowKit
set_option linter.unusedVariables false

def G (w : World) : Prop := Tab10 w
set_option maxRecDepth 20000 in
set_option maxHeartbeats 400000 in
theorem walk (w : World) (hG : G w) (a0 : Int) (h0 : I64 a0) :
    Calls Tryd.prog 3 #[.int .i64 a0] w fun e w' => e = .returned (.bool true) ∧ Below w.heap.size w w' := by
  have HT : Hid (Tab10 w) := hG
  have H0 := Lib.hid h0
  clear hG
  have hz := Lib.hid (itB_size a0 h0)
  clear h0
  go_enter Tryd.func3, Tryd.ntmps3
  go_wp2_with (first
    | (go_at_call 9; refine (specFormatIntC a0 H0.out _).mono ?_; rintro e w1 ⟨rfl, b1⟩; have HT1 := Lib.hid (HT.out.below b1))
    | (go_at_call 10; refine (implFormatIntC a0 H0.out _ HT1.out).mono ?_; rintro e w2 ⟨rfl, b2⟩))
  go_ret
  exact ⟨rfl, bel_step b1 b2 b1.size⟩
end Go.Proofs.YtcgpmdfcdngnlaaDoor.fnExactFormatInt
