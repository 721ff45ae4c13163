/-
  The walk of FnExactParseInt: it returns true and writes nothing that was there.
  Conditions: the arguments lie in memory as the statement's reading says.
-/
import Derived.Test.YtcgpmdfcdngnlaaDoorT4
import Derived.Test.YtcgpmdfcdngnlaaDoorB0
set_option linter.unusedVariables false
set_option linter.unusedSimpArgs false
namespace Go.Proofs.YtcgpmdfcdngnlaaDoor.fnExactParseInt
open Go.RowKit
set_option linter.unusedVariables false

def G (w : World) : Prop := PG w
set_option maxRecDepth 20000 in
set_option maxHeartbeats 400000 in
theorem walk (w : World) (hG : G w) (a0 : ByteArray) (h0 : a0.size ≤ maxLen) :
    Calls Tryd.prog 6 #[.string a0] w fun e w' => e = .returned (.bool true) ∧ Below w.heap.size w w' := by
  have HT : Hid (PG w) := hG
  clear hG
  by_cases s0 : 1048576 < a0.size
  · go_enter Tryd.func6, Tryd.ntmps6
    go_wp2
    go_ret
    exact ⟨rfl, Below.refl _ _⟩
  · have hs : a0.size ≤ 1048576 := by omega
    go_enter Tryd.func6, Tryd.ntmps6
    go_wp2_with (first
      | (go_at_call 21; refine (specParseIntC a0 hs _).mono ?_; rintro e w1 ⟨rfl, b1⟩; have HT1 := Lib.hid (HT.out.below b1))
      | (go_at_call 22; refine (implParseIntC a0 hs _ HT1.out).mono ?_; rintro e w2 ⟨rfl, b2⟩; generalize numP a0 = A at *; generalize okP a0 = B at *))
    go_ret
    exact ⟨rfl, bel_step b1 b2 b1.size⟩
end Go.Proofs.YtcgpmdfcdngnlaaDoor.fnExactParseInt
