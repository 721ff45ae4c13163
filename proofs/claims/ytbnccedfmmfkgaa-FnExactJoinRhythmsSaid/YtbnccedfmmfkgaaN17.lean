/-
  What a law's statement leaves that makes a rhythm and lays it into a new box, the box made ahead of the call or behind it.
  No condition beyond each statement.
-/
import Derived.Test.YtbnccedfmmfkgaaN12
import Derived.Test.YtbnccedfmmfkgaaN9
import Derived.Deep.RegionLaw
import Derived.Deep.DeepCutAuto
set_option linter.unusedVariables false
set_option linter.unusedSimpArgs false
namespace Go.Proofs.Ytbnccedfmmfkgaa
open Go.RowKit

def Laid (Y : World) (p : Nat) (ax : Option Addr) (kx : Nat) (n : Int) (xs : List Int) (wx : World) : Prop :=
  Bx wx p (.int .i64 n) (.slice ax xs.length kx) 27 ∧ Y.heap.size ≤ p ∧ p < wx.heap.size ∧ Own wx Y.heap.size (.slice ax xs.length kx) xs ∧ Below Y.heap.size Y wx
theorem Laid.before {Y X wC : World} {p : Nat} {ax : Option Addr} {kx : Nat} {xs : List Int} {r0 r1 : Value} (bx : Bx X p r0 r1 27) (gY : Below Y.heap.size Y X) (hp : Y.heap.size ≤ p)
    (oC : Own wC X.heap.size (.slice ax xs.length kx) xs) (bC : Below X.heap.size X wC) (n : Int) :
    Laid Y p ax kx n xs ((wC.setCell ⟨p, 0, none⟩ (.int .i64 n)).setCell ⟨p, 1, none⟩ (.slice ax xs.length kx)) := by
  have hb := ((bx.below bC bx.lt).set0 (.int .i64 n)).set1 (.slice ax xs.length kx)
  have h0 : p < X.heap.size := bx.lt
  exact ⟨hb, hp, hb.lt, ((oC.setc h0 _).setc h0 _).mono gY.size, ((bel_step gY bC gY.size).setCell hp _).setCell hp _⟩
theorem Laid.behind {Y X wC : World} {ax : Option Addr} {kx : Nat} {xs : List Int} (gY : Below Y.heap.size Y X)
    (oC : Own wC X.heap.size (.slice ax xs.length kx) xs) (bC : Below X.heap.size X wC) (n : Int) :
    Laid Y wC.heap.size ax kx n xs (wC.alloc (.cells #[.int .i64 n, .slice ax xs.length kx] 27)) := by
  have hb := Bx.new wC (.int .i64 n) (.slice ax xs.length kx) 27
  have hB := bel_step gY bC gY.size
  exact ⟨hb, hB.size, hb.lt, (oC.alloc _).mono gY.size, bel_alloc hB _⟩
end Go.Proofs.Ytbnccedfmmfkgaa
