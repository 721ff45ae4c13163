/-
  The helpers' contracts in the one form that the laws' walks use: what was there stands.
  Conditions: lengths below two to the fortieth.
-/
import Derived.Test.YtcgpmdfcdngnlaaC2
import Derived.Deep.RegionHeld3
set_option linter.unusedVariables false
set_option linter.unusedSimpArgs false
namespace Go.Proofs.Ytcgpmdfcdngnlaa
open Go.RowKit

theorem szOf_le {left : Int} {xs : List Int} (h : -1 ≤ left) {m : Int} (hm : left ≤ m) : szOf left xs ≤ m := by unfold szOf; split <;> omega

theorem lawSzRhythm' (n : Int) (v : Value) (xs : List Int) (left : Int) (w : World) (h0 : 0 ≤ left) (h1 : left ≤ 1048576) (hv : Ints w w.heap.size v xs) :
    Calls Try.prog 18 #[.agg #[.int .i64 n, v], .int .i64 left] w fun e w' => e = .returned (.int .i64 (szOf left xs)) ∧ Below w.heap.size w w' :=
  (lawSzRhythm n v xs left w _ h0 h1 hv).mono fun _ _ ⟨he, hw⟩ => ⟨he, hw ▸ (Below.refl _ _).alloc (Nat.le_refl _) _⟩

theorem lawEqIntS' (u v : Value) (xs ys : List Int) (w : World) (hu : Ints w w.heap.size u xs) (hv : Ints w w.heap.size v ys) :
    Calls Try.prog 33 #[u, v] w fun e w' => e = .returned (.bool (eqL xs ys)) ∧ Below w.heap.size w w' :=
  (lawEqIntS u v xs ys w _ _ hu hv).mono fun _ _ ⟨he, n, hw⟩ => ⟨he, hw ▸ bel_drewN (Below.refl _ _) n⟩

end Go.Proofs.Ytcgpmdfcdngnlaa
