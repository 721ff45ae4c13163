/-
  The laws' count of the sizes of texts.
  Conditions: lists lie in memory.
-/
import Derived.Test.YtcgpmdfcdngnlaaDoorZ2
set_option linter.unusedVariables false
set_option linter.unusedSimpArgs false
namespace Go.Proofs.YtcgpmdfcdngnlaaDoor
open Go.RowKit

def szGo : Int → List ByteArray → Int
  | l, [] => l
  | l, x :: xs => if l - x.size < 0 then -1 else szGo (l - x.size) xs
def szS (left : Int) (xs : List ByteArray) : Int := if left - xs.length < 0 then -1 else szGo (left - xs.length) xs
theorem szGo_no {l : Int} {xs : List ByteArray} {k : Nat} (hk : k < xs.length) (h : l - xs[k].size < 0) : szGo l (xs.drop k) = -1 := by
  rw [List.drop_eq_getElem_cons hk, szGo, if_pos h]
theorem szGo_yes {l : Int} {xs : List ByteArray} {k : Nat} (hk : k < xs.length) (h : ¬ l - xs[k].size < 0) : szGo l (xs.drop k) = szGo (l - xs[k].size) (xs.drop (k + 1)) := by
  rw [List.drop_eq_getElem_cons hk, szGo, if_neg h]
theorem szS_no {left : Int} {xs : List ByteArray} (h : left - xs.length < 0) : szS left xs = -1 := by unfold szS; rw [if_pos h]
theorem szS_yes {left : Int} {xs : List ByteArray} (h : ¬ left - xs.length < 0) : szS left xs = szGo (left - xs.length) xs := by unfold szS; rw [if_neg h]
def sumS : List ByteArray → Nat
  | [] => 0
  | x :: xs => x.size + sumS xs
theorem szGo_sum : ∀ (xs : List ByteArray) (l : Int), 0 ≤ l → (szGo l xs = -1 ∨ (0 ≤ szGo l xs ∧ szGo l xs = l - sumS xs))
  | [], l, h => .inr ⟨h, by simp [szGo, sumS]⟩
  | x :: xs, l, h => by
    rw [szGo]
    split
    · exact .inl rfl
    · rcases szGo_sum xs (l - x.size) (by omega) with h1 | ⟨h1, h2⟩
      · exact .inl h1
      · exact .inr ⟨h1, by rw [h2, sumS]; omega⟩
theorem szS_sum {left : Int} {xs : List ByteArray} (h : 0 ≤ left) : szS left xs < 0 ∨ (0 ≤ szS left xs ∧ (xs.length : Int) + sumS xs ≤ left) := by
  unfold szS
  split
  · exact .inl (by decide)
  · rcases szGo_sum xs (left - xs.length) (by omega) with h1 | ⟨h1, h2⟩
    · exact .inl (by rw [h1]; decide)
    · exact .inr ⟨h1, by omega⟩

end Go.Proofs.YtcgpmdfcdngnlaaDoor
