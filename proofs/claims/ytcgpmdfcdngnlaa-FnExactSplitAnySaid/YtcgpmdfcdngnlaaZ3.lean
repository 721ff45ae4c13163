/-
  The laws' count of the sizes of texts.
  Conditions: lists lie in memory.
-/
import Derived.Test.YtcgpmdfcdngnlaaZ2
set_option linter.unusedVariables false
set_option linter.unusedSimpArgs false
namespace Go.Proofs.Ytcgpmdfcdngnlaa
open Go.RowKit

def szGo : Int → List ByteArray → Int
  | l, [] => l
  | l, x :: xs => if l - x.size < 0 then -1 else szGo (l - x.size) xs
def szS (left : Int) (xs : List ByteArray) : Int := if left - xs.length < 0 then -1 else szGo (left - xs.length) xs
theorem szGo_no {l : Int} {xs : List ByteArray} {k : Nat} (hk : k < xs.length) (h : l - xs[k].size < 0) : szGo l (xs.drop k) = -1 := by
  rw [List.drop_eq_getElem_cons hk, szGo, if_pos h]
theorem szGo_yes {l : Int} {xs : List ByteArray} {k : Nat} (hk : k < xs.length) (h : ¬ l - xs[k].size < 0) : szGo l (xs.drop k) = szGo (l - xs[k].size) (xs.drop (k + 1)) := by
  rw [List.drop_eq_getElem_cons hk, szGo, if_neg h]
theorem szS_no {left : Int} {xs : List ByteArray} (h : left - xs.length < 0) : szS left xs = -1 := by unfold szS; rw [if_pos h]
theorem szS_yes {left : Int} {xs : List ByteArray} (h : ¬ left - xs.length < 0) : szS left xs = szGo (left - xs.length) xs := by unfold szS; rw [if_neg h]
def sumS : List ByteArray → Nat
  | [] => 0
  | x :: xs => x.size + sumS xs
theorem szGo_sum : ∀ (xs : List ByteArray) (l : Int), 0 ≤ l → (szGo l xs = -1 ∨ (0 ≤ szGo l xs ∧ szGo l xs = l - sumS xs))
  | [], l, h => .inr ⟨h, by simp [szGo, sumS]⟩
  | x :: xs, l, h => by
    rw [szGo]
    split
    · exact .inl rfl
    · rcases szGo_sum xs (l - x.size) (by omega) with h1 | ⟨h1, h2⟩
      · exact .inl h1
      · exact .inr ⟨h1, by rw [h2, sumS]; omega⟩
theorem szS_sum {left : Int} {xs : List ByteArray} (h : 0 ≤ left) : szS left xs < 0 ∨ (0 ≤ szS left xs ∧ (xs.length : Int) + sumS xs ≤ left) := by
  unfold szS
  split
  · exact .inl (by decide)
  · rcases szGo_sum xs (left - xs.length) (by omega) with h1 | ⟨h1, h2⟩
    · exact .inl (by rw [h1]; decide)
    · exact .inr ⟨h1, by omega⟩

set_option maxHeartbeats 800000 in
theorem lawSzStringS (v : Value) (xs : List ByteArray) (left : Int) (w : World) (B : Nat) (h0 : 0 ≤ left) (h1 : left ≤ 1048576) (hz : ∀ x ∈ xs, x.size ≤ maxLen) (hv : Strs w B v xs) :
    Calls Try.prog 12 #[v, .int .i64 left] w fun e w' => e = .returned (.int .i64 (szS left xs)) ∧ w = w' := by
  have hcap := hv.cap
  unfold maxLen at hcap hz
  by_cases hl : left - (xs.length : Int) < 0
  · have Hf := Lib.hid (szS_no hl)
    obtain ⟨a, cap, rfl, -⟩ := hv
    go_enter Try.func12, Try.ntmps12
    go_wp2
    go_ret
    exact ⟨ret_int Hf.out.symm, rfl⟩
  · have Hf := Lib.hid (szS_yes hl)
    have Hz := Lib.hid hz
    rcases hv.open with ⟨rfl, a, cap, rfl⟩ | ⟨b, o, cap, rfl, hm, h00, hB, hb, hc⟩
    · go_enter Try.func12, Try.ntmps12
      go_wp2
      refine wp_loop_rounds 1 ?_; rw [rounds_succ]
      go_wp2
      go_ret
      exact ⟨ret_int (by rw [Hf.out]; simp [szGo]), rfl⟩
    · clear hz
      go_enter Try.func12, Try.ntmps12
      go_wp2
      go_loopw [1, 5] (fun u i wr => ∃ (k : Nat) (l : Int), k ≤ xs.length ∧ i = .int .i64 k ∧ u = .int .i64 l ∧ 0 ≤ l ∧ l ≤ 1048576 ∧ szGo l (xs.drop k) = szS left xs ∧ wr = w) (fun _ i _ => xs.length - (intOf i).toNat)
      case atStart => exact ⟨0, left - xs.length, Nat.zero_le _, rfl, rfl, by omega, by omega, by rw [Hf.out]; rfl, by first | rfl | trivial⟩
      case round =>
        obtain ⟨k, l, hk, rfl, rfl, hl0, hl1, hrec, rfl⟩ := hrel
        have Hr := Lib.hid hrec
        clear hrec
        by_cases hlt : k < xs.length
        · have hc1 := hc k hlt
          rw [show xs.getD k ByteArray.empty = xs[k] by simp [List.getD_eq_getElem?_getD, List.getElem?_eq_getElem hlt]] at hc1
          have hxz := Hz.out xs[k] (List.getElem_mem hlt)
          by_cases hneg : l - (xs[k].size : Int) < 0
          · have He := Lib.hid (szGo_no hlt hneg)
            go_wp2
            go_ret
            exact ⟨ret_int (by rw [← Hr.out, He.out]), rfl⟩
          · have He := Lib.hid (szGo_yes hlt hneg)
            go_wp2
            go_roundw
            case rel => exact ⟨k + 1, l - xs[k].size, by omega, by go_num, rfl, by omega, by omega, by rw [← He.out]; exact Hr.out, by first | rfl | trivial⟩
            case measure => simp [intOf]; omega
        · have e : xs.drop k = [] := List.drop_eq_nil_of_le (by omega)
          have He := Lib.hid e
          clear e
          go_wp2
          go_ret
          exact ⟨ret_int (by rw [← Hr.out, He.out]; rfl), rfl⟩
end Go.Proofs.Ytcgpmdfcdngnlaa
