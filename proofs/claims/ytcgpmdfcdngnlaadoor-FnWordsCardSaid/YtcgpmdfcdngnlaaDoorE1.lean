/-
  Contracts of small functions on integers and lists, in the program, the reference and the library: remainders, membership, equality.
  Conditions: the slices lie in memory; the divisor is from 1 to 2 to the fortieth.
-/
import Derived.Test.YtcgpmdfcdngnlaaDoorB1
import Derived.Test.YtcgpmdfcdngnlaaDoorM2
import Derived.Deep.QuietTactic
import Derived.BigQuiet
set_option linter.unusedVariables false
set_option linter.unusedSimpArgs false
namespace Go.Proofs.YtcgpmdfcdngnlaaDoor
open Go.RowKit



theorem specL02Has (v : Value) (xs : List Int) (y : Int) (w : World) (B : Nat) (hv : Ints w B v xs) :
    Calls Tryd.prog 63 #[v, .int .i64 y] w fun e w' => e = .returned (.bool (hasL xs y)) ∧ w = w' := by
  rcases hv.open with ⟨rfl, a, cap, rfl⟩ | ⟨b, o, cap, rfl, hm, hpos, hB, hb, hc⟩
  · have Hf := Lib.hid (hasL_no (Nat.le_refl _) (NotTo.zero [] y))
    clear hv
    go_enter Tryd.func63, Tryd.ntmps63
    go_wp2
    refine wp_loop_rounds 1 ?_; rw [rounds_succ]
    go_wp2
    go_ret
    exact ⟨ret_bool Hf.out.symm, rfl⟩
  · clear hv
    go_enter Tryd.func63, Tryd.ntmps63
    go_wp2
    go_loop [6, 9] (fun _ i => ∃ k : Nat, k ≤ xs.length ∧ i = .int .i64 k ∧ NotTo xs y k) (fun _ i => xs.length - (intOf i).toNat)
    case atStart => exact ⟨0, Nat.zero_le _, rfl, NotTo.zero _ _⟩
    case round =>
      obtain ⟨k, hk, rfl, hall⟩ := hrel
      by_cases hlt : k < xs.length
      · have hc1 := hc k hlt
        have e1 : xs.getD k 0 = xs[k] := by simp [List.getD_eq_getElem?_getD, List.getElem?_eq_getElem hlt]
        by_cases hx : xs.getD k 0 = y
        · have Hf := Lib.hid (hasL_yes hlt hx)
          have hb1 : (y == xs[k]) = true := by rw [← e1, hx]; simp
          clear hx hall e1
          go_wp2
          go_ret
          exact ⟨ret_bool Hf.out.symm, rfl⟩
        · have Hn := hall.succ hx
          have hb1 : (y == xs[k]) = false := by rw [← e1]; simp; exact fun h => hx h.symm
          clear hx hall e1
          go_wp2
          go_round
          case rel => exact ⟨k + 1, by omega, by go_num, Hn⟩
          case measure => simp [intOf]; omega
      · have Hf := Lib.hid (hasL_no (by omega) hall)
        clear hall
        go_wp2
        go_ret
        exact ⟨ret_bool Hf.out.symm, rfl⟩




end Go.Proofs.YtcgpmdfcdngnlaaDoor
