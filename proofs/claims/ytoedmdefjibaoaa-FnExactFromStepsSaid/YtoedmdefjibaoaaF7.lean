/-
  Contracts of the program's test that all numbers of a list lie in a range, and of its sum of a list.
  Conditions: the list lies in memory; the range is 1 to 24, and the sum stays small where a list is in the range.
-/
import Derived.Test.YtoedmdefjibaoaaB1
import Derived.Test.YtoedmdefjibaoaaM8
set_option linter.unusedVariables false
set_option linter.unusedSimpArgs false
namespace Go.Proofs.Ytoedmdefjibaoaa
open Go.RowKit

theorem implAllWithin1 (y lo hi : Int) (p q : Nat) (w : World) (h1 : w.cell? ⟨p, 0, none⟩ = some (.int .i64 lo)) (h2 : w.cell? ⟨q, 0, none⟩ = some (.int .i64 hi)) :
    Calls Try.prog 77 #[.int .i64 y, .pointer (some ⟨p, 0, none⟩), .pointer (some ⟨q, 0, none⟩)] w fun e w' => e = .returned (.bool (!(decide (lo ≤ y) && decide (y ≤ hi)))) ∧ w' = w := by
  go_enter Try.func77, Try.ntmps77
  go_wp2_with (go_at_call 64; refine (implWithin _ _ _ _).mono ?_; rintro e w' ⟨rfl, rfl⟩)
  go_ret
  exact ⟨ret_bool (by simp), rfl⟩

theorem slicesIndexFunc (v : Value) (xs : List Int) (p q : Nat) (w : World) (B : Nat) (hv : Ints w B v xs) (h1 : w.cell? ⟨p, 0, none⟩ = some (.int .i64 1)) (h2 : w.cell? ⟨q, 0, none⟩ = some (.int .i64 24)) :
    Calls Try.prog 89 #[v, .func (.func 77) #[] #[.pointer (some ⟨p, 0, none⟩), .pointer (some ⟨q, 0, none⟩)]] w fun e w' => ∃ r : Int, e = .returned (.int .i64 r) ∧ (decide (0 ≤ r) = !allIn xs) ∧ (-1 ≤ r ∧ r ≤ 9223372036854775807) ∧ w' = w := by
  rcases hv.open with ⟨rfl, a, cap, rfl⟩ | ⟨b, o, cap, rfl, hm, hpos, hB, hb, hc⟩
  · clear hv
    go_enter Try.func89, Try.ntmps89
    go_wp2
    refine wp_loop_rounds 1 ?_; rw [rounds_succ]
    go_wp2
    go_ret
    exact ⟨-1, rfl, by simp [allIn], by omega, rfl⟩
  · clear hv
    go_enter Try.func89, Try.ntmps89
    go_wp2
    go_loopw [8] (fun i wr => ∃ k : Nat, k ≤ xs.length ∧ i = .int .i64 k ∧ inTo xs k ∧ wr = w) (fun i _ => xs.length - (intOf i).toNat)
    case atStart => exact ⟨0, Nat.zero_le _, rfl, inTo.zero _, rfl⟩
    case round =>
      obtain ⟨k, hk, rfl, hall, rfl⟩ := hrel
      have HA := Lib.hid hall
      clear hall
      by_cases hlt : k < xs.length
      · have hc1 := hc k hlt
        rw [getD_get hlt] at hc1
        cases hx : In24 (xs.getD k 0) with
        | true =>
          rw [getD_get hlt] at hx
          have Hx : Hid ((!(decide ((1 : Int) ≤ xs[k]) && decide (xs[k] ≤ (24 : Int)))) = false) := by unfold Hid; unfold In24 at hx; rw [hx]; rfl
          have Hn : Hid (inTo xs (k + 1)) := HA.out.succ (by rw [getD_get hlt]; exact hx)
          clear hx
          go_wp2_with (go_at_call 77; refine (implAllWithin1 _ _ _ _ _ _ h1 h2).mono ?_; rintro e w' ⟨rfl, rfl⟩; rw [Hx.out])
          go_roundw
          case rel => exact ⟨k + 1, by omega, by go_num, Hn.out, by trivial⟩
          case measure => simp [intOf]; omega
        | false =>
          have Hb := Lib.hid (allIn_bad hlt hx)
          rw [getD_get hlt] at hx
          have Hx : Hid ((!(decide ((1 : Int) ≤ xs[k]) && decide (xs[k] ≤ (24 : Int)))) = true) := by unfold Hid; unfold In24 at hx; rw [hx]; rfl
          clear hx
          go_wp2_with (go_at_call 77; refine (implAllWithin1 _ _ _ _ _ _ h1 h2).mono ?_; rintro e w' ⟨rfl, rfl⟩; rw [Hx.out])
          go_ret
          exact ⟨k, rfl, by rw [Hb.out]; simp, by omega, rfl⟩
      · have Hf := Lib.hid (allIn_of HA.out (by omega))
        go_wp2
        go_ret
        exact ⟨-1, rfl, by rw [Hf.out]; simp, by omega, rfl⟩

theorem slicesContainsFunc (v : Value) (xs : List Int) (p q : Nat) (w : World) (B : Nat) (hv : Ints w B v xs) (h1 : w.cell? ⟨p, 0, none⟩ = some (.int .i64 1)) (h2 : w.cell? ⟨q, 0, none⟩ = some (.int .i64 24)) :
    Calls Try.prog 76 #[v, .func (.func 77) #[] #[.pointer (some ⟨p, 0, none⟩), .pointer (some ⟨q, 0, none⟩)]] w fun e w' => e = .returned (.bool (!allIn xs)) ∧ w' = w := by
  go_enter Try.func76, Try.ntmps76
  go_wp2_with fail
  refine (slicesIndexFunc _ xs _ _ _ _ hv h1 h2).mono ?_
  rintro e w' ⟨r, rfl, hr, ⟨hr1, hr2⟩, rfl⟩
  have Hr := Lib.hid hr
  clear hr
  go_wp2
  go_ret
  exact ⟨ret_bool Hr.out, rfl⟩

theorem implAllWithin (v : Value) (xs : List Int) (w : World) (hv : Ints w w.heap.size v xs) :
    Calls Try.prog 49 #[v, .int .i64 1, .int .i64 24] w fun e w' => e = .returned (.bool (allIn xs)) ∧ Below w.heap.size w w' := by
  have hmf : ∀ (fn : Fn) (first cap : Array Value) (w : World), (Instr.makeFunc fn first cap).run Try.prog w = .ok (.func fn first cap) w := fun _ _ _ _ => rfl
  go_enter Try.func49, Try.ntmps49
  go_wp2_with fail
  refine (slicesContainsFunc _ xs _ _ _ _ ((hv.alloc (Nat.le_refl _) _).alloc (by simp) _) ?_ ?_).mono ?_
  · simp
  · simp
  rintro e w' ⟨rfl, rfl⟩
  go_wp2
  go_ret
  exact ⟨ret_bool (by simp), ((Below.refl _ _).alloc (Nat.le_refl _) _).alloc (by simp) _⟩

theorem implSumOf (v : Value) (xs : List Int) (w : World) (B : Nat) (hv : Ints w B v xs) (hin : inTo xs xs.length) (hlen : xs.length ≤ 1048576) :
    Calls Try.prog 50 #[v] w fun e w' => e = .returned (.int .i64 (sumTo xs xs.length)) ∧ w = w' := by
  rcases hv.open with ⟨rfl, a, cap, rfl⟩ | ⟨b, o, cap, rfl, hm, hpos, hB, hb, hc⟩
  · clear hv
    go_enter Try.func50, Try.ntmps50
    go_wp2
    refine wp_loop_rounds 1 ?_; rw [rounds_succ]
    go_wp2
    go_ret
    exact ⟨ret_int (by simp [sumTo]), rfl⟩
  · clear hv
    go_enter Try.func50, Try.ntmps50
    go_wp2
    go_loopw [3, 8] (fun s i wr => ∃ k : Nat, k ≤ xs.length ∧ i = .int .i64 k ∧ s = .int .i64 (sumTo xs k) ∧ wr = w) (fun _ i _ => xs.length - (intOf i).toNat)
    case atStart => exact ⟨0, Nat.zero_le _, rfl, rfl, rfl⟩
    case round =>
      obtain ⟨k, hk, rfl, rfl, rfl⟩ := hrel
      have hbd := sumTo_bd (k := k) (fun i hi hl => hin i (by omega) hl) hk
      by_cases hlt : k < xs.length
      · have hc1 := hc k hlt
        have hx := in24_bd (hin k hlt hlt)
        have Hs := Lib.hid (sumTo_succ hlt)
        rw [getD_get hlt] at hc1 hx Hs
        go_wp2
        go_roundw
        case rel => exact ⟨k + 1, by omega, by go_num, by rw [Hs.out], by trivial⟩
        case measure => simp [intOf]; omega
      · have e : k = xs.length := by omega
        subst e
        go_wp2
        go_ret
        exact ⟨rfl, rfl⟩
end Go.Proofs.Ytoedmdefjibaoaa
