/-
  Contracts of SpanOf, in the program and in the reference.
  Conditions: the rhythm's beats lie in memory.
-/
import Derived.Test.YtoedmdefjibaoaaF3
import Derived.Test.YtoedmdefjibaoaaB0
import Derived.Test.YtoedmdefjibaoaaM9
set_option linter.unusedVariables false
set_option linter.unusedSimpArgs false
namespace Go.Proofs.Ytoedmdefjibaoaa
open Go.RowKit

theorem implSpan (v : Value) (l : List Int) (i k : Nat) (w : World) (B : Nat) (hv : Ints w B v l) (h24 : l.length ≤ 24) (hb : ∀ y ∈ l, 1 ≤ y ∧ y ≤ 24) (hi : i < l.length) (hk : k ≤ l.length) :
    Calls Try.prog 65 #[v, .int .i64 i, .int .i64 k] w fun e w' => e = .returned (.int .i64 (spanTo l i k)) ∧ w = w' := by
  rcases hv.open with ⟨rfl, a, cap, rfl⟩ | ⟨b, o, cap, rfl, hm, hpos, hB, hlt, hc⟩
  · simp at hi
  · clear hv
    have hnz : ((l.length : Int) == 0) = false := beq_false_of_ne (by omega)
    have hnz2 : ¬ (l.length : Int) = 0 := by omega
    have HB := Lib.hid hb
    clear hb
    go_enter Try.func65, Try.ntmps65
    go_wp2
    go_loopw [7, 10] (fun s i' wr => ∃ j : Nat, j ≤ k ∧ i' = .int .i64 j ∧ s = .int .i64 (spanTo l i j) ∧ wr = w) (fun _ i' _ => k - (intOf i').toNat)
    case atStart => exact ⟨0, Nat.zero_le _, rfl, rfl, rfl⟩
    case round =>
      obtain ⟨j, hj, rfl, rfl, rfl⟩ := hrel
      have hbd := spanTo_bd HB.out hpos i j
      by_cases hjk : j < k
      · obtain ⟨r, hr⟩ : ∃ r : Nat, r = (i + j) % l.length := ⟨_, rfl⟩
        have hrl : r < l.length := by rw [hr]; exact Nat.mod_lt _ hpos
        have hmod : ((i : Int) + (j : Int)).tmod (l.length : Int) = (r : Int) := by
          rw [Int.tmod_eq_emod_of_nonneg (by omega), hr]; simp
        have hc1 := hc r hrl
        have hs := spanTo_succ l i j
        rw [← hr] at hs
        have hx := HB.out _ (getD_mem hrl)
        rw [getD_get hrl] at hc1 hs hx
        have Hs := Lib.hid hs
        clear hs hr
        go_wp2
        go_roundw
        case rel => exact ⟨j + 1, by omega, by go_num, by rw [Hs.out], by trivial⟩
        case measure => simp [intOf]; omega
      · have e : j = k := by omega
        subst e
        go_wp2
        go_ret
        exact ⟨rfl, rfl⟩

theorem specL03Span (v : Value) (l : List Int) (i k : Nat) (w : World) (B : Nat) (hv : Ints w B v l) (h24 : l.length ≤ 24) (hb : ∀ y ∈ l, 1 ≤ y ∧ y ≤ 24) (hi : i < l.length) (hk : k ≤ l.length) :
    Calls Try.prog 63 #[v, .int .i64 i, .int .i64 k] w fun e w' => e = .returned (.int .i64 (spanTo l i k)) ∧ w = w' := by
  rcases hv.open with ⟨rfl, a, cap, rfl⟩ | ⟨b, o, cap, rfl, hm, hpos, hB, hlt, hc⟩
  · simp at hi
  · clear hv
    have hnz : ((l.length : Int) == 0) = false := beq_false_of_ne (by omega)
    have hnz2 : ¬ (l.length : Int) = 0 := by omega
    have HB := Lib.hid hb
    clear hb
    go_enter Try.func63, Try.ntmps63
    go_wp2
    go_loopw [7, 8] (fun s i' wr => ∃ j : Nat, j ≤ k ∧ i' = .int .i64 j ∧ s = .int .i64 (spanTo l i j) ∧ wr = w) (fun _ i' _ => k - (intOf i').toNat)
    case atStart => exact ⟨0, Nat.zero_le _, rfl, rfl, rfl⟩
    case round =>
      obtain ⟨j, hj, rfl, rfl, rfl⟩ := hrel
      have hbd := spanTo_bd HB.out hpos i j
      by_cases hjk : j < k
      · obtain ⟨r, hr⟩ : ∃ r : Nat, r = (i + j) % l.length := ⟨_, rfl⟩
        have hrl : r < l.length := by rw [hr]; exact Nat.mod_lt _ hpos
        have hmod : ((i : Int) + (j : Int)).tmod (l.length : Int) = (r : Int) := by
          rw [Int.tmod_eq_emod_of_nonneg (by omega), hr]; simp
        have hc1 := hc r hrl
        have hs := spanTo_succ l i j
        rw [← hr] at hs
        have hx := HB.out _ (getD_mem hrl)
        rw [getD_get hrl] at hc1 hs hx
        have Hs := Lib.hid hs
        clear hs hr
        go_wp2
        go_roundw
        case rel => exact ⟨j + 1, by omega, by go_num, by rw [Hs.out], by trivial⟩
        case measure => simp [intOf]; omega
      · have e : j = k := by omega
        subst e
        go_wp2
        go_ret
        exact ⟨rfl, rfl⟩


end Go.Proofs.Ytoedmdefjibaoaa
