/-
  Contracts of SpreadOf, in the program and in the reference.
  Conditions: the rhythm's beats lie in memory.
-/
import Derived.Test.YthgohmgadcfglaaE2
import Derived.Test.YthgohmgadcfglaaM3
namespace Go.Proofs.Ythgohmgadcfglaa
open Go.RowKit

set_option maxHeartbeats 800000 in
theorem implSpreadOfC (n : Int) (v : Value) (x : List Int) (c : I64 n) (w : World) (h : Ints w w.heap.size v x) :
    Calls Try.prog 18 #[.agg #[.int .i64 n, v]] w fun e w' => e = .returned (.int .i64 (valSpreadOf n x)) ∧ Below w.heap.size w w' := by
  have h' := h.alloc (Nat.le_refl _) (.cells #[.int .i64 n, v] 27)
  have hop := h.open
  obtain ⟨a, cap, rfl, hcap, hmax, -⟩ := h
  unfold maxLen at hmax
  cases hr : rok n x with
  | false =>
    have Hr := Lib.hid hr
    have Hf := Lib.hid (valSpreadOf_no hr)
    clear hr
    go_enter Try.func18, Try.ntmps18
    go_wp2_with (go_at_call 53; refine (implRhythmOk _ _ x _ _ c.1 c.2 h').mono ?_; rintro e w' ⟨rfl, rfl⟩; rw [Hr.out])
    go_ret
    exact ⟨ret_int Hf.out.symm, ((Below.refl _ _).alloc (Nat.le_refl _) _).alloc (by simp) _⟩
  | true =>
    have Hr := Lib.hid hr
    have Hf := Lib.hid (valSpreadOf_yes hr)
    have hR := (rok_iff n x).1 hr
    have hlo := hR.lo
    have hhi := hR.hi
    have hlen := hR.len24
    clear hr
    rcases hop with ⟨rfl, a', cap', he⟩ | ⟨b, o, cap', he, hm, hpos, hB, hb, hc⟩
    · go_enter Try.func18, Try.ntmps18
      go_wp2_with (go_at_call 53; refine (implRhythmOk _ _ [] _ _ c.1 c.2 h').mono ?_; rintro e w' ⟨rfl, rfl⟩; rw [Hr.out])
      refine wp_loop_rounds 1 ?_; rw [rounds_succ]
      go_wp2
      go_ret
      exact ⟨ret_int (by rw [Hf.out]; rfl), ((Below.refl _ _).alloc (Nat.le_refl _) _).alloc (by simp) _⟩
    · cases he
      clear hpos hB
      go_enter Try.func18, Try.ntmps18
      go_wp2_with (go_at_call 53; refine (implRhythmOk _ _ x _ _ c.1 c.2 h').mono ?_; rintro e w' ⟨rfl, rfl⟩; rw [Hr.out])
      go_loop [3, 14] (fun s i => ∃ k : Nat, k ≤ x.length ∧ i = .int .i64 k ∧ s = .int .i64 (spOut n x k)) (fun _ i => x.length - (intOf i).toNat)
      case atStart => exact ⟨0, Nat.zero_le _, rfl, rfl⟩
      case round =>
        obtain ⟨k, hk, rfl, rfl⟩ := hrel
        by_cases hlt : k < x.length
        · have hc1 := hc k hlt
          have hbd := spOut_bd hR hk
          have hat := hR.at_ hlt
          have hcap2 : k ≤ cap := by omega
          have Hsucc := Lib.hid (spOut_succ n x k)
          rw [getD_get hlt] at hat
          go_wp2_with fail
          go_loop [3, 24] (fun s j => ∃ i : Nat, i ≤ k ∧ j = .int .i64 i ∧ s = .int .i64 (spIn n x[k] (spOut n x k) (x.take i))) (fun _ j => k - (intOf j).toNat)
          case atStart => exact ⟨0, Nat.zero_le _, rfl, rfl⟩
          case round =>
            obtain ⟨i, hi, rfl, rfl⟩ := hrel
            have hbi := spIn_bd (s := spOut n x k) hR hlt rfl hi
            by_cases hit : i < k
            · have hil : i < x.length := by omega
              have hc2 := hc i hil
              have hai := hR.at_ hil
              have hmo := hR.mono hit hlt
              have hpr := sp_prod (n := n) (p := x.getD k 0) (q := x.getD i 0) hlo hhi (hR.at_ hlt).1 (hR.at_ hlt).2 hai.1 hmo
              have Hs : Hid (spIn n x[k] (spOut n x k) (x.take (i + 1)) = spIn n x[k] (spOut n x k) (x.take i) + (x[k] - x[i]) * (n + x[i] - x[k])) := by
                rw [take_snoc hil, spIn_snoc, getD_get hil]
                rfl
              rw [getD_get hlt, getD_get hil] at hpr hmo
              rw [getD_get hil] at hai
              rw [getD_get hlt] at hbi
              have hpr' : 0 ≤ (x[k] - x[i]) * (n + x[i] - x[k]) ∧ (x[k] - x[i]) * (n + x[i] - x[k]) ≤ 576 := by
                have e : n + x[i] - x[k] = n + x[i] - x[k] := by omega
                rw [e]; exact hpr
              clear hpr
              go_wp2_with fail
              go_round
              case rel => exact ⟨i + 1, by omega, by go_num, by rw [Hs.out]⟩
              case measure => simp [intOf]; omega
            · have e : i = k := by omega
              subst e
              rw [← getD_get hlt, ← Hsucc.out]
              have hbn := spOut_bd hR (show i + 1 ≤ x.length by omega)
              go_wp2_with fail
              go_round
              case rel => exact ⟨i + 1, by omega, by go_num, rfl⟩
              case measure => simp [intOf]; omega
        · have e : k = x.length := by omega
          subst e
          go_wp2
          go_ret
          exact ⟨ret_int Hf.out.symm, ((Below.refl _ _).alloc (Nat.le_refl _) _).alloc (by simp) _⟩

set_option maxHeartbeats 800000 in
theorem specSpreadOfC (n : Int) (v : Value) (x : List Int) (c : I64 n) (w : World) (h : Ints w w.heap.size v x) :
    Calls Try.prog 16 #[.agg #[.int .i64 n, v]] w fun e w' => e = .returned (.int .i64 (valSpreadOf n x)) ∧ Below w.heap.size w w' := by
  have h' := h.alloc (Nat.le_refl _) (.cells #[.int .i64 n, v] 27)
  have hop := h.open
  obtain ⟨a, cap, rfl, hcap, hmax, -⟩ := h
  unfold maxLen at hmax
  cases hr : rok n x with
  | false =>
    have Hr := Lib.hid hr
    have Hf := Lib.hid (valSpreadOf_no hr)
    clear hr
    go_enter Try.func16, Try.ntmps16
    go_wp2_with (go_at_call 52; refine (specRhythmOk _ _ x _ _ c.1 c.2 h').mono ?_; rintro e w' ⟨rfl, rfl⟩; rw [Hr.out])
    go_ret
    exact ⟨ret_int Hf.out.symm, ((Below.refl _ _).alloc (Nat.le_refl _) _).alloc (by simp) _⟩
  | true =>
    have Hr := Lib.hid hr
    have Hf := Lib.hid (valSpreadOf_yes hr)
    have hR := (rok_iff n x).1 hr
    have hlo := hR.lo
    have hhi := hR.hi
    have hlen := hR.len24
    clear hr
    rcases hop with ⟨rfl, a', cap', he⟩ | ⟨b, o, cap', he, hm, hpos, hB, hb, hc⟩
    · go_enter Try.func16, Try.ntmps16
      go_wp2_with (go_at_call 52; refine (specRhythmOk _ _ [] _ _ c.1 c.2 h').mono ?_; rintro e w' ⟨rfl, rfl⟩; rw [Hr.out])
      refine wp_loop_rounds 1 ?_; rw [rounds_succ]
      go_wp2
      go_ret
      exact ⟨ret_int (by rw [Hf.out]; rfl), ((Below.refl _ _).alloc (Nat.le_refl _) _).alloc (by simp) _⟩
    · cases he
      clear hpos hB
      go_enter Try.func16, Try.ntmps16
      go_wp2_with (go_at_call 52; refine (specRhythmOk _ _ x _ _ c.1 c.2 h').mono ?_; rintro e w' ⟨rfl, rfl⟩; rw [Hr.out])
      go_loop [3, 14] (fun s i => ∃ k : Nat, k ≤ x.length ∧ i = .int .i64 k ∧ s = .int .i64 (spOut n x k)) (fun _ i => x.length - (intOf i).toNat)
      case atStart => exact ⟨0, Nat.zero_le _, rfl, rfl⟩
      case round =>
        obtain ⟨k, hk, rfl, rfl⟩ := hrel
        by_cases hlt : k < x.length
        · have hc1 := hc k hlt
          have hbd := spOut_bd hR hk
          have hat := hR.at_ hlt
          have hcap2 : k ≤ cap := by omega
          have Hsucc := Lib.hid (spOut_succ n x k)
          rw [getD_get hlt] at hat
          go_wp2_with fail
          go_loop [3, 24] (fun s j => ∃ i : Nat, i ≤ k ∧ j = .int .i64 i ∧ s = .int .i64 (spIn n x[k] (spOut n x k) (x.take i))) (fun _ j => k - (intOf j).toNat)
          case atStart => exact ⟨0, Nat.zero_le _, rfl, rfl⟩
          case round =>
            obtain ⟨i, hi, rfl, rfl⟩ := hrel
            have hbi := spIn_bd (s := spOut n x k) hR hlt rfl hi
            by_cases hit : i < k
            · have hil : i < x.length := by omega
              have hc2 := hc i hil
              have hai := hR.at_ hil
              have hmo := hR.mono hit hlt
              have hpr := sp_prod (n := n) (p := x.getD k 0) (q := x.getD i 0) hlo hhi (hR.at_ hlt).1 (hR.at_ hlt).2 hai.1 hmo
              have Hs : Hid (spIn n x[k] (spOut n x k) (x.take (i + 1)) = spIn n x[k] (spOut n x k) (x.take i) + (x[k] - x[i]) * (n - x[k] + x[i])) := by
                rw [take_snoc hil, spIn_snoc, getD_get hil]
                rw [show n + x[i] - x[k] = n - x[k] + x[i] by omega]
                rfl
              rw [getD_get hlt, getD_get hil] at hpr hmo
              rw [getD_get hil] at hai
              rw [getD_get hlt] at hbi
              have hpr' : 0 ≤ (x[k] - x[i]) * (n - x[k] + x[i]) ∧ (x[k] - x[i]) * (n - x[k] + x[i]) ≤ 576 := by
                have e : n - x[k] + x[i] = n + x[i] - x[k] := by omega
                rw [e]; exact hpr
              clear hpr
              go_wp2_with fail
              go_round
              case rel => exact ⟨i + 1, by omega, by go_num, by rw [Hs.out]⟩
              case measure => simp [intOf]; omega
            · have e : i = k := by omega
              subst e
              rw [← getD_get hlt, ← Hsucc.out]
              have hbn := spOut_bd hR (show i + 1 ≤ x.length by omega)
              go_wp2_with fail
              go_round
              case rel => exact ⟨i + 1, by omega, by go_num, rfl⟩
              case measure => simp [intOf]; omega
        · have e : k = x.length := by omega
          subst e
          go_wp2
          go_ret
          exact ⟨ret_int Hf.out.symm, ((Below.refl _ _).alloc (Nat.le_refl _) _).alloc (by simp) _⟩
end Go.Proofs.Ythgohmgadcfglaa
