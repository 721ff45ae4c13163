/-
  Contracts of small functions on integers and lists, in the program, the reference and the library: remainders, membership, equality.
  Conditions: the slices lie in memory; the divisor is from 1 to 2 to the fortieth.
-/
import Derived.Test.YtopfenhphnmfkaaB1
import Derived.Test.YtopfenhphnmfkaaM2
import Derived.Deep.QuietTactic
import Derived.BigQuiet
set_option linter.unusedVariables false
set_option linter.unusedSimpArgs false
namespace Go.Proofs.Ytopfenhphnmfkaa
open Go.RowKit

theorem implRemainder (k n : Int) (w : World) (h1 : 1 ≤ n) (h2 : n ≤ 1099511627776) (_c : I64 k) :
    Calls Try.prog 91 #[.int .i64 k, .int .i64 n] w fun e w' => e = .returned (.int .i64 (mo k n)) ∧ w = w' := by
  obtain ⟨h3, h4⟩ := tmod_bd (k := k) h1
  have hz : (n == 0) = false := by simp; omega
  have Hf := Lib.hid (mo_tmod (k := k) h1)
  go_enter Try.func91, Try.ntmps91
  go_wp2
  go_ret
  exact ⟨ret_int (by rw [← Hf.out, Int.tmod_eq_emod_of_nonneg (show 0 ≤ k.tmod n + n by omega)]), rfl⟩

theorem specL02Mod (k n : Int) (w : World) (h1 : 1 ≤ n) (h2 : n ≤ 1099511627776) (_c : I64 k) :
    Calls Try.prog 108 #[.int .i64 k, .int .i64 n] w fun e w' => e = .returned (.int .i64 (mo k n)) ∧ w = w' := by
  obtain ⟨h3, h4⟩ := tmod_bd (k := k) h1
  have hz : (n == 0) = false := by simp; omega
  have Hf := Lib.hid (mo_tmod (k := k) h1)
  go_enter Try.func108, Try.ntmps108
  go_wp2
  go_ret
  exact ⟨ret_int (by rw [← Hf.out, Int.tmod_eq_emod_of_nonneg (show 0 ≤ k.tmod n + n by omega)]), rfl⟩

theorem specL02Has (v : Value) (xs : List Int) (y : Int) (w : World) (B : Nat) (hv : Ints w B v xs) :
    Calls Try.prog 107 #[v, .int .i64 y] w fun e w' => e = .returned (.bool (hasL xs y)) ∧ w = w' := by
  rcases hv.open with ⟨rfl, a, cap, rfl⟩ | ⟨b, o, cap, rfl, hm, hpos, hB, hb, hc⟩
  · have Hf := Lib.hid (hasL_no (Nat.le_refl _) (NotTo.zero [] y))
    clear hv
    go_enter Try.func107, Try.ntmps107
    go_wp2
    refine wp_loop_rounds 1 ?_; rw [rounds_succ]
    go_wp2
    go_ret
    exact ⟨ret_bool Hf.out.symm, rfl⟩
  · clear hv
    go_enter Try.func107, Try.ntmps107
    go_wp2
    go_loop [6, 9] (fun _ i => ∃ k : Nat, k ≤ xs.length ∧ i = .int .i64 k ∧ NotTo xs y k) (fun _ i => xs.length - (intOf i).toNat)
    case atStart => exact ⟨0, Nat.zero_le _, rfl, NotTo.zero _ _⟩
    case round =>
      obtain ⟨k, hk, rfl, hall⟩ := hrel
      by_cases hlt : k < xs.length
      · have hc1 := hc k hlt
        have e1 : xs.getD k 0 = xs[k] := by simp [List.getD_eq_getElem?_getD, List.getElem?_eq_getElem hlt]
        by_cases hx : xs.getD k 0 = y
        · have Hf := Lib.hid (hasL_yes hlt hx)
          have hb1 : (y == xs[k]) = true := by rw [← e1, hx]; simp
          clear hx hall e1
          go_wp2
          go_ret
          exact ⟨ret_bool Hf.out.symm, rfl⟩
        · have Hn := hall.succ hx
          have hb1 : (y == xs[k]) = false := by rw [← e1]; simp; exact fun h => hx h.symm
          clear hx hall e1
          go_wp2
          go_round
          case rel => exact ⟨k + 1, by omega, by go_num, Hn⟩
          case measure => simp [intOf]; omega
      · have Hf := Lib.hid (hasL_no (by omega) hall)
        clear hall
        go_wp2
        go_ret
        exact ⟨ret_bool Hf.out.symm, rfl⟩

theorem slicesIndex (v : Value) (xs : List Int) (y : Int) (w : World) (B : Nat) (hv : Ints w B v xs) :
    Calls Try.prog 119 #[v, .int .i64 y] w fun e w' => e = .returned (.int .i64 (idxL xs y)) ∧ w = w' := by
  rcases hv.open with ⟨rfl, a, cap, rfl⟩ | ⟨b, o, cap, rfl, hm, hpos, hB, hb, hc⟩
  · have Hf := Lib.hid (idxL_no (Nat.le_refl _) (NotTo.zero [] y))
    clear hv
    go_enter Try.func119, Try.ntmps119
    go_wp2
    refine wp_loop_rounds 1 ?_; rw [rounds_succ]
    go_wp2
    go_ret
    exact ⟨ret_int Hf.out.symm, rfl⟩
  · clear hv
    go_enter Try.func119, Try.ntmps119
    go_wp2
    go_loop [5, 8] (fun _ i => ∃ k : Nat, k ≤ xs.length ∧ i = .int .i64 k ∧ NotTo xs y k) (fun _ i => xs.length - (intOf i).toNat)
    case atStart => exact ⟨0, Nat.zero_le _, rfl, NotTo.zero _ _⟩
    case round =>
      obtain ⟨k, hk, rfl, hall⟩ := hrel
      by_cases hlt : k < xs.length
      · have hc1 := hc k hlt
        have e1 : xs.getD k 0 = xs[k] := by simp [List.getD_eq_getElem?_getD, List.getElem?_eq_getElem hlt]
        by_cases hx : xs.getD k 0 = y
        · have Hf := Lib.hid (idxL_yes hall hlt hx)
          have hb1 : (y == xs[k]) = true := by rw [← e1, hx]; simp
          clear hx hall e1
          go_wp2
          go_ret
          exact ⟨ret_int Hf.out.symm, rfl⟩
        · have Hn := hall.succ hx
          have hb1 : (y == xs[k]) = false := by rw [← e1]; simp; exact fun h => hx h.symm
          clear hx hall e1
          go_wp2
          go_round
          case rel => exact ⟨k + 1, by omega, by go_num, Hn⟩
          case measure => simp [intOf]; omega
      · have Hf := Lib.hid (idxL_no (by omega) hall)
        clear hall
        go_wp2
        go_ret
        exact ⟨ret_int Hf.out.symm, rfl⟩

theorem slicesContains (v : Value) (xs : List Int) (y : Int) (w : World) (B : Nat) (hv : Ints w B v xs) :
    Calls Try.prog 90 #[v, .int .i64 y] w fun e w' => e = .returned (.bool (hasL xs y)) ∧ w = w' := by
  have hv' := hv
  obtain ⟨a, cap, rfl, -⟩ := hv
  rcases idxL_ge (xs := xs) (y := y) with ⟨h1, h2⟩ | ⟨h1, h2⟩
  · have H1 := Lib.hid h1
    clear h1
    go_enter Try.func90, Try.ntmps90
    go_wp2_with (go_at_call 119; refine (slicesIndex _ xs _ _ _ hv').mono ?_; rintro e w' ⟨rfl, rfl⟩)
    go_ret
    exact ⟨ret_bool (by rw [H1.out]), rfl⟩
  · have H1 := Lib.hid h1
    have H2 := Lib.hid h2
    clear h1 h2
    go_enter Try.func90, Try.ntmps90
    go_wp2_with (go_at_call 119; refine (slicesIndex _ xs _ _ _ hv').mono ?_; rintro e w' ⟨rfl, rfl⟩; rw [H2.out])
    go_ret
    exact ⟨ret_bool H1.out.symm, rfl⟩

theorem specL02Same (u v : Value) (xs ys : List Int) (w : World) (B C : Nat) (hu : Ints w B u xs) (hv : Ints w C v ys) :
    Calls Try.prog 96 #[u, v] w fun e w' => e = .returned (.bool (eqL xs ys)) ∧ w = w' := by
  have hlu := hu.cap
  have hlv := hv.cap
  unfold maxLen at hlu hlv
  by_cases hl : xs.length = ys.length
  · rcases hu.open with ⟨rfl, a, cap, rfl⟩ | ⟨b, o, cap, rfl, hm, h0, hB, hb, hc⟩
    · have hy : ys = [] := List.eq_nil_of_length_eq_zero hl.symm
      subst hy
      obtain ⟨a', cap', rfl, -⟩ := hv
      clear hu hl hlu hlv
      go_enter Try.func96, Try.ntmps96
      go_wp2
      refine wp_loop_rounds 1 ?_; rw [rounds_succ]
      go_wp2
      go_ret
      exact ⟨rfl, rfl⟩
    · rcases hv.open with ⟨rfl, a', cap', rfl⟩ | ⟨b', o', cap', rfl, hm', h0', hB', hb', hc'⟩
      · have : ([] : List Int).length = 0 := rfl
        omega
      · have hne : (((xs.length : Nat) : Int) != ((ys.length : Nat) : Int)) = false := by simp [hl]
        have Hl := Lib.hid hl
        have hle : xs.length ≤ ys.length := by omega
        clear hu hv hl hB hB' h0 h0' hm hm'
        go_enter Try.func96, Try.ntmps96
        go_wp2
        go_loop [5, 6, 14] (fun _ _ i => ∃ k : Nat, k ≤ xs.length ∧ i = .int .i64 k ∧ EqTo xs ys k) (fun _ _ i => xs.length - (intOf i).toNat)
        case atStart => exact ⟨0, Nat.zero_le _, rfl, EqTo.zero _ _⟩
        case round =>
          obtain ⟨k, hk, rfl, heq⟩ := hrel
          by_cases hlt : k < xs.length
          · have hlt' : k < ys.length := by omega
            have hc1 := hc k hlt
            have hc1' := hc' k hlt'
            have e1 : xs.getD k 0 = xs[k] := by simp [List.getD_eq_getElem?_getD, List.getElem?_eq_getElem hlt]
            have e2 : ys.getD k 0 = ys[k] := by simp [List.getD_eq_getElem?_getD, List.getElem?_eq_getElem hlt']
            by_cases hx : xs.getD k 0 = ys.getD k 0
            · have Hn := heq.succ hx
              have hb1 : (xs[k] != ys[k]) = false := by rw [← e1, ← e2, hx]; simp
              clear hx heq e1 e2
              go_wp2
              go_round
              case rel => exact ⟨k + 1, by omega, by go_num, Hn⟩
              case measure => simp [intOf]; omega
            · have Hf := Lib.hid (eqL_bad hx)
              have hb1 : (xs[k] != ys[k]) = true := by rw [← e1, ← e2]; simpa using hx
              clear hx heq e1 e2
              go_wp2
              go_ret
              exact ⟨ret_bool Hf.out.symm, rfl⟩
          · have Hf := Lib.hid (eqL_end Hl.out (by omega) heq)
            clear heq
            go_wp2
            go_ret
            exact ⟨ret_bool Hf.out.symm, rfl⟩
  · have Hf := Lib.hid (eqL_len hl)
    have hne : (((xs.length : Nat) : Int) != ((ys.length : Nat) : Int)) = true := by simp; omega
    obtain ⟨a, cap, rfl, -⟩ := hu
    obtain ⟨a', cap', rfl, -⟩ := hv
    clear hl
    go_enter Try.func96, Try.ntmps96
    go_wp2
    go_ret
    exact ⟨ret_bool Hf.out.symm, rfl⟩

set_option maxHeartbeats 400000 in
theorem slicesEqual (u v : Value) (xs ys : List Int) (w : World) (B C : Nat) (hu : Ints w B u xs) (hv : Ints w C v ys) :
    Calls Try.prog 105 #[u, v] w fun e w' => e = .returned (.bool (eqL xs ys)) ∧ ∃ n, w' = w.drewN n := by
  have hlu := hu.cap
  have hlv := hv.cap
  unfold maxLen at hlu hlv
  by_cases hl : xs.length = ys.length
  · rcases hu.open with ⟨rfl, a, cap, rfl⟩ | ⟨b, o, cap, rfl, hm, h0, hB, hb, hc⟩
    · have hy : ys = [] := List.eq_nil_of_length_eq_zero hl.symm
      subst hy
      obtain ⟨a', cap', rfl, -⟩ := hv
      clear hu hl hlu hlv
      go_enter Try.func105, Try.ntmps105
      go_wp2
      refine wp_loop_rounds 1 ?_; rw [rounds_succ]
      go_wp2
      go_ret
      exact ⟨rfl, 0, rfl⟩
    · rcases hv.open with ⟨rfl, a', cap', rfl⟩ | ⟨b', o', cap', rfl, hm', h0', hB', hb', hc'⟩
      · have : ([] : List Int).length = 0 := rfl
        omega
      · have hne : (((xs.length : Nat) : Int) != ((ys.length : Nat) : Int)) = false := by simp [hl]
        have Hl := Lib.hid hl
        have hle : xs.length ≤ ys.length := by omega
        clear hu hv hl hB hB' h0 h0' hm hm'
        go_enter Try.func105, Try.ntmps105
        go_wp2
        go_loopw [5, 13] (fun _ i wr => ∃ k : Nat, k ≤ xs.length ∧ i = .int .i64 k ∧ EqTo xs ys k ∧ ∃ m, wr = w.drewN m) (fun _ i _ => xs.length - (intOf i).toNat)
        case atStart => exact ⟨0, Nat.zero_le _, rfl, EqTo.zero _ _, 0, rfl⟩
        case round =>
          obtain ⟨k, hk, rfl, heq, m, rfl⟩ := hrel
          by_cases hlt : k < xs.length
          · have hlt' : k < ys.length := by omega
            have hlt1 : (k : Int) < (xs.length : Int) := by omega
            have hlt2 : (k : Int) < (ys.length : Int) := by omega
            have hc1 := hc k hlt
            have hc1' := hc' k hlt'
            have e1 : xs.getD k 0 = xs[k] := by simp [List.getD_eq_getElem?_getD, List.getElem?_eq_getElem hlt]
            have e2 : ys.getD k 0 = ys[k] := by simp [List.getD_eq_getElem?_getD, List.getElem?_eq_getElem hlt']
            by_cases hx : xs.getD k 0 = ys.getD k 0
            · have Hn := heq.succ hx
              have hb1 : (xs[k] != ys[k]) = false := by rw [← e1, ← e2, hx]; simp
              clear hx heq e1 e2
              go_wp2
              go_quiet (fail)
              go_wp2
              go_roundw
              case rel => exact ⟨k + 1, by omega, by go_num, Hn, _, rfl⟩
              case measure => simp [intOf]; omega
            · have Hf := Lib.hid (eqL_bad hx)
              have hb1 : (xs[k] != ys[k]) = true := by rw [← e1, ← e2]; simpa using hx
              clear hx heq e1 e2
              go_wp2
              go_quiet (fail)
              go_wp2
              go_ret
              exact ⟨ret_bool Hf.out.symm, _, by rw [World.drewN_drewN]⟩
          · have Hf := Lib.hid (eqL_end Hl.out (by omega) heq)
            clear heq
            go_wp2
            go_ret
            exact ⟨ret_bool Hf.out.symm, _, rfl⟩
  · have Hf := Lib.hid (eqL_len hl)
    have hne : (((xs.length : Nat) : Int) != ((ys.length : Nat) : Int)) = true := by simp; omega
    obtain ⟨a, cap, rfl, -⟩ := hu
    obtain ⟨a', cap', rfl, -⟩ := hv
    clear hl
    go_enter Try.func105, Try.ntmps105
    go_wp2
    go_ret
    exact ⟨ret_bool Hf.out.symm, 0, rfl⟩
end Go.Proofs.Ytopfenhphnmfkaa
