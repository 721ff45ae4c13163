/-
  Contract of ParseInt in the reference.
  Condition: the text is no longer than two to the twentieth.
-/
import Derived.Test.YtcgpmdfcdngnlaaDoorT3
set_option linter.unusedVariables false
set_option linter.unusedSimpArgs false
namespace Go.Proofs.YtcgpmdfcdngnlaaDoor
open Go.RowKit

set_option maxRecDepth 20000 in
set_option maxHeartbeats 4000000 in
theorem specParseIntC (s : ByteArray) (hs : s.size ≤ 1048576) (w : World) :
    Calls Tryd.prog 21 #[.string s] w fun e w' => e = .returned (.tuple #[.int .i64 (numP s), .bool (okP s)]) ∧ Below w.heap.size w w' := by
  by_cases hz : s.size = 0
  · have dg : isDigits s = false := by simp [isDigits, hz]
    have HN := Lib.hid (exit1 (Tl.empty hz s false) dg)
    have HD := Lib.hid dg
    clear dg
    go_enter Tryd.func21, Tryd.ntmps21
    go_wp2_with (go_at_call 43; refine (specIsDigits s _ (by unfold maxLen; omega)).mono ?_; rintro e w' ⟨rfl, rfl⟩; rw [HD.out])
    refine bodyPost_ret (v := .tuple #[.int .i64 (0), .bool false]) ?_ rfl ?_
    · simp [results, Tryd.results21, go_sem]
    · exact ⟨ret_num2 (numP_no HN.out).symm HN.out.symm, Below.refl _ _⟩
  have hp : 0 < s.size := by omega
  by_cases h45 : s[0].toNat = 45
  · have HT := Lib.hid (Tl.minus hp h45)
    have h45b : (s[0].toNat : Int) = 45 := by omega
    have h45c : ((s[0].toNat : Int) == 45) = true := by rw [h45b]; rfl
    clear h45
    go_enter Tryd.func21, Tryd.ntmps21
    go_wp2_with fail
    have hts : (s.extract 1 s.size).size ≤ 1048576 := by rw [ByteArray.size_extract]; omega
    generalize s.extract 1 s.size = t at *
    clear h45b h45c
    cases hdg : isDigits t with
    | false =>
      have HN := Lib.hid (exit1 HT.out hdg)
      have HD := Lib.hid hdg
      clear hdg
      refine (specIsDigits t _ (by unfold maxLen; omega)).mono ?_
      rintro e w' ⟨rfl, rfl⟩
      rw [HD.out]
      go_wp2
      refine bodyPost_ret (v := .tuple #[.int .i64 (0), .bool false]) ?_ rfl ?_
      · simp [results, Tryd.results21, go_sem]
      · exact ⟨ret_num2 (numP_no HN.out).symm HN.out.symm, Below.refl _ _⟩
    | true =>
      have HD := Lib.hid hdg
      clear hdg
      refine (specIsDigits t _ (by unfold maxLen; omega)).mono ?_
      rintro e w' ⟨rfl, rfl⟩
      rw [HD.out]
      by_cases h19 : (19 : Int) < (t.size : Int)
      · have HN := Lib.hid (exit2 HT.out (by omega))
        go_wp2
        refine bodyPost_ret (v := .tuple #[.int .i64 (0), .bool false]) ?_ rfl ?_
        · simp [results, Tryd.results21, go_sem]
        · exact ⟨ret_num2 (numP_no HN.out).symm HN.out.symm, Below.refl _ _⟩
      go_wp2
      go_loopw [6, 7] (fun n i wr => ∃ (k : Nat) (z : Int), k ≤ t.size ∧ i = .int .i64 (k : Int) ∧ n = .int .i64 z ∧ Hid (z = -(vTo t k)) ∧ -9223372036854775808 ≤ z ∧ z ≤ 0 ∧ wr = w) (fun _ i _ => t.size - (intOf i).toNat)
      case atStart => exact ⟨0, 0, Nat.zero_le _, rfl, rfl, (by unfold Hid; rw [vTo_zero]; rfl), by omega, Int.le_refl _, rfl⟩
      case round =>
        obtain ⟨k, z, hk, rfl, rfl, HZ, hz0, hz1, rfl⟩ := hrel
        by_cases hlt : k < t.size
        · obtain ⟨d1, d2⟩ := isDigits_at HD.out hlt
          have hS := vTo_succ hlt
          have hZ := HZ.out
          obtain ⟨Q, hQ⟩ : ∃ Q : Int, (-9223372036854775808 + ((t[k].toNat : Int) - 48)).tdiv 10 = Q := ⟨_, rfl⟩
          have hQ2 : Q = -((9223372036854775808 - ((t[k].toNat : Int) - 48)) / 10) := by
            rw [← hQ, show -9223372036854775808 + ((t[k].toNat : Int) - 48) = -(9223372036854775808 - ((t[k].toNat : Int) - 48)) by omega, Int.neg_tdiv, Int.tdiv_eq_ediv_of_nonneg (by omega)]
          have hQ0 : -922337203685477581 ≤ Q := by omega
          have hQ1 : Q ≤ 0 := by omega
          by_cases hov : z < Q
          · have HN := Lib.hid (exit3 HT.out HD.out hlt (by omega))
            clear hS hZ hQ2
            go_wp2
            refine bodyPost_ret (v := .tuple #[.int .i64 (0), .bool false]) ?_ rfl ?_
            · simp [results, Tryd.results21, go_sem]
            · exact ⟨ret_num2 (numP_no HN.out).symm HN.out.symm, Below.refl _ _⟩
          · have HS : Hid (z * 10 - ((t[k].toNat : Int) - 48) = -(vTo t (k + 1))) := by unfold Hid; omega
            have hr0 : -9223372036854775808 ≤ z * 10 - ((t[k].toNat : Int) - 48) := by omega
            clear hS hZ hQ2
            go_wp2
            go_roundw
            case rel => exact ⟨k + 1, _, by omega, by go_num, rfl, HS.out, hr0, by omega, by first | rfl | trivial⟩
            case measure => simp [intOf]; omega
        · have e : k = t.size := by omega
          have HV : Hid (z = -(vTo t t.size)) := by unfold Hid; rw [← e]; exact HZ.out
          have c64 : I64 (z) := ⟨by omega, by omega⟩
          have HC := Lib.hid c64
          have hsz := itB_size _ c64
          clear c64
          by_cases he : itB (z) = s
          · have HN := Lib.hid (okP_yes HC.out he)
            have HE := Lib.hid he
            clear he hsz
            go_wp2_with (go_at_call 9; refine (specFormatIntC _ HC.out _).mono ?_; rintro e w1 ⟨rfl, b1⟩; rw [HE.out])
            refine bodyPost_ret (v := .tuple #[.int .i64 (z), .bool true]) ?_ rfl ?_
            · simp [results, Tryd.results21, go_sem]
            · exact ⟨ret_num2 HN.out.2.symm HN.out.1.symm, b1⟩
          · have HN := Lib.hid (exit5 HT.out (by rw [if_pos rfl]; exact HV.out) he)
            have hne := list_ne he
            clear he
            go_wp2_with (go_at_call 9; refine (specFormatIntC _ HC.out _).mono ?_; rintro e w1 ⟨rfl, b1⟩; generalize itB (z) = B at *)
            refine bodyPost_ret (v := .tuple #[.int .i64 (0), .bool false]) ?_ rfl ?_
            · simp [results, Tryd.results21, go_sem]
            · exact ⟨ret_num2 (numP_no HN.out).symm HN.out.symm, b1⟩
  · have HT := Lib.hid (Tl.plain hp h45)
    have h45b : ¬ (s[0].toNat : Int) = 45 := by omega
    have h45c : ((s[0].toNat : Int) == 45) = false := by simp; omega
    clear h45
    go_enter Tryd.func21, Tryd.ntmps21
    go_wp2_with fail
    clear h45b h45c
    cases hdg : isDigits s with
    | false =>
      have HN := Lib.hid (exit1 HT.out hdg)
      have HD := Lib.hid hdg
      clear hdg
      refine (specIsDigits s _ (by unfold maxLen; omega)).mono ?_
      rintro e w' ⟨rfl, rfl⟩
      rw [HD.out]
      go_wp2
      refine bodyPost_ret (v := .tuple #[.int .i64 (0), .bool false]) ?_ rfl ?_
      · simp [results, Tryd.results21, go_sem]
      · exact ⟨ret_num2 (numP_no HN.out).symm HN.out.symm, Below.refl _ _⟩
    | true =>
      have HD := Lib.hid hdg
      clear hdg
      refine (specIsDigits s _ (by unfold maxLen; omega)).mono ?_
      rintro e w' ⟨rfl, rfl⟩
      rw [HD.out]
      by_cases h19 : (19 : Int) < (s.size : Int)
      · have HN := Lib.hid (exit2 HT.out (by omega))
        go_wp2
        refine bodyPost_ret (v := .tuple #[.int .i64 (0), .bool false]) ?_ rfl ?_
        · simp [results, Tryd.results21, go_sem]
        · exact ⟨ret_num2 (numP_no HN.out).symm HN.out.symm, Below.refl _ _⟩
      go_wp2
      go_loopw [6, 7] (fun n i wr => ∃ (k : Nat) (z : Int), k ≤ s.size ∧ i = .int .i64 (k : Int) ∧ n = .int .i64 z ∧ Hid (z = -(vTo s k)) ∧ -9223372036854775808 ≤ z ∧ z ≤ 0 ∧ wr = w) (fun _ i _ => s.size - (intOf i).toNat)
      case atStart => exact ⟨0, 0, Nat.zero_le _, rfl, rfl, (by unfold Hid; rw [vTo_zero]; rfl), by omega, Int.le_refl _, rfl⟩
      case round =>
        obtain ⟨k, z, hk, rfl, rfl, HZ, hz0, hz1, rfl⟩ := hrel
        by_cases hlt : k < s.size
        · obtain ⟨d1, d2⟩ := isDigits_at HD.out hlt
          have hS := vTo_succ hlt
          have hZ := HZ.out
          obtain ⟨Q, hQ⟩ : ∃ Q : Int, (-9223372036854775808 + ((s[k].toNat : Int) - 48)).tdiv 10 = Q := ⟨_, rfl⟩
          have hQ2 : Q = -((9223372036854775808 - ((s[k].toNat : Int) - 48)) / 10) := by
            rw [← hQ, show -9223372036854775808 + ((s[k].toNat : Int) - 48) = -(9223372036854775808 - ((s[k].toNat : Int) - 48)) by omega, Int.neg_tdiv, Int.tdiv_eq_ediv_of_nonneg (by omega)]
          have hQ0 : -922337203685477581 ≤ Q := by omega
          have hQ1 : Q ≤ 0 := by omega
          by_cases hov : z < Q
          · have HN := Lib.hid (exit3 HT.out HD.out hlt (by omega))
            clear hS hZ hQ2
            go_wp2
            refine bodyPost_ret (v := .tuple #[.int .i64 (0), .bool false]) ?_ rfl ?_
            · simp [results, Tryd.results21, go_sem]
            · exact ⟨ret_num2 (numP_no HN.out).symm HN.out.symm, Below.refl _ _⟩
          · have HS : Hid (z * 10 - ((s[k].toNat : Int) - 48) = -(vTo s (k + 1))) := by unfold Hid; omega
            have hr0 : -9223372036854775808 ≤ z * 10 - ((s[k].toNat : Int) - 48) := by omega
            clear hS hZ hQ2
            go_wp2
            go_roundw
            case rel => exact ⟨k + 1, _, by omega, by go_num, rfl, HS.out, hr0, by omega, by first | rfl | trivial⟩
            case measure => simp [intOf]; omega
        · have e : k = s.size := by omega
          have HV : Hid (z = -(vTo s s.size)) := by unfold Hid; rw [← e]; exact HZ.out
          by_cases hmin : z = -9223372036854775808
          · have HN := Lib.hid (exit4 HT.out (by have := HV.out; omega))
            have hmb : (z == -9223372036854775808) = true := by rw [hmin]; rfl
            go_wp2
            refine bodyPost_ret (v := .tuple #[.int .i64 (0), .bool false]) ?_ rfl ?_
            · simp [results, Tryd.results21, go_sem]
            · exact ⟨ret_num2 (numP_no HN.out).symm HN.out.symm, Below.refl _ _⟩
          · have hmb : (z == -9223372036854775808) = false := by simp; omega
            have c64 : I64 (-z) := ⟨by omega, by omega⟩
            have HC := Lib.hid c64
            have hsz := itB_size _ c64
            clear c64
            by_cases he : itB (-z) = s
            · have HN := Lib.hid (okP_yes HC.out he)
              have HE := Lib.hid he
              clear he hsz
              go_wp2_with (go_at_call 9; refine (specFormatIntC _ HC.out _).mono ?_; rintro e w1 ⟨rfl, b1⟩; rw [HE.out])
              refine bodyPost_ret (v := .tuple #[.int .i64 (-z), .bool true]) ?_ rfl ?_
              · simp [results, Tryd.results21, go_sem]
              · exact ⟨ret_num2 HN.out.2.symm HN.out.1.symm, b1⟩
            · have HN := Lib.hid (exit5 HT.out (by rw [if_neg (by simp)]; have := HV.out; omega) he)
              have hne := list_ne he
              clear he
              go_wp2_with (go_at_call 9; refine (specFormatIntC _ HC.out _).mono ?_; rintro e w1 ⟨rfl, b1⟩; generalize itB (-z) = B at *)
              refine bodyPost_ret (v := .tuple #[.int .i64 (0), .bool false]) ?_ rfl ?_
              · simp [results, Tryd.results21, go_sem]
              · exact ⟨ret_num2 (numP_no HN.out).symm HN.out.symm, b1⟩
end Go.Proofs.YtcgpmdfcdngnlaaDoor
