/-
  Contract of ParseRhythm in the reference.
  Condition: the text is no longer than two to the twentieth.
-/
import Derived.Test.YtcgpmdfcdngnlaaDoorT8
set_option linter.unusedVariables false
set_option linter.unusedSimpArgs false
namespace Go.Proofs.YtcgpmdfcdngnlaaDoor
open Go.RowKit

theorem size_pos {s : ByteArray} (h : ¬ s = ⟨#[]⟩) : 1 ≤ s.size := by
  rcases Nat.eq_zero_or_pos s.size with h0 | h0
  · exfalso
    apply h
    apply ByteArray.ext
    exact Array.eq_empty_of_size_eq_zero h0
  · exact h0
theorem fmt_ok {s : ByteArray} {k : Nat} (hz : ¬ s = ⟨#[]⟩) (hk : k ≤ s.size) (hk24 : k ≤ 24) (hex : k = s.size ∨ k = 24) : fmtR (s.size : Int) (prTo s k) = s ↔ okParseRhythm s = true := by
  have h1 := size_pos hz
  by_cases h24 : s.size ≤ 24
  · have e : k = s.size := by omega
    subst e
    unfold fmtR
    rw [if_pos ((rok_iff _ _).2 (prTo_rok h1 h24 (Nat.le_refl _))), Int.toNat_natCast, tx_iff]
    unfold okParseRhythm
    rw [decide_eq_true h1, decide_eq_true h24]
    simp
  · have hr : ¬ rok (s.size : Int) (prTo s k) = true := by
      intro h
      have := ((rok_iff _ _).1 h).hi
      omega
    unfold fmtR okParseRhythm
    rw [if_neg hr, decide_eq_false h24]
    simp
    exact fun e => hz e.symm
theorem pr_end {s : ByteArray} {k : Nat} (h : okParseRhythm s = true) (hk : k ≤ s.size) (hk24 : k ≤ 24) (hex : k = s.size ∨ k = 24) : prTo s s.size = prTo s k := by
  unfold okParseRhythm at h
  simp only [Bool.and_eq_true, decide_eq_true_eq] at h
  have : k = s.size := by omega
  rw [this]

theorem lenParseRhythm (s : ByteArray) : (lstParseRhythm s).length ≤ 24 := by
  cases h : okParseRhythm s with
  | false => rw [(pr_no h).2]; simp
  | true =>
    rw [(pr_yes h).2]
    have h1 := prTo_len s s.size
    unfold okParseRhythm at h
    simp only [Bool.and_eq_true, decide_eq_true_eq] at h
    omega

set_option maxRecDepth 20000 in
set_option maxHeartbeats 3200000 in
theorem specParseRhythmC (s : ByteArray) (hs : s.size ≤ 1048576) (w : World) :
    Calls Tryd.prog 16 #[.string s] w (RetRhythm2 w (numParseRhythm s) (lstParseRhythm s) (okParseRhythm s)) := by
  by_cases hz : s = ⟨#[]⟩
  · subst hz
    have ho : okParseRhythm ⟨#[]⟩ = false := by decide
    have HO := Lib.hid ho
    have HN := Lib.hid (pr_no ho)
    clear ho
    go_enter Tryd.func16, Tryd.ntmps16
    go_wp2
    refine wp_loop_rounds 1 ?_; rw [rounds_succ]
    go_wp2
    refine bodyPost_ret (v := .tuple #[.agg #[.int .i64 0, .slice none 0 0], .bool false]) ?_ rfl ?_
    · simp [results, Tryd.results16, go_sem]
    · exact rr2_zero rfl (by (repeat (first | (with_reducible exact (Below.refl _ _)) | (with_reducible refine bel_alloc ?_ _) | (with_reducible refine Below.drew ?_) | (with_reducible refine bel_drewN ?_ _) | (with_reducible refine Below.setCell ?_ (by simp) _)))) HN.out.1 HN.out.2 HO.out
  · obtain ⟨n1, n2⟩ := text_full hz
    have HB2 : Hid (Below w.heap.size w ((w.alloc (.cells #[.int .i64 0, .slice none 0 0] 31)).alloc (.cells #[.int .i64 (s.size : Int), .slice none 0 0] 31))) := by unfold Hid; (repeat (first | (with_reducible exact (Below.refl _ _)) | (with_reducible refine bel_alloc ?_ _) | (with_reducible refine Below.drew ?_) | (with_reducible refine bel_drewN ?_ _) | (with_reducible refine Below.setCell ?_ (by simp) _)))
    have HX2 : Hid (Bx ((w.alloc (.cells #[.int .i64 0, .slice none 0 0] 31)).alloc (.cells #[.int .i64 (s.size : Int), .slice none 0 0] 31)) w.heap.size (.int .i64 0) (.slice none 0 0) 31) := by unfold Hid; (repeat (first | (with_reducible refine Bx.newAt _ _ _ _ ?_; simp; done) | (with_reducible refine Bx.alloc ?_ _) | (with_reducible refine Bx.drew ?_) | (with_reducible refine Bx.drewN ?_ _)))
    have HZ1 : Hid (Bx ((w.alloc (.cells #[.int .i64 0, .slice none 0 0] 31)).alloc (.cells #[.int .i64 (s.size : Int), .slice none 0 0] 31)) (w.heap.size + 1) (.int .i64 (s.size : Int)) (.slice none 0 0) 31) := Bx.newAt _ _ _ _ (by simp)
    go_enter Tryd.func16, Tryd.ntmps16
    go_wp2
    generalize (w.alloc (.cells #[.int .i64 0, .slice none 0 0] 31)).alloc (.cells #[.int .i64 (s.size : Int), .slice none 0 0] 31) = W0 at *
    go_loopw [5] (fun i wr => ∃ k : Nat, k ≤ s.size ∧ k ≤ 24 ∧ i = .int .i64 k ∧ ∃ (a' : Option Addr) (m' c' : Nat), (prTo s k).length = m' ∧ m' ≤ 24 ∧ Own wr (w.heap.size + 2) (.slice a' m' c') (prTo s k) ∧ Bx wr (w.heap.size + 1) (.int .i64 (s.size : Int)) (.slice a' m' c') 31 ∧ Bx wr w.heap.size (.int .i64 0) (.slice none 0 0) 31 ∧ Below w.heap.size w wr) (fun i _ => s.size - (intOf i).toNat)
    case atStart => exact ⟨0, Nat.zero_le _, by omega, rfl, none, 0, 0, rfl, by omega, Own.nil _ _, HZ1.out, HX2.out, HB2.out⟩
    case round =>
      obtain ⟨k, hk, hk24, rfl, a', m', c', hm', hm24, hown, hout, hres, hbel⟩ := hrel
      have hsz := hout.lt
      have HM := Lib.hid hm'
      have HY := Lib.hid hout
      have HOw := Lib.hid hown
      have HR := Lib.hid hres
      have HU := Lib.hid hbel
      by_cases hlt : k < s.size
      · by_cases h24 : k < 24
        · clear hm' hout hown hres hbel
          by_cases hx : s[k].toNat = 120
          · have HP := Lib.hid (prTo_yes hlt hx)
            have hxi : (s[k].toNat : Int) = 120 := by omega
            have hxb : ((s[k].toNat : Int) == 120) = true := by rw [hxi]; rfl
            have hl2 : Hid ((prTo s (k + 1)).length ≤ 24) := by unfold Hid; have := prTo_len s (k + 1); omega
            clear hx
            have y1 := HY.out.c1
            have g1 := HY.out.f 1
            go_wp2_with (at_builtin; refine wpAppInt rfl _ _ rfl (w.heap.size + 2) a' m' c' (prTo s k) _ rfl rfl HOw.out HM.out (by omega) (by omega) ?_; intro a1 c1 w3 ho1 hb1; have hy1 := HY.out.below hb1 (by omega); have p1 := hy1.c1; have gg1 := hy1.f 1)
            have HY3 : Hid (Bx (w3.setCell ⟨w.heap.size + 1, 1, none⟩ (.slice a1 (m' + 1) c1)) (w.heap.size + 1) _ (.slice a1 (m' + 1) c1) _) := hy1.set1 _
            have HO3 : Hid (Own (w3.setCell ⟨w.heap.size + 1, 1, none⟩ (.slice a1 (m' + 1) c1)) (w.heap.size + 2) (.slice a1 (m' + 1) c1) (prTo s k ++ [(k : Int)])) := ho1.setc (by simp) _
            have HR3 : Hid (Bx (w3.setCell ⟨w.heap.size + 1, 1, none⟩ (.slice a1 (m' + 1) c1)) w.heap.size _ _ _) := (HR.out.below hb1 (by omega)).set_other (by (first | omega | (simp; done) | (simp; omega))) _
            have HU3 : Hid (Below w.heap.size w (w3.setCell ⟨w.heap.size + 1, 1, none⟩ (.slice a1 (m' + 1) c1))) := (HU.out.trans (hb1.mono (by omega))).setCell (by (first | omega | (simp; done) | (simp; omega))) _
            have HM3 : Hid ((prTo s k ++ [(k : Int)]).length = m' + 1) := by unfold Hid; rw [List.length_append, HM.out]; rfl
            clear ho1 hb1 hy1 p1 gg1
            go_roundw
            case rel =>
              refine ⟨k + 1, by omega, by omega, by go_num, a1, m' + 1, c1, by rw [HP.out]; exact HM3.out, ?_, by rw [HP.out]; exact HO3.out, HY3.out, HR3.out, HU3.out⟩
              have := hl2.out
              rw [HP.out, HM3.out] at this
              exact this
            case measure => simp [intOf]; omega
          · have HP := Lib.hid (prTo_no hlt hx)
            have hxi : ¬ (s[k].toNat : Int) = 120 := by omega
            have hxb : ((s[k].toNat : Int) == 120) = false := by simp; omega
            clear hx
            go_wp2
            go_roundw
            case rel => exact ⟨k + 1, by omega, by omega, by go_num, a', m', c', by rw [HP.out]; exact HM.out, by omega, by rw [HP.out]; exact HOw.out, HY.out, HR.out, HU.out⟩
            case measure => simp [intOf]; omega
        · have hex : k = s.size ∨ k = 24 := by omega
          have HE := Lib.hid hex
          have HF := Lib.hid (fmt_ok hz hk hk24 hex)
          have y0 := hout.c0
          have y1 := hout.c1
          clear hm' hout hown hres hbel hex hz
          cases hok : okParseRhythm s with
          | true =>
            have HK := Lib.hid hok
            have HS : Hid (fmtR (s.size : Int) (prTo s k) = s) := HF.out.2 hok
            have HN := Lib.hid (pr_yes hok)
            clear hok
            go_wp2_with (go_at_call 37; refine (specFormatRhythmC _ _ (prTo s k) ⟨by omega, by omega⟩ _ HOw.out.ints).mono ?_; rintro e w2 ⟨rfl, b2⟩; rw [HS.out]; have HY2 := Lib.hid (HY.out.below b2 HY.out.lt); have HR2 := Lib.hid (HR.out.below b2 HR.out.lt); have HO2 := Lib.hid (HOw.out.below b2); have HU2 := Lib.hid (bel_step HU.out b2 HU.out.size); have q0 := HY2.out.c0; have q1 := HY2.out.c1; have p0 := HR2.out.c0; have p1 := HR2.out.c1; have f0 := HR2.out.f 0; have f1 := HR2.out.f 1)
            have hfin := (HR2.out.set0 (.int .i64 (s.size : Int))).set1 (.slice a' m' c')
            have r0 := hfin.c0
            have r1 := hfin.c1
            refine bodyPost_ret (v := .tuple #[.agg #[.int .i64 (s.size : Int), .slice a' m' c'], .bool true]) ?_ rfl ?_
            · simp [results, Tryd.results16, go_sem, r0, r1]
            · exact rr2_one rfl (((HO2.out.setc (by simp) _).setc (by simp) _).mono (by omega)) HM.out ((HU2.out.setCell (by simp) _).setCell (by simp) _) HN.out.1 (by rw [HN.out.2, pr_end HK.out hk hk24 HE.out]) HK.out
          | false =>
            have HK := Lib.hid hok
            have hne := text_ne (fun e => by rw [HF.out.1 e] at hok; cases hok)
            have HN := Lib.hid (pr_no hok)
            clear hok
            go_wp2_with (go_at_call 37; refine (specFormatRhythmC _ _ (prTo s k) ⟨by omega, by omega⟩ _ HOw.out.ints).mono ?_; rintro e w2 ⟨rfl, b2⟩; generalize fmtR (s.size : Int) (prTo s k) = F at *; have HR2 := Lib.hid (HR.out.below b2 HR.out.lt); have HU2 := Lib.hid (bel_step HU.out b2 HU.out.size); have p0 := HR2.out.c0; have p1 := HR2.out.c1; have f0 := HR2.out.f 0; have f1 := HR2.out.f 1)
            have hfin := (HR2.out.set0 (.int .i64 0)).set1 (.slice none 0 0)
            have r0 := hfin.c0
            have r1 := hfin.c1
            refine bodyPost_ret (v := .tuple #[.agg #[.int .i64 0, .slice none 0 0], .bool false]) ?_ rfl ?_
            · simp [results, Tryd.results16, go_sem, r0, r1]
            · exact rr2_zero rfl ((HU2.out.setCell (by simp) _).setCell (by simp) _) HN.out.1 HN.out.2 HK.out
      · have hex : k = s.size ∨ k = 24 := by omega
        have HE := Lib.hid hex
        have HF := Lib.hid (fmt_ok hz hk hk24 hex)
        have y0 := hout.c0
        have y1 := hout.c1
        clear hm' hout hown hres hbel hex hz
        cases hok : okParseRhythm s with
        | true =>
          have HK := Lib.hid hok
          have HS : Hid (fmtR (s.size : Int) (prTo s k) = s) := HF.out.2 hok
          have HN := Lib.hid (pr_yes hok)
          clear hok
          go_wp2_with (go_at_call 37; refine (specFormatRhythmC _ _ (prTo s k) ⟨by omega, by omega⟩ _ HOw.out.ints).mono ?_; rintro e w2 ⟨rfl, b2⟩; rw [HS.out]; have HY2 := Lib.hid (HY.out.below b2 HY.out.lt); have HR2 := Lib.hid (HR.out.below b2 HR.out.lt); have HO2 := Lib.hid (HOw.out.below b2); have HU2 := Lib.hid (bel_step HU.out b2 HU.out.size); have q0 := HY2.out.c0; have q1 := HY2.out.c1; have p0 := HR2.out.c0; have p1 := HR2.out.c1; have f0 := HR2.out.f 0; have f1 := HR2.out.f 1)
          have hfin := (HR2.out.set0 (.int .i64 (s.size : Int))).set1 (.slice a' m' c')
          have r0 := hfin.c0
          have r1 := hfin.c1
          refine bodyPost_ret (v := .tuple #[.agg #[.int .i64 (s.size : Int), .slice a' m' c'], .bool true]) ?_ rfl ?_
          · simp [results, Tryd.results16, go_sem, r0, r1]
          · exact rr2_one rfl (((HO2.out.setc (by simp) _).setc (by simp) _).mono (by omega)) HM.out ((HU2.out.setCell (by simp) _).setCell (by simp) _) HN.out.1 (by rw [HN.out.2, pr_end HK.out hk hk24 HE.out]) HK.out
        | false =>
          have HK := Lib.hid hok
          have hne := text_ne (fun e => by rw [HF.out.1 e] at hok; cases hok)
          have HN := Lib.hid (pr_no hok)
          clear hok
          go_wp2_with (go_at_call 37; refine (specFormatRhythmC _ _ (prTo s k) ⟨by omega, by omega⟩ _ HOw.out.ints).mono ?_; rintro e w2 ⟨rfl, b2⟩; generalize fmtR (s.size : Int) (prTo s k) = F at *; have HR2 := Lib.hid (HR.out.below b2 HR.out.lt); have HU2 := Lib.hid (bel_step HU.out b2 HU.out.size); have p0 := HR2.out.c0; have p1 := HR2.out.c1; have f0 := HR2.out.f 0; have f1 := HR2.out.f 1)
          have hfin := (HR2.out.set0 (.int .i64 0)).set1 (.slice none 0 0)
          have r0 := hfin.c0
          have r1 := hfin.c1
          refine bodyPost_ret (v := .tuple #[.agg #[.int .i64 0, .slice none 0 0], .bool false]) ?_ rfl ?_
          · simp [results, Tryd.results16, go_sem, r0, r1]
          · exact rr2_zero rfl ((HU2.out.setCell (by simp) _).setCell (by simp) _) HN.out.1 HN.out.2 HK.out
end Go.Proofs.YtcgpmdfcdngnlaaDoor
