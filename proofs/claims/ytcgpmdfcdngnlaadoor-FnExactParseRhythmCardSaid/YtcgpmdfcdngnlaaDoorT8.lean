/-
  Contracts of ParseRhythm, in the program and in the reference.
  Condition: the text is no longer than two to the twentieth.
-/
import Derived.Test.YtcgpmdfcdngnlaaDoorT7
set_option linter.unusedVariables false
set_option linter.unusedSimpArgs false
namespace Go.Proofs.YtcgpmdfcdngnlaaDoor
open Go.RowKit

theorem rr2_zero {w w' : World} {e : Ending} {n : Int} {xs : List Int} {ok : Bool} (he : e = .returned (.tuple #[.agg #[.int .i64 0, .slice none 0 0], .bool false])) (hb : Below w.heap.size w w') (hn : n = 0) (hx : xs = []) (ho : ok = false) : RetRhythm2 w n xs ok e w' := by
  subst hn hx ho
  exact ⟨none, 0, he, Own.nil _ _, hb⟩
theorem rr2_one {w w' : World} {e : Ending} {n n' : Int} {xs xs' : List Int} {ok : Bool} {a : Option Addr} {l c : Nat} (he : e = .returned (.tuple #[.agg #[.int .i64 n, .slice a l c], .bool true])) (ho : Own w' w.heap.size (.slice a l c) xs) (hl : xs.length = l) (hb : Below w.heap.size w w') (hn : n' = n) (hx : xs' = xs) (hk : ok = true) : RetRhythm2 w n' xs' ok e w' := by
  subst hn hx hk hl
  exact ⟨a, c, he, ho, hb⟩
theorem text_ne {a b : ByteArray} (h : ¬ a = b) : (a.toList == b.toList) = false := by
  rw [beq_eq_false_iff_ne]
  intro e
  apply h
  rw [ByteArray.toList_eq, ByteArray.toList_eq] at e
  exact ByteArray.ext (Array.toList_inj.1 e)
theorem text_full {z : ByteArray} (h : ¬ z = ⟨#[]⟩) : z.toList.isEmpty = false ∧ (z.toList == []) = false := by
  have h1 : z.toList ≠ [] := by
    intro e
    apply h
    rw [ByteArray.toList_eq] at e
    exact ByteArray.ext (Array.toList_inj.1 e)
  exact ⟨by simpa using h1, by simpa using h1⟩

theorem trimC (s : ByteArray) (hs : s.size ≤ 1048576) (w : World) :
    Calls Tryd.prog 39 #[.string s, .string ⟨#[120, 46]⟩] w fun e w' => e = .returned (.string ⟨(Lib.trimS s.data.toList [120, 46]).toArray⟩) ∧ Below w.heap.size w w' :=
  Any.strings_Trim_laid Tryd.lays160 (by kernel_rfl) s ⟨#[120, 46]⟩ w (by omega) (by decide) (ascii_of_all (by decide))
theorem trimYes (s : ByteArray) (hs : s.size ≤ 1048576) (h : s.data.toList.all inXD = true) (w : World) :
    Calls Tryd.prog 39 #[.string s, .string ⟨#[120, 46]⟩] w fun e w' => e = .returned (.string ⟨#[]⟩) ∧ Below w.heap.size w w' := by
  have := trimC s hs w
  rw [(trim_iff _).2 h] at this
  exact this
theorem trimNo (s : ByteArray) (hs : s.size ≤ 1048576) (h : s.data.toList.all inXD = false) (w : World) :
    Calls Tryd.prog 39 #[.string s, .string ⟨#[120, 46]⟩] w fun e w' => ∃ T : ByteArray, e = .returned (.string T) ∧ T.toList.isEmpty = false ∧ (T.toList == []) = false ∧ Below w.heap.size w w' := by
  refine (trimC s hs w).mono fun e w' ⟨he, hb⟩ => ?_
  have hn : ¬ (⟨(Lib.trimS s.data.toList [120, 46]).toArray⟩ : ByteArray) = ⟨#[]⟩ := by
    intro e1
    have e2 := congrArg (fun b : ByteArray => b.data.toList) e1
    simp only [List.toList_toArray] at e2
    have := (trim_iff _).1 e2
    rw [h] at this; cases this
  obtain ⟨h1, h2⟩ := text_full hn
  exact ⟨_, he, h1, h2, hb⟩

set_option maxRecDepth 20000 in
set_option maxHeartbeats 1600000 in
theorem implParseRhythmC (s : ByteArray) (hs : s.size ≤ 1048576) (w : World) :
    Calls Tryd.prog 17 #[.string s] w (RetRhythm2 w (numParseRhythm s) (lstParseRhythm s) (okParseRhythm s)) := by
  cases hin : (decide (1 ≤ (s.size : Int)) && decide ((s.size : Int) ≤ 24)) with
  | false =>
    have ho : okParseRhythm s = false := by
      unfold okParseRhythm
      have : (decide (1 ≤ s.size) && decide (s.size ≤ 24)) = false := by
        simp only [Bool.and_eq_false_iff, decide_eq_false_iff_not] at hin ⊢; omega
      rw [this]; rfl
    have HO := Lib.hid ho
    have HN := Lib.hid (pr_no ho)
    have HI := Lib.hid hin
    clear ho hin
    go_enter Tryd.func17, Tryd.ntmps17
    go_wp2_with (go_at_call 38; refine (implWithin _ _ _ _).mono ?_; rintro e w' ⟨rfl, rfl⟩; rw [HI.out])
    refine bodyPost_ret (v := .tuple #[.agg #[.int .i64 0, .slice none 0 0], .bool false]) ?_ rfl ?_
    · simp [results, Tryd.results17, go_sem]
    · exact rr2_zero rfl (by (repeat (first | (with_reducible exact (Below.refl _ _)) | (with_reducible refine bel_alloc ?_ _) | (with_reducible refine Below.drew ?_) | (with_reducible refine bel_drewN ?_ _) | (with_reducible refine Below.setCell ?_ (by simp) _)))) HN.out.1 HN.out.2 HO.out
  | true =>
    have HI := Lib.hid hin
    have hr : 1 ≤ s.size ∧ s.size ≤ 24 := by
      simp only [Bool.and_eq_true, decide_eq_true_eq] at hin; omega
    obtain ⟨hr1, hr2⟩ := hr
    clear hin
    cases hall : s.data.toList.all inXD with
    | false =>
      have ho : okParseRhythm s = false := by unfold okParseRhythm; rw [hall, Bool.and_false]
      have HO := Lib.hid ho
      have HN := Lib.hid (pr_no ho)
      have HA := Lib.hid hall
      clear ho hall
      go_enter Tryd.func17, Tryd.ntmps17
      go_wp2_with (first
        | (go_at_call 38; refine (implWithin _ _ _ _).mono ?_; rintro e w' ⟨rfl, rfl⟩; rw [HI.out])
        | (go_at_call 39; refine withWorld fun X hX => ?_; have gB : Below w.heap.size w X := (by rw [hX]; (repeat (first | (with_reducible exact (Below.refl _ _)) | (with_reducible refine bel_alloc ?_ _) | (with_reducible refine Below.drew ?_) | (with_reducible refine bel_drewN ?_ _) | (with_reducible refine Below.setCell ?_ (by simp) _)))); have bx0 : Bx X w.heap.size (.int .i64 0) (.slice none 0 0) 31 := (by rw [hX]; (repeat (first | (with_reducible refine Bx.newAt _ _ _ _ ?_; simp; done) | (with_reducible refine Bx.alloc ?_ _) | (with_reducible refine Bx.drew ?_) | (with_reducible refine Bx.drewN ?_ _)))); clear hX; refine (trimNo s hs HA.out _).mono ?_; rintro e w1 ⟨T, rfl, n1, n2, b1⟩; have HX1 := Lib.hid (bx0.below b1 bx0.lt); have HB1 := Lib.hid (bel_step gB b1 gB.size); have p0 := HX1.out.c0; have p1 := HX1.out.c1; have f0 := HX1.out.f 0; have f1 := HX1.out.f 1; clear gB bx0 b1))
      have hfin := (HX1.out.set0 (.int .i64 0)).set1 (.slice none 0 0)
      have r0 := hfin.c0
      have r1 := hfin.c1
      refine bodyPost_ret (v := .tuple #[.agg #[.int .i64 0, .slice none 0 0], .bool false]) ?_ rfl ?_
      · simp [results, Tryd.results17, go_sem, r0, r1]
      · exact rr2_zero rfl ((HB1.out.setCell (by simp) _).setCell (by simp) _) HN.out.1 HN.out.2 HO.out
    | true =>
      have ho : okParseRhythm s = true := by unfold okParseRhythm; rw [hall, decide_eq_true hr1, decide_eq_true hr2]; rfl
      have HO := Lib.hid ho
      have HN := Lib.hid (pr_yes ho)
      have HA := Lib.hid hall
      clear ho hall
      go_enter Tryd.func17, Tryd.ntmps17
      go_wp2_with (first
        | (go_at_call 38; refine (implWithin _ _ _ _).mono ?_; rintro e w' ⟨rfl, rfl⟩; rw [HI.out])
        | (go_at_call 39; refine withWorld fun X hX => ?_; have gB : Below w.heap.size w X := (by rw [hX]; (repeat (first | (with_reducible exact (Below.refl _ _)) | (with_reducible refine bel_alloc ?_ _) | (with_reducible refine Below.drew ?_) | (with_reducible refine bel_drewN ?_ _) | (with_reducible refine Below.setCell ?_ (by simp) _)))); have bx0 : Bx X w.heap.size (.int .i64 0) (.slice none 0 0) 31 := (by rw [hX]; (repeat (first | (with_reducible refine Bx.newAt _ _ _ _ ?_; simp; done) | (with_reducible refine Bx.alloc ?_ _) | (with_reducible refine Bx.drew ?_) | (with_reducible refine Bx.drewN ?_ _)))); clear hX; refine (trimYes s hs HA.out _).mono ?_; rintro e w1 ⟨rfl, b1⟩; have HX1 := Lib.hid (bx0.below b1 bx0.lt); have HB1 := Lib.hid (bel_step gB b1 gB.size); clear gB bx0 b1))
      have hQ : w.heap.size + 1 ≤ w1.heap.size := by have := HX1.out.lt; omega
      have HZ1 : Hid (Bx (w1.alloc (.cells #[.int .i64 (s.size : Int), .slice none 0 0] 31)) w1.heap.size (.int .i64 (s.size : Int)) (.slice none 0 0) 31) := Bx.new _ _ _ _
      have HX2 : Hid (Bx (w1.alloc (.cells #[.int .i64 (s.size : Int), .slice none 0 0] 31)) w.heap.size (.int .i64 0) (.slice none 0 0) 31) := HX1.out.alloc _
      have HB2 : Hid (Below w.heap.size w (w1.alloc (.cells #[.int .i64 (s.size : Int), .slice none 0 0] 31))) := bel_alloc HB1.out _
      generalize hQe : w1.heap.size = Q at *
      generalize w1.alloc (.cells #[.int .i64 (s.size : Int), .slice none 0 0] 31) = W0 at *
      clear hQe HX1 HB1
      go_loopw [21] (fun i wr => ∃ k : Nat, k ≤ s.size ∧ i = .int .i64 k ∧ ∃ (a' : Option Addr) (m' c' : Nat), (prTo s k).length = m' ∧ m' ≤ 24 ∧ Own wr (Q + 1) (.slice a' m' c') (prTo s k) ∧ Bx wr Q (.int .i64 (s.size : Int)) (.slice a' m' c') 31 ∧ Bx wr w.heap.size (.int .i64 0) (.slice none 0 0) 31 ∧ Below w.heap.size w wr) (fun i _ => s.size - (intOf i).toNat)
      case atStart => exact ⟨0, Nat.zero_le _, rfl, none, 0, 0, rfl, by omega, Own.nil _ _, HZ1.out, HX2.out, HB2.out⟩
      case round =>
        obtain ⟨k, hk, rfl, a', m', c', hm', hm24, hown, hout, hres, hbel⟩ := hrel
        have hsz := hout.lt
        have HM := Lib.hid hm'
        have HY := Lib.hid hout
        have HOw := Lib.hid hown
        have HR := Lib.hid hres
        have HU := Lib.hid hbel
        by_cases hlt : k < s.size
        · clear hm' hout hown hres hbel
          by_cases hx : s[k].toNat = 120
          · have HP := Lib.hid (prTo_yes hlt hx)
            have hxi : (s[k].toNat : Int) = 120 := by omega
            have hxb : ((s[k].toNat : Int) == 120) = true := by rw [hxi]; rfl
            have hl2 : Hid ((prTo s (k + 1)).length ≤ 24) := by unfold Hid; have := prTo_len s (k + 1); omega
            clear hx
            have y1 := HY.out.c1
            have g1 := HY.out.f 1
            go_wp2_with (at_builtin; refine wpAppInt rfl _ _ rfl (Q + 1) a' m' c' (prTo s k) _ rfl rfl HOw.out HM.out (by omega) (by omega) ?_; intro a1 c1 w3 ho1 hb1; have hy1 := HY.out.below hb1 (by omega); have p1 := hy1.c1; have gg1 := hy1.f 1)
            have HY3 : Hid (Bx (w3.setCell ⟨Q, 1, none⟩ (.slice a1 (m' + 1) c1)) Q _ (.slice a1 (m' + 1) c1) _) := hy1.set1 _
            have HO3 : Hid (Own (w3.setCell ⟨Q, 1, none⟩ (.slice a1 (m' + 1) c1)) (Q + 1) (.slice a1 (m' + 1) c1) (prTo s k ++ [(k : Int)])) := ho1.setc (by simp) _
            have HR3 : Hid (Bx (w3.setCell ⟨Q, 1, none⟩ (.slice a1 (m' + 1) c1)) w.heap.size _ _ _) := (HR.out.below hb1 (by omega)).set_other (by simp; omega) _
            have HU3 : Hid (Below w.heap.size w (w3.setCell ⟨Q, 1, none⟩ (.slice a1 (m' + 1) c1))) := (HU.out.trans (hb1.mono (by omega))).setCell (by simp; omega) _
            have HM3 : Hid ((prTo s k ++ [(k : Int)]).length = m' + 1) := by unfold Hid; rw [List.length_append, HM.out]; rfl
            clear ho1 hb1 hy1 p1 gg1
            go_roundw
            case rel =>
              refine ⟨k + 1, by omega, by go_num, a1, m' + 1, c1, by rw [HP.out]; exact HM3.out, ?_, by rw [HP.out]; exact HO3.out, HY3.out, HR3.out, HU3.out⟩
              have := hl2.out
              rw [HP.out, HM3.out] at this
              exact this
            case measure => simp [intOf]; omega
          · have HP := Lib.hid (prTo_no hlt hx)
            have hxi : ¬ (s[k].toNat : Int) = 120 := by omega
            have hxb : ((s[k].toNat : Int) == 120) = false := by simp; omega
            clear hx
            go_wp2
            go_roundw
            case rel => exact ⟨k + 1, by omega, by go_num, a', m', c', by rw [HP.out]; exact HM.out, by omega, by rw [HP.out]; exact HOw.out, HY.out, HR.out, HU.out⟩
            case measure => simp [intOf]; omega
        · have e : k = s.size := by omega
          have HE := Lib.hid e
          have y0 := hout.c0
          have y1 := hout.c1
          have p0 := hres.c0
          have p1 := hres.c1
          have f0 := hres.f 0
          have f1 := hres.f 1
          clear hm' hout hown hres hbel e
          go_wp2
          have hfin := (HR.out.set0 (.int .i64 (s.size : Int))).set1 (.slice a' m' c')
          have r0 := hfin.c0
          have r1 := hfin.c1
          refine bodyPost_ret (v := .tuple #[.agg #[.int .i64 (s.size : Int), .slice a' m' c'], .bool true]) ?_ rfl ?_
          · simp [results, Tryd.results17, go_sem, r0, r1]
          · exact rr2_one rfl (((HOw.out.setc (by simp; omega) _).setc (by simp; omega) _).mono (by omega)) HM.out ((HU.out.setCell (by simp) _).setCell (by simp) _) HN.out.1 (by rw [HN.out.2, HE.out]) HO.out
end Go.Proofs.YtcgpmdfcdngnlaaDoor
