/-
  Contract of TwinsOf in the reference.
  Conditions: the rhythm's beats lie in memory.
-/
import Derived.Test.YtopfenhphnmfkaaV4
import Derived.Deep.DeepCutAuto
set_option linter.unusedVariables false
set_option linter.unusedSimpArgs false
namespace Go.Proofs.Ytopfenhphnmfkaa
open Go.RowKit

theorem specLeastFormY (n : Int) (v : Value) (x : List Int) (w : World) (hR : Rok n x) (h : Ints w w.heap.size v x) :
    Calls Try.prog 98 #[.agg #[.int .i64 n, v]] w (RetRhythm2 w n (formV n x) true) := by
  have hlo := hR.lo
  have hhi := hR.hi
  have hr := (rok_iff n x).2 hR
  have := specLeastFormC n v x ⟨by omega, by omega⟩ w h
  rw [(leastForm_yes hr).1, (leastForm_yes hr).2.1, (leastForm_yes hr).2.2] at this
  exact this

set_option maxRecDepth 20000 in
set_option maxHeartbeats 8000000 in
theorem specTwinsOfC (n : Int) (v : Value) (x : List Int) (c : I64 n) (w : World) (h : Ints w w.heap.size v x) :
    Calls Try.prog 55 #[.agg #[.int .i64 n, v]] w (RetSegR w (lstTwinsOf n x)) := by
  have h' := h
  obtain ⟨a, cap, rfl, -⟩ := h'
  cases hr : rok n x with
  | false =>
    have Hr := Lib.hid hr
    rw [twinsOf_no (by unfold okTw; rw [hr]; rfl)]
    clear hr
    go_enter Try.func55, Try.ntmps55
    go_wp2_with (go_at_call 59; refine (specRhythmOk _ _ x _ _ c.1 c.2 (h.alloc (Nat.le_refl _) _)).mono ?_; rintro e w' ⟨rfl, rfl⟩; rw [Hr.out])
    go_ret
    exact .mk rfl (SegR.nil _ _ _) (by (repeat (first | (with_reducible exact (Below.refl _ _)) | (with_reducible refine bel_alloc ?_ _) | (with_reducible refine Below.drew ?_) | (with_reducible refine bel_drewN ?_ _) | (with_reducible refine Below.setCell ?_ (by simp) _))))
  | true =>
    have Hr := Lib.hid hr
    have hR := (rok_iff n x).1 hr
    by_cases h12 : n ≤ 12
    · rw [twinsOf_yes (by unfold okTw; rw [hr, decide_eq_true h12]; rfl)]
      clear hr
      have hlo := hR.lo
      have hhi := hR.hi
      have hlen := hR.len24
      have hM1 := pow12 h12
      have hM0 := pow_pos2 n
      have hpw : (2 : Int) ^ n.toNat = ((2 ^ n.toNat : Nat) : Int) := by simp
      have hspec : Hid (∀ c, c < 2 ^ n.toNat → okT n x c = (decide ((ofCode n c).length = x.length) && (eqL (veTo (difOut n (ofCode n c) (ofCode n c).length) n (n / 2).toNat) (veTo (difOut n x x.length) n (n / 2).toNat) && (eqL (formV n (ofCode n c)) (ofCode n c) && !valAreForms n x n (ofCode n c))))) := fun c hc => okT_spec hR hc
      generalize hM : 2 ^ n.toNat = M at *
      clear hM
      have hn12 : ¬ 12 < n := by omega
      go_enter Try.func55, Try.ntmps55
      go_wp2_with (go_at_call 59; refine (specRhythmOk _ _ x _ _ c.1 c.2 (h.alloc (Nat.le_refl _) _)).mono ?_; rintro e w' ⟨rfl, rfl⟩; rw [Hr.out])
      have hl0 := SegR.lit ((w.alloc (.cells #[.int .i64 n, .slice a x.length cap] 25)).alloc (.cells #[.int .i64 n, .slice a x.length cap] 25)) (lo := w.heap.size + 1) (hi := w.heap.size + 1 + 1 + 1) (by (first | omega | (simp; done) | (simp; omega))) (by (first | omega | (simp; done) | (simp; omega)))
      have HL0 := Lib.hid hl0
      clear hl0
      go_loopw [3, 4] (fun u' i wr => ∃ j : Nat, j ≤ M ∧ i = .int .i64 ((M : Int) - 1 - (j : Int)) ∧ (∃ a' m' c', u' = .slice a' m' c' ∧ (twTo n x M j).length = m' ∧ SegR wr (w.heap.size + 1) wr.heap.size (.slice a' m' c') (twTo n x M j)) ∧ Bx wr w.heap.size (.int .i64 n) (.slice a x.length cap) 25 ∧ Below w.heap.size w wr) (fun _ i _ => (intOf i + 1).toNat)
      case atStart => exact ⟨0, Nat.zero_le _, by simp, ⟨_, 0, 0, rfl, rfl, by have := HL0.out; rw [show twTo n x M 0 = [] from rfl]; simpa using this⟩, by (repeat (first | (with_reducible refine Bx.newAt _ _ _ _ ?_; simp; done) | (with_reducible refine Bx.alloc ?_ _) | (with_reducible refine Bx.drew ?_) | (with_reducible refine Bx.drewN ?_ _))), by (repeat (first | (with_reducible exact (Below.refl _ _)) | (with_reducible refine bel_alloc ?_ _) | (with_reducible refine Below.drew ?_) | (with_reducible refine bel_drewN ?_ _) | (with_reducible refine Below.setCell ?_ (by simp) _)))⟩
      case round =>
        obtain ⟨j, hj, rfl, ⟨a', m', c', rfl, hm', hseg⟩, hbx, hbel⟩ := hrel
        have hml := twTo_len n x M j
        rw [hm'] at hml
        have HM := Lib.hid hm'
        have HS := Lib.hid hseg
        have HB := Lib.hid hbel
        have HX := Lib.hid hbx
        have hszr := hbx.lt
        have q0 := hbx.c0
        have q1 := hbx.c1
        clear hm' hseg hbel hbx
        by_cases hlt : j < M
        · obtain ⟨d, hc⟩ : ∃ d : Nat, (M : Int) - 1 - (j : Int) = (d : Int) := ⟨M - 1 - j, by omega⟩
          have hcM : M - 1 - j = d := by omega
          have hcl : d < 16777216 := by omega
          have HC := Lib.hid hcM
          have hsp := hspec.out d (by omega)
          rw [hc]
          have HC2 := Lib.hid hc
          clear hcM hc
          have hY := ofCode_rok hlo hhi d
          have hYl := hY.len24
          go_wp2_with (go_at_call 95; refine (specL05Of n d _ hlo hhi hcl).mono ?_; rintro e w1 ⟨a1, c1, rfl, o1, b1⟩; have HB1 := Lib.hid (bel_step HB.out b1 HB.out.size); have HX1 := Lib.hid (HX.out.below b1 HX.out.lt); have HS1 := Lib.hid (HS.out.after b1); have HU1 := Lib.hid (Seg.mk' o1); have hz1 := b1.size; have q0 := HX1.out.c0; have q1 := HX1.out.c1; clear b1 o1)
          refine withWorldC fun Z hZ => ?_
          have HBZ : Hid (Below w.heap.size w Z) := by unfold Hid; rw [hZ]; exact HB1.out.alloc HB1.out.size _
          have HXZ : Hid (Bx Z w.heap.size (.int .i64 n) (.slice a x.length cap) 25) := by unfold Hid; rw [hZ]; exact HX1.out.alloc _
          have HYZ : Hid (Bx Z w1.heap.size (.int .i64 n) (.slice a1 (ofCode n d).length c1) 25) := by unfold Hid; rw [hZ]; exact Bx.new _ _ _ _
          have HSZ : Hid (SegR Z (w.heap.size + 1) wr.heap.size (.slice a' m' c') (twTo n x M j)) := by unfold Hid; rw [hZ]; exact HS1.out.alloc _
          have HUZ : Hid (Seg Z wr.heap.size w1.heap.size (.slice a1 (ofCode n d).length c1) (ofCode n d)) := by unfold Hid; rw [hZ]; exact HU1.out.alloc _
          have hzZ : w1.heap.size + 1 ≤ Z.heap.size := by rw [hZ]; simp
          have mZ0 := HXZ.out.c0
          have mZ1 := HXZ.out.c1
          have lZ0 := HYZ.out.c0
          have lZ1 := HYZ.out.c1
          clear hZ HB1 HX1 HS1 HU1 q0 q1
          by_cases hA : (ofCode n d).length = x.length
          · have hAI : ((((ofCode n d).length : Nat) : Int) != ((x.length : Nat) : Int)) = false := by rw [hA]; simp
            rw [decide_eq_true hA, Bool.true_and] at hsp
            have HA := Lib.hid hA
            clear hA
            generalize hV : eqL (veTo (difOut n (ofCode n d) (ofCode n d).length) n (n / 2).toNat) (veTo (difOut n x x.length) n (n / 2).toNat) = B at *
            have HV := Lib.hid hV
            clear hV
            have HSP := Lib.hid hsp
            clear hsp
            go_cut [43] (fun t wx => t = .bool (!B) ∧ Below Z.heap.size Z wx)
            case first =>
              go_region_with (first
              | (go_at_call_of 97 (Value.agg #[Value.int IntKind.i64 n, Value.slice a1 (ofCode n d).length c1]); refine (specL05Vector _ _ (ofCode n d) _ hY HUZ.out.drew.ints).mono ?_; rintro e w2 ⟨a2, c2, rfl, o2, b2⟩; have HB2 := Lib.hid (bel_step HBZ.out.drew b2 HBZ.out.size); have HX2 := Lib.hid (HXZ.out.drew.below b2 HXZ.out.lt); have HY2 := Lib.hid (HYZ.out.drew.below b2 HYZ.out.lt); have HS2 := Lib.hid (HSZ.out.drew.after b2); have HU2 := Lib.hid (HUZ.out.drew.after b2); have hz2 := Nat.le_trans hzZ b2.size; have la2 : w1.heap.size < w2.heap.size := HY2.out.lt; have lb2 : w.heap.size < w2.heap.size := HX2.out.lt; have m20 := HX2.out.c0; have m21 := HX2.out.c1; have l20 := HY2.out.c0; have l21 := HY2.out.c1)
              | (go_at_call 97; refine (specL05Vector _ _ x _ hR (Ints.ofBelow h HB2.out)).mono ?_; rintro e w3 ⟨a3, c3, rfl, o3, b3⟩; have HB3 := Lib.hid (bel_step HB2.out b3 HB2.out.size); have HX3 := Lib.hid (HX2.out.below b3 HX2.out.lt); have HY3 := Lib.hid (HY2.out.below b3 HY2.out.lt); have HS3 := Lib.hid (HS2.out.after b3); have HU3 := Lib.hid (HU2.out.after b3); have hz3 := Nat.le_trans hz2 b3.size; have la3 : w1.heap.size < w3.heap.size := HY3.out.lt; have lb3 : w.heap.size < w3.heap.size := HX3.out.lt; have m30 := HX3.out.c0; have m31 := HX3.out.c1; have l30 := HY3.out.c0; have l31 := HY3.out.c1; have o23 := o2.below b3)
              | (go_at_call 96; refine (specL02Same _ _ (veTo (difOut n (ofCode n d) (ofCode n d).length) n (n / 2).toNat) (veTo (difOut n x x.length) n (n / 2).toNat) _ _ _ o23.ints o3.ints).mono ?_; rintro e w4 ⟨rfl, rfl⟩; rw [HV.out]))
              all_goals
                go_wp2
                go_meet
                case rel => exact ⟨rfl, (Below.drew (Below.refl _ _)).trans (b2.trans (b3.mono b2.size))⟩
            rename World => w3
            obtain ⟨rfl, b3⟩ := hcut
            have HB3 := Lib.hid (bel_step HBZ.out b3 HBZ.out.size)
            have HX3 := Lib.hid (HXZ.out.below b3 HXZ.out.lt)
            have HY3 := Lib.hid (HYZ.out.below b3 HYZ.out.lt)
            have HS3 := Lib.hid (HSZ.out.after b3)
            have HU3 := Lib.hid (HUZ.out.after b3)
            have hz3 := Nat.le_trans hzZ b3.size
            have la3 : w1.heap.size < w3.heap.size := HY3.out.lt
            have lb3 : w.heap.size < w3.heap.size := HX3.out.lt
            have m30 := HX3.out.c0
            have m31 := HX3.out.c1
            have l30 := HY3.out.c0
            have l31 := HY3.out.c1
            clear b3
            cases B with
            | false =>
              have Hn : Hid (twTo n x M (j + 1) = twTo n x M j) := twTo_no HC.out (by have := HSP.out; rw [Bool.false_and] at this; exact this)
              rw [show (!false) = true from rfl]
              clear mZ0 mZ1 lZ0 lZ1
              go_wp2
              go_roundw
              case rel => exact ⟨j + 1, by omega, by have := HC2.out; go_num, ⟨a', m', c', rfl, by rw [Hn.out]; exact HM.out, by rw [Hn.out]; exact HS3.out.low (Nat.le_refl _) (by omega)⟩, HX3.out, HB3.out⟩
              case measure => have := HC2.out; simp [intOf]; try omega
            | true =>
              rw [show (!true) = false from rfl]
              clear mZ0 mZ1 lZ0 lZ1
              have hsp := HSP.out
              rw [Bool.true_and] at hsp
              cases hW : eqL (formV n (ofCode n d)) (ofCode n d) with
              | false =>
                rw [hW, Bool.false_and] at hsp
                have Hn : Hid (twTo n x M (j + 1) = twTo n x M j) := twTo_no HC.out hsp
                have HW := Lib.hid hW
                clear hW hsp
                go_wp2_with (first | (go_at_call 98; refine (specLeastFormY _ _ (ofCode n d) _ hY (HU3.out.ints)).mono ?_; rintro e w5 ⟨a5, c5, rfl, o5, b5⟩; have HB5 := Lib.hid (bel_step HB3.out b5 HB3.out.size); have HX5 := Lib.hid (HX3.out.below b5 HX3.out.lt); have HY5 := Lib.hid (HY3.out.below b5 HY3.out.lt); have HS5 := Lib.hid (HS3.out.after b5); have HU5 := Lib.hid (HU3.out.after b5); have hz5 := Nat.le_trans hz3 b5.size; have la5 : w1.heap.size < w5.heap.size := HY5.out.lt; have lb5 : w.heap.size < w5.heap.size := HX5.out.lt; have m50 := HX5.out.c0; have m51 := HX5.out.c1; have l50 := HY5.out.c0; have l51 := HY5.out.c1; have HF5 := Lib.hid (Seg.mk' o5); clear b5 o5) | (go_at_call 96; refine withWorld fun V hV => ?_; have gV : Below w5.heap.size w5 V := (by rw [hV]; (repeat (first | (with_reducible exact (Below.refl _ _)) | (with_reducible refine bel_alloc ?_ _) | (with_reducible refine Below.drew ?_) | (with_reducible refine bel_drewN ?_ _) | (with_reducible refine Below.setCell ?_ (by simp) _)))); have HBV := Lib.hid (bel_step HB5.out gV HB5.out.size); have HXV := Lib.hid (HX5.out.below gV HX5.out.lt); have HYV := Lib.hid (HY5.out.below gV HY5.out.lt); have HSV := Lib.hid (HS5.out.after gV); have HUV := Lib.hid (HU5.out.after gV); have hzV := Nat.le_trans hz5 gV.size; have laV : w1.heap.size < V.heap.size := HYV.out.lt; have lbV : w.heap.size < V.heap.size := HXV.out.lt; have mV0 := HXV.out.c0; have mV1 := HXV.out.c1; have lV0 := HYV.out.c0; have lV1 := HYV.out.c1; have HFV := Lib.hid (HF5.out.after gV); clear hV; refine (specL02Same _ _ (formV n (ofCode n d)) (ofCode n d) _ _ _ HFV.out.ints HUV.out.ints).mono ?_; rintro e w6 ⟨rfl, rfl⟩; rw [HW.out]))
                go_roundw
                case rel => exact ⟨j + 1, by omega, by have := HC2.out; go_num, ⟨a', m', c', rfl, by rw [Hn.out]; exact HM.out, by rw [Hn.out]; exact HSV.out.low (Nat.le_refl _) (by omega)⟩, HXV.out, HBV.out⟩
                case measure => have := HC2.out; simp [intOf]; try omega
              | true =>
                rw [hW, Bool.true_and] at hsp
                have HW := Lib.hid hW
                clear hW
                cases hF : valAreForms n x n (ofCode n d) with
                | true =>
                  rw [hF] at hsp
                  have Hn : Hid (twTo n x M (j + 1) = twTo n x M j) := twTo_no HC.out hsp
                  have HF := Lib.hid hF
                  clear hF hsp
                  go_wp2_with (first | (go_at_call 98; refine (specLeastFormY _ _ (ofCode n d) _ hY (HU3.out.ints)).mono ?_; rintro e w5 ⟨a5, c5, rfl, o5, b5⟩; have HB5 := Lib.hid (bel_step HB3.out b5 HB3.out.size); have HX5 := Lib.hid (HX3.out.below b5 HX3.out.lt); have HY5 := Lib.hid (HY3.out.below b5 HY3.out.lt); have HS5 := Lib.hid (HS3.out.after b5); have HU5 := Lib.hid (HU3.out.after b5); have hz5 := Nat.le_trans hz3 b5.size; have la5 : w1.heap.size < w5.heap.size := HY5.out.lt; have lb5 : w.heap.size < w5.heap.size := HX5.out.lt; have m50 := HX5.out.c0; have m51 := HX5.out.c1; have l50 := HY5.out.c0; have l51 := HY5.out.c1; have HF5 := Lib.hid (Seg.mk' o5); clear b5 o5) | (go_at_call 96; refine withWorld fun V hV => ?_; have gV : Below w5.heap.size w5 V := (by rw [hV]; (repeat (first | (with_reducible exact (Below.refl _ _)) | (with_reducible refine bel_alloc ?_ _) | (with_reducible refine Below.drew ?_) | (with_reducible refine bel_drewN ?_ _) | (with_reducible refine Below.setCell ?_ (by simp) _)))); have HBV := Lib.hid (bel_step HB5.out gV HB5.out.size); have HXV := Lib.hid (HX5.out.below gV HX5.out.lt); have HYV := Lib.hid (HY5.out.below gV HY5.out.lt); have HSV := Lib.hid (HS5.out.after gV); have HUV := Lib.hid (HU5.out.after gV); have hzV := Nat.le_trans hz5 gV.size; have laV : w1.heap.size < V.heap.size := HYV.out.lt; have lbV : w.heap.size < V.heap.size := HXV.out.lt; have mV0 := HXV.out.c0; have mV1 := HXV.out.c1; have lV0 := HYV.out.c0; have lV1 := HYV.out.c1; have HFV := Lib.hid (HF5.out.after gV); clear hV; refine (specL02Same _ _ (formV n (ofCode n d)) (ofCode n d) _ _ _ HFV.out.ints HUV.out.ints).mono ?_; rintro e w6 ⟨rfl, rfl⟩; rw [HW.out]) | (go_at_call 78; refine (specAreFormsC _ _ x c _ _ (ofCode n d) c _ (Ints.ofBelow h HBV.out) HUV.out.ints).mono ?_; rintro e w7 ⟨rfl, b7⟩; rw [HF.out]; have HB7 := Lib.hid (bel_step HBV.out b7 HBV.out.size); have HX7 := Lib.hid (HXV.out.below b7 HXV.out.lt); have HY7 := Lib.hid (HYV.out.below b7 HYV.out.lt); have HS7 := Lib.hid (HSV.out.after b7); have HU7 := Lib.hid (HUV.out.after b7); have hz7 := Nat.le_trans hzV b7.size; have la7 : w1.heap.size < w7.heap.size := HY7.out.lt; have lb7 : w.heap.size < w7.heap.size := HX7.out.lt; have m70 := HX7.out.c0; have m71 := HX7.out.c1; have l70 := HY7.out.c0; have l71 := HY7.out.c1; clear b7))
                  go_roundw
                  case rel => exact ⟨j + 1, by omega, by have := HC2.out; go_num, ⟨a', m', c', rfl, by rw [Hn.out]; exact HM.out, by rw [Hn.out]; exact HS7.out.low (Nat.le_refl _) (by omega)⟩, HX7.out, HB7.out⟩
                  case measure => have := HC2.out; simp [intOf]; try omega
                | false =>
                  rw [hF] at hsp
                  have Hn : Hid (twTo n x M (j + 1) = twTo n x M j ++ [(n, (ofCode n d))]) := twTo_yes HC.out hsp
                  have HF := Lib.hid hF
                  clear hF hsp
                  go_wp2_with (first | (go_at_call 98; refine (specLeastFormY _ _ (ofCode n d) _ hY (HU3.out.ints)).mono ?_; rintro e w5 ⟨a5, c5, rfl, o5, b5⟩; have HB5 := Lib.hid (bel_step HB3.out b5 HB3.out.size); have HX5 := Lib.hid (HX3.out.below b5 HX3.out.lt); have HY5 := Lib.hid (HY3.out.below b5 HY3.out.lt); have HS5 := Lib.hid (HS3.out.after b5); have HU5 := Lib.hid (HU3.out.after b5); have hz5 := Nat.le_trans hz3 b5.size; have la5 : w1.heap.size < w5.heap.size := HY5.out.lt; have lb5 : w.heap.size < w5.heap.size := HX5.out.lt; have m50 := HX5.out.c0; have m51 := HX5.out.c1; have l50 := HY5.out.c0; have l51 := HY5.out.c1; have HF5 := Lib.hid (Seg.mk' o5); clear b5 o5) | (go_at_call 96; refine withWorld fun V hV => ?_; have gV : Below w5.heap.size w5 V := (by rw [hV]; (repeat (first | (with_reducible exact (Below.refl _ _)) | (with_reducible refine bel_alloc ?_ _) | (with_reducible refine Below.drew ?_) | (with_reducible refine bel_drewN ?_ _) | (with_reducible refine Below.setCell ?_ (by simp) _)))); have HBV := Lib.hid (bel_step HB5.out gV HB5.out.size); have HXV := Lib.hid (HX5.out.below gV HX5.out.lt); have HYV := Lib.hid (HY5.out.below gV HY5.out.lt); have HSV := Lib.hid (HS5.out.after gV); have HUV := Lib.hid (HU5.out.after gV); have hzV := Nat.le_trans hz5 gV.size; have laV : w1.heap.size < V.heap.size := HYV.out.lt; have lbV : w.heap.size < V.heap.size := HXV.out.lt; have mV0 := HXV.out.c0; have mV1 := HXV.out.c1; have lV0 := HYV.out.c0; have lV1 := HYV.out.c1; have HFV := Lib.hid (HF5.out.after gV); clear hV; refine (specL02Same _ _ (formV n (ofCode n d)) (ofCode n d) _ _ _ HFV.out.ints HUV.out.ints).mono ?_; rintro e w6 ⟨rfl, rfl⟩; rw [HW.out]) | (go_at_call 78; refine (specAreFormsC _ _ x c _ _ (ofCode n d) c _ (Ints.ofBelow h HBV.out) HUV.out.ints).mono ?_; rintro e w7 ⟨rfl, b7⟩; rw [HF.out]; have HB7 := Lib.hid (bel_step HBV.out b7 HBV.out.size); have HX7 := Lib.hid (HXV.out.below b7 HXV.out.lt); have HY7 := Lib.hid (HYV.out.below b7 HYV.out.lt); have HS7 := Lib.hid (HSV.out.after b7); have HU7 := Lib.hid (HUV.out.after b7); have hz7 := Nat.le_trans hzV b7.size; have la7 : w1.heap.size < w7.heap.size := HY7.out.lt; have lb7 : w.heap.size < w7.heap.size := HX7.out.lt; have m70 := HX7.out.c0; have m71 := HX7.out.c1; have l70 := HY7.out.c0; have l71 := HY7.out.c1; clear b7) | (at_builtin; refine wpAppRh rfl _ _ rfl (w.heap.size + 1) wr.heap.size a' m' c' (twTo n x M j) n _ (ofCode n d) rfl rfl HS7.out (HU7.out.low (Nat.le_refl _) (by omega)) rfl HM.out (by omega) (by omega) (by omega) ?_; intro a9 c9 w9 ho9 hb9; have HO9 := Lib.hid ho9; have HB9 := Lib.hid (HB7.out.trans (hb9.mono (by omega))); have HX9 := Lib.hid (HX7.out.below hb9 (by omega)); clear ho9 hb9))
                  go_roundw
                  case rel => exact ⟨j + 1, by omega, by have := HC2.out; go_num, ⟨a9, m' + 1, c9, rfl, by rw [Hn.out, List.length_append, HM.out]; rfl, by rw [Hn.out]; exact HO9.out⟩, HX9.out, HB9.out⟩
                  case measure => have := HC2.out; simp [intOf]; try omega
          · have hAI : ((((ofCode n d).length : Nat) : Int) != ((x.length : Nat) : Int)) = true := by simp; omega
            rw [decide_eq_false hA, Bool.false_and] at hsp
            have Hn : Hid (twTo n x M (j + 1) = twTo n x M j) := twTo_no HC.out hsp
            clear hA hsp
            refine region_held (fun V => Below Z.heap.size Z V) (by kernel_rfl) (by kernel_rfl) ((Below.refl _ _).drew) (fun V V' h1 h2 => bel_step h1 h2 h1.size) fun U val hne hv hcall => ?_
            have z0 : ∀ u, (val u).cell? ⟨w.heap.size, 0, none⟩ = some (.int .i64 n) := fun u => ((bcell (hv u)).1 _ _ (by omega)).trans mZ0
            have z1 : ∀ u, (val u).cell? ⟨w.heap.size, 1, none⟩ = some (.slice a x.length cap) := fun u => ((bcell (hv u)).1 _ _ (by omega)).trans mZ1
            have z2 : ∀ u, (val u).cell? ⟨w1.heap.size, 0, none⟩ = some (.int .i64 n) := fun u => ((bcell (hv u)).1 _ _ (by omega)).trans lZ0
            have z3 : ∀ u, (val u).cell? ⟨w1.heap.size, 1, none⟩ = some (.slice a1 (ofCode n d).length c1) := fun u => ((bcell (hv u)).1 _ _ (by omega)).trans lZ1
            have HVV := Lib.hid hv
            clear hv hcall
            repeat (go_big_quiet_step (fail))
            refine wpQuiet_nil ?_
            rintro _ ⟨u, rfl⟩
            have HBu := Lib.hid (bel_step HBZ.out (HVV.out u) HBZ.out.size)
            have HXu := Lib.hid (HXZ.out.below (HVV.out u) HXZ.out.lt)
            have HSu := Lib.hid (HSZ.out.after (HVV.out u))
            have hzu := Nat.le_trans hzZ (HVV.out u).size
            go_wp2
            go_roundw
            case rel => exact ⟨j + 1, by omega, by have := HC2.out; go_num, ⟨a', m', c', rfl, by rw [Hn.out]; exact HM.out, by rw [Hn.out]; exact HSu.out.low (Nat.le_refl _) (by omega)⟩, HXu.out, HBu.out⟩
            case measure => have := HC2.out; simp [intOf]; try omega
        · have e : j = M := by omega
          subst e
          go_wp2
          go_ret
          have hm := HM.out
          exact .mk rfl (HS.out.low (by omega) (Nat.le_refl _)) HB.out
    · rw [twinsOf_no (by unfold okTw; rw [decide_eq_false h12, Bool.and_false])]
      clear hr
      have hn12 : 12 < n := by omega
      go_enter Try.func55, Try.ntmps55
      go_wp2_with (go_at_call 59; refine (specRhythmOk _ _ x _ _ c.1 c.2 (h.alloc (Nat.le_refl _) _)).mono ?_; rintro e w' ⟨rfl, rfl⟩; rw [Hr.out])
      go_ret
      exact .mk rfl (SegR.nil _ _ _) (by (repeat (first | (with_reducible exact (Below.refl _ _)) | (with_reducible refine bel_alloc ?_ _) | (with_reducible refine Below.drew ?_) | (with_reducible refine bel_drewN ?_ _) | (with_reducible refine Below.setCell ?_ (by simp) _))))
end Go.Proofs.Ytopfenhphnmfkaa
