/-
  Contract of TwinsOf in the program.
  Conditions: the rhythm's beats lie in memory.
-/
import Derived.Test.YtopfenhphnmfkaaR5
set_option linter.unusedVariables false
set_option linter.unusedSimpArgs false
namespace Go.Proofs.Ytopfenhphnmfkaa
open Go.RowKit

set_option maxRecDepth 20000 in
set_option maxHeartbeats 4000000 in
theorem implFromTwins (n : Int) (u : Value) (x : List Int) (q : Nat) (w : World) (hR : Rok n x) (h12 : n ≤ 12) (hq : q < w.heap.size) (hq0 : w.cell? ⟨q, 0, none⟩ = some (.int .i64 n)) (hq1 : w.cell? ⟨q, 1, none⟩ = some u)
    (hu : Ints w w.heap.size u x) :
    Calls Try.prog 87 #[.int .i64 n, .int .i64 (x.length : Nat), .func (.func 88) #[] #[.pointer (some ⟨q, 0, none⟩)]] w (RetSegR w (twTo n x (2 ^ n.toNat) (2 ^ n.toNat))) := by
  have hlo := hR.lo
  have hhi := hR.hi
  have hlen := hR.len24
  have hM1 := pow12 h12
  have hM0 := pow_pos2 n
  have hpw : (2 : Int) ^ n.toNat = ((2 ^ n.toNat : Nat) : Int) := by simp
  generalize hM : 2 ^ n.toNat = M at *
  clear hM
  have HQ0 := Lib.hid hq0
  have HQ1 := Lib.hid hq1
  go_enter Try.func87, Try.ntmps87
  go_wp2_with fail
  go_loopw [7, 8] (fun u' i wr => ∃ j : Nat, j ≤ M ∧ i = .int .i64 ((M : Int) - 1 - (j : Int)) ∧ (∃ a' m' c', u' = .slice a' m' c' ∧ (twTo n x M j).length = m' ∧ SegR wr w.heap.size wr.heap.size (.slice a' m' c') (twTo n x M j)) ∧ Below w.heap.size w wr) (fun _ i _ => (intOf i + 1).toNat)
  case atStart => exact ⟨0, Nat.zero_le _, by simp, ⟨none, 0, 0, rfl, rfl, SegR.nil _ _ _⟩, Below.refl _ _⟩
  case round =>
    obtain ⟨j, hj, rfl, ⟨a', m', c', rfl, hm', hseg⟩, hbel⟩ := hrel
    have hml := twTo_len n x M j
    rw [hm'] at hml
    have HM := Lib.hid hm'
    have HS := Lib.hid hseg
    have HB := Lib.hid hbel
    have hszr := hbel.size
    clear hm' hseg hbel
    by_cases hlt : j < M
    · obtain ⟨c, hc⟩ : ∃ c : Nat, (M : Int) - 1 - (j : Int) = (c : Int) := ⟨M - 1 - j, by omega⟩
      have hcM : M - 1 - j = c := by omega
      have hcl : c < 16777216 := by omega
      have HC := Lib.hid hcM
      rw [hc]
      have HC2 := Lib.hid hc
      clear hcM hc
      by_cases hp : pop 24 c = x.length
      · have hpI : (((pop 24 c : Nat) : Int) != ((x.length : Nat) : Int)) = false := by rw [hp]; simp
        have HP := Lib.hid hp
        have hpb := hp
        clear hp
        have hY := ofCode_rok hlo hhi c
        cases hw : okW n x (ofCode n c) with
        | false =>
          have Hw := Lib.hid hw
          have Hn : Hid (twTo n x M (j + 1) = twTo n x M j) := twTo_no HC.out (by unfold okT; rw [hw, Bool.and_false])
          clear hw
          generalize hPP : pop 24 c = PP at *
          have HPP := Lib.hid hPP
          clear hPP
          go_wp2_with (first
            | (go_at_call 110; refine (implOnes c _ hcl).mono ?_; rintro e w0 ⟨rfl, rfl⟩; rw [HPP.out])
            | (go_at_call 117; refine (implRhythmAt n c _ hlo hhi hcl).mono ?_; rintro e w1 ⟨a1, c1, rfl, o1, b1⟩; have HB1 := Lib.hid (bel_step HB.out b1 HB.out.size); have HS1 := Lib.hid (HS.out.after b1); have HO1 := Lib.hid o1; have hz1 := b1.size; clear b1 o1)
            | (go_at_call 88; refine withWorld fun X hX => ?_; have gB : Below w1.heap.size w1 X := (by rw [hX]; (repeat (first | (with_reducible exact (Below.refl _ _)) | (with_reducible refine bel_alloc ?_ _) | (with_reducible refine Below.drew ?_) | (with_reducible refine bel_drewN ?_ _) | (with_reducible refine Below.setCell ?_ (by simp) _)))); have bx0 : Bx X w1.heap.size (.int .i64 n) (.slice a1 (ofCode n c).length c1) 25 := (by rw [hX]; (repeat (first | (with_reducible refine Bx.newAt _ _ _ _ ?_; simp; done) | (with_reducible refine Bx.alloc ?_ _) | (with_reducible refine Bx.drew ?_) | (with_reducible refine Bx.drewN ?_ _)))); have hgz : w1.heap.size + 1 ≤ X.heap.size := (by rw [hX]; simp); clear hX; have HBX := Lib.hid (bel_step HB1.out gB HB1.out.size); refine (implTwin1 n _ _ x (ofCode n c) q _ hR hY (by have := HBX.out.size; omega) (((bcell HBX.out).1 _ _ hq).trans HQ0.out) (((bcell HBX.out).1 _ _ hq).trans HQ1.out) (Ints.ofBelow hu HBX.out) ((HO1.out.below gB).ints)).mono ?_; rintro e w2 ⟨rfl, b2⟩; rw [Hw.out]; have HB2 := Lib.hid (bel_step HBX.out b2 HBX.out.size); have HS2 := Lib.hid ((HS1.out.after gB).after b2); have hz2 := b2.size; clear gB b2 bx0))
          go_roundw
          case rel => exact ⟨j + 1, by omega, by have := HC2.out; go_num, ⟨a', m', c', rfl, by rw [Hn.out]; exact HM.out, by rw [Hn.out]; exact HS2.out.low (Nat.le_refl _) (by omega)⟩, HB2.out⟩
          case measure => have := HC2.out; simp [intOf]; try omega
        | true =>
          have Hw := Lib.hid hw
          have Hn : Hid (twTo n x M (j + 1) = twTo n x M j ++ [(n, ofCode n c)]) := twTo_yes HC.out (by unfold okT; rw [hw, hpb]; simp)
          clear hw
          generalize hPP : pop 24 c = PP at *
          have HPP := Lib.hid hPP
          clear hPP
          go_wp2_with (first
            | (go_at_call 110; refine (implOnes c _ hcl).mono ?_; rintro e w0 ⟨rfl, rfl⟩; rw [HPP.out])
            | (go_at_call 117; refine (implRhythmAt n c _ hlo hhi hcl).mono ?_; rintro e w1 ⟨a1, c1, rfl, o1, b1⟩; have HB1 := Lib.hid (bel_step HB.out b1 HB.out.size); have HS1 := Lib.hid (HS.out.after b1); have HO1 := Lib.hid o1; have hz1 := b1.size; clear b1 o1)
            | (go_at_call 88; refine withWorld fun X hX => ?_; have gB : Below w1.heap.size w1 X := (by rw [hX]; (repeat (first | (with_reducible exact (Below.refl _ _)) | (with_reducible refine bel_alloc ?_ _) | (with_reducible refine Below.drew ?_) | (with_reducible refine bel_drewN ?_ _) | (with_reducible refine Below.setCell ?_ (by simp) _)))); have bx0 : Bx X w1.heap.size (.int .i64 n) (.slice a1 (ofCode n c).length c1) 25 := (by rw [hX]; (repeat (first | (with_reducible refine Bx.newAt _ _ _ _ ?_; simp; done) | (with_reducible refine Bx.alloc ?_ _) | (with_reducible refine Bx.drew ?_) | (with_reducible refine Bx.drewN ?_ _)))); have hgz : w1.heap.size + 1 ≤ X.heap.size := (by rw [hX]; simp); clear hX; have HBX := Lib.hid (bel_step HB1.out gB HB1.out.size); refine (implTwin1 n _ _ x (ofCode n c) q _ hR hY (by have := HBX.out.size; omega) (((bcell HBX.out).1 _ _ hq).trans HQ0.out) (((bcell HBX.out).1 _ _ hq).trans HQ1.out) (Ints.ofBelow hu HBX.out) ((HO1.out.below gB).ints)).mono ?_; rintro e w2 ⟨rfl, b2⟩; rw [Hw.out]; have HB2 := Lib.hid (bel_step HBX.out b2 HBX.out.size); have HS2 := Lib.hid ((HS1.out.after gB).after b2); have hz2 := b2.size; have hbx2 := bx0.below b2 bx0.lt; have r0 := hbx2.c0; have r1 := hbx2.c1; have HU := Lib.hid ((Seg.mk' HO1.out).after gB); have HU2 := Lib.hid (HU.out.after b2); clear gB b2 bx0 hbx2)
            | (at_builtin; refine wpAppRh rfl _ _ rfl w.heap.size wr.heap.size a' m' c' (twTo n x M j) n _ (ofCode n c) rfl rfl HS2.out (HU2.out.low (Nat.le_refl _) (by omega)) rfl HM.out (by omega) (by omega) (by omega) ?_; intro a4 c4 w4 ho4 hb4; have HO4 := Lib.hid ho4; have HB4 := Lib.hid (HB2.out.trans hb4); clear ho4 hb4))
          go_roundw
          case rel => exact ⟨j + 1, by omega, by have := HC2.out; go_num, ⟨a4, m' + 1, c4, rfl, by rw [Hn.out, List.length_append, HM.out]; rfl, by rw [Hn.out]; exact HO4.out⟩, HB4.out⟩
          case measure => have := HC2.out; simp [intOf]; try omega
      · have hpI : (((pop 24 c : Nat) : Int) != ((x.length : Nat) : Int)) = true := by simp; omega
        have Hn : Hid (twTo n x M (j + 1) = twTo n x M j) := twTo_no HC.out (by unfold okT; rw [decide_eq_false hp]; rfl)
        clear hp
        generalize hPP : pop 24 c = PP at *
        have HPP := Lib.hid hPP
        clear hPP
        go_wp2_with (go_at_call 110; refine (implOnes c _ hcl).mono ?_; rintro e w0 ⟨rfl, rfl⟩; rw [HPP.out])
        go_roundw
        case rel => exact ⟨j + 1, by omega, by have := HC2.out; go_num, ⟨a', m', c', rfl, by rw [Hn.out]; exact HM.out, by rw [Hn.out]; exact HS.out⟩, HB.out⟩
        case measure => have := HC2.out; simp [intOf]; try omega
    · have e : j = M := by omega
      subst e
      go_wp2
      go_ret
      have hm := HM.out
      exact .mk rfl HS.out HB.out

set_option maxRecDepth 20000 in
set_option maxHeartbeats 2000000 in
theorem implTwinsOfC (n : Int) (v : Value) (x : List Int) (c : I64 n) (w : World) (h : Ints w w.heap.size v x) :
    Calls Try.prog 50 #[.agg #[.int .i64 n, v]] w (RetSegR w (lstTwinsOf n x)) := by
  have h' := h
  obtain ⟨a, cap, rfl, -⟩ := h'
  have hmf : ∀ (fn : Fn) (first cap : Array Value) (w : World), (Instr.makeFunc fn first cap).run Try.prog w = .ok (.func fn first cap) w := fun _ _ _ _ => rfl
  cases hr : rok n x with
  | false =>
    have Hr := Lib.hid hr
    rw [twinsOf_no (by unfold okTw; rw [hr]; rfl)]
    clear hr
    go_enter Try.func50, Try.ntmps50
    go_wp2_with (go_at_call 49; refine (implRhythmOk _ _ x _ _ c.1 c.2 (h.alloc (Nat.le_refl _) _)).mono ?_; rintro e w' ⟨rfl, rfl⟩; rw [Hr.out])
    go_ret
    exact .mk rfl (SegR.nil _ _ _) (by (repeat (first | (with_reducible exact (Below.refl _ _)) | (with_reducible refine bel_alloc ?_ _) | (with_reducible refine Below.drew ?_) | (with_reducible refine bel_drewN ?_ _) | (with_reducible refine Below.setCell ?_ (by simp) _))))
  | true =>
    have Hr := Lib.hid hr
    have hR := (rok_iff n x).1 hr
    by_cases h12 : n ≤ 12
    · rw [twinsOf_yes (by unfold okTw; rw [hr, decide_eq_true h12]; rfl)]
      clear hr
      have hn12 : ¬ 12 < n := by omega
      go_enter Try.func50, Try.ntmps50
      go_wp2_with (first
        | (go_at_call 49; refine (implRhythmOk _ _ x _ _ c.1 c.2 (h.alloc (Nat.le_refl _) _)).mono ?_; rintro e w' ⟨rfl, rfl⟩; rw [Hr.out])
        | (go_at_call 87; refine withWorld fun X hX => ?_; have gB : Below w.heap.size w X := (by rw [hX]; (repeat (first | (with_reducible exact (Below.refl _ _)) | (with_reducible refine bel_alloc ?_ _) | (with_reducible refine Below.drew ?_) | (with_reducible refine bel_drewN ?_ _) | (with_reducible refine Below.setCell ?_ (by simp) _)))); have bx0 : Bx X w.heap.size (.int .i64 n) (.slice a x.length cap) 25 := (by rw [hX]; (repeat (first | (with_reducible refine Bx.newAt _ _ _ _ ?_; simp; done) | (with_reducible refine Bx.alloc ?_ _) | (with_reducible refine Bx.drew ?_) | (with_reducible refine Bx.drewN ?_ _)))); clear hX; refine (implFromTwins n _ x w.heap.size _ hR h12 bx0.lt bx0.c0 bx0.c1 (Ints.ofBelow h gB)).mono ?_; rintro e w1 ⟨a1, c1, rfl, o1, b1⟩; have HO1 := Lib.hid (o1.low gB.size (Nat.le_refl _)); have HB1 := Lib.hid (bel_step gB b1 gB.size); clear gB bx0 o1 b1))
      go_ret
      exact .mk rfl HO1.out HB1.out
    · rw [twinsOf_no (by unfold okTw; rw [decide_eq_false h12, Bool.and_false])]
      clear hr
      have hn12 : 12 < n := by omega
      go_enter Try.func50, Try.ntmps50
      go_wp2_with (go_at_call 49; refine (implRhythmOk _ _ x _ _ c.1 c.2 (h.alloc (Nat.le_refl _) _)).mono ?_; rintro e w' ⟨rfl, rfl⟩; rw [Hr.out])
      go_ret
      exact .mk rfl (SegR.nil _ _ _) (by (repeat (first | (with_reducible exact (Below.refl _ _)) | (with_reducible refine bel_alloc ?_ _) | (with_reducible refine Below.drew ?_) | (with_reducible refine bel_drewN ?_ _) | (with_reducible refine Below.setCell ?_ (by simp) _))))
end Go.Proofs.Ytopfenhphnmfkaa
