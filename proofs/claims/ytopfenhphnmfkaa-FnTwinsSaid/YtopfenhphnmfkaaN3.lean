/-
  Contracts of MirrorRhythm, RotateRhythm and StretchRhythm, in the program and in the reference, and of the greatest common divisor.
  Conditions: the rhythm's beats lie in memory.
-/
import Derived.Test.YtopfenhphnmfkaaN2
import Derived.Test.YtopfenhphnmfkaaM12
set_option linter.unusedVariables false
set_option linter.unusedSimpArgs false
namespace Go.Proofs.Ytopfenhphnmfkaa
open Go.RowKit

theorem gcd_step (p q : Nat) : Nat.gcd q (p % q) = Nat.gcd p q := by rw [Nat.gcd_comm q (p % q), ← Nat.gcd_rec, Nat.gcd_comm]
theorem gcdI_cast (p q : Nat) : gcdI (p : Int) (q : Int) = ((Nat.gcd p q : Nat) : Int) := by simp [gcdI]
theorem gcdI_bd {u n : Int} (h : 1 ≤ u) (h' : u ≤ 24) : 0 ≤ gcdI u n ∧ gcdI u n ≤ 24 := by
  have h1 : Nat.gcd u.toNat n.toNat ≤ u.toNat := Nat.gcd_le_left _ (by omega)
  unfold gcdI; omega

theorem implGcd (a b : Int) (w : World) (ha : 0 ≤ a) (ha' : a ≤ 1000) (hb : 0 ≤ b) (hb' : b ≤ 1000) :
    Calls Try.prog 115 #[.int .i64 a, .int .i64 b] w fun e w' => e = .returned (.int .i64 (gcdI a b)) ∧ ∃ q, w' = w.drewN q := by
  go_enter Try.func115, Try.ntmps115
  go_wp2
  go_loopw [0, 1] (fun s t wr => ∃ p q : Nat, s = .int .i64 (p : Int) ∧ t = .int .i64 (q : Int) ∧ p ≤ 1000 ∧ q ≤ 1000 ∧ ((Nat.gcd p q : Nat) : Int) = gcdI a b ∧ ∃ m, wr = w.drewN m) (fun _ t _ => (intOf t).toNat)
  case atStart =>
    refine ⟨a.toNat, b.toNat, ?_, ?_, by omega, by omega, rfl, 0, rfl⟩
    · have : ((a.toNat : Nat) : Int) = a := by omega
      rw [this]
    · have : ((b.toNat : Nat) : Int) = b := by omega
      rw [this]
  case round =>
    obtain ⟨p, q, rfl, rfl, hp, hq, hg, m, rfl⟩ := hrel
    have HG := Lib.hid hg
    clear hg
    by_cases hz : q = 0
    · subst hz
      have HF : Hid ((p : Int) = gcdI a b) := by unfold Hid; rw [← HG.out, Nat.gcd_zero_right]
      go_wp2
      go_ret
      exact ⟨ret_int HF.out, m, rfl⟩
    · have hne : (((q : Nat) : Int) != 0) = true := by simp; omega
      have hne2 : (((q : Nat) : Int) == 0) = false := by simp; omega
      have hpos : 0 < q := by omega
      have hmod : p % q < q := Nat.mod_lt _ hpos
      have Hm := Lib.hid hmod
      have Ht : Hid (((p : Nat) : Int).tmod ((q : Nat) : Int) = ((p % q : Nat) : Int)) := by unfold Hid; rw [Int.tmod_eq_emod_of_nonneg (by omega)]; rfl
      have Hs := Lib.hid (gcd_step p q)
      clear hmod
      go_wp2
      go_quiet (fail)
      go_wp2
      go_roundw
      case rel => exact ⟨q, p % q, rfl, by first | rfl | (rw [Ht.out]) | (simp), hq, by have := Hm.out; omega, by rw [Hs.out]; exact HG.out, _, by rw [World.drewN_drewN]⟩
      case measure => simp [intOf]; have := Hm.out; omega


theorem implIsUnit (u n : Int) (cu : I64 u) (w : World) (h1 : 1 ≤ n) (h2 : n ≤ 24) :
    Calls Try.prog 85 #[.int .i64 u, .int .i64 n] w fun e w' => e = .returned (.bool (unitB u n)) ∧ ∃ q, w' = w.drewN q := by
  obtain ⟨cu1, cu2⟩ := cu
  cases hu : inU u n with
  | false =>
    have Hf := Lib.hid (unitB_no hu)
    have Hu : Hid ((decide (1 ≤ u) && decide (u ≤ max (n - 1) 1)) = false) := Lib.hid hu
    clear hu
    go_enter Try.func85, Try.ntmps85
    go_wp2_with (go_at_call 68; refine (implWithin _ _ _ _).mono ?_; rintro e w' ⟨rfl, rfl⟩; rw [Hu.out])
    go_ret
    exact ⟨ret_bool Hf.out.symm, 0, rfl⟩
  | true =>
    obtain ⟨hu1, hu2⟩ := inU_bd hu h1 h2
    have Hf := Lib.hid (unitB_yes hu)
    have Hu : Hid ((decide (1 ≤ u) && decide (u ≤ max (n - 1) 1)) = true) := Lib.hid hu
    clear hu
    go_enter Try.func85, Try.ntmps85
    go_wp2_with (first | (go_at_call 68; refine (implWithin _ _ _ _).mono ?_; rintro e w' ⟨rfl, rfl⟩; rw [Hu.out]) | (go_at_call 115; refine (implGcd _ _ _ (by omega) (by omega) (by omega) (by omega)).mono ?_; rintro e w' ⟨rfl, q, rfl⟩))
    go_ret
    exact ⟨ret_bool Hf.out.symm, q, rfl⟩

set_option maxHeartbeats 800000 in
theorem implMirrorRhythmC (n : Int) (v : Value) (x : List Int) (c : I64 n) (w : World) (h : Ints w w.heap.size v x) :
    Calls Try.prog 18 #[.agg #[.int .i64 n, v]] w (RetRhythm2 w (numMirrorRhythm n x) (lstMirrorRhythm n x) (okMirrorRhythm n x)) := by
  have h' := h
  obtain ⟨a, cap, rfl, -⟩ := h'
  cases hr : rok n x with
  | false =>
    have Hr := Lib.hid hr
    have Hs := Lib.hid (mirror_no hr)
    clear hr
    go_enter Try.func18, Try.ntmps18
    go_wp2_with ((go_at_call 49; refine (implRhythmOk _ _ x _ _ c.1 c.2 ((h.alloc (Nat.le_refl _) _).alloc (by simp) _)).mono ?_; rintro e w' ⟨rfl, rfl⟩; rw [Hr.out]))
    refine bodyPost_ret (v := .tuple #[.agg #[.int .i64 0, .slice none 0 0], .bool false]) ?_ rfl ?_
    · simp [results, Try.results18, go_sem]
    · exact .zero rfl (by (repeat (first | (with_reducible exact (Below.refl _ _)) | (with_reducible refine bel_alloc ?_ _) | (with_reducible refine Below.drew ?_) | (with_reducible refine bel_drewN ?_ _) | (with_reducible refine Below.setCell ?_ (by simp) _)))) Hs.out.1 Hs.out.2.1 Hs.out.2.2
  | true =>
    have Hr := Lib.hid hr
    have hR := (rok_iff n x).1 hr
    have hlo := hR.lo
    have hhi := hR.hi
    have Hs := Lib.hid (mirror_yes hr)
    clear hr
    go_enter Try.func18, Try.ntmps18
    go_wp2_with (first | (go_at_call 49; refine (implRhythmOk _ _ x _ _ c.1 c.2 ((h.alloc (Nat.le_refl _) _).alloc (by simp) _)).mono ?_; rintro e w' ⟨rfl, rfl⟩; rw [Hr.out]))
    refine withWorld fun X hX => ?_
    have hB : Below w.heap.size w X := by rw [hX]; (repeat (first | (with_reducible exact (Below.refl _ _)) | (with_reducible refine bel_alloc ?_ _) | (with_reducible refine Below.drew ?_) | (with_reducible refine bel_drewN ?_ _) | (with_reducible refine Below.setCell ?_ (by simp) _)))
    have hx : Bx X (w.heap.size + 1) (.int .i64 0) (.slice none 0 0) 25 := by rw [hX]; (repeat (first | (with_reducible refine Bx.newAt _ _ _ _ ?_; simp; done) | (with_reducible refine Bx.alloc ?_ _) | (with_reducible refine Bx.drew ?_) | (with_reducible refine Bx.drewN ?_ _)))
    clear hX
    refine (implMirrored _ _ x _ hR (Ints.ofBelow h hB)).mono ?_
    rintro e w1 ⟨b1, c1, rfl, ho1, hb1⟩
    have hx1 := hx.below hb1 hx.lt
    have p0 := hx1.c0
    have p1 := hx1.c1
    have f0 := hx1.f 0
    have f1 := hx1.f 1
    have hfin := (hx1.set0 (.int .i64 n)).set1 (.slice b1 (mapV n x (-1) 0).length c1)
    have r0 := hfin.c0
    have r1 := hfin.c1
    have HO1 := Lib.hid (ho1.mono (show w.heap.size + 2 ≤ X.heap.size from hx.lt))
    have HB1 := Lib.hid (bel_step hB hb1 hB.size)
    clear ho1 hb1 hx hx1 hfin hB
    go_wp2
    refine bodyPost_ret (v := .tuple #[.agg #[.int .i64 n, .slice b1 (mapV n x (-1) 0).length c1], .bool true]) ?_ rfl ?_
    · simp [results, Try.results18, go_sem, r0, r1]
    · exact .one rfl (((HO1.out.setc (by simp) _).setc (by simp) _).mono (by omega)) rfl ((HB1.out.setCell (by simp) _).setCell (by simp) _) Hs.out.1 Hs.out.2.1 Hs.out.2.2

set_option maxHeartbeats 800000 in
theorem specMirrorRhythmC (n : Int) (v : Value) (x : List Int) (c : I64 n) (w : World) (h : Ints w w.heap.size v x) :
    Calls Try.prog 112 #[.agg #[.int .i64 n, v]] w (RetRhythm2 w (numMirrorRhythm n x) (lstMirrorRhythm n x) (okMirrorRhythm n x)) := by
  have h' := h
  obtain ⟨a, cap, rfl, -⟩ := h'
  cases hr : rok n x with
  | false =>
    have Hr := Lib.hid hr
    have Hs := Lib.hid (mirror_no hr)
    clear hr
    go_enter Try.func112, Try.ntmps112
    go_wp2_with ((go_at_call 59; refine (specRhythmOk _ _ x _ _ c.1 c.2 ((h.alloc (Nat.le_refl _) _).alloc (by simp) _)).mono ?_; rintro e w' ⟨rfl, rfl⟩; rw [Hr.out]))
    refine bodyPost_ret (v := .tuple #[.agg #[.int .i64 0, .slice none 0 0], .bool false]) ?_ rfl ?_
    · simp [results, Try.results112, go_sem]
    · exact .zero rfl (by (repeat (first | (with_reducible exact (Below.refl _ _)) | (with_reducible refine bel_alloc ?_ _) | (with_reducible refine Below.drew ?_) | (with_reducible refine bel_drewN ?_ _) | (with_reducible refine Below.setCell ?_ (by simp) _)))) Hs.out.1 Hs.out.2.1 Hs.out.2.2
  | true =>
    have Hr := Lib.hid hr
    have hR := (rok_iff n x).1 hr
    have hlo := hR.lo
    have hhi := hR.hi
    have Hs := Lib.hid (mirror_yes hr)
    clear hr
    go_enter Try.func112, Try.ntmps112
    go_wp2_with (first | (go_at_call 59; refine (specRhythmOk _ _ x _ _ c.1 c.2 ((h.alloc (Nat.le_refl _) _).alloc (by simp) _)).mono ?_; rintro e w' ⟨rfl, rfl⟩; rw [Hr.out]))
    refine withWorld fun X hX => ?_
    have hB : Below w.heap.size w X := by rw [hX]; (repeat (first | (with_reducible exact (Below.refl _ _)) | (with_reducible refine bel_alloc ?_ _) | (with_reducible refine Below.drew ?_) | (with_reducible refine bel_drewN ?_ _) | (with_reducible refine Below.setCell ?_ (by simp) _)))
    have hx : Bx X (w.heap.size + 1) (.int .i64 0) (.slice none 0 0) 25 := by rw [hX]; (repeat (first | (with_reducible refine Bx.newAt _ _ _ _ ?_; simp; done) | (with_reducible refine Bx.alloc ?_ _) | (with_reducible refine Bx.drew ?_) | (with_reducible refine Bx.drewN ?_ _)))
    clear hX
    refine (specL02Map _ _ x _ _ _ hR (by omega) (by omega) (by omega) (by omega) (Ints.ofBelow h hB)).mono ?_
    rintro e w1 ⟨b1, c1, rfl, ho1, hb1⟩
    have hx1 := hx.below hb1 hx.lt
    have p0 := hx1.c0
    have p1 := hx1.c1
    have f0 := hx1.f 0
    have f1 := hx1.f 1
    have hfin := (hx1.set0 (.int .i64 n)).set1 (.slice b1 (mapV n x (-1) 0).length c1)
    have r0 := hfin.c0
    have r1 := hfin.c1
    have HO1 := Lib.hid (ho1.mono (show w.heap.size + 2 ≤ X.heap.size from hx.lt))
    have HB1 := Lib.hid (bel_step hB hb1 hB.size)
    clear ho1 hb1 hx hx1 hfin hB
    go_wp2
    refine bodyPost_ret (v := .tuple #[.agg #[.int .i64 n, .slice b1 (mapV n x (-1) 0).length c1], .bool true]) ?_ rfl ?_
    · simp [results, Try.results112, go_sem, r0, r1]
    · exact .one rfl (((HO1.out.setc (by simp) _).setc (by simp) _).mono (by omega)) rfl ((HB1.out.setCell (by simp) _).setCell (by simp) _) Hs.out.1 Hs.out.2.1 Hs.out.2.2

set_option maxHeartbeats 800000 in
theorem implRotateRhythmC (n : Int) (v : Value) (x : List Int) (c : I64 n) (k : Int) (ck : I64 k) (w : World) (h : Ints w w.heap.size v x) :
    Calls Try.prog 23 #[.agg #[.int .i64 n, v], .int .i64 k] w (RetRhythm2 w (numRotateRhythm n x k) (lstRotateRhythm n x k) (okRotateRhythm n x k)) := by
  have h' := h
  obtain ⟨a, cap, rfl, -⟩ := h'
  cases hr : rok n x with
  | false =>
    have Hr := Lib.hid hr
    have Hs := Lib.hid (rotate_no (rotate_no1 k hr))
    clear hr
    go_enter Try.func23, Try.ntmps23
    go_wp2_with ((go_at_call 49; refine (implRhythmOk _ _ x _ _ c.1 c.2 ((h.alloc (Nat.le_refl _) _).alloc (by simp) _)).mono ?_; rintro e w' ⟨rfl, rfl⟩; rw [Hr.out]))
    refine bodyPost_ret (v := .tuple #[.agg #[.int .i64 0, .slice none 0 0], .bool false]) ?_ rfl ?_
    · simp [results, Try.results23, go_sem]
    · exact .zero rfl (by (repeat (first | (with_reducible exact (Below.refl _ _)) | (with_reducible refine bel_alloc ?_ _) | (with_reducible refine Below.drew ?_) | (with_reducible refine bel_drewN ?_ _) | (with_reducible refine Below.setCell ?_ (by simp) _)))) Hs.out.1 Hs.out.2.1 Hs.out.2.2
  | true =>
    have Hr := Lib.hid hr
    have hR := (rok_iff n x).1 hr
    have hlo := hR.lo
    have hhi := hR.hi
    cases hk : inK k with
    | false =>
      have Hk := Lib.hid hk
      have Hs := Lib.hid (rotate_no (rotate_no2 n x hk))
      clear hr hk hR
      go_enter Try.func23, Try.ntmps23
      go_wp2_with (first | (go_at_call 49; refine (implRhythmOk _ _ x _ _ c.1 c.2 ((h.alloc (Nat.le_refl _) _).alloc (by simp) _)).mono ?_; rintro e w' ⟨rfl, rfl⟩; rw [Hr.out]) | (go_at_call 68; refine (implWithin _ _ _ _).mono ?_; rintro e w' ⟨rfl, rfl⟩; rw [show (decide (-1000 ≤ k) && decide (k ≤ 1000)) = inK k from rfl, Hk.out]))
      refine bodyPost_ret (v := .tuple #[.agg #[.int .i64 0, .slice none 0 0], .bool false]) ?_ rfl ?_
      · simp [results, Try.results23, go_sem]
      · exact .zero rfl (by (repeat (first | (with_reducible exact (Below.refl _ _)) | (with_reducible refine bel_alloc ?_ _) | (with_reducible refine Below.drew ?_) | (with_reducible refine bel_drewN ?_ _) | (with_reducible refine Below.setCell ?_ (by simp) _)))) Hs.out.1 Hs.out.2.1 Hs.out.2.2
    | true =>
      have Hk := Lib.hid hk
      obtain ⟨hk1, hk2⟩ := inK_iff.1 hk
      have Hs := Lib.hid (rotate_yes (rotate_yes2 hr hk))
      clear hr hk
      go_enter Try.func23, Try.ntmps23
      go_wp2_with (first | (go_at_call 49; refine (implRhythmOk _ _ x _ _ c.1 c.2 ((h.alloc (Nat.le_refl _) _).alloc (by simp) _)).mono ?_; rintro e w' ⟨rfl, rfl⟩; rw [Hr.out]) | (go_at_call 68; refine (implWithin _ _ _ _).mono ?_; rintro e w' ⟨rfl, rfl⟩; rw [show (decide (-1000 ≤ k) && decide (k ≤ 1000)) = inK k from rfl, Hk.out]))
      refine withWorld fun X hX => ?_
      have hB : Below w.heap.size w X := by rw [hX]; (repeat (first | (with_reducible exact (Below.refl _ _)) | (with_reducible refine bel_alloc ?_ _) | (with_reducible refine Below.drew ?_) | (with_reducible refine bel_drewN ?_ _) | (with_reducible refine Below.setCell ?_ (by simp) _)))
      have hx : Bx X (w.heap.size + 1) (.int .i64 0) (.slice none 0 0) 25 := by rw [hX]; (repeat (first | (with_reducible refine Bx.newAt _ _ _ _ ?_; simp; done) | (with_reducible refine Bx.alloc ?_ _) | (with_reducible refine Bx.drew ?_) | (with_reducible refine Bx.drewN ?_ _)))
      clear hX
      refine (implRotated _ _ x _ _ hR hk1 hk2 (Ints.ofBelow h hB)).mono ?_
      rintro e w1 ⟨b1, c1, rfl, ho1, hb1⟩
      have hx1 := hx.below hb1 hx.lt
      have p0 := hx1.c0
      have p1 := hx1.c1
      have f0 := hx1.f 0
      have f1 := hx1.f 1
      have hfin := (hx1.set0 (.int .i64 n)).set1 (.slice b1 (mapV n x 1 k).length c1)
      have r0 := hfin.c0
      have r1 := hfin.c1
      have HO1 := Lib.hid (ho1.mono (show w.heap.size + 2 ≤ X.heap.size from hx.lt))
      have HB1 := Lib.hid (bel_step hB hb1 hB.size)
      clear ho1 hb1 hx hx1 hfin hB
      go_wp2
      refine bodyPost_ret (v := .tuple #[.agg #[.int .i64 n, .slice b1 (mapV n x 1 k).length c1], .bool true]) ?_ rfl ?_
      · simp [results, Try.results23, go_sem, r0, r1]
      · exact .one rfl (((HO1.out.setc (by simp) _).setc (by simp) _).mono (by omega)) rfl ((HB1.out.setCell (by simp) _).setCell (by simp) _) Hs.out.1 Hs.out.2.1 Hs.out.2.2


set_option maxHeartbeats 800000 in
theorem implStretchRhythmC (n : Int) (v : Value) (x : List Int) (c : I64 n) (u : Int) (cu : I64 u) (w : World) (h : Ints w w.heap.size v x) :
    Calls Try.prog 46 #[.agg #[.int .i64 n, v], .int .i64 u] w (RetRhythm2 w (numStretchRhythm n x u) (lstStretchRhythm n x u) (okStretchRhythm n x u)) := by
  have h' := h
  obtain ⟨a, cap, rfl, -⟩ := h'
  cases hr : rok n x with
  | false =>
    have Hr := Lib.hid hr
    have Hs := Lib.hid (stretch_no (stretch_no1 u hr))
    clear hr
    go_enter Try.func46, Try.ntmps46
    go_wp2_with ((go_at_call 49; refine (implRhythmOk _ _ x _ _ c.1 c.2 ((h.alloc (Nat.le_refl _) _).alloc (by simp) _)).mono ?_; rintro e w' ⟨rfl, rfl⟩; rw [Hr.out]))
    refine bodyPost_ret (v := .tuple #[.agg #[.int .i64 0, .slice none 0 0], .bool false]) ?_ rfl ?_
    · simp [results, Try.results46, go_sem]
    · exact .zero rfl (by (repeat (first | (with_reducible exact (Below.refl _ _)) | (with_reducible refine bel_alloc ?_ _) | (with_reducible refine Below.drew ?_) | (with_reducible refine bel_drewN ?_ _) | (with_reducible refine Below.setCell ?_ (by simp) _)))) Hs.out.1 Hs.out.2.1 Hs.out.2.2
  | true =>
    have Hr := Lib.hid hr
    have hR := (rok_iff n x).1 hr
    have hlo := hR.lo
    have hhi := hR.hi
    cases hk : unitB u n with
    | false =>
      have Hk := Lib.hid hk
      have Hs := Lib.hid (stretch_no (stretch_no2 x hk))
      clear hr hk hR
      go_enter Try.func46, Try.ntmps46
      go_wp2_with (first | (go_at_call 49; refine (implRhythmOk _ _ x _ _ c.1 c.2 ((h.alloc (Nat.le_refl _) _).alloc (by simp) _)).mono ?_; rintro e w' ⟨rfl, rfl⟩; rw [Hr.out]) | (go_at_call 85; refine (implIsUnit _ _ cu _ hlo hhi).mono ?_; rintro e w' ⟨rfl, q, rfl⟩; rw [Hk.out]))
      refine bodyPost_ret (v := .tuple #[.agg #[.int .i64 0, .slice none 0 0], .bool false]) ?_ rfl ?_
      · simp [results, Try.results46, go_sem]
      · exact .zero rfl (by (repeat (first | (with_reducible exact (Below.refl _ _)) | (with_reducible refine bel_alloc ?_ _) | (with_reducible refine Below.drew ?_) | (with_reducible refine bel_drewN ?_ _) | (with_reducible refine Below.setCell ?_ (by simp) _)))) Hs.out.1 Hs.out.2.1 Hs.out.2.2
    | true =>
      have Hk := Lib.hid hk
      obtain ⟨hu1, hu2⟩ := inU_bd (unitB_inU hk) hlo hhi
      have Hs := Lib.hid (stretch_yes (stretch_yes2 hr hk))
      clear hr hk
      go_enter Try.func46, Try.ntmps46
      go_wp2_with (first | (go_at_call 49; refine (implRhythmOk _ _ x _ _ c.1 c.2 ((h.alloc (Nat.le_refl _) _).alloc (by simp) _)).mono ?_; rintro e w' ⟨rfl, rfl⟩; rw [Hr.out]) | (go_at_call 85; refine (implIsUnit _ _ cu _ hlo hhi).mono ?_; rintro e w' ⟨rfl, q, rfl⟩; rw [Hk.out]))
      refine withWorld fun X hX => ?_
      have hB : Below w.heap.size w X := by rw [hX]; (repeat (first | (with_reducible exact (Below.refl _ _)) | (with_reducible refine bel_alloc ?_ _) | (with_reducible refine Below.drew ?_) | (with_reducible refine bel_drewN ?_ _) | (with_reducible refine Below.setCell ?_ (by simp) _)))
      have hx : Bx X (w.heap.size + 1) (.int .i64 0) (.slice none 0 0) 25 := by rw [hX]; (repeat (first | (with_reducible refine Bx.newAt _ _ _ _ ?_; simp; done) | (with_reducible refine Bx.alloc ?_ _) | (with_reducible refine Bx.drew ?_) | (with_reducible refine Bx.drewN ?_ _)))
      clear hX
      refine (implStretched _ _ x _ _ hR hu1 hu2 (Ints.ofBelow h hB)).mono ?_
      rintro e w1 ⟨b1, c1, rfl, ho1, hb1⟩
      have hx1 := hx.below hb1 hx.lt
      have p0 := hx1.c0
      have p1 := hx1.c1
      have f0 := hx1.f 0
      have f1 := hx1.f 1
      have hfin := (hx1.set0 (.int .i64 n)).set1 (.slice b1 (mapV n x u 0).length c1)
      have r0 := hfin.c0
      have r1 := hfin.c1
      have HO1 := Lib.hid (ho1.mono (show w.heap.size + 2 ≤ X.heap.size from hx.lt))
      have HB1 := Lib.hid (bel_step hB hb1 hB.size)
      clear ho1 hb1 hx hx1 hfin hB
      go_wp2
      refine bodyPost_ret (v := .tuple #[.agg #[.int .i64 n, .slice b1 (mapV n x u 0).length c1], .bool true]) ?_ rfl ?_
      · simp [results, Try.results46, go_sem, r0, r1]
      · exact .one rfl (((HO1.out.setc (by simp) _).setc (by simp) _).mono (by omega)) rfl ((HB1.out.setCell (by simp) _).setCell (by simp) _) Hs.out.1 Hs.out.2.1 Hs.out.2.2

end Go.Proofs.Ytopfenhphnmfkaa
