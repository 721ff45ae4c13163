/-
  Contracts of the period of a rhythm and of the rotation that leads to another one, in the program and in the reference.
  Conditions: the rhythms' beats lie in memory.
-/
import Derived.Test.YtopfenhphnmfkaaN2
import Derived.Test.YtopfenhphnmfkaaE2
import Derived.Test.YtopfenhphnmfkaaM12
import Derived.Deep.RegionHeld3
import Derived.Deep.RegionWith
set_option linter.unusedVariables false
set_option linter.unusedSimpArgs false
namespace Go.Proofs.Ytopfenhphnmfkaa
open Go.RowKit
set_option maxRecDepth 8000

theorem eqR_same (n : Int) (x y : List Int) : eqR n n x y = eqL x y := by simp [eqR]
theorem runField1 (a b : Value) (w : World) : (Instr.field 25 (.agg #[a, b]) 1).run Try.prog w = .ok b w := by rfl
theorem bool_case (b : Bool) : b = true ∨ b = false := by cases b <;> simp

set_option maxHeartbeats 1000000 in
theorem implPeriod (n : Int) (v : Value) (x : List Int) (w : World) (hR : Rok n x) (h : Ints w w.heap.size v x) :
    Calls Try.prog 61 #[.agg #[.int .i64 n, v]] w fun e w' => e = .returned (.int .i64 (per n x)) ∧ Below w.heap.size w w' := by
  have hlo := hR.lo
  have hhi := hR.hi
  have Hfull := Lib.hid (per_full hR)
  have h' := h
  obtain ⟨a, cap, rfl, -⟩ := h'
  go_enter Try.func61, Try.ntmps61
  go_wp2_with fail
  go_loopw [3] (fun i wr => ∃ k : Nat, 1 ≤ k ∧ (k : Int) ≤ n ∧ i = .int .i64 k ∧ perGo n x (n - k).toNat k = per n x ∧ Bx wr w.heap.size (.int .i64 n) (.slice a x.length cap) 25 ∧ Below w.heap.size w wr) (fun i _ => (n - intOf i).toNat)
  case atStart => exact ⟨1, by omega, by omega, rfl, rfl, by (repeat (first | (with_reducible refine Bx.newAt _ _ _ _ ?_; simp; done) | (with_reducible refine Bx.alloc ?_ _) | (with_reducible refine Bx.drew ?_) | (with_reducible refine Bx.drewN ?_ _))), by (repeat (first | (with_reducible exact (Below.refl _ _)) | (with_reducible refine bel_alloc ?_ _) | (with_reducible refine Below.drew ?_) | (with_reducible refine bel_drewN ?_ _) | (with_reducible refine Below.setCell ?_ (by simp) _)))⟩
  case round =>
    obtain ⟨k, hk1, hk2, rfl, hper, hbx, hbel⟩ := hrel
    have hsz := hbx.lt
    have HX := Lib.hid hbx
    have HB := Lib.hid hbel
    have q0 := hbx.c0
    have q1 := hbx.c1
    cases hq : eqL (mapV n x 1 k) x with
    | true =>
      have Hf : Hid (per n x = (k : Int)) := by unfold Hid; rw [← hper, perGo_yes hq]
      have Hq : Hid (eqR n n (mapV n x 1 k) x = true) := by unfold Hid; rw [eqR_same]; exact hq
      clear hbx hbel hper hq
      go_wp2_with fail
      go_region_with (first
          | (go_at_call 63; refine (implRotated _ _ x _ _ hR (by omega) (by omega) (Ints.ofBelow h HB.out.drew)).mono ?_; rintro e w1 ⟨a1, c1, rfl, o1, b1⟩; have HB1 := Lib.hid (bel_step HB.out.drew b1 HB.out.size); have hbx1 := HX.out.drew.below b1 HX.out.lt; have p0 := hbx1.c0; have p1 := hbx1.c1)
          | (go_at_call 64; refine (implEqualsC _ _ _ _ (mapV n x 1 k) x _ o1.ints (Ints.ofBelow h HB1.out)).mono ?_; rintro e w2 ⟨rfl, b2⟩; rw [Hq.out]; have HB2 := Lib.hid (bel_step HB1.out b2 HB1.out.size); have HX2 := Lib.hid (hbx1.below b2 hbx1.lt)))
      all_goals
        go_wp2
        go_ret
        exact ⟨ret_int Hf.out.symm, HB2.out⟩
    | false =>
      have hkn : (k : Int) < n := by
        by_cases e : (k : Int) = n
        · rw [e, Hfull.out] at hq; cases hq
        · omega
      have Hn : Hid (perGo n x (n - ((k + 1 : Nat) : Int)).toNat ((k + 1 : Nat) : Int) = per n x) := by unfold Hid; rw [← hper, perGo_no hkn hq]; rfl
      have Hq : Hid (eqR n n (mapV n x 1 k) x = false) := by unfold Hid; rw [eqR_same]; exact hq
      clear hbx hbel hper hq
      go_wp2_with fail
      go_region_with (first
          | (go_at_call 63; refine (implRotated _ _ x _ _ hR (by omega) (by omega) (Ints.ofBelow h HB.out.drew)).mono ?_; rintro e w1 ⟨a1, c1, rfl, o1, b1⟩; have HB1 := Lib.hid (bel_step HB.out.drew b1 HB.out.size); have hbx1 := HX.out.drew.below b1 HX.out.lt; have p0 := hbx1.c0; have p1 := hbx1.c1)
          | (go_at_call 64; refine (implEqualsC _ _ _ _ (mapV n x 1 k) x _ o1.ints (Ints.ofBelow h HB1.out)).mono ?_; rintro e w2 ⟨rfl, b2⟩; rw [Hq.out]; have HB2 := Lib.hid (bel_step HB1.out b2 HB1.out.size); have HX2 := Lib.hid (hbx1.below b2 hbx1.lt)))
      all_goals
        go_wp2_with fail
        go_roundw
        case rel => exact ⟨k + 1, by omega, by omega, by go_num, Hn.out, HX2.out, HB2.out⟩
        case measure => simp [intOf]; omega

set_option maxHeartbeats 1000000 in
theorem specL04Period (n : Int) (v : Value) (x : List Int) (w : World) (hR : Rok n x) (h : Ints w w.heap.size v x) :
    Calls Try.prog 80 #[.agg #[.int .i64 n, v]] w fun e w' => e = .returned (.int .i64 (per n x)) ∧ Below w.heap.size w w' := by
  have hlo := hR.lo
  have hhi := hR.hi
  have Hfull := Lib.hid (per_full hR)
  have h' := h
  obtain ⟨a, cap, rfl, -⟩ := h'
  go_enter Try.func80, Try.ntmps80
  go_wp2_with fail
  go_loopw [3] (fun i wr => ∃ k : Nat, 1 ≤ k ∧ (k : Int) ≤ n ∧ i = .int .i64 k ∧ perGo n x (n - k).toNat k = per n x ∧ Bx wr w.heap.size (.int .i64 n) (.slice a x.length cap) 25 ∧ Below w.heap.size w wr) (fun i _ => (n - intOf i).toNat)
  case atStart => exact ⟨1, by omega, by omega, rfl, rfl, by (repeat (first | (with_reducible refine Bx.newAt _ _ _ _ ?_; simp; done) | (with_reducible refine Bx.alloc ?_ _) | (with_reducible refine Bx.drew ?_) | (with_reducible refine Bx.drewN ?_ _))), by (repeat (first | (with_reducible exact (Below.refl _ _)) | (with_reducible refine bel_alloc ?_ _) | (with_reducible refine Below.drew ?_) | (with_reducible refine bel_drewN ?_ _) | (with_reducible refine Below.setCell ?_ (by simp) _)))⟩
  case round =>
    obtain ⟨k, hk1, hk2, rfl, hper, hbx, hbel⟩ := hrel
    have hsz := hbx.lt
    have HX := Lib.hid hbx
    have HB := Lib.hid hbel
    have q0 := hbx.c0
    have q1 := hbx.c1
    have hfld := runField1
    by_cases hkn : (k : Int) < n
    · cases hq : eqL (mapV n x 1 k) x with
      | true =>
        have Hf : Hid (per n x = (k : Int)) := by unfold Hid; rw [← hper, perGo_yes hq]
        have Hq : Hid (eqL (mapV n x 1 k) x = true) := Lib.hid hq
        clear hbx hbel hper hq
        go_wp2_with fail
        go_region_with (first
          | (go_at_call 74; refine (specL02Map _ _ x _ _ _ hR (by omega) (by omega) (by omega) (by omega) (Ints.ofBelow h HB.out.drew)).mono ?_; rintro e w1 ⟨a1, c1, rfl, o1, b1⟩; have HB1 := Lib.hid (bel_step HB.out.drew b1 HB.out.size); have hbx1 := HX.out.drew.below b1 HX.out.lt; have p0 := hbx1.c0; have p1 := hbx1.c1)
          | (go_at_call 96; refine (specL02Same _ _ (mapV n x 1 k) x _ _ _ o1.ints (Ints.ofBelow h HB1.out)).mono ?_; rintro e w2 ⟨rfl, rfl⟩; rw [Hq.out]))
        all_goals
          go_wp2
          go_ret
          exact ⟨ret_int Hf.out.symm, HB1.out⟩
      | false =>
        have Hn : Hid (perGo n x (n - ((k + 1 : Nat) : Int)).toNat ((k + 1 : Nat) : Int) = per n x) := by unfold Hid; rw [← hper, perGo_no hkn hq]; rfl
        have Hq : Hid (eqL (mapV n x 1 k) x = false) := Lib.hid hq
        clear hbx hbel hper hq
        go_wp2_with fail
        go_region_with (first
          | (go_at_call 74; refine (specL02Map _ _ x _ _ _ hR (by omega) (by omega) (by omega) (by omega) (Ints.ofBelow h HB.out.drew)).mono ?_; rintro e w1 ⟨a1, c1, rfl, o1, b1⟩; have HB1 := Lib.hid (bel_step HB.out.drew b1 HB.out.size); have hbx1 := HX.out.drew.below b1 HX.out.lt; have p0 := hbx1.c0; have p1 := hbx1.c1)
          | (go_at_call 96; refine (specL02Same _ _ (mapV n x 1 k) x _ _ _ o1.ints (Ints.ofBelow h HB1.out)).mono ?_; rintro e w2 ⟨rfl, rfl⟩; rw [Hq.out]))
        all_goals
          go_wp2_with fail
          go_roundw
          case rel => exact ⟨k + 1, by omega, by omega, by go_num, Hn.out, hbx1, HB1.out⟩
          case measure => simp [intOf]; omega
    · have e : n = (k : Int) := by omega
      have Hf : Hid (per n x = n) := by
        unfold Hid
        rw [← hper, show (n - (k : Int)).toNat = 0 by omega, e]; rfl
      clear hbx hper e
      go_wp2
      go_ret
      exact ⟨ret_int Hf.out.symm, HB.out⟩

theorem implPeriodOfC (n : Int) (v : Value) (x : List Int) (c : I64 n) (w : World) (h : Ints w w.heap.size v x) :
    Calls Try.prog 13 #[.agg #[.int .i64 n, v]] w fun e w' => e = .returned (.int .i64 (valPeriodOf n x)) ∧ Below w.heap.size w w' := by
  have h' := h
  obtain ⟨a, cap, rfl, -⟩ := h'
  cases hr : rok n x with
  | false =>
    have Hr := Lib.hid hr
    have Hf := Lib.hid (periodOf_no hr)
    clear hr
    go_enter Try.func13, Try.ntmps13
    go_wp2_with (go_at_call 49; refine (implRhythmOk _ _ x _ _ c.1 c.2 (h.alloc (Nat.le_refl _) _)).mono ?_; rintro e w' ⟨rfl, rfl⟩; rw [Hr.out])
    go_ret
    exact ⟨ret_int Hf.out.symm, by (repeat (first | (with_reducible exact (Below.refl _ _)) | (with_reducible refine bel_alloc ?_ _) | (with_reducible refine Below.drew ?_) | (with_reducible refine bel_drewN ?_ _) | (with_reducible refine Below.setCell ?_ (by simp) _)))⟩
  | true =>
    have Hr := Lib.hid hr
    have Hf := Lib.hid (periodOf_yes hr)
    have hR := (rok_iff n x).1 hr
    clear hr
    go_enter Try.func13, Try.ntmps13
    go_wp2_with (go_at_call 49; refine (implRhythmOk _ _ x _ _ c.1 c.2 (h.alloc (Nat.le_refl _) _)).mono ?_; rintro e w' ⟨rfl, rfl⟩; rw [Hr.out])
    refine withWorld fun X hX => ?_
    have hB : Below w.heap.size w X := by rw [hX]; (repeat (first | (with_reducible exact (Below.refl _ _)) | (with_reducible refine bel_alloc ?_ _) | (with_reducible refine Below.drew ?_) | (with_reducible refine bel_drewN ?_ _) | (with_reducible refine Below.setCell ?_ (by simp) _)))
    clear hX
    refine (implPeriod _ _ x _ hR (Ints.ofBelow h hB)).mono ?_
    rintro e w1 ⟨rfl, b1⟩
    have HB1 := Lib.hid (bel_step hB b1 hB.size)
    clear b1 hB
    go_wp2
    go_ret
    exact ⟨ret_int Hf.out.symm, HB1.out⟩

theorem implIsPeriodicC (n : Int) (v : Value) (x : List Int) (c : I64 n) (w : World) (h : Ints w w.heap.size v x) :
    Calls Try.prog 20 #[.agg #[.int .i64 n, v]] w fun e w' => e = .returned (.bool (valIsPeriodic n x)) ∧ Below w.heap.size w w' := by
  have h' := h
  obtain ⟨a, cap, rfl, -⟩ := h'
  cases hr : rok n x with
  | false =>
    have Hr := Lib.hid hr
    have Hf := Lib.hid (isPeriodic_no hr)
    clear hr
    go_enter Try.func20, Try.ntmps20
    go_wp2_with fail
    refine region_held (Held1 w (.int .i64 n) (.slice a x.length cap)) (by kernel_rfl) (by kernel_rfl) (Held1.new w _ _ _).drew (Held1.keeps _ _ _) fun U val hne hv hcall => ?_
    have HC := Lib.hid hcall
    have q0 : ∀ u, (val u).cell? ⟨w.heap.size, 0, none⟩ = some (.int .i64 n) := fun u => (hv u).2.1
    have q1 : ∀ u, (val u).cell? ⟨w.heap.size, 1, none⟩ = some (.slice a x.length cap) := fun u => (hv u).2.2
    have HV := Lib.hid hv
    clear hv hcall
    repeat (go_big_quiet_step ((first | (go_at_call 49; exact HC.out _ _ _ _ (retB (implRhythmOkC _ _ x c _ (Ints.ofBelow h (HV.out _).1)) Hr.out)))))
    refine wpQuiet_nil ?_
    rintro _ ⟨u, rfl⟩
    have HB := Lib.hid (HV.out u).1
    go_wp2
    go_ret
    exact ⟨ret_bool Hf.out.symm, HB.out⟩
  | true =>
    have Hr := Lib.hid hr
    have hR := (rok_iff n x).1 hr
    obtain ⟨pb1, pb2⟩ := per_bd (x := x) hR.lo
    have hhi := hR.hi
    have Hf := Lib.hid (isPeriodic_yes hr)
    clear hr
    go_enter Try.func20, Try.ntmps20
    go_wp2_with fail
    refine region_held (Held1 w (.int .i64 n) (.slice a x.length cap)) (by kernel_rfl) (by kernel_rfl) (Held1.new w _ _ _).drew (Held1.keeps _ _ _) fun U val hne hv hcall => ?_
    have HC := Lib.hid hcall
    have q0 : ∀ u, (val u).cell? ⟨w.heap.size, 0, none⟩ = some (.int .i64 n) := fun u => (hv u).2.1
    have q1 : ∀ u, (val u).cell? ⟨w.heap.size, 1, none⟩ = some (.slice a x.length cap) := fun u => (hv u).2.2
    have HV := Lib.hid hv
    clear hv hcall
    repeat (go_big_quiet_step ((first | (go_at_call 49; exact HC.out _ _ _ _ (retB (implRhythmOkC _ _ x c _ (Ints.ofBelow h (HV.out _).1)) Hr.out)) | (go_at_call 61; exact HC.out _ _ _ _ (implPeriod _ _ x _ hR (Ints.ofBelow h (HV.out _).1))))))
    refine wpQuiet_nil ?_
    rintro _ ⟨u, rfl⟩
    have HB := Lib.hid (HV.out u).1
    go_wp2
    go_ret
    exact ⟨ret_bool Hf.out.symm, HB.out⟩



theorem valRotationTo_no {n m : Int} {x y : List Int} (h : sameSz n m x y = false) : valRotationTo n x m y = -1 := by
  unfold valRotationTo; unfold sameSz at h; rw [h]; rfl
theorem valRotationTo_yes {n m : Int} {x y : List Int} (h : sameSz n m x y = true) : valRotationTo n x m y = rotTo n x y := by
  unfold valRotationTo; unfold sameSz at h; rw [h]; rfl

set_option maxHeartbeats 1000000 in
theorem implRotationTo' (n : Int) (u : Value) (x : List Int) (v : Value) (y : List Int) (w : World) (hR : Rok n x) (hu : Ints w w.heap.size u x) (hv : Ints w w.heap.size v y) :
    Calls Try.prog 70 #[.agg #[.int .i64 n, u], .agg #[.int .i64 n, v]] w fun e w' => e = .returned (.int .i64 (rotTo n x y)) ∧ Below w.heap.size w w' := by
  have hlo := hR.lo
  have hhi := hR.hi
  have hu' := hu
  have hv' := hv
  obtain ⟨a, cap, rfl, -⟩ := hu
  obtain ⟨a', cap', rfl, -⟩ := hv
  go_enter Try.func70, Try.ntmps70
  go_wp2_with fail
  go_loopw [8] (fun i wr => ∃ k : Nat, (k : Int) ≤ n ∧ i = .int .i64 k ∧ rtGo n x y (n - k).toNat k = rotTo n x y ∧ Bx wr w.heap.size (.int .i64 n) (.slice a x.length cap) 25 ∧ Bx wr (w.heap.size + 1) (.int .i64 n) (.slice a' y.length cap') 25 ∧ Below w.heap.size w wr) (fun i _ => (n - intOf i).toNat)
  case atStart => exact ⟨0, by omega, rfl, by unfold rotTo; simp, by (repeat (first | (with_reducible refine Bx.newAt _ _ _ _ ?_; simp; done) | (with_reducible refine Bx.alloc ?_ _) | (with_reducible refine Bx.drew ?_) | (with_reducible refine Bx.drewN ?_ _))), by (repeat (first | (with_reducible refine Bx.newAt _ _ _ _ ?_; simp; done) | (with_reducible refine Bx.alloc ?_ _) | (with_reducible refine Bx.drew ?_) | (with_reducible refine Bx.drewN ?_ _))), by (repeat (first | (with_reducible exact (Below.refl _ _)) | (with_reducible refine bel_alloc ?_ _) | (with_reducible refine Below.drew ?_) | (with_reducible refine bel_drewN ?_ _) | (with_reducible refine Below.setCell ?_ (by simp) _)))⟩
  case round =>
    obtain ⟨k, hk2, rfl, hper, hbx, hby, hbel⟩ := hrel
    have hsz := hby.lt
    have HX := Lib.hid hbx
    have HY := Lib.hid hby
    have HB := Lib.hid hbel
    have q0 := hbx.c0
    have q1 := hbx.c1
    have q2 := hby.c0
    have q3 := hby.c1
    by_cases hkn : (k : Int) < n
    · cases hq : eqL (mapV n x 1 k) y with
      | true =>
        have Hf : Hid (rotTo n x y = (k : Int)) := by unfold Hid; rw [← hper, rtGo_yes hkn hq]
        have Hq : Hid (eqR n n (mapV n x 1 k) y = true) := by unfold Hid; rw [eqR_same]; exact hq
        clear hbx hby hbel hper hq
        go_wp2_with fail
        go_region_with (first
          | (go_at_call 63; refine (implRotated _ _ x _ _ hR (by omega) (by omega) (Ints.ofBelow hu' HB.out.drew)).mono ?_; rintro e w1 ⟨a1, c1, rfl, o1, b1⟩; have HB1 := Lib.hid (bel_step HB.out.drew b1 HB.out.size); have hbx1 := HX.out.drew.below b1 HX.out.lt; have p0 := hbx1.c0; have p1 := hbx1.c1; have hby1 := HY.out.drew.below b1 HY.out.lt; have p2 := hby1.c0; have p3 := hby1.c1)
          | (go_at_call 64; refine (implEqualsC _ _ _ _ (mapV n x 1 k) y _ o1.ints (Ints.ofBelow hv' HB1.out)).mono ?_; rintro e w2 ⟨rfl, b2⟩; rw [Hq.out]; have HB2 := Lib.hid (bel_step HB1.out b2 HB1.out.size); have HX2 := Lib.hid (hbx1.below b2 hbx1.lt); have HY2 := Lib.hid (hby1.below b2 hby1.lt)))
        all_goals
          go_wp2
          go_ret
          exact ⟨ret_int Hf.out.symm, HB2.out⟩
      | false =>
        have Hn : Hid (rtGo n x y (n - ((k + 1 : Nat) : Int)).toNat ((k + 1 : Nat) : Int) = rotTo n x y) := by unfold Hid; rw [← hper, rtGo_no hkn hq]; rfl
        have Hq : Hid (eqR n n (mapV n x 1 k) y = false) := by unfold Hid; rw [eqR_same]; exact hq
        clear hbx hby hbel hper hq
        go_wp2_with fail
        go_region_with (first
          | (go_at_call 63; refine (implRotated _ _ x _ _ hR (by omega) (by omega) (Ints.ofBelow hu' HB.out.drew)).mono ?_; rintro e w1 ⟨a1, c1, rfl, o1, b1⟩; have HB1 := Lib.hid (bel_step HB.out.drew b1 HB.out.size); have hbx1 := HX.out.drew.below b1 HX.out.lt; have p0 := hbx1.c0; have p1 := hbx1.c1; have hby1 := HY.out.drew.below b1 HY.out.lt; have p2 := hby1.c0; have p3 := hby1.c1)
          | (go_at_call 64; refine (implEqualsC _ _ _ _ (mapV n x 1 k) y _ o1.ints (Ints.ofBelow hv' HB1.out)).mono ?_; rintro e w2 ⟨rfl, b2⟩; rw [Hq.out]; have HB2 := Lib.hid (bel_step HB1.out b2 HB1.out.size); have HX2 := Lib.hid (hbx1.below b2 hbx1.lt); have HY2 := Lib.hid (hby1.below b2 hby1.lt)))
        all_goals
          go_wp2_with fail
          go_roundw
          case rel => exact ⟨k + 1, by omega, by go_num, Hn.out, HX2.out, HY2.out, HB2.out⟩
          case measure => simp [intOf]; omega
    · have Hf : Hid (rotTo n x y = -1) := by unfold Hid; rw [← hper, rtGo_end hkn]
      clear hbx hby hper
      go_wp2
      go_ret
      exact ⟨ret_int Hf.out.symm, HB.out⟩

theorem implRotationToC (n : Int) (u : Value) (x : List Int) (c : I64 n) (m : Int) (v : Value) (y : List Int) (d : I64 m) (w : World) (hu : Ints w w.heap.size u x) (hv : Ints w w.heap.size v y) :
    Calls Try.prog 24 #[.agg #[.int .i64 n, u], .agg #[.int .i64 m, v]] w fun e w' => e = .returned (.int .i64 (valRotationTo n x m y)) ∧ Below w.heap.size w w' := by
  have hu' := hu
  have hv' := hv
  obtain ⟨a, cap, rfl, -⟩ := hu
  obtain ⟨a', cap', rfl, -⟩ := hv
  have hh := Held2.new w (.int .i64 n) (.slice a x.length cap) (.int .i64 m) (.slice a' y.length cap') 25 25
  have H0 := Lib.hid hh
  clear hh
  cases hs : sameSz n m x y with
  | false =>
    have Hs := Lib.hid hs
    have Hf := Lib.hid (valRotationTo_no hs)
    clear hs
    go_enter Try.func24, Try.ntmps24
    go_wp2_with fail
    refine withWorld fun X hX => ?_
    have hH : Held2 w _ _ _ _ X := hX ▸ H0.out
    clear hX
    refine (implSameSizeC _ _ _ _ x y c d _ (Ints.ofBelow hu' hH.1) (Ints.ofBelow hv' hH.1)).mono ?_
    rintro e w1 ⟨rfl, b1⟩
    rw [Hs.out]
    have H1 := Lib.hid (hH.after b1)
    clear b1 hH X H0
    go_wp2
    go_ret
    exact ⟨ret_int Hf.out.symm, H1.out.1⟩
  | true =>
    have Hs := Lib.hid hs
    have Hf := Lib.hid (valRotationTo_yes hs)
    obtain ⟨hR, -, rfl⟩ := sameSz_iff.1 hs
    clear hs
    go_enter Try.func24, Try.ntmps24
    go_wp2_with fail
    refine withWorld fun X hX => ?_
    have hH : Held2 w _ _ _ _ X := hX ▸ H0.out
    clear hX
    refine (implSameSizeC _ _ _ _ x y c d _ (Ints.ofBelow hu' hH.1) (Ints.ofBelow hv' hH.1)).mono ?_
    rintro e w1 ⟨rfl, b1⟩
    rw [Hs.out]
    have H1 := Lib.hid (hH.after b1)
    clear b1 hH X H0
    obtain ⟨q0, q1⟩ := H1.out.2.1
    obtain ⟨q2, q3⟩ := H1.out.2.2
    go_wp2_with fail
    refine (implRotationTo' _ _ x _ y _ hR (Ints.ofBelow hu' H1.out.1) (Ints.ofBelow hv' H1.out.1)).mono ?_
    rintro e w2 ⟨rfl, b2⟩
    have H2 := Lib.hid (H1.out.after b2).1
    clear b2 H1 q0 q1 q2 q3
    go_wp2
    go_ret
    exact ⟨ret_int Hf.out.symm, H2.out⟩

set_option maxHeartbeats 2000000 in
theorem specRotationToC (n : Int) (u : Value) (x : List Int) (c : I64 n) (m : Int) (v : Value) (y : List Int) (d : I64 m) (w : World) (hu : Ints w w.heap.size u x) (hv : Ints w w.heap.size v y) :
    Calls Try.prog 128 #[.agg #[.int .i64 n, u], .agg #[.int .i64 m, v]] w fun e w' => e = .returned (.int .i64 (valRotationTo n x m y)) ∧ Below w.heap.size w w' := by
  have hu' := hu
  have hv' := hv
  obtain ⟨a, cap, rfl, -⟩ := hu
  obtain ⟨a', cap', rfl, -⟩ := hv
  have hh := Held2.new w (.int .i64 n) (.slice a x.length cap) (.int .i64 m) (.slice a' y.length cap') 25 25
  have H0 := Lib.hid hh
  clear hh
  cases hr : rok n x with
  | false =>
    have Hr := Lib.hid hr
    have Hf := Lib.hid (valRotationTo_no (sameSz_no1 (m := m) y hr))
    clear hr
    go_enter Try.func128, Try.ntmps128
    go_wp2_with fail
    refine withWorld fun X hX => ?_
    have hH : Held2 w _ _ _ _ X := hX ▸ H0.out
    clear hX
    refine (specRhythmOkC _ _ x c _ (Ints.ofBelow hu' hH.1)).mono ?_
    rintro e w1 ⟨rfl, b1⟩
    rw [Hr.out]
    have H1 := Lib.hid (hH.after b1)
    clear b1 hH X H0
    go_wp2
    go_ret
    exact ⟨ret_int Hf.out.symm, H1.out.1⟩
  | true =>
    have Hr := Lib.hid hr
    cases hs : rok m y with
    | false =>
      have Hs := Lib.hid hs
      have Hf := Lib.hid (valRotationTo_no (sameSz_no2 (n := n) x hs))
      clear hr hs
      go_enter Try.func128, Try.ntmps128
      go_wp2_with fail
      refine withWorld fun X hX => ?_
      have hH : Held2 w _ _ _ _ X := hX ▸ H0.out
      clear hX
      refine (specRhythmOkC _ _ x c _ (Ints.ofBelow hu' hH.1)).mono ?_
      rintro e w1 ⟨rfl, b1⟩
      rw [Hr.out]
      have H1 := Lib.hid (hH.after b1)
      clear b1 hH X H0
      obtain ⟨q0, q1⟩ := H1.out.2.1
      obtain ⟨q2, q3⟩ := H1.out.2.2
      go_wp2_with fail
      refine (specRhythmOkC _ _ y d _ (Ints.ofBelow hv' H1.out.1)).mono ?_
      rintro e w2 ⟨rfl, b2⟩
      rw [Hs.out]
      have H2 := Lib.hid (H1.out.after b2)
      clear b2 H1 q0 q1 q2 q3
      go_wp2
      go_ret
      exact ⟨ret_int Hf.out.symm, H2.out.1⟩
    | true =>
      have Hs := Lib.hid hs
      by_cases hn : n = m
      · have hq : sameSz n m x y = true := by rw [sameSz_yes hr hs]; simp [hn]
        have Hf := Lib.hid (valRotationTo_yes hq)
        obtain ⟨hR, -, rfl⟩ := sameSz_iff.1 hq
        clear hr hs hq
        have hlo := hR.lo
        have hhi := hR.hi
        have hb : (n != n) = false := by simp
        go_enter Try.func128, Try.ntmps128
        go_wp2_with fail
        refine withWorld fun X hX => ?_
        have hx : Bx X w.heap.size (.int .i64 n) (.slice a x.length cap) 25 := by rw [hX]; (repeat (first | (with_reducible refine Bx.newAt _ _ _ _ ?_; simp; done) | (with_reducible refine Bx.alloc ?_ _) | (with_reducible refine Bx.drew ?_) | (with_reducible refine Bx.drewN ?_ _)))
        have hy : Bx X (w.heap.size + 1) (.int .i64 n) (.slice a' y.length cap') 25 := by rw [hX]; (repeat (first | (with_reducible refine Bx.newAt _ _ _ _ ?_; simp; done) | (with_reducible refine Bx.alloc ?_ _) | (with_reducible refine Bx.drew ?_) | (with_reducible refine Bx.drewN ?_ _)))
        have hB : Below w.heap.size w X := by rw [hX]; (repeat (first | (with_reducible exact (Below.refl _ _)) | (with_reducible refine bel_alloc ?_ _) | (with_reducible refine Below.drew ?_) | (with_reducible refine bel_drewN ?_ _) | (with_reducible refine Below.setCell ?_ (by simp) _)))
        clear hX
        refine (specRhythmOkC _ _ x c _ (Ints.ofBelow hu' hB)).mono ?_
        rintro e w1 ⟨rfl, b1⟩
        rw [Hr.out]
        have hx1 := hx.below b1 hx.lt
        have hy1 := hy.below b1 hy.lt
        have q0 := hx1.c0
        have q1 := hx1.c1
        have q2 := hy1.c0
        have q3 := hy1.c1
        have HX1 := Lib.hid hx1
        have HY1 := Lib.hid hy1
        have HB1 := Lib.hid (bel_step hB b1 hB.size)
        clear hx hy hB b1 X H0 hx1 hy1
        go_wp2_with fail
        refine (specRhythmOkC _ _ y d _ (Ints.ofBelow hv' HB1.out)).mono ?_
        rintro e w2 ⟨rfl, b2⟩
        rw [Hs.out]
        have hx2 := HX1.out.below b2 HX1.out.lt
        have hy2 := HY1.out.below b2 HY1.out.lt
        have p0 := hx2.c0
        have p1 := hx2.c1
        have p2 := hy2.c0
        have p3 := hy2.c1
        have HX2 := Lib.hid hx2
        have HY2 := Lib.hid hy2
        have HB2 := Lib.hid (bel_step HB1.out b2 HB1.out.size)
        clear HX1 HY1 HB1 b2 q0 q1 q2 q3 hx2 hy2
        go_wp2_with fail
        go_loopw [5] (fun i wr => ∃ k : Nat, (k : Int) ≤ n ∧ i = .int .i64 k ∧ rtGo n x y (n - k).toNat k = rotTo n x y ∧ Bx wr w.heap.size (.int .i64 n) (.slice a x.length cap) 25 ∧ Bx wr (w.heap.size + 1) (.int .i64 n) (.slice a' y.length cap') 25 ∧ Below w.heap.size w wr) (fun i _ => (n - intOf i).toNat)
        case atStart => exact ⟨0, by omega, rfl, by unfold rotTo; simp, HX2.out, HY2.out, HB2.out⟩
        case round =>
          obtain ⟨k, hk2, rfl, hper, hbx, hby, hbel⟩ := hrel
          clear p0 p1 p2 p3 HX2 HY2 HB2
          have hsz := hby.lt
          have HX := Lib.hid hbx
          have HY := Lib.hid hby
          have HB := Lib.hid hbel
          have q0 := hbx.c0
          have q1 := hbx.c1
          have q2 := hby.c0
          have q3 := hby.c1
          have hfld := runField1
          by_cases hkn : (k : Int) < n
          · cases hq : eqL (mapV n x 1 k) y with
            | true =>
              have Hf2 : Hid (rotTo n x y = (k : Int)) := by unfold Hid; rw [← hper, rtGo_yes hkn hq]
              have Hq := Lib.hid hq
              clear hbx hby hbel hper hq
              go_wp2_with fail
              go_region_with (first
                | (go_at_call 74; refine (specL02Map _ _ x _ _ _ hR (by omega) (by omega) (by omega) (by omega) (Ints.ofBelow hu' HB.out.drew)).mono ?_; rintro e w1 ⟨a1, c1, rfl, o1, b1⟩; have HB1 := Lib.hid (bel_step HB.out.drew b1 HB.out.size); have hbx1 := HX.out.drew.below b1 HX.out.lt; have r0 := hbx1.c0; have r1 := hbx1.c1; have hby1 := HY.out.drew.below b1 HY.out.lt; have r2 := hby1.c0; have r3 := hby1.c1)
                | (go_at_call 96; refine (specL02Same _ _ (mapV n x 1 k) y _ _ _ o1.ints (Ints.ofBelow hv' HB1.out)).mono ?_; rintro e w2 ⟨rfl, rfl⟩; rw [Hq.out]))
              all_goals
                go_wp2
                go_ret
                exact ⟨ret_int (Hf.out.trans Hf2.out).symm, HB1.out⟩
            | false =>
              have Hn : Hid (rtGo n x y (n - ((k + 1 : Nat) : Int)).toNat ((k + 1 : Nat) : Int) = rotTo n x y) := by unfold Hid; rw [← hper, rtGo_no hkn hq]; rfl
              have Hq := Lib.hid hq
              clear hbx hby hbel hper hq
              go_wp2_with fail
              go_region_with (first
                | (go_at_call 74; refine (specL02Map _ _ x _ _ _ hR (by omega) (by omega) (by omega) (by omega) (Ints.ofBelow hu' HB.out.drew)).mono ?_; rintro e w1 ⟨a1, c1, rfl, o1, b1⟩; have HB1 := Lib.hid (bel_step HB.out.drew b1 HB.out.size); have hbx1 := HX.out.drew.below b1 HX.out.lt; have r0 := hbx1.c0; have r1 := hbx1.c1; have hby1 := HY.out.drew.below b1 HY.out.lt; have r2 := hby1.c0; have r3 := hby1.c1)
                | (go_at_call 96; refine (specL02Same _ _ (mapV n x 1 k) y _ _ _ o1.ints (Ints.ofBelow hv' HB1.out)).mono ?_; rintro e w2 ⟨rfl, rfl⟩; rw [Hq.out]))
              all_goals
                go_wp2_with fail
                go_roundw
                case rel => exact ⟨k + 1, by omega, by go_num, Hn.out, hbx1, hby1, HB1.out⟩
                case measure => simp [intOf]; omega
          · have Hf2 : Hid (rotTo n x y = -1) := by unfold Hid; rw [← hper, rtGo_end hkn]
            clear hbx hby hper
            go_wp2
            go_ret
            exact ⟨ret_int (Hf.out.trans Hf2.out).symm, HB.out⟩
      · have hq : sameSz n m x y = false := by rw [sameSz_yes hr hs]; simpa using hn
        have hb : (n != m) = true := by simpa using hn
        have Hf := Lib.hid (valRotationTo_no hq)
        clear hr hs hq hn
        go_enter Try.func128, Try.ntmps128
        go_wp2_with fail
        refine withWorld fun X hX => ?_
        have hH : Held2 w _ _ _ _ X := hX ▸ H0.out
        clear hX
        refine (specRhythmOkC _ _ x c _ (Ints.ofBelow hu' hH.1)).mono ?_
        rintro e w1 ⟨rfl, b1⟩
        rw [Hr.out]
        have H1 := Lib.hid (hH.after b1)
        clear b1 hH X H0
        obtain ⟨q0, q1⟩ := H1.out.2.1
        obtain ⟨q2, q3⟩ := H1.out.2.2
        go_wp2_with fail
        refine (specRhythmOkC _ _ y d _ (Ints.ofBelow hv' H1.out.1)).mono ?_
        rintro e w2 ⟨rfl, b2⟩
        rw [Hs.out]
        have H2 := Lib.hid (H1.out.after b2)
        clear b2 H1 q0 q1 q2 q3
        obtain ⟨q0, q1⟩ := H2.out.2.1
        obtain ⟨q2, q3⟩ := H2.out.2.2
        go_wp2
        go_ret
        exact ⟨ret_int Hf.out.symm, H2.out.1⟩

theorem implAreRotationsC (n : Int) (u : Value) (x : List Int) (c : I64 n) (m : Int) (v : Value) (y : List Int) (d : I64 m) (w : World) (hu : Ints w w.heap.size u x) (hv : Ints w w.heap.size v y) :
    Calls Try.prog 25 #[.agg #[.int .i64 n, u], .agg #[.int .i64 m, v]] w fun e w' => e = .returned (.bool (valAreRotations n x m y)) ∧ Below w.heap.size w w' := by
  have hu' := hu
  have hv' := hv
  obtain ⟨a, cap, rfl, -⟩ := hu
  obtain ⟨a', cap', rfl, -⟩ := hv
  have hh := Held2.new w (.int .i64 n) (.slice a x.length cap) (.int .i64 m) (.slice a' y.length cap') 25 25
  have H0 := Lib.hid hh
  clear hh
  go_enter Try.func25, Try.ntmps25
  go_wp2_with fail
  refine withWorld fun X hX => ?_
  have hH : Held2 w _ _ _ _ X := hX ▸ H0.out
  clear hX
  refine (implRotationToC _ _ x c _ _ y d _ (Ints.ofBelow hu' hH.1) (Ints.ofBelow hv' hH.1)).mono ?_
  rintro e w1 ⟨rfl, b1⟩
  have H1 := Lib.hid (hH.after b1)
  clear b1 hH X H0
  go_wp2
  go_ret
  exact ⟨rfl, H1.out.1⟩

theorem specAreRotationsC (n : Int) (u : Value) (x : List Int) (c : I64 n) (m : Int) (v : Value) (y : List Int) (d : I64 m) (w : World) (hu : Ints w w.heap.size u x) (hv : Ints w w.heap.size v y) :
    Calls Try.prog 113 #[.agg #[.int .i64 n, u], .agg #[.int .i64 m, v]] w fun e w' => e = .returned (.bool (valAreRotations n x m y)) ∧ Below w.heap.size w w' := by
  have hu' := hu
  have hv' := hv
  obtain ⟨a, cap, rfl, -⟩ := hu
  obtain ⟨a', cap', rfl, -⟩ := hv
  have hh := Held2.new w (.int .i64 n) (.slice a x.length cap) (.int .i64 m) (.slice a' y.length cap') 25 25
  have H0 := Lib.hid hh
  clear hh
  go_enter Try.func113, Try.ntmps113
  go_wp2_with fail
  refine withWorld fun X hX => ?_
  have hH : Held2 w _ _ _ _ X := hX ▸ H0.out
  clear hX
  refine (specRotationToC _ _ x c _ _ y d _ (Ints.ofBelow hu' hH.1) (Ints.ofBelow hv' hH.1)).mono ?_
  rintro e w1 ⟨rfl, b1⟩
  have H1 := Lib.hid (hH.after b1)
  clear b1 hH X H0
  go_wp2
  go_ret
  exact ⟨rfl, H1.out.1⟩
end Go.Proofs.Ytopfenhphnmfkaa
