/-
  Contracts of RotationsOf, in the program and in the reference.
  Conditions: the rhythm's beats lie in memory.
-/
import Derived.Test.YtopfenhphnmfkaaR2
import Derived.Test.YtopfenhphnmfkaaN4
set_option linter.unusedVariables false
set_option linter.unusedSimpArgs false
namespace Go.Proofs.Ytopfenhphnmfkaa
open Go.RowKit

def roTo (n : Int) (x : List Int) (k : Nat) : List Rh := (List.range k).map fun (j : Nat) => (n, mapV n x 1 (j : Int))
theorem roTo_succ (n : Int) (x : List Int) (k : Nat) : roTo n x (k + 1) = roTo n x k ++ [(n, mapV n x 1 (k : Int))] := by simp [roTo, List.range_succ]
theorem roTo_len (n : Int) (x : List Int) (k : Nat) : (roTo n x k).length = k := by simp [roTo]
theorem roTo_X (n : Int) (x : List Int) {k i : Nat} (h : i < k) : rhX (roTo n x k) i = mapV n x 1 (i : Int) := by
  simp [rhX, roTo, List.getD_eq_getElem?_getD, h]
def lstRotationsOf (n : Int) (x : List Int) : List Rh := if rok n x = true then roTo n x (per n x).toNat else []
theorem rotations_no {n : Int} {x : List Int} (h : rok n x = false) : lstRotationsOf n x = [] := by simp [lstRotationsOf, h]
theorem rotations_yes {n : Int} {x : List Int} (h : rok n x = true) : lstRotationsOf n x = roTo n x (per n x).toNat := by simp [lstRotationsOf, h]
theorem lenRotationsOf (n : Int) (x : List Int) : (lstRotationsOf n x).length ≤ 24 ∧ ∀ i, i < (lstRotationsOf n x).length → (rhX (lstRotationsOf n x) i).length ≤ 24 := by
  cases h : rok n x with
  | false => rw [rotations_no h]; exact ⟨by simp, fun i hi => by simp at hi⟩
  | true =>
    rw [rotations_yes h, roTo_len]
    have hR := (rok_iff n x).1 h
    have hb := per_bd (x := x) hR.lo
    have := hR.hi
    exact ⟨by omega, fun i hi => by rw [roTo_X _ _ hi]; exact mapV_len hR.hi _ _ _⟩

set_option maxRecDepth 20000 in
set_option maxHeartbeats 2000000 in
theorem implRotationsOfC (n : Int) (v : Value) (x : List Int) (c : I64 n) (w : World) (h : Ints w w.heap.size v x) :
    Calls Try.prog 15 #[.agg #[.int .i64 n, v]] w (RetSegR w (lstRotationsOf n x)) := by
  have h' := h
  obtain ⟨a, cap, rfl, -⟩ := h'
  cases hr : rok n x with
  | false =>
    have Hr := Lib.hid hr
    rw [rotations_no hr]
    clear hr
    go_enter Try.func15, Try.ntmps15
    go_wp2_with (go_at_call 49; refine (implRhythmOk _ _ x _ _ c.1 c.2 (h.alloc (Nat.le_refl _) _)).mono ?_; rintro e w' ⟨rfl, rfl⟩; rw [Hr.out])
    go_ret
    exact .mk rfl (SegR.nil _ _ _) (by (repeat (first | (with_reducible exact (Below.refl _ _)) | (with_reducible refine bel_alloc ?_ _) | (with_reducible refine Below.drew ?_) | (with_reducible refine bel_drewN ?_ _) | (with_reducible refine Below.setCell ?_ (by simp) _))))
  | true =>
    have Hr := Lib.hid hr
    rw [rotations_yes hr]
    have hR := (rok_iff n x).1 hr
    have hlo := hR.lo
    have hhi := hR.hi
    have hpb := per_bd (x := x) hlo
    clear hr
    go_enter Try.func15, Try.ntmps15
    go_wp2_with (first
      | (go_at_call 49; refine (implRhythmOk _ _ x _ _ c.1 c.2 (h.alloc (Nat.le_refl _) _)).mono ?_; rintro e w' ⟨rfl, rfl⟩; rw [Hr.out])
      | (go_at_call 61; refine withWorld fun X hX => ?_; have gB : Below w.heap.size w X := (by rw [hX]; (repeat (first | (with_reducible exact (Below.refl _ _)) | (with_reducible refine bel_alloc ?_ _) | (with_reducible refine Below.drew ?_) | (with_reducible refine bel_drewN ?_ _) | (with_reducible refine Below.setCell ?_ (by simp) _)))); have bx0 : Bx X w.heap.size (.int .i64 n) (.slice a x.length cap) 25 := (by rw [hX]; (repeat (first | (with_reducible refine Bx.newAt _ _ _ _ ?_; simp; done) | (with_reducible refine Bx.alloc ?_ _) | (with_reducible refine Bx.drew ?_) | (with_reducible refine Bx.drewN ?_ _)))); clear hX; refine (implPeriod _ _ x _ hR (Ints.ofBelow h gB)).mono ?_; rintro e w1 ⟨rfl, b1⟩; have HB0 := Lib.hid (bel_step gB b1 gB.size); have HX0 := Lib.hid (bx0.below b1 bx0.lt); clear gB bx0 b1))
    generalize hP : per n x = P at *
    have HP := Lib.hid hP
    clear hP
    go_loopw [3, 10] (fun u i wr => ∃ k : Nat, (k : Int) ≤ P ∧ i = .int .i64 k ∧ (∃ a' c', u = .slice a' k c' ∧ SegR wr (w.heap.size + 1) wr.heap.size (.slice a' k c') (roTo n x k)) ∧ Bx wr w.heap.size (.int .i64 n) (.slice a x.length cap) 25 ∧ Below w.heap.size w wr) (fun _ i _ => (P - intOf i).toNat)
    case atStart => exact ⟨0, by omega, rfl, ⟨none, 0, rfl, SegR.nil _ _ _⟩, HX0.out, HB0.out⟩
    case round =>
      obtain ⟨k, hk, rfl, ⟨a', c', rfl, hseg⟩, hbx, hbel⟩ := hrel
      have hsz := hbx.lt
      have HX := Lib.hid hbx
      have HS := Lib.hid hseg
      have HB := Lib.hid hbel
      have q0 := hbx.c0
      have q1 := hbx.c1
      clear hbx hseg hbel
      by_cases hlt : (k : Int) < P
      · go_wp2_with (first
          | (go_at_call 63; refine (implRotated _ _ x _ _ hR (by omega) (by omega) (Ints.ofBelow h HB.out)).mono ?_; rintro e w1 ⟨a1, c1, rfl, o1, b1⟩; have HB1 := Lib.hid (bel_step HB.out b1 HB.out.size); have hbx1 := HX.out.below b1 HX.out.lt; have HS1 := Lib.hid (HS.out.after b1); have HU := Lib.hid (Seg.mk' o1); have hz1 := b1.size; clear o1 b1; have HX1 := Lib.hid hbx1; clear hbx1)
          | (at_builtin; refine wpAppRh rfl _ _ rfl (w.heap.size + 1) wr.heap.size a' k c' (roTo n x k) n _ (mapV n x 1 k) rfl rfl HS1.out HU.out rfl (roTo_len _ _ _) (by omega) (by omega) (by omega) ?_; intro a4 c4 w4 ho4 hb4; have HO4 := Lib.hid ho4; have HX4 := Lib.hid (HX1.out.below hb4 (by omega)); have HB4 := Lib.hid (HB1.out.trans (hb4.mono (by omega))); clear ho4 hb4))
        go_roundw
        case rel => exact ⟨k + 1, by omega, by go_num, ⟨a4, c4, rfl, by rw [roTo_succ]; exact HO4.out⟩, HX4.out, HB4.out⟩
        case measure => simp [intOf]; omega
      · have hk2 : P.toNat = k := by omega
        have Hk2 := Lib.hid hk2
        clear hk2
        go_wp2
        go_ret
        exact .mk rfl (by rw [Hk2.out]; exact HS.out.low (by omega) (Nat.le_refl _)) HB.out

set_option maxRecDepth 20000 in
set_option maxHeartbeats 2000000 in
theorem specRotationsOfC (n : Int) (v : Value) (x : List Int) (c : I64 n) (w : World) (h : Ints w w.heap.size v x) :
    Calls Try.prog 38 #[.agg #[.int .i64 n, v]] w (RetSegR w (lstRotationsOf n x)) := by
  have h' := h
  obtain ⟨a, cap, rfl, -⟩ := h'
  cases hr : rok n x with
  | false =>
    have Hr := Lib.hid hr
    rw [rotations_no hr]
    clear hr
    go_enter Try.func38, Try.ntmps38
    go_wp2_with (go_at_call 59; refine (specRhythmOk _ _ x _ _ c.1 c.2 (h.alloc (Nat.le_refl _) _)).mono ?_; rintro e w' ⟨rfl, rfl⟩; rw [Hr.out])
    go_ret
    exact .mk rfl (SegR.nil _ _ _) (by (repeat (first | (with_reducible exact (Below.refl _ _)) | (with_reducible refine bel_alloc ?_ _) | (with_reducible refine Below.drew ?_) | (with_reducible refine bel_drewN ?_ _) | (with_reducible refine Below.setCell ?_ (by simp) _))))
  | true =>
    have Hr := Lib.hid hr
    rw [rotations_yes hr]
    have hR := (rok_iff n x).1 hr
    have hlo := hR.lo
    have hhi := hR.hi
    have hpb := per_bd (x := x) hlo
    clear hr
    generalize hP : per n x = P at *
    have HP := Lib.hid hP
    clear hP
    go_enter Try.func38, Try.ntmps38
    go_wp2_with (go_at_call 59; refine (specRhythmOk _ _ x _ _ c.1 c.2 (h.alloc (Nat.le_refl _) _)).mono ?_; rintro e w' ⟨rfl, rfl⟩; rw [Hr.out])
    have hl0 := SegR.lit ((w.alloc (.cells #[.int .i64 n, .slice a x.length cap] 25)).alloc (.cells #[.int .i64 n, .slice a x.length cap] 25)) (lo := w.heap.size + 1) (hi := w.heap.size + 1 + 1 + 1) (by (first | omega | (simp; done) | (simp; omega))) (by (first | omega | (simp; done) | (simp; omega)))
    have HL0 := Lib.hid hl0
    clear hl0
    go_loopw [3, 4] (fun u i wr => ∃ k : Nat, (k : Int) ≤ P ∧ i = .int .i64 k ∧ (∃ a' c', u = .slice a' k c' ∧ SegR wr (w.heap.size + 1) wr.heap.size (.slice a' k c') (roTo n x k)) ∧ Bx wr w.heap.size (.int .i64 n) (.slice a x.length cap) 25 ∧ Below w.heap.size w wr) (fun _ i _ => (P - intOf i).toNat)
    case atStart => exact ⟨0, by omega, rfl, ⟨_, _, rfl, by have := HL0.out; rw [show roTo n x 0 = [] from rfl]; simpa using this⟩, by (repeat (first | (with_reducible refine Bx.newAt _ _ _ _ ?_; simp; done) | (with_reducible refine Bx.alloc ?_ _) | (with_reducible refine Bx.drew ?_) | (with_reducible refine Bx.drewN ?_ _))), by (repeat (first | (with_reducible exact (Below.refl _ _)) | (with_reducible refine bel_alloc ?_ _) | (with_reducible refine Below.drew ?_) | (with_reducible refine bel_drewN ?_ _) | (with_reducible refine Below.setCell ?_ (by simp) _)))⟩
    case round =>
      obtain ⟨k, hk, rfl, ⟨a', c', rfl, hseg⟩, hbx, hbel⟩ := hrel
      have hsz := hbx.lt
      have HX := Lib.hid hbx
      have HS := Lib.hid hseg
      have HB := Lib.hid hbel
      have q0 := hbx.c0
      have q1 := hbx.c1
      clear hbx hseg hbel
      by_cases hlt : (k : Int) < P
      · go_wp2_with (first
          | (go_at_call 80; refine (specL04Period _ _ x _ hR (Ints.ofBelow h HB.out)).mono ?_; rintro e w0 ⟨rfl, b0⟩; rw [HP.out]; have HB0 := Lib.hid (bel_step HB.out b0 HB.out.size); have hbx0 := HX.out.below b0 HX.out.lt; have HS0 := Lib.hid (HS.out.after b0); have HX0 := Lib.hid hbx0; have r0 := hbx0.c0; have r1 := hbx0.c1; have hz0 := b0.size; clear b0 hbx0)
          | (go_at_call 74; refine (specL02Map _ _ x _ _ _ hR (by omega) (by omega) (by omega) (by omega) (Ints.ofBelow h HB0.out)).mono ?_; rintro e w1 ⟨a1, c1, rfl, o1, b1⟩; have HB1 := Lib.hid (bel_step HB0.out b1 HB0.out.size); have hbx1 := HX0.out.below b1 HX0.out.lt; have HS1 := Lib.hid (HS0.out.after b1); have HU := Lib.hid (Seg.mk' (o1.mono hz0)); have hz1 := b1.size; clear o1 b1; have HX1 := Lib.hid hbx1; clear hbx1)
          | (at_builtin; refine wpAppRh rfl _ _ rfl (w.heap.size + 1) wr.heap.size a' k c' (roTo n x k) n _ (mapV n x 1 k) rfl rfl HS1.out HU.out rfl (roTo_len _ _ _) (by omega) (by omega) (by omega) ?_; intro a4 c4 w4 ho4 hb4; have HO4 := Lib.hid ho4; have HX4 := Lib.hid (HX1.out.below hb4 (by omega)); have HB4 := Lib.hid (HB1.out.trans (hb4.mono (by omega))); clear ho4 hb4))
        go_roundw
        case rel => exact ⟨k + 1, by omega, by go_num, ⟨a4, c4, rfl, by rw [roTo_succ]; exact HO4.out⟩, HX4.out, HB4.out⟩
        case measure => simp [intOf]; omega
      · have hk2 : P.toNat = k := by omega
        have Hk2 := Lib.hid hk2
        clear hk2
        go_wp2_with (go_at_call 80; refine (specL04Period _ _ x _ hR (Ints.ofBelow h HB.out)).mono ?_; rintro e w0 ⟨rfl, b0⟩; rw [HP.out]; have HB0 := Lib.hid (bel_step HB.out b0 HB.out.size); have HS0 := Lib.hid (HS.out.after b0); have hz0 := b0.size; clear b0)
        go_ret
        exact .mk rfl (by rw [Hk2.out]; exact HS0.out.low (by omega) (by first | assumption | omega)) HB0.out
end Go.Proofs.Ytopfenhphnmfkaa
