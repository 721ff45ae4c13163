/-
  Contracts of the steps of a rhythm, in the program and in the reference.
  Conditions: the rhythm's beats lie in memory.
-/
import Derived.Test.YtcgpmdfcdngnlaaDoorE2
import Derived.Test.YtcgpmdfcdngnlaaDoorM5
import Derived.Deep.RegionLaw
set_option linter.unusedVariables false
set_option linter.unusedSimpArgs false
namespace Go.Proofs.YtcgpmdfcdngnlaaDoor
open Go.RowKit

set_option maxHeartbeats 800000 in
theorem implSteps (n : Int) (v : Value) (x : List Int) (w : World) (hR : Rok n x) (h : Ints w w.heap.size v x) :
    Calls Tryd.prog 76 #[.agg #[.int .i64 n, v]] w (RetOwn w (stTo n x x.length)) := by
  have hlo := hR.lo
  have hhi := hR.hi
  have hlen := hR.len24
  rcases h.open with ⟨rfl, a, cap, rfl⟩ | ⟨b, o, cap, rfl, hm, hpos, hB, hb, hc⟩
  · go_enter Tryd.func76, Tryd.ntmps76
    go_wp2
    refine wp_loop_rounds 1 ?_; rw [rounds_succ]
    go_wp2
    go_ret
    exact .mk rfl (Own.nil _ _) ((Below.refl _ _).alloc (Nat.le_refl _) _)
  · have hx0 := hc 0 hpos
    rw [Nat.add_zero, getD_get hpos] at hx0
    go_enter Tryd.func76, Tryd.ntmps76
    go_wp2
    go_loopw [3, 9] (fun u i wr => ∃ k : Nat, k ≤ x.length ∧ i = .int .i64 k ∧ (∃ a' c', u = .slice a' k c' ∧ Own wr (w.heap.size + 1) (.slice a' k c') (stTo n x k)) ∧ Below (w.heap.size + 1) (w.alloc (.cells #[.int .i64 n, .slice (some ⟨b, o, none⟩) x.length cap] 31)) wr) (fun _ i _ => x.length - (intOf i).toNat)
    case atStart => exact ⟨0, Nat.zero_le _, rfl, ⟨none, 0, rfl, Own.nil _ _⟩, Below.refl _ _⟩
    case round =>
      obtain ⟨k, hk, rfl, ⟨a', c', rfl, hown⟩, hbel⟩ := hrel
      have q0 : wr.cell? ⟨w.heap.size, 0, none⟩ = some (.int .i64 n) := ((bcell hbel).1 _ _ (by omega)).trans (cellNew _ _ _ 0 rfl)
      have q1 : wr.cell? ⟨w.heap.size, 1, none⟩ = some (.slice (some ⟨b, o, none⟩) x.length cap) := ((bcell hbel).1 _ _ (by omega)).trans (cellNew _ _ _ 1 rfl)
      have hcr : ∀ i, i < x.length → wr.cell? ⟨b, o + i, none⟩ = some (.int .i64 (x.getD i 0)) := fun i hi => ((bcell hbel).1 _ _ (by omega)).trans (cellAlloc _ (hc i hi))
      have hz : w.heap.size + 1 ≤ wr.heap.size := by have := hbel.size; simpa using this
      by_cases hlt : k < x.length
      · have hc1 := hcr k hlt
        have hat := hR.at_ hlt
        have hb1 := stAt_bd hR hlt
        rw [getD_get hlt] at hat
        by_cases hl : k + 1 < x.length
        · have hc2 := hcr (k + 1) hl
          have hat2 := hR.at_ hl
          rw [getD_get hl] at hat2
          have He := Lib.hid (stAt_in (n := n) hl)
          have Hs := Lib.hid (stTo_succ n x k)
          have hl' : (k : Int) + 1 < (x.length : Int) := by omega
          have HO := Lib.hid hown
          have HB := Lib.hid hbel
          clear hown hbel hcr
          go_wp2_with (at_builtin; refine wpAppInt rfl _ _ rfl (w.heap.size + 1) a' k c' (stTo n x k) _ rfl rfl HO.out (stTo_len _ _ _) (by omega) (by omega) ?_; intro a1 c1 w1 ho1 hbx)
          have ho2 := ho1
          rw [getD_get hl, getD_get hlt] at He
          rw [← He.out, ← Hs.out] at ho2
          have HO2 := Lib.hid ho2
          have HB2 := Lib.hid (HB.out.trans hbx)
          go_roundw
          case rel => exact ⟨k + 1, by omega, by go_num, ⟨a1, c1, rfl, HO2.out⟩, HB2.out⟩
          case measure => simp [intOf]; omega
        · have he : k + 1 = x.length := by omega
          have hc0 := hcr 0 hpos
          rw [Nat.add_zero, getD_get hpos] at hc0
          have hat0 := hR.at_ hpos
          rw [getD_get hpos] at hat0
          have He := Lib.hid (stAt_last (n := n) hl)
          have Hs := Lib.hid (stTo_succ n x k)
          rw [He.out, getD_get hpos, getD_get hlt] at hb1
          have hl' : ¬ (k : Int) + 1 < (x.length : Int) := by omega
          have hp1 : (0 : Int) < (x.length : Int) := by omega
          have HO := Lib.hid hown
          have HB := Lib.hid hbel
          clear hown hbel hcr he
          have hw1 : IntKind.i64.wrap (n + x[0]) = n + x[0] := IntWalk.i64_in _ (by omega)
          have hw2 : IntKind.i64.wrap (n + x[0] - x[k]) = n + x[0] - x[k] := IntWalk.i64_in _ (by omega)
          go_wp2_with fail
          go_region_law (refine stepAppInt (wr := wr) rfl _ _ rfl (w.heap.size + 1) a' k c' (stTo n x k) _ rfl rfl HO.out (stTo_len _ _ _) (by omega) (by omega) (.inr ⟨1, rfl⟩) ?_; intro a1 c1 w1 ho1 hbx)
          all_goals
            have ho2 := ho1
            rw [getD_get hpos, getD_get hlt] at He
            rw [← He.out, ← Hs.out] at ho2
            have HO2 := Lib.hid ho2
            have HB2 := Lib.hid (HB.out.trans hbx)
            clear ho1 ho2 hbx hw1 hw2
            go_wp2_with fail
            go_roundw
            case rel => exact ⟨k + 1, by omega, by go_num, ⟨a1, c1, rfl, HO2.out⟩, HB2.out⟩
            case measure => simp [intOf]; omega
      · have e : k = x.length := by omega
        subst e
        have HO := Lib.hid hown
        have HB := Lib.hid hbel
        clear hown hbel hcr
        go_wp2
        go_ret
        exact .mk rfl (HO.out.mono (by omega)) (((Below.refl _ _).alloc (Nat.le_refl _) _).trans (HB.out.mono (by omega)))

theorem Own.lit0 (w : World) {B : Nat} (hB : B ≤ w.heap.size) : Own (w.alloc (.cells #[] 3)) B (.slice (some ⟨w.heap.size, 0, none⟩) 0 0) [] :=
  World.ownsRow_lit (e := 3) (size := 1) w #[] 0 hB (Nat.zero_le _) rfl

set_option maxHeartbeats 800000 in
theorem specL03Steps (n : Int) (v : Value) (x : List Int) (w : World) (hR : Rok n x) (h : Ints w w.heap.size v x) (hpos : 0 < x.length) :
    Calls Tryd.prog 73 #[.agg #[.int .i64 n, v]] w (RetOwn w (stTo n x x.length)) := by
  have hlo := hR.lo
  have hhi := hR.hi
  have hlen := hR.len24
  rcases h.open with ⟨rfl, a, cap, rfl⟩ | ⟨b, o, cap, rfl, hm, -, hB, hb, hc⟩
  · simp at hpos
  · go_enter Tryd.func73, Tryd.ntmps73
    go_wp2
    have h0 : Own ((w.alloc (.cells #[.int .i64 n, .slice (some ⟨b, o, none⟩) x.length cap] 31)).alloc (.cells #[] 3)) (w.heap.size + 1) (.slice (some ⟨w.heap.size + 1, 0, none⟩) 0 0) [] := by
      have := Own.lit0 (w.alloc (.cells #[.int .i64 n, .slice (some ⟨b, o, none⟩) x.length cap] 31)) (B := w.heap.size + 1) (by simp)
      simpa using this
    have hz0 : Below (w.heap.size + 1) (w.alloc (.cells #[.int .i64 n, .slice (some ⟨b, o, none⟩) x.length cap] 31)) ((w.alloc (.cells #[.int .i64 n, .slice (some ⟨b, o, none⟩) x.length cap] 31)).alloc (.cells #[] 3)) := (Below.refl _ _).alloc (by simp) _
    go_loopw [3, 11] (fun u i wr => ∃ k : Nat, k ≤ x.length ∧ i = .int .i64 k ∧ (∃ a' c', u = .slice a' k c' ∧ Own wr (w.heap.size + 1) (.slice a' k c') (stTo n x k)) ∧ Below (w.heap.size + 1) (w.alloc (.cells #[.int .i64 n, .slice (some ⟨b, o, none⟩) x.length cap] 31)) wr) (fun _ i _ => x.length - (intOf i).toNat)
    case atStart => exact ⟨0, Nat.zero_le _, rfl, ⟨_, 0, rfl, h0⟩, hz0⟩
    case round =>
      obtain ⟨k, hk, rfl, ⟨a', c', rfl, hown⟩, hbel⟩ := hrel
      clear h0 hz0
      have q0 : wr.cell? ⟨w.heap.size, 0, none⟩ = some (.int .i64 n) := ((bcell hbel).1 _ _ (by omega)).trans (cellNew _ _ _ 0 rfl)
      have q1 : wr.cell? ⟨w.heap.size, 1, none⟩ = some (.slice (some ⟨b, o, none⟩) x.length cap) := ((bcell hbel).1 _ _ (by omega)).trans (cellNew _ _ _ 1 rfl)
      have hcr : ∀ i, i < x.length → wr.cell? ⟨b, o + i, none⟩ = some (.int .i64 (x.getD i 0)) := fun i hi => ((bcell hbel).1 _ _ (by omega)).trans (cellAlloc _ (hc i hi))
      have hz : w.heap.size + 1 ≤ wr.heap.size := by have := hbel.size; simpa using this
      by_cases hlt : k < x.length
      · have hc1 := hcr k hlt
        have hat := hR.at_ hlt
        have hst := stAt_bd hR hlt
        rw [getD_get hlt] at hat
        have hc0 := hcr 0 hpos
        rw [Nat.add_zero, getD_get hpos] at hc0
        have hat0 := hR.at_ hpos
        rw [getD_get hpos] at hat0
        have hp1 : (0 : Int) < (x.length : Int) := by omega
        have hw1 : IntKind.i64.wrap (x[0] + n) = x[0] + n := IntWalk.i64_in _ (by omega)
        have HO := Lib.hid hown
        have HB := Lib.hid hbel
        have Hs := Lib.hid (stTo_succ n x k)
        by_cases hl : k + 1 < x.length
        · have hc2 := hcr (k + 1) hl
          have hat2 := hR.at_ hl
          rw [getD_get hl] at hat2
          have he := stAt_in (n := n) hl
          rw [getD_get hl, getD_get hlt] at he
          have He := Lib.hid he
          have hl' : (k : Int) + 1 < (x.length : Int) := by omega
          clear hown hbel hcr he
          go_wp2_with fail
          go_quiet (fail)
          clear hw1
          go_wp2_with (at_builtin; refine wpAppInt (wr := wr.drewN nq) rfl _ _ rfl (w.heap.size + 1) a' k c' (stTo n x k) _ rfl rfl HO.out (stTo_len _ _ _) (by omega) (by simp; omega) ?_; intro a1 c1 w1 ho1 hbx)
          have ho2 := ho1
          rw [← He.out, ← Hs.out] at ho2
          have HO2 := Lib.hid ho2
          have HB2 := Lib.hid ((bel_drewN HB.out nq).trans hbx)
          clear ho1 ho2 hbx
          go_roundw
          case rel => exact ⟨k + 1, by omega, by go_num, ⟨a1, c1, rfl, HO2.out⟩, HB2.out⟩
          case measure => simp [intOf]; omega
        · have he := stAt_last (n := n) hl
          rw [getD_get hpos, getD_get hlt] at he
          have He : Hid (stAt n x k = x[0] + n - x[k]) := by unfold Hid; rw [he]; omega
          have hst2 : 1 ≤ x[0] + n - x[k] ∧ x[0] + n - x[k] ≤ n := by omega
          have hl' : ¬ (k : Int) + 1 < (x.length : Int) := by omega
          clear hown hbel hcr he
          go_wp2_with fail
          go_quiet (fail)
          clear hw1
          go_wp2_with (at_builtin; refine wpAppInt (wr := wr.drewN nq) rfl _ _ rfl (w.heap.size + 1) a' k c' (stTo n x k) _ rfl rfl HO.out (stTo_len _ _ _) (by omega) (by simp; omega) ?_; intro a1 c1 w1 ho1 hbx)
          have ho2 := ho1
          rw [← He.out, ← Hs.out] at ho2
          have HO2 := Lib.hid ho2
          have HB2 := Lib.hid ((bel_drewN HB.out nq).trans hbx)
          clear ho1 ho2 hbx
          go_roundw
          case rel => exact ⟨k + 1, by omega, by go_num, ⟨a1, c1, rfl, HO2.out⟩, HB2.out⟩
          case measure => simp [intOf]; omega
      · have e : k = x.length := by omega
        subst e
        have HO := Lib.hid hown
        have HB := Lib.hid hbel
        clear hown hbel hcr
        go_wp2
        go_ret
        exact .mk rfl (HO.out.mono (by omega)) (((Below.refl _ _).alloc (Nat.le_refl _) _).trans (HB.out.mono (by omega)))
end Go.Proofs.YtcgpmdfcdngnlaaDoor
