/-
  Contracts of the numbers of differences of a rhythm, in the program and in the reference.
  Conditions: the rhythm's beats lie in memory.
-/
import Derived.Test.YtopfenhphnmfkaaE2
import Derived.Test.YtopfenhphnmfkaaM6
set_option linter.unusedVariables false
set_option linter.unusedSimpArgs false
namespace Go.Proofs.Ytopfenhphnmfkaa
open Go.RowKit

set_option maxHeartbeats 800000 in
theorem implDifferences (n : Int) (v : Value) (x : List Int) (w : World) (hR : Rok n x) (h : Ints w w.heap.size v x) :
    Calls Try.prog 94 #[.agg #[.int .i64 n, v]] w (RetOwn w (difOut n x x.length)) := by
  have hlo := hR.lo
  have hhi := hR.hi
  have hlen := hR.len24
  obtain ⟨N, hN⟩ : ∃ N : Nat, n = (N : Int) := ⟨n.toNat, by omega⟩
  subst hN
  have hNt : ((N : Int)).toNat = N := by simp
  rcases h.open with ⟨rfl, a, cap, rfl⟩ | ⟨b, o, cap, rfl, hm, hpos, hB, hb, hc⟩
  · go_enter Try.func94, Try.ntmps94
    go_wp2_with (refine wpMakeInt rfl _ _ rfl (w.heap.size + 1) N rfl rfl (by omega) (by simp) ?_; intro w1 hown hbel hsz; have q0 : w1.cell? ⟨w.heap.size, 0, none⟩ = some (.int .i64 (N : Int)) := ((bcell hbel).1 _ _ (by omega)).trans (cellNew _ _ _ 0 rfl); have q1 : w1.cell? ⟨w.heap.size, 1, none⟩ = some (.slice a 0 cap) := ((bcell hbel).1 _ _ (by omega)).trans (cellNew _ _ _ 1 rfl); have HO := Lib.hid hown; have HB := Lib.hid hbel; clear hown hbel)
    refine wp_loop_rounds 1 ?_; rw [rounds_succ]
    go_wp2
    go_ret
    refine RetOwn.mk rfl ?_ (((Below.refl _ _).alloc (Nat.le_refl _) _).trans (HB.out.mono (by omega)))
    have := HO.out.mono (show w.heap.size ≤ w.heap.size + 1 by omega)
    simpa [difOut] using this
  · go_enter Try.func94, Try.ntmps94
    go_wp2_with (refine wpMakeInt rfl _ _ rfl (w.heap.size + 1) N rfl rfl (by omega) (by simp) ?_; intro w1 hown hbel hsz; have q0 : w1.cell? ⟨w.heap.size, 0, none⟩ = some (.int .i64 (N : Int)) := ((bcell hbel).1 _ _ (by omega)).trans (cellNew _ _ _ 0 rfl); have q1 : w1.cell? ⟨w.heap.size, 1, none⟩ = some (.slice (some ⟨b, o, none⟩) x.length cap) := ((bcell hbel).1 _ _ (by omega)).trans (cellNew _ _ _ 1 rfl); have HO := Lib.hid hown; have HB := Lib.hid hbel; clear hown hbel)
    go_loopw [14] (fun i wr => ∃ k : Nat, k ≤ x.length ∧ i = .int .i64 k ∧ Own wr (w.heap.size + 1) (.slice (some ⟨w.heap.size + 1, 0, none⟩) N N) (difOut N x k) ∧ Below (w.heap.size + 1) (w.alloc (.cells #[.int .i64 (N : Int), .slice (some ⟨b, o, none⟩) x.length cap] 25)) wr) (fun i _ => x.length - (intOf i).toNat)
    case atStart => exact ⟨0, Nat.zero_le _, rfl, by rw [difOut_zero, hNt]; simpa using HO.out, HB.out⟩
    case round =>
      obtain ⟨k, hk, rfl, hown, hbel⟩ := hrel
      clear q0 q1 hsz
      have q0 : wr.cell? ⟨w.heap.size, 0, none⟩ = some (.int .i64 (N : Int)) := ((bcell hbel).1 _ _ (by omega)).trans (cellNew _ _ _ 0 rfl)
      have q1 : wr.cell? ⟨w.heap.size, 1, none⟩ = some (.slice (some ⟨b, o, none⟩) x.length cap) := ((bcell hbel).1 _ _ (by omega)).trans (cellNew _ _ _ 1 rfl)
      have HO2 := Lib.hid hown
      have HB2 := Lib.hid hbel
      by_cases hlt : k < x.length
      · have hc1 : wr.cell? ⟨b, o + k, none⟩ = some (.int .i64 (x.getD k 0)) := ((bcell hbel).1 _ _ (by omega)).trans (cellAlloc _ (hc k hlt))
        clear hown hbel
        have hat := hR.at_ hlt
        rw [getD_get hlt] at hat
        have Hsucc := Lib.hid (difOut_succ N x k)
        go_wp2_with fail
        obtain ⟨wo, hwo⟩ : ∃ wo : World, wo = wr := ⟨_, rfl⟩
        go_loopw [21] (fun i wr => ∃ j : Nat, j ≤ x.length ∧ i = .int .i64 j ∧ Own wr (w.heap.size + 1) (.slice (some ⟨w.heap.size + 1, 0, none⟩) N N) (difIn N x[k] (difOut N x k) (x.take j)) ∧ Below (w.heap.size + 1) (w.alloc (.cells #[.int .i64 (N : Int), .slice (some ⟨b, o, none⟩) x.length cap] 25)) wr) (fun i _ => x.length - (intOf i).toNat)
        case atStart => exact ⟨0, Nat.zero_le _, rfl, HO2.out, HB2.out⟩
        case round =>
          obtain ⟨j, hj, rfl, hown, hbel⟩ := hrel
          clear q0 q1 hc1 hwo
          have q0 : wr.cell? ⟨w.heap.size, 0, none⟩ = some (.int .i64 (N : Int)) := ((bcell hbel).1 _ _ (by omega)).trans (cellNew _ _ _ 0 rfl)
          have q1 : wr.cell? ⟨w.heap.size, 1, none⟩ = some (.slice (some ⟨b, o, none⟩) x.length cap) := ((bcell hbel).1 _ _ (by omega)).trans (cellNew _ _ _ 1 rfl)
          by_cases hjt : j < x.length
          · have hc2 : wr.cell? ⟨b, o + j, none⟩ = some (.int .i64 (x.getD j 0)) := ((bcell hbel).1 _ _ (by omega)).trans (cellAlloc _ (hc j hjt))
            have haj := hR.at_ hjt
            rw [getD_get hjt] at haj
            have hbd := dif_bd (n := (N : Int)) hlen (Nat.le_of_lt hlt) j
            rw [getD_get hlt] at hbd
            have hll : (difIn (N : Int) x[k] (difOut N x k) (x.take j)).length = N := by rw [difIn_len, difOut_len, hNt]
            obtain ⟨r, hr⟩ : ∃ r : Nat, mo (x[k] - x[j]) (N : Int) = (r : Int) := ⟨(mo (x[k] - x[j]) (N : Int)).toNat, by have := mo_ge (k := x[k] - x[j]) hlo; omega⟩
            have hrN : r < N := by have := mo_lt (k := x[k] - x[j]) hlo; omega
            have hcs := hown.cell (k := r) (by rw [hll]; exact hrN)
            have hcf := hown.free r
            have hge := hbd.get (i := r) (by rw [hll]; exact hrN)
            have Hnext : Hid (difIn (N : Int) x[k] (difOut N x k) (x.take (j + 1)) = (difIn (N : Int) x[k] (difOut N x k) (x.take j)).set r ((difIn (N : Int) x[k] (difOut N x k) (x.take j)).getD r 0 + 1)) := by
              unfold Hid
              rw [take_snoc hjt, difIn_snoc, getD_get hjt, hr, Int.toNat_natCast]; rfl
            obtain ⟨L, hL⟩ : ∃ L, L = difIn (N : Int) x[k] (difOut N x k) (x.take j) := ⟨_, rfl⟩
            rw [← hL] at hown hcs hge hll Hnext
            have hrL : r < L.length := by omega
            rw [getD_get hrL] at hcs hge Hnext
            have HR : Hid (Own (wr.setCell ⟨w.heap.size + 1, r, none⟩ (.int .i64 (L[r] + 1))) (w.heap.size + 1) (.slice (some ⟨w.heap.size + 1, 0, none⟩) N N) (difIn N x[k] (difOut N x k) (x.take (j + 1)))) := by
              unfold Hid; rw [Hnext.out]; exact hown.store _ r _
            have HB3 : Hid (Below (w.heap.size + 1) (w.alloc (.cells #[.int .i64 (N : Int), .slice (some ⟨b, o, none⟩) x.length cap] 25)) (wr.setCell ⟨w.heap.size + 1, r, none⟩ (.int .i64 (L[r] + 1)))) := hbel.setCell (Nat.le_refl _) _
            have Hr := Lib.hid hr
            have HL := Lib.hid hll
            clear hown hbel hbd hll hL hr
            go_wp2_with (go_at_call 91; refine (implRemainder _ _ _ hlo (by omega) ⟨by omega, by omega⟩).mono ?_; rintro e w' ⟨rfl, rfl⟩; rw [Hr.out])
            go_roundw
            case rel => exact ⟨j + 1, by omega, by go_num, HR.out, HB3.out⟩
            case measure => simp [intOf]; omega
          · have e : j = x.length := by omega
            subst e
            rw [List.take_length, ← getD_get hlt, ← Hsucc.out] at hown
            have HO4 := Lib.hid hown
            have HB4 := Lib.hid hbel
            clear hown hbel
            go_wp2_with fail
            go_roundw
            case rel => exact ⟨k + 1, by omega, by go_num, HO4.out, HB4.out⟩
            case measure => simp [intOf]; omega
      · have e : k = x.length := by omega
        subst e
        clear hown hbel
        go_wp2
        go_ret
        exact .mk rfl (HO2.out.mono (by omega)) (((Below.refl _ _).alloc (Nat.le_refl _) _).trans (HB2.out.mono (by omega)))

set_option maxHeartbeats 800000 in
theorem specL05Differences (n : Int) (v : Value) (x : List Int) (w : World) (hR : Rok n x) (h : Ints w w.heap.size v x) :
    Calls Try.prog 123 #[.agg #[.int .i64 n, v]] w (RetOwn w (difOut n x x.length)) := by
  have hlo := hR.lo
  have hhi := hR.hi
  have hlen := hR.len24
  obtain ⟨N, hN⟩ : ∃ N : Nat, n = (N : Int) := ⟨n.toNat, by omega⟩
  subst hN
  have hNt : ((N : Int)).toNat = N := by simp
  rcases h.open with ⟨rfl, a, cap, rfl⟩ | ⟨b, o, cap, rfl, hm, hpos, hB, hb, hc⟩
  · go_enter Try.func123, Try.ntmps123
    go_wp2_with (refine wpMakeInt rfl _ _ rfl (w.heap.size + 1) N rfl rfl (by omega) (by simp) ?_; intro w1 hown hbel hsz; have q0 : w1.cell? ⟨w.heap.size, 0, none⟩ = some (.int .i64 (N : Int)) := ((bcell hbel).1 _ _ (by omega)).trans (cellNew _ _ _ 0 rfl); have q1 : w1.cell? ⟨w.heap.size, 1, none⟩ = some (.slice a 0 cap) := ((bcell hbel).1 _ _ (by omega)).trans (cellNew _ _ _ 1 rfl); have HO := Lib.hid hown; have HB := Lib.hid hbel; clear hown hbel)
    refine wp_loop_rounds 1 ?_; rw [rounds_succ]
    go_wp2
    go_ret
    refine RetOwn.mk rfl ?_ (((Below.refl _ _).alloc (Nat.le_refl _) _).trans (HB.out.mono (by omega)))
    have := HO.out.mono (show w.heap.size ≤ w.heap.size + 1 by omega)
    simpa [difOut] using this
  · go_enter Try.func123, Try.ntmps123
    go_wp2_with (refine wpMakeInt rfl _ _ rfl (w.heap.size + 1) N rfl rfl (by omega) (by simp) ?_; intro w1 hown hbel hsz; have q0 : w1.cell? ⟨w.heap.size, 0, none⟩ = some (.int .i64 (N : Int)) := ((bcell hbel).1 _ _ (by omega)).trans (cellNew _ _ _ 0 rfl); have q1 : w1.cell? ⟨w.heap.size, 1, none⟩ = some (.slice (some ⟨b, o, none⟩) x.length cap) := ((bcell hbel).1 _ _ (by omega)).trans (cellNew _ _ _ 1 rfl); have HO := Lib.hid hown; have HB := Lib.hid hbel; clear hown hbel)
    go_loopw [14] (fun i wr => ∃ k : Nat, k ≤ x.length ∧ i = .int .i64 k ∧ Own wr (w.heap.size + 1) (.slice (some ⟨w.heap.size + 1, 0, none⟩) N N) (difOut N x k) ∧ Below (w.heap.size + 1) (w.alloc (.cells #[.int .i64 (N : Int), .slice (some ⟨b, o, none⟩) x.length cap] 25)) wr) (fun i _ => x.length - (intOf i).toNat)
    case atStart => exact ⟨0, Nat.zero_le _, rfl, by rw [difOut_zero, hNt]; simpa using HO.out, HB.out⟩
    case round =>
      obtain ⟨k, hk, rfl, hown, hbel⟩ := hrel
      clear q0 q1 hsz
      have q0 : wr.cell? ⟨w.heap.size, 0, none⟩ = some (.int .i64 (N : Int)) := ((bcell hbel).1 _ _ (by omega)).trans (cellNew _ _ _ 0 rfl)
      have q1 : wr.cell? ⟨w.heap.size, 1, none⟩ = some (.slice (some ⟨b, o, none⟩) x.length cap) := ((bcell hbel).1 _ _ (by omega)).trans (cellNew _ _ _ 1 rfl)
      have HO2 := Lib.hid hown
      have HB2 := Lib.hid hbel
      by_cases hlt : k < x.length
      · have hc1 : wr.cell? ⟨b, o + k, none⟩ = some (.int .i64 (x.getD k 0)) := ((bcell hbel).1 _ _ (by omega)).trans (cellAlloc _ (hc k hlt))
        clear hown hbel
        have hat := hR.at_ hlt
        rw [getD_get hlt] at hat
        have Hsucc := Lib.hid (difOut_succ N x k)
        go_wp2_with fail
        obtain ⟨wo, hwo⟩ : ∃ wo : World, wo = wr := ⟨_, rfl⟩
        go_loopw [21] (fun i wr => ∃ j : Nat, j ≤ x.length ∧ i = .int .i64 j ∧ Own wr (w.heap.size + 1) (.slice (some ⟨w.heap.size + 1, 0, none⟩) N N) (difIn N x[k] (difOut N x k) (x.take j)) ∧ Below (w.heap.size + 1) (w.alloc (.cells #[.int .i64 (N : Int), .slice (some ⟨b, o, none⟩) x.length cap] 25)) wr) (fun i _ => x.length - (intOf i).toNat)
        case atStart => exact ⟨0, Nat.zero_le _, rfl, HO2.out, HB2.out⟩
        case round =>
          obtain ⟨j, hj, rfl, hown, hbel⟩ := hrel
          clear q0 q1 hc1 hwo
          have q0 : wr.cell? ⟨w.heap.size, 0, none⟩ = some (.int .i64 (N : Int)) := ((bcell hbel).1 _ _ (by omega)).trans (cellNew _ _ _ 0 rfl)
          have q1 : wr.cell? ⟨w.heap.size, 1, none⟩ = some (.slice (some ⟨b, o, none⟩) x.length cap) := ((bcell hbel).1 _ _ (by omega)).trans (cellNew _ _ _ 1 rfl)
          by_cases hjt : j < x.length
          · have hc2 : wr.cell? ⟨b, o + j, none⟩ = some (.int .i64 (x.getD j 0)) := ((bcell hbel).1 _ _ (by omega)).trans (cellAlloc _ (hc j hjt))
            have haj := hR.at_ hjt
            rw [getD_get hjt] at haj
            have hbd := dif_bd (n := (N : Int)) hlen (Nat.le_of_lt hlt) j
            rw [getD_get hlt] at hbd
            have hll : (difIn (N : Int) x[k] (difOut N x k) (x.take j)).length = N := by rw [difIn_len, difOut_len, hNt]
            obtain ⟨r, hr⟩ : ∃ r : Nat, mo (x[k] - x[j]) (N : Int) = (r : Int) := ⟨(mo (x[k] - x[j]) (N : Int)).toNat, by have := mo_ge (k := x[k] - x[j]) hlo; omega⟩
            have hrN : r < N := by have := mo_lt (k := x[k] - x[j]) hlo; omega
            have hcs := hown.cell (k := r) (by rw [hll]; exact hrN)
            have hcf := hown.free r
            have hge := hbd.get (i := r) (by rw [hll]; exact hrN)
            have Hnext : Hid (difIn (N : Int) x[k] (difOut N x k) (x.take (j + 1)) = (difIn (N : Int) x[k] (difOut N x k) (x.take j)).set r ((difIn (N : Int) x[k] (difOut N x k) (x.take j)).getD r 0 + 1)) := by
              unfold Hid
              rw [take_snoc hjt, difIn_snoc, getD_get hjt, hr, Int.toNat_natCast]; rfl
            obtain ⟨L, hL⟩ : ∃ L, L = difIn (N : Int) x[k] (difOut N x k) (x.take j) := ⟨_, rfl⟩
            rw [← hL] at hown hcs hge hll Hnext
            have hrL : r < L.length := by omega
            rw [getD_get hrL] at hcs hge Hnext
            have HR : Hid (Own (wr.setCell ⟨w.heap.size + 1, r, none⟩ (.int .i64 (L[r] + 1))) (w.heap.size + 1) (.slice (some ⟨w.heap.size + 1, 0, none⟩) N N) (difIn N x[k] (difOut N x k) (x.take (j + 1)))) := by
              unfold Hid; rw [Hnext.out]; exact hown.store _ r _
            have HB3 : Hid (Below (w.heap.size + 1) (w.alloc (.cells #[.int .i64 (N : Int), .slice (some ⟨b, o, none⟩) x.length cap] 25)) (wr.setCell ⟨w.heap.size + 1, r, none⟩ (.int .i64 (L[r] + 1)))) := hbel.setCell (Nat.le_refl _) _
            have Hr := Lib.hid hr
            have HL := Lib.hid hll
            clear hown hbel hbd hll hL hr
            go_wp2_with (go_at_call 108; refine (specL02Mod _ _ _ hlo (by omega) ⟨by omega, by omega⟩).mono ?_; rintro e w' ⟨rfl, rfl⟩; rw [Hr.out])
            go_roundw
            case rel => exact ⟨j + 1, by omega, by go_num, HR.out, HB3.out⟩
            case measure => simp [intOf]; omega
          · have e : j = x.length := by omega
            subst e
            rw [List.take_length, ← getD_get hlt, ← Hsucc.out] at hown
            have HO4 := Lib.hid hown
            have HB4 := Lib.hid hbel
            clear hown hbel
            go_wp2_with fail
            go_roundw
            case rel => exact ⟨k + 1, by omega, by go_num, HO4.out, HB4.out⟩
            case measure => simp [intOf]; omega
      · have e : k = x.length := by omega
        subst e
        clear hown hbel
        go_wp2
        go_ret
        exact .mk rfl (HO2.out.mono (by omega)) (((Below.refl _ _).alloc (Nat.le_refl _) _).trans (HB2.out.mono (by omega)))


end Go.Proofs.Ytopfenhphnmfkaa
