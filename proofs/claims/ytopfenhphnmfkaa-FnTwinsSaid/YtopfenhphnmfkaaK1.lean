/-
  Contracts of the vector's functions and of the interval between two pulses. Conditions: the beats lie in memory.
-/
import Derived.Test.YtopfenhphnmfkaaE2
import Derived.Test.YtopfenhphnmfkaaM6
import Derived.Test.YtopfenhphnmfkaaB0
import Derived.Test.YtopfenhphnmfkaaM10
import Derived.Deep.RegionHeld3
import Derived.Deep.RegionWith
import Derived.Test.YtopfenhphnmfkaaM3
import Derived.Test.YtopfenhphnmfkaaM5
import Derived.Deep.RegionLaw
set_option linter.unusedVariables false
set_option linter.unusedSimpArgs false
namespace Go.Proofs.Ytopfenhphnmfkaa
open Go.RowKit

set_option maxHeartbeats 800000 in
theorem implDifferences (n : Int) (v : Value) (x : List Int) (w : World) (hR : Rok n x) (h : Ints w w.heap.size v x) :
    Calls Try.prog 94 #[.agg #[.int .i64 n, v]] w (RetOwn w (difOut n x x.length)) := by
  have hlo := hR.lo
  have hhi := hR.hi
  have hlen := hR.len24
  obtain ⟨N, hN⟩ : ∃ N : Nat, n = (N : Int) := ⟨n.toNat, by omega⟩
  subst hN
  have hNt : ((N : Int)).toNat = N := by simp
  rcases h.open with ⟨rfl, a, cap, rfl⟩ | ⟨b, o, cap, rfl, hm, hpos, hB, hb, hc⟩
  · go_enter Try.func94, Try.ntmps94
    go_wp2_with (refine wpMakeInt rfl _ _ rfl (w.heap.size + 1) N rfl rfl (by omega) (by simp) ?_; intro w1 hown hbel hsz; have q0 : w1.cell? ⟨w.heap.size, 0, none⟩ = some (.int .i64 (N : Int)) := ((bcell hbel).1 _ _ (by omega)).trans (cellNew _ _ _ 0 rfl); have q1 : w1.cell? ⟨w.heap.size, 1, none⟩ = some (.slice a 0 cap) := ((bcell hbel).1 _ _ (by omega)).trans (cellNew _ _ _ 1 rfl); have HO := Lib.hid hown; have HB := Lib.hid hbel; clear hown hbel)
    refine wp_loop_rounds 1 ?_; rw [rounds_succ]
    go_wp2
    go_ret
    refine RetOwn.mk rfl ?_ (((Below.refl _ _).alloc (Nat.le_refl _) _).trans (HB.out.mono (by omega)))
    have := HO.out.mono (show w.heap.size ≤ w.heap.size + 1 by omega)
    simpa [difOut] using this
  · go_enter Try.func94, Try.ntmps94
    go_wp2_with (refine wpMakeInt rfl _ _ rfl (w.heap.size + 1) N rfl rfl (by omega) (by simp) ?_; intro w1 hown hbel hsz; have q0 : w1.cell? ⟨w.heap.size, 0, none⟩ = some (.int .i64 (N : Int)) := ((bcell hbel).1 _ _ (by omega)).trans (cellNew _ _ _ 0 rfl); have q1 : w1.cell? ⟨w.heap.size, 1, none⟩ = some (.slice (some ⟨b, o, none⟩) x.length cap) := ((bcell hbel).1 _ _ (by omega)).trans (cellNew _ _ _ 1 rfl); have HO := Lib.hid hown; have HB := Lib.hid hbel; clear hown hbel)
    go_loopw [14] (fun i wr => ∃ k : Nat, k ≤ x.length ∧ i = .int .i64 k ∧ Own wr (w.heap.size + 1) (.slice (some ⟨w.heap.size + 1, 0, none⟩) N N) (difOut N x k) ∧ Below (w.heap.size + 1) (w.alloc (.cells #[.int .i64 (N : Int), .slice (some ⟨b, o, none⟩) x.length cap] 25)) wr) (fun i _ => x.length - (intOf i).toNat)
    case atStart => exact ⟨0, Nat.zero_le _, rfl, by rw [difOut_zero, hNt]; simpa using HO.out, HB.out⟩
    case round =>
      obtain ⟨k, hk, rfl, hown, hbel⟩ := hrel
      clear q0 q1 hsz
      have q0 : wr.cell? ⟨w.heap.size, 0, none⟩ = some (.int .i64 (N : Int)) := ((bcell hbel).1 _ _ (by omega)).trans (cellNew _ _ _ 0 rfl)
      have q1 : wr.cell? ⟨w.heap.size, 1, none⟩ = some (.slice (some ⟨b, o, none⟩) x.length cap) := ((bcell hbel).1 _ _ (by omega)).trans (cellNew _ _ _ 1 rfl)
      have HO2 := Lib.hid hown
      have HB2 := Lib.hid hbel
      by_cases hlt : k < x.length
      · have hc1 : wr.cell? ⟨b, o + k, none⟩ = some (.int .i64 (x.getD k 0)) := ((bcell hbel).1 _ _ (by omega)).trans (cellAlloc _ (hc k hlt))
        clear hown hbel
        have hat := hR.at_ hlt
        rw [getD_get hlt] at hat
        have Hsucc := Lib.hid (difOut_succ N x k)
        go_wp2_with fail
        obtain ⟨wo, hwo⟩ : ∃ wo : World, wo = wr := ⟨_, rfl⟩
        go_loopw [21] (fun i wr => ∃ j : Nat, j ≤ x.length ∧ i = .int .i64 j ∧ Own wr (w.heap.size + 1) (.slice (some ⟨w.heap.size + 1, 0, none⟩) N N) (difIn N x[k] (difOut N x k) (x.take j)) ∧ Below (w.heap.size + 1) (w.alloc (.cells #[.int .i64 (N : Int), .slice (some ⟨b, o, none⟩) x.length cap] 25)) wr) (fun i _ => x.length - (intOf i).toNat)
        case atStart => exact ⟨0, Nat.zero_le _, rfl, HO2.out, HB2.out⟩
        case round =>
          obtain ⟨j, hj, rfl, hown, hbel⟩ := hrel
          clear q0 q1 hc1 hwo
          have q0 : wr.cell? ⟨w.heap.size, 0, none⟩ = some (.int .i64 (N : Int)) := ((bcell hbel).1 _ _ (by omega)).trans (cellNew _ _ _ 0 rfl)
          have q1 : wr.cell? ⟨w.heap.size, 1, none⟩ = some (.slice (some ⟨b, o, none⟩) x.length cap) := ((bcell hbel).1 _ _ (by omega)).trans (cellNew _ _ _ 1 rfl)
          by_cases hjt : j < x.length
          · have hc2 : wr.cell? ⟨b, o + j, none⟩ = some (.int .i64 (x.getD j 0)) := ((bcell hbel).1 _ _ (by omega)).trans (cellAlloc _ (hc j hjt))
            have haj := hR.at_ hjt
            rw [getD_get hjt] at haj
            have hbd := dif_bd (n := (N : Int)) hlen (Nat.le_of_lt hlt) j
            rw [getD_get hlt] at hbd
            have hll : (difIn (N : Int) x[k] (difOut N x k) (x.take j)).length = N := by rw [difIn_len, difOut_len, hNt]
            obtain ⟨r, hr⟩ : ∃ r : Nat, mo (x[k] - x[j]) (N : Int) = (r : Int) := ⟨(mo (x[k] - x[j]) (N : Int)).toNat, by have := mo_ge (k := x[k] - x[j]) hlo; omega⟩
            have hrN : r < N := by have := mo_lt (k := x[k] - x[j]) hlo; omega
            have hcs := hown.cell (k := r) (by rw [hll]; exact hrN)
            have hcf := hown.free r
            have hge := hbd.get (i := r) (by rw [hll]; exact hrN)
            have Hnext : Hid (difIn (N : Int) x[k] (difOut N x k) (x.take (j + 1)) = (difIn (N : Int) x[k] (difOut N x k) (x.take j)).set r ((difIn (N : Int) x[k] (difOut N x k) (x.take j)).getD r 0 + 1)) := by
              unfold Hid
              rw [take_snoc hjt, difIn_snoc, getD_get hjt, hr, Int.toNat_natCast]; rfl
            obtain ⟨L, hL⟩ : ∃ L, L = difIn (N : Int) x[k] (difOut N x k) (x.take j) := ⟨_, rfl⟩
            rw [← hL] at hown hcs hge hll Hnext
            have hrL : r < L.length := by omega
            rw [getD_get hrL] at hcs hge Hnext
            have HR : Hid (Own (wr.setCell ⟨w.heap.size + 1, r, none⟩ (.int .i64 (L[r] + 1))) (w.heap.size + 1) (.slice (some ⟨w.heap.size + 1, 0, none⟩) N N) (difIn N x[k] (difOut N x k) (x.take (j + 1)))) := by
              unfold Hid; rw [Hnext.out]; exact hown.store _ r _
            have HB3 : Hid (Below (w.heap.size + 1) (w.alloc (.cells #[.int .i64 (N : Int), .slice (some ⟨b, o, none⟩) x.length cap] 25)) (wr.setCell ⟨w.heap.size + 1, r, none⟩ (.int .i64 (L[r] + 1)))) := hbel.setCell (Nat.le_refl _) _
            have Hr := Lib.hid hr
            have HL := Lib.hid hll
            clear hown hbel hbd hll hL hr
            go_wp2_with (go_at_call 91; refine (implRemainder _ _ _ hlo (by omega) ⟨by omega, by omega⟩).mono ?_; rintro e w' ⟨rfl, rfl⟩; rw [Hr.out])
            go_roundw
            case rel => exact ⟨j + 1, by omega, by go_num, HR.out, HB3.out⟩
            case measure => simp [intOf]; omega
          · have e : j = x.length := by omega
            subst e
            rw [List.take_length, ← getD_get hlt, ← Hsucc.out] at hown
            have HO4 := Lib.hid hown
            have HB4 := Lib.hid hbel
            clear hown hbel
            go_wp2_with fail
            go_roundw
            case rel => exact ⟨k + 1, by omega, by go_num, HO4.out, HB4.out⟩
            case measure => simp [intOf]; omega
      · have e : k = x.length := by omega
        subst e
        clear hown hbel
        go_wp2
        go_ret
        exact .mk rfl (HO2.out.mono (by omega)) (((Below.refl _ _).alloc (Nat.le_refl _) _).trans (HB2.out.mono (by omega)))

set_option maxHeartbeats 800000 in
theorem specL05Differences (n : Int) (v : Value) (x : List Int) (w : World) (hR : Rok n x) (h : Ints w w.heap.size v x) :
    Calls Try.prog 123 #[.agg #[.int .i64 n, v]] w (RetOwn w (difOut n x x.length)) := by
  have hlo := hR.lo
  have hhi := hR.hi
  have hlen := hR.len24
  obtain ⟨N, hN⟩ : ∃ N : Nat, n = (N : Int) := ⟨n.toNat, by omega⟩
  subst hN
  have hNt : ((N : Int)).toNat = N := by simp
  rcases h.open with ⟨rfl, a, cap, rfl⟩ | ⟨b, o, cap, rfl, hm, hpos, hB, hb, hc⟩
  · go_enter Try.func123, Try.ntmps123
    go_wp2_with (refine wpMakeInt rfl _ _ rfl (w.heap.size + 1) N rfl rfl (by omega) (by simp) ?_; intro w1 hown hbel hsz; have q0 : w1.cell? ⟨w.heap.size, 0, none⟩ = some (.int .i64 (N : Int)) := ((bcell hbel).1 _ _ (by omega)).trans (cellNew _ _ _ 0 rfl); have q1 : w1.cell? ⟨w.heap.size, 1, none⟩ = some (.slice a 0 cap) := ((bcell hbel).1 _ _ (by omega)).trans (cellNew _ _ _ 1 rfl); have HO := Lib.hid hown; have HB := Lib.hid hbel; clear hown hbel)
    refine wp_loop_rounds 1 ?_; rw [rounds_succ]
    go_wp2
    go_ret
    refine RetOwn.mk rfl ?_ (((Below.refl _ _).alloc (Nat.le_refl _) _).trans (HB.out.mono (by omega)))
    have := HO.out.mono (show w.heap.size ≤ w.heap.size + 1 by omega)
    simpa [difOut] using this
  · go_enter Try.func123, Try.ntmps123
    go_wp2_with (refine wpMakeInt rfl _ _ rfl (w.heap.size + 1) N rfl rfl (by omega) (by simp) ?_; intro w1 hown hbel hsz; have q0 : w1.cell? ⟨w.heap.size, 0, none⟩ = some (.int .i64 (N : Int)) := ((bcell hbel).1 _ _ (by omega)).trans (cellNew _ _ _ 0 rfl); have q1 : w1.cell? ⟨w.heap.size, 1, none⟩ = some (.slice (some ⟨b, o, none⟩) x.length cap) := ((bcell hbel).1 _ _ (by omega)).trans (cellNew _ _ _ 1 rfl); have HO := Lib.hid hown; have HB := Lib.hid hbel; clear hown hbel)
    go_loopw [14] (fun i wr => ∃ k : Nat, k ≤ x.length ∧ i = .int .i64 k ∧ Own wr (w.heap.size + 1) (.slice (some ⟨w.heap.size + 1, 0, none⟩) N N) (difOut N x k) ∧ Below (w.heap.size + 1) (w.alloc (.cells #[.int .i64 (N : Int), .slice (some ⟨b, o, none⟩) x.length cap] 25)) wr) (fun i _ => x.length - (intOf i).toNat)
    case atStart => exact ⟨0, Nat.zero_le _, rfl, by rw [difOut_zero, hNt]; simpa using HO.out, HB.out⟩
    case round =>
      obtain ⟨k, hk, rfl, hown, hbel⟩ := hrel
      clear q0 q1 hsz
      have q0 : wr.cell? ⟨w.heap.size, 0, none⟩ = some (.int .i64 (N : Int)) := ((bcell hbel).1 _ _ (by omega)).trans (cellNew _ _ _ 0 rfl)
      have q1 : wr.cell? ⟨w.heap.size, 1, none⟩ = some (.slice (some ⟨b, o, none⟩) x.length cap) := ((bcell hbel).1 _ _ (by omega)).trans (cellNew _ _ _ 1 rfl)
      have HO2 := Lib.hid hown
      have HB2 := Lib.hid hbel
      by_cases hlt : k < x.length
      · have hc1 : wr.cell? ⟨b, o + k, none⟩ = some (.int .i64 (x.getD k 0)) := ((bcell hbel).1 _ _ (by omega)).trans (cellAlloc _ (hc k hlt))
        clear hown hbel
        have hat := hR.at_ hlt
        rw [getD_get hlt] at hat
        have Hsucc := Lib.hid (difOut_succ N x k)
        go_wp2_with fail
        obtain ⟨wo, hwo⟩ : ∃ wo : World, wo = wr := ⟨_, rfl⟩
        go_loopw [21] (fun i wr => ∃ j : Nat, j ≤ x.length ∧ i = .int .i64 j ∧ Own wr (w.heap.size + 1) (.slice (some ⟨w.heap.size + 1, 0, none⟩) N N) (difIn N x[k] (difOut N x k) (x.take j)) ∧ Below (w.heap.size + 1) (w.alloc (.cells #[.int .i64 (N : Int), .slice (some ⟨b, o, none⟩) x.length cap] 25)) wr) (fun i _ => x.length - (intOf i).toNat)
        case atStart => exact ⟨0, Nat.zero_le _, rfl, HO2.out, HB2.out⟩
        case round =>
          obtain ⟨j, hj, rfl, hown, hbel⟩ := hrel
          clear q0 q1 hc1 hwo
          have q0 : wr.cell? ⟨w.heap.size, 0, none⟩ = some (.int .i64 (N : Int)) := ((bcell hbel).1 _ _ (by omega)).trans (cellNew _ _ _ 0 rfl)
          have q1 : wr.cell? ⟨w.heap.size, 1, none⟩ = some (.slice (some ⟨b, o, none⟩) x.length cap) := ((bcell hbel).1 _ _ (by omega)).trans (cellNew _ _ _ 1 rfl)
          by_cases hjt : j < x.length
          · have hc2 : wr.cell? ⟨b, o + j, none⟩ = some (.int .i64 (x.getD j 0)) := ((bcell hbel).1 _ _ (by omega)).trans (cellAlloc _ (hc j hjt))
            have haj := hR.at_ hjt
            rw [getD_get hjt] at haj
            have hbd := dif_bd (n := (N : Int)) hlen (Nat.le_of_lt hlt) j
            rw [getD_get hlt] at hbd
            have hll : (difIn (N : Int) x[k] (difOut N x k) (x.take j)).length = N := by rw [difIn_len, difOut_len, hNt]
            obtain ⟨r, hr⟩ : ∃ r : Nat, mo (x[k] - x[j]) (N : Int) = (r : Int) := ⟨(mo (x[k] - x[j]) (N : Int)).toNat, by have := mo_ge (k := x[k] - x[j]) hlo; omega⟩
            have hrN : r < N := by have := mo_lt (k := x[k] - x[j]) hlo; omega
            have hcs := hown.cell (k := r) (by rw [hll]; exact hrN)
            have hcf := hown.free r
            have hge := hbd.get (i := r) (by rw [hll]; exact hrN)
            have Hnext : Hid (difIn (N : Int) x[k] (difOut N x k) (x.take (j + 1)) = (difIn (N : Int) x[k] (difOut N x k) (x.take j)).set r ((difIn (N : Int) x[k] (difOut N x k) (x.take j)).getD r 0 + 1)) := by
              unfold Hid
              rw [take_snoc hjt, difIn_snoc, getD_get hjt, hr, Int.toNat_natCast]; rfl
            obtain ⟨L, hL⟩ : ∃ L, L = difIn (N : Int) x[k] (difOut N x k) (x.take j) := ⟨_, rfl⟩
            rw [← hL] at hown hcs hge hll Hnext
            have hrL : r < L.length := by omega
            rw [getD_get hrL] at hcs hge Hnext
            have HR : Hid (Own (wr.setCell ⟨w.heap.size + 1, r, none⟩ (.int .i64 (L[r] + 1))) (w.heap.size + 1) (.slice (some ⟨w.heap.size + 1, 0, none⟩) N N) (difIn N x[k] (difOut N x k) (x.take (j + 1)))) := by
              unfold Hid; rw [Hnext.out]; exact hown.store _ r _
            have HB3 : Hid (Below (w.heap.size + 1) (w.alloc (.cells #[.int .i64 (N : Int), .slice (some ⟨b, o, none⟩) x.length cap] 25)) (wr.setCell ⟨w.heap.size + 1, r, none⟩ (.int .i64 (L[r] + 1)))) := hbel.setCell (Nat.le_refl _) _
            have Hr := Lib.hid hr
            have HL := Lib.hid hll
            clear hown hbel hbd hll hL hr
            go_wp2_with (go_at_call 108; refine (specL02Mod _ _ _ hlo (by omega) ⟨by omega, by omega⟩).mono ?_; rintro e w' ⟨rfl, rfl⟩; rw [Hr.out])
            go_roundw
            case rel => exact ⟨j + 1, by omega, by go_num, HR.out, HB3.out⟩
            case measure => simp [intOf]; omega
          · have e : j = x.length := by omega
            subst e
            rw [List.take_length, ← getD_get hlt, ← Hsucc.out] at hown
            have HO4 := Lib.hid hown
            have HB4 := Lib.hid hbel
            clear hown hbel
            go_wp2_with fail
            go_roundw
            case rel => exact ⟨k + 1, by omega, by go_num, HO4.out, HB4.out⟩
            case measure => simp [intOf]; omega
      · have e : k = x.length := by omega
        subst e
        clear hown hbel
        go_wp2
        go_ret
        exact .mk rfl (HO2.out.mono (by omega)) (((Below.refl _ _).alloc (Nat.le_refl _) _).trans (HB2.out.mono (by omega)))


end Go.Proofs.Ytopfenhphnmfkaa

namespace Go.Proofs.Ytopfenhphnmfkaa
open Go.RowKit

set_option maxHeartbeats 1600000 in
theorem implVector (n : Int) (v : Value) (x : List Int) (w : World) (hR : Rok n x) (h : Ints w w.heap.size v x) :
    Calls Try.prog 92 #[.agg #[.int .i64 n, v]] w (RetOwn w (vecOut n x x.length)) := by
  have hlo := hR.lo
  have hhi := hR.hi
  have hlen := hR.len24
  obtain ⟨N, hN⟩ : ∃ N : Nat, n = (N : Int) := ⟨n.toNat, by omega⟩
  subst hN
  obtain ⟨M, hM⟩ : ∃ M : Nat, (N : Int) / 2 = (M : Int) := ⟨((N : Int) / 2).toNat, by omega⟩
  have hMt : ((N : Int) / 2).toNat = M := by omega
  have hMd : (N : Int).tdiv 2 = (M : Int) := by rw [Int.tdiv_eq_ediv_of_nonneg (by omega)]; exact hM
  have hcap : ∃ a cap, v = .slice a x.length cap ∧ x.length ≤ cap ∧ cap ≤ 9223372036854775807 := by
    obtain ⟨a, cap, e, h1, h2, -⟩ := h
    exact ⟨a, cap, e, h1, by unfold maxLen at h2; omega⟩
  rcases h.open with ⟨rfl, a, cap, rfl⟩ | ⟨b, o, cap, rfl, hm, hpos, hB, hb, hc⟩
  · clear hcap
    go_enter Try.func92, Try.ntmps92
    go_wp2_with (refine wpMakeInt rfl _ _ rfl (w.heap.size + 1) M rfl rfl (by omega) (by simp) ?_; intro w1 hown hbel hsz; have q0 : w1.cell? ⟨w.heap.size, 0, none⟩ = some (.int .i64 (N : Int)) := ((bcell hbel).1 _ _ (by omega)).trans (cellNew _ _ _ 0 rfl); have q1 : w1.cell? ⟨w.heap.size, 1, none⟩ = some (.slice a 0 cap) := ((bcell hbel).1 _ _ (by omega)).trans (cellNew _ _ _ 1 rfl); have HO := Lib.hid hown; have HB := Lib.hid hbel; clear hown hbel)
    refine wp_loop_rounds 1 ?_; rw [rounds_succ]
    go_wp2
    go_ret
    refine RetOwn.mk rfl ?_ (((Below.refl _ _).alloc (Nat.le_refl _) _).trans (HB.out.mono (by omega)))
    have := HO.out.mono (show w.heap.size ≤ w.heap.size + 1 by omega)
    simpa [vecOut, hMt] using this
  · obtain ⟨a', cap', he, hcap1, hcap2⟩ := hcap
    injection he with he1 he2 he3
    subst he3
    clear he1 he2
    go_enter Try.func92, Try.ntmps92
    go_wp2_with (refine wpMakeInt rfl _ _ rfl (w.heap.size + 1) M rfl rfl (by omega) (by simp) ?_; intro w1 hown hbel hsz; have q0 : w1.cell? ⟨w.heap.size, 0, none⟩ = some (.int .i64 (N : Int)) := ((bcell hbel).1 _ _ (by omega)).trans (cellNew _ _ _ 0 rfl); have q1 : w1.cell? ⟨w.heap.size, 1, none⟩ = some (.slice (some ⟨b, o, none⟩) x.length cap) := ((bcell hbel).1 _ _ (by omega)).trans (cellNew _ _ _ 1 rfl); have HO := Lib.hid hown; have HB := Lib.hid hbel; clear hown hbel)
    go_loopw [15] (fun i wr => ∃ k : Nat, k ≤ x.length ∧ i = .int .i64 k ∧ Own wr (w.heap.size + 1) (.slice (some ⟨w.heap.size + 1, 0, none⟩) M M) (vecOut N x k) ∧ Below (w.heap.size + 1) (w.alloc (.cells #[.int .i64 (N : Int), .slice (some ⟨b, o, none⟩) x.length cap] 25)) wr) (fun i _ => x.length - (intOf i).toNat)
    case atStart => exact ⟨0, Nat.zero_le _, rfl, by rw [vecOut_zero, hMt]; simpa using HO.out, HB.out⟩
    case round =>
      obtain ⟨k, hk, rfl, hown, hbel⟩ := hrel
      clear q0 q1 hsz
      have q0 : wr.cell? ⟨w.heap.size, 0, none⟩ = some (.int .i64 (N : Int)) := ((bcell hbel).1 _ _ (by omega)).trans (cellNew _ _ _ 0 rfl)
      have q1 : wr.cell? ⟨w.heap.size, 1, none⟩ = some (.slice (some ⟨b, o, none⟩) x.length cap) := ((bcell hbel).1 _ _ (by omega)).trans (cellNew _ _ _ 1 rfl)
      have HO2 := Lib.hid hown
      have HB2 := Lib.hid hbel
      by_cases hlt : k < x.length
      · have hc1 : wr.cell? ⟨b, o + k, none⟩ = some (.int .i64 (x.getD k 0)) := ((bcell hbel).1 _ _ (by omega)).trans (cellAlloc _ (hc k hlt))
        have hkc : k ≤ cap := by omega
        clear hown hbel
        have hat := hR.at_ hlt
        have hpr := hR.pair hlt
        rw [getD_get hlt] at hat hc1 hpr
        have Hsucc := Lib.hid (vecOut_succ N x k)
        have Hpr := Lib.hid hpr
        clear hpr
        go_wp2_with fail
        go_loopw [25] (fun i wr => ∃ j : Nat, j ≤ k ∧ i = .int .i64 j ∧ Own wr (w.heap.size + 1) (.slice (some ⟨w.heap.size + 1, 0, none⟩) M M) (vecIn N x[k] (vecOut N x k) (x.take j)) ∧ Below (w.heap.size + 1) (w.alloc (.cells #[.int .i64 (N : Int), .slice (some ⟨b, o, none⟩) x.length cap] 25)) wr) (fun i _ => k - (intOf i).toNat)
        case atStart => exact ⟨0, Nat.zero_le _, rfl, HO2.out, HB2.out⟩
        case round =>
          obtain ⟨j, hj, rfl, hown, hbel⟩ := hrel
          clear q0 q1 hc1
          have q0 : wr.cell? ⟨w.heap.size, 0, none⟩ = some (.int .i64 (N : Int)) := ((bcell hbel).1 _ _ (by omega)).trans (cellNew _ _ _ 0 rfl)
          have q1 : wr.cell? ⟨w.heap.size, 1, none⟩ = some (.slice (some ⟨b, o, none⟩) x.length cap) := ((bcell hbel).1 _ _ (by omega)).trans (cellNew _ _ _ 1 rfl)
          by_cases hjt : j < k
          · have hjl : j < x.length := by omega
            have hc2 : wr.cell? ⟨b, o + j, none⟩ = some (.int .i64 (x.getD j 0)) := ((bcell hbel).1 _ _ (by omega)).trans (cellAlloc _ (hc j hjl))
            have haj := hR.at_ hjl
            have hjk := hR.mono hjt hlt
            rw [getD_get hjl] at haj hc2 hjk
            rw [getD_get hlt] at hjk
            have hcb := cls_bd (n := (N : Int)) haj.1 hjk hat.2
            have hbd := vec_bd (n := (N : Int)) hlen (Nat.le_of_lt hlt) (x.take j) (by rw [List.length_take]; omega)
            rw [getD_get hlt] at hbd
            have hll : (vecIn (N : Int) x[k] (vecOut N x k) (x.take j)).length = M := by rw [vecIn_len, vecOut_len, hMt]
            obtain ⟨r, hr⟩ : ∃ r : Nat, cls (N : Int) x[k] x[j] - 1 = (r : Int) := ⟨(cls (N : Int) x[k] x[j] - 1).toNat, by omega⟩
            have hrM : r < M := by omega
            have hcs := hown.cell (k := r) (by rw [hll]; exact hrM)
            have hcf := hown.free r
            have hge := hbd.get (i := r) (by rw [hll]; exact hrM)
            have Hnext : Hid (vecIn (N : Int) x[k] (vecOut N x k) (x.take (j + 1)) = (vecIn (N : Int) x[k] (vecOut N x k) (x.take j)).set r ((vecIn (N : Int) x[k] (vecOut N x k) (x.take j)).getD r 0 + 1)) := by
              unfold Hid
              rw [take_snoc hjl, vecIn_snoc, getD_get hjl, hr, Int.toNat_natCast]; rfl
            obtain ⟨L, hL⟩ : ∃ L, L = vecIn (N : Int) x[k] (vecOut N x k) (x.take j) := ⟨_, rfl⟩
            rw [← hL] at hown hcs hge hll Hnext
            have hrL : r < L.length := by omega
            rw [getD_get hrL] at hcs hge Hnext
            have HR : Hid (Own (wr.setCell ⟨w.heap.size + 1, r, none⟩ (.int .i64 (L[r] + 1))) (w.heap.size + 1) (.slice (some ⟨w.heap.size + 1, 0, none⟩) M M) (vecIn N x[k] (vecOut N x k) (x.take (j + 1)))) := by
              unfold Hid; rw [Hnext.out]; exact hown.store _ r _
            have HB3 : Hid (Below (w.heap.size + 1) (w.alloc (.cells #[.int .i64 (N : Int), .slice (some ⟨b, o, none⟩) x.length cap] 25)) (wr.setCell ⟨w.heap.size + 1, r, none⟩ (.int .i64 (L[r] + 1)))) := hbel.setCell (Nat.le_refl _) _
            have HL := Lib.hid hll
            clear hown hbel hbd hll hL
            by_cases hmin : (N : Int) + x[j] - x[k] < x[k] - x[j]
            · have hidx : (N : Int) + x[j] - x[k] - 1 = (r : Int) := by unfold cls at hr; omega
              have hrr : ((N : Int) + x[j] - x[k] - 1).toNat = r := by omega
              clear hr
              go_wp2_with fail
              go_roundw
              case rel => exact ⟨j + 1, by omega, by go_num, HR.out, HB3.out⟩
              case measure => simp [intOf]; omega
            · have hidx : x[k] - x[j] - 1 = (r : Int) := by unfold cls at hr; omega
              have hrr : (x[k] - x[j] - 1).toNat = r := by omega
              clear hr
              go_wp2_with fail
              go_roundw
              case rel => exact ⟨j + 1, by omega, by go_num, HR.out, HB3.out⟩
              case measure => simp [intOf]; omega
          · have e : j = k := by omega
            subst e
            rw [← getD_get hlt, ← Hsucc.out] at hown
            have HO4 := Lib.hid hown
            have HB4 := Lib.hid hbel
            clear hown hbel
            go_wp2_with fail
            go_roundw
            case rel => exact ⟨j + 1, by omega, by go_num, HO4.out, HB4.out⟩
            case measure => simp [intOf]; omega
      · have e : k = x.length := by omega
        subst e
        clear hown hbel
        go_wp2
        go_ret
        exact .mk rfl (HO2.out.mono (by omega)) (((Below.refl _ _).alloc (Nat.le_refl _) _).trans (HB2.out.mono (by omega)))
theorem Own.lit0v (w : World) {B : Nat} (hB : B ≤ w.heap.size) : Own (w.alloc (.cells #[] 3)) B (.slice (some ⟨w.heap.size, 0, none⟩) 0 0) [] :=
  World.ownsRow_lit (e := 3) (size := 1) w #[] 0 hB (Nat.zero_le _) rfl

set_option maxHeartbeats 800000 in
theorem specL05Vector (n : Int) (v : Value) (x : List Int) (w : World) (hR : Rok n x) (h : Ints w w.heap.size v x) :
    Calls Try.prog 97 #[.agg #[.int .i64 n, v]] w (RetOwn w (veTo (difOut n x x.length) n (n / 2).toNat)) := by
  have hlo := hR.lo
  have hhi := hR.hi
  have hlen := hR.len24
  have hdl := difOut_len n x x.length
  have hdb := difOut_all (n := n) hlen
  have h' := h
  obtain ⟨a, cap, rfl, -⟩ := h'
  obtain ⟨M, hM⟩ : ∃ M : Nat, n / 2 = (M : Int) := ⟨(n / 2).toNat, by omega⟩
  have hMt : (n / 2).toNat = M := by omega
  have hMd : n.tdiv 2 = (M : Int) := by rw [Int.tdiv_eq_ediv_of_nonneg (by omega)]; exact hM
  rw [hMt]
  go_enter Try.func97, Try.ntmps97
  go_wp2_with fail
  refine withWorld fun X hX => ?_
  have hB : Below w.heap.size w X := by rw [hX]; (repeat (first | (with_reducible exact (Below.refl _ _)) | (with_reducible refine bel_alloc ?_ _) | (with_reducible refine Below.drew ?_) | (with_reducible refine bel_drewN ?_ _) | (with_reducible refine Below.setCell ?_ (by simp) _)))
  have hx : Bx X w.heap.size (.int .i64 n) (.slice a x.length cap) 25 := by rw [hX]; (repeat (first | (with_reducible refine Bx.newAt _ _ _ _ ?_; simp; done) | (with_reducible refine Bx.alloc ?_ _) | (with_reducible refine Bx.drew ?_) | (with_reducible refine Bx.drewN ?_ _)))
  clear hX
  refine (specL05Differences _ _ x _ hR (Ints.ofBelow h hB)).mono ?_
  rintro e w1 ⟨a1, c1, rfl, ho1, hb1⟩
  obtain ⟨D, hD⟩ : ∃ D, D = difOut n x x.length := ⟨_, rfl⟩
  rw [← hD] at ho1 hdl hdb
  have HD := Lib.hid hD
  rw [← hD]
  clear hD
  have hx1 := hx.below hb1 hx.lt
  have hsz1 := hx1.lt
  have HB1 := Lib.hid (bel_step hB hb1 hB.size)
  have HX1 := Lib.hid hx1
  rcases ho1.ints.open with ⟨hnil, -⟩ | ⟨g, o, c2, he, -, hpos, -, hgb, hgc⟩
  · rw [hnil] at hdl; simp at hdl; omega
  injection he with he1 he2 he3
  subst he1 he3
  have HG := Lib.hid hgc
  clear hb1 hx hx1 hB ho1 hgc
  go_wp2_with fail
  go_loopw [5, 4] (fun i u wr => ∃ k : Nat, k ≤ M ∧ i = .int .i64 ((k : Int) + 1) ∧ (∃ a' c', u = .slice a' k c' ∧ Own wr w1.heap.size (.slice a' k c') (veTo D n k)) ∧ Below w1.heap.size w1 wr) (fun i _ _ => ((M : Int) + 1 - intOf i).toNat)
  case atStart => exact ⟨0, Nat.zero_le _, rfl, ⟨_, 0, rfl, Own.lit0v _ (Nat.le_refl _)⟩, (Below.refl _ _).alloc (Nat.le_refl _) _⟩
  case round =>
    obtain ⟨k, hk, rfl, ⟨a', c', rfl, hown⟩, hbel⟩ := hrel
    have hbx := HX1.out.below hbel hsz1
    have q0 := hbx.c0
    have q1 := hbx.c1
    have hszr := hbel.size
    have HO := Lib.hid hown
    have HB := Lib.hid hbel
    by_cases hlt : k < M
    · have hkD : k + 1 < D.length := by omega
      have hcd : wr.cell? ⟨g, o + (k + 1), none⟩ = some (.int .i64 (D.getD (k + 1) 0)) := ((bcell hbel).1 _ _ hgb).trans (HG.out _ hkD)
      have hge := hdb.get hkD
      have hti : ((k : Int) + 1).toNat = k + 1 := by omega
      obtain ⟨y, hy⟩ : ∃ y, y = D.getD (k + 1) 0 := ⟨_, rfl⟩
      rw [← hy] at hcd hge
      have hyd : y.tdiv 2 = y / 2 := Int.tdiv_eq_ediv_of_nonneg (by omega)
      have hy2 : 0 ≤ y / 2 ∧ y / 2 ≤ 1152 := by omega
      have Hs := Lib.hid (veTo_succ D n k)
      clear hown hbel hbx
      by_cases hh : 2 * ((k : Int) + 1) = n
      · have Hv : Hid (veAt D n k = y / 2) := by unfold Hid; rw [veAt_yes hh, hy]
        have hhb : (2 * ((k : Int) + 1) == n) = true := by simp [hh]
        clear hy
        go_wp2_with (at_builtin; refine wpAppInt rfl _ _ rfl w1.heap.size a' k c' (veTo D n k) _ rfl rfl HO.out (veTo_len _ _ _) (by omega) (by omega) ?_; intro a2 c3 w2 ho2 hb2)
        have HO2 : Hid (Own w2 w1.heap.size (.slice a2 (k + 1) c3) (veTo D n (k + 1))) := by unfold Hid; rw [Hs.out, Hv.out]; exact ho2
        have HB2 := Lib.hid (HB.out.trans hb2)
        clear ho2 hb2
        go_roundw
        case rel => exact ⟨k + 1, by omega, by go_num, ⟨a2, c3, rfl, HO2.out⟩, HB2.out⟩
        case measure => simp [intOf]; omega
      · have Hv : Hid (veAt D n k = y) := by unfold Hid; rw [veAt_no hh, hy]
        have hhb : (2 * ((k : Int) + 1) == n) = false := by simp [hh]
        clear hy
        go_wp2_with (at_builtin; refine wpAppInt rfl _ _ rfl w1.heap.size a' k c' (veTo D n k) _ rfl rfl HO.out (veTo_len _ _ _) (by omega) (by omega) ?_; intro a2 c3 w2 ho2 hb2)
        have HO2 : Hid (Own w2 w1.heap.size (.slice a2 (k + 1) c3) (veTo D n (k + 1))) := by unfold Hid; rw [Hs.out, Hv.out]; exact ho2
        have HB2 := Lib.hid (HB.out.trans hb2)
        clear ho2 hb2
        go_roundw
        case rel => exact ⟨k + 1, by omega, by go_num, ⟨a2, c3, rfl, HO2.out⟩, HB2.out⟩
        case measure => simp [intOf]; omega
    · have e : k = M := by omega
      subst e
      clear hown hbel hbx
      go_wp2
      go_ret
      exact RetOwn.mk (v := .slice a' k c') rfl (by rw [← HD.out]; exact HO.out.mono HB1.out.size) (HB1.out.trans (HB.out.mono HB1.out.size))


end Go.Proofs.Ytopfenhphnmfkaa

namespace Go.Proofs.Ytopfenhphnmfkaa
open Go.RowKit

def valSameVector (n : Int) (x : List Int) (m : Int) (y : List Int) : Bool := sameSz n m x y && eqL (lstVectorOf n x) (lstVectorOf m y)
theorem valSameVector_no {n m : Int} {x y : List Int} (h : sameSz n m x y = false) : valSameVector n x m y = false := by simp [valSameVector, h]
theorem valSameVector_yes {n m : Int} {x y : List Int} (h : sameSz n m x y = true) : valSameVector n x m y = eqL (vecOut n x x.length) (vecOut m y y.length) := by
  obtain ⟨h1, h2, _⟩ := sameSz_iff.1 h
  unfold valSameVector
  rw [h, lstVectorOf_yes ((rok_iff _ _).2 h1), lstVectorOf_yes ((rok_iff _ _).2 h2)]; rfl

set_option maxHeartbeats 4000000 in
theorem implSameVectorC (n : Int) (u : Value) (x : List Int) (c : I64 n) (m : Int) (v : Value) (y : List Int) (d : I64 m) (w : World) (hu : Ints w w.heap.size u x) (hv : Ints w w.heap.size v y) :
    Calls Try.prog 79 #[.agg #[.int .i64 n, u], .agg #[.int .i64 m, v]] w fun e w' => e = .returned (.bool (valSameVector n x m y)) ∧ Below w.heap.size w w' := by
  have hu' := hu
  have hv' := hv
  obtain ⟨a, cap, rfl, -⟩ := hu
  obtain ⟨a', cap', rfl, -⟩ := hv
  have hh := Held2.new w (.int .i64 n) (.slice a x.length cap) (.int .i64 m) (.slice a' y.length cap') 25 25
  have H0 := Lib.hid hh
  clear hh
  cases hs : sameSz n m x y with
  | false =>
    have Hs := Lib.hid hs
    have Hf := Lib.hid (valSameVector_no hs)
    clear hs
    go_enter Try.func79, Try.ntmps79
    go_wp2_with fail
    refine region_held (Held2 w (.int .i64 n) (.slice a x.length cap) (.int .i64 m) (.slice a' y.length cap')) (by kernel_rfl) (by kernel_rfl) H0.out.drew (Held2.keeps _ _ _ _ _) fun U val hne hv hcall => ?_
    have HC := Lib.hid hcall
    have z0 : ∀ u, (val u).cell? ⟨w.heap.size, 0, none⟩ = some (.int .i64 n) := fun u => (hv u).2.1.1
    have z1 : ∀ u, (val u).cell? ⟨w.heap.size, 1, none⟩ = some (.slice a x.length cap) := fun u => (hv u).2.1.2
    have z2 : ∀ u, (val u).cell? ⟨w.heap.size + 1, 0, none⟩ = some (.int .i64 m) := fun u => (hv u).2.2.1
    have z3 : ∀ u, (val u).cell? ⟨w.heap.size + 1, 1, none⟩ = some (.slice a' y.length cap') := fun u => (hv u).2.2.2
    have HV := Lib.hid hv
    clear hv hcall
    repeat (go_big_quiet_step ((first | (go_at_call 69; exact HC.out _ _ _ _ (retB (implSameSizeC _ _ _ _ x y c d _ (Ints.ofBelow hu' (HV.out _).1) (Ints.ofBelow hv' (HV.out _).1)) Hs.out)))))
    refine wpQuiet_nil ?_
    rintro _ ⟨u, rfl⟩
    have HB := Lib.hid (HV.out u).1
    go_wp2
    go_ret
    exact ⟨ret_bool Hf.out.symm, HB.out⟩
  | true =>
    have Hs := Lib.hid hs
    have Hf := Lib.hid (valSameVector_yes hs)
    obtain ⟨hR1, hR2, -⟩ := sameSz_iff.1 hs
    clear hs
    go_enter Try.func79, Try.ntmps79
    go_wp2_with fail
    have H1 := Lib.hid H0.out.drew
    obtain ⟨q0, q1⟩ := H1.out.2.1
    obtain ⟨q2, q3⟩ := H1.out.2.2
    go_region_with (first
      | (go_at_call 69; refine (implSameSizeC _ _ _ _ x y c d _ (Ints.ofBelow hu' H1.out.1) (Ints.ofBelow hv' H1.out.1)).mono ?_; rintro e w1 ⟨rfl, b1⟩; rw [Hs.out]; have H2 := Lib.hid (H1.out.after b1); obtain ⟨p0, p1⟩ := H2.out.2.1; obtain ⟨p2, p3⟩ := H2.out.2.2)
      | (go_at_call_of 92 (Value.agg #[Value.int IntKind.i64 n, Value.slice a x.length cap]); refine (implVector _ _ x _ hR1 (Ints.ofBelow hu' H2.out.1)).mono ?_; rintro e w2 ⟨a1, c1, rfl, o1, b2⟩; have H3 := Lib.hid (H2.out.after b2); obtain ⟨s0, s1⟩ := H3.out.2.1; obtain ⟨s2, s3⟩ := H3.out.2.2)
      | (go_at_call_of 92 (Value.agg #[Value.int IntKind.i64 m, Value.slice a' y.length cap']); refine (implVector _ _ y _ hR2 (Ints.ofBelow hv' H3.out.1)).mono ?_; rintro e w3 ⟨a2, c2, rfl, o2, b3⟩; have H4 := Lib.hid (H3.out.after b3))
      | (go_at_call 105; refine (slicesEqual _ _ (vecOut n x x.length) (vecOut m y y.length) _ _ _ ((o1.ints.below b3).mono b3.size) o2.ints).mono ?_; rintro e w' ⟨rfl, q, rfl⟩))
    all_goals
      go_wp2
      go_ret
      exact ⟨ret_bool Hf.out.symm, bel_drewN H4.out.1 _⟩
end Go.Proofs.Ytopfenhphnmfkaa

namespace Go.Proofs.Ytopfenhphnmfkaa
open Go.RowKit

set_option maxHeartbeats 4000000 in
theorem specSameVectorC (n : Int) (u : Value) (x : List Int) (c : I64 n) (m : Int) (v : Value) (y : List Int) (d : I64 m) (w : World) (hu : Ints w w.heap.size u x) (hv : Ints w w.heap.size v y) :
    Calls Try.prog 77 #[.agg #[.int .i64 n, u], .agg #[.int .i64 m, v]] w fun e w' => e = .returned (.bool (valSameVector n x m y)) ∧ Below w.heap.size w w' := by
  have hu' := hu
  have hv' := hv
  obtain ⟨a, cap, rfl, -⟩ := hu
  obtain ⟨a', cap', rfl, -⟩ := hv
  have hh := Held2.new w (.int .i64 n) (.slice a x.length cap) (.int .i64 m) (.slice a' y.length cap') 25 25
  have H0 := Lib.hid hh
  clear hh
  cases hr : rok n x with
  | false =>
    have Hr := Lib.hid hr
    have Hf := Lib.hid (valSameVector_no (sameSz_no1 (m := m) y hr))
    clear hr
    go_enter Try.func77, Try.ntmps77
    go_wp2_with fail
    refine region_held (Held2 w (.int .i64 n) (.slice a x.length cap) (.int .i64 m) (.slice a' y.length cap')) (by kernel_rfl) (by kernel_rfl) H0.out.drew (Held2.keeps _ _ _ _ _) fun U val hne hv hcall => ?_
    have HC := Lib.hid hcall
    have z0 : ∀ u, (val u).cell? ⟨w.heap.size, 0, none⟩ = some (.int .i64 n) := fun u => (hv u).2.1.1
    have z1 : ∀ u, (val u).cell? ⟨w.heap.size, 1, none⟩ = some (.slice a x.length cap) := fun u => (hv u).2.1.2
    have z2 : ∀ u, (val u).cell? ⟨w.heap.size + 1, 0, none⟩ = some (.int .i64 m) := fun u => (hv u).2.2.1
    have z3 : ∀ u, (val u).cell? ⟨w.heap.size + 1, 1, none⟩ = some (.slice a' y.length cap') := fun u => (hv u).2.2.2
    have HV := Lib.hid hv
    clear hv hcall
    repeat (go_big_quiet_step ((first | (go_at_call_of 59 (Value.agg #[Value.int IntKind.i64 n, Value.slice a x.length cap]); exact HC.out _ _ _ _ (retB (specRhythmOkC _ _ x c _ (Ints.ofBelow hu' (HV.out _).1)) Hr.out)))))
    refine wpQuiet_nil ?_
    rintro _ ⟨u, rfl⟩
    have HB := Lib.hid (HV.out u).1
    go_wp2
    go_ret
    exact ⟨ret_bool Hf.out.symm, HB.out⟩
  | true =>
    have Hr := Lib.hid hr
    cases hs : rok m y with
    | false =>
      have Hs := Lib.hid hs
      have Hf := Lib.hid (valSameVector_no (sameSz_no2 (n := n) x hs))
      clear hr hs
      go_enter Try.func77, Try.ntmps77
      go_wp2_with fail
      refine region_held (Held2 w (.int .i64 n) (.slice a x.length cap) (.int .i64 m) (.slice a' y.length cap')) (by kernel_rfl) (by kernel_rfl) H0.out.drew (Held2.keeps _ _ _ _ _) fun U val hne hv hcall => ?_
      have HC := Lib.hid hcall
      have z0 : ∀ u, (val u).cell? ⟨w.heap.size, 0, none⟩ = some (.int .i64 n) := fun u => (hv u).2.1.1
      have z1 : ∀ u, (val u).cell? ⟨w.heap.size, 1, none⟩ = some (.slice a x.length cap) := fun u => (hv u).2.1.2
      have z2 : ∀ u, (val u).cell? ⟨w.heap.size + 1, 0, none⟩ = some (.int .i64 m) := fun u => (hv u).2.2.1
      have z3 : ∀ u, (val u).cell? ⟨w.heap.size + 1, 1, none⟩ = some (.slice a' y.length cap') := fun u => (hv u).2.2.2
      have HV := Lib.hid hv
      clear hv hcall
      repeat (go_big_quiet_step ((first | (go_at_call_of 59 (Value.agg #[Value.int IntKind.i64 n, Value.slice a x.length cap]); exact HC.out _ _ _ _ (retB (specRhythmOkC _ _ x c _ (Ints.ofBelow hu' (HV.out _).1)) Hr.out)) | (go_at_call_of 59 (Value.agg #[Value.int IntKind.i64 m, Value.slice a' y.length cap']); exact HC.out _ _ _ _ (retB (specRhythmOkC _ _ y d _ (Ints.ofBelow hv' (HV.out _).1)) Hs.out)))))
      refine wpQuiet_nil ?_
      rintro _ ⟨u, rfl⟩
      have HB := Lib.hid (HV.out u).1
      go_wp2
      go_ret
      exact ⟨ret_bool Hf.out.symm, HB.out⟩
    | true =>
      have Hs := Lib.hid hs
      by_cases hn : n = m
      · have hq : sameSz n m x y = true := by rw [sameSz_yes hr hs]; simp [hn]
        have hf := valSameVector_yes hq
        obtain ⟨hR1, hR2, -⟩ := sameSz_iff.1 hq
        rw [vec_same hR1, vec_same hR2] at hf
        subst hn
        have Hf := Lib.hid hf
        clear hf
        clear hr hs hq
        have hb : (n == n) = true := by simp
        go_enter Try.func77, Try.ntmps77
        go_wp2_with fail
        have H1 := Lib.hid H0.out.drew
        obtain ⟨q0, q1⟩ := H1.out.2.1
        obtain ⟨q2, q3⟩ := H1.out.2.2
        go_region_with (first
          | (go_at_call_of 59 (Value.agg #[Value.int IntKind.i64 n, Value.slice a x.length cap]); refine (specRhythmOkC _ _ x c _ (Ints.ofBelow hu' H1.out.1)).mono ?_; rintro e w1 ⟨rfl, b1⟩; rw [Hr.out]; have H2 := Lib.hid (H1.out.after b1); obtain ⟨p20, p21⟩ := H2.out.2.1; obtain ⟨p22, p23⟩ := H2.out.2.2)
          | (go_at_call_of 59 (Value.agg #[Value.int IntKind.i64 n, Value.slice a' y.length cap']); refine (specRhythmOkC _ _ y d _ (Ints.ofBelow hv' H2.out.1)).mono ?_; rintro e w2 ⟨rfl, b2⟩; rw [Hs.out]; have H3 := Lib.hid (H2.out.after b2); obtain ⟨p30, p31⟩ := H3.out.2.1; obtain ⟨p32, p33⟩ := H3.out.2.2)
          | (go_at_call_of 97 (Value.agg #[Value.int IntKind.i64 n, Value.slice a x.length cap]); refine (specL05Vector _ _ x _ hR1 (Ints.ofBelow hu' H3.out.1)).mono ?_; rintro e w3 ⟨a1, c1, rfl, o1, b3⟩; have H4 := Lib.hid (H3.out.after b3); obtain ⟨p40, p41⟩ := H4.out.2.1; obtain ⟨p42, p43⟩ := H4.out.2.2)
          | (go_at_call_of 97 (Value.agg #[Value.int IntKind.i64 n, Value.slice a' y.length cap']); refine (specL05Vector _ _ y _ hR2 (Ints.ofBelow hv' H4.out.1)).mono ?_; rintro e w4 ⟨a2, c2, rfl, o2, b4⟩; have H5 := Lib.hid (H4.out.after b4))
          | (go_at_call 96; refine (specL02Same _ _ (veTo (difOut n x x.length) n (n / 2).toNat) (veTo (difOut n y y.length) n (n / 2).toNat) _ _ _ ((o1.ints.below b4).mono b4.size) o2.ints).mono ?_; rintro e w' ⟨rfl, rfl⟩))
        all_goals
          go_wp2
          go_ret
          exact ⟨ret_bool Hf.out.symm, H5.out.1⟩
      · have hq : sameSz n m x y = false := by rw [sameSz_yes hr hs]; simpa using hn
        have hb : (n == m) = false := by simpa using hn
        have Hf := Lib.hid (valSameVector_no hq)
        clear hr hs hq
        go_enter Try.func77, Try.ntmps77
        go_wp2_with fail
        refine region_held (Held2 w (.int .i64 n) (.slice a x.length cap) (.int .i64 m) (.slice a' y.length cap')) (by kernel_rfl) (by kernel_rfl) H0.out.drew (Held2.keeps _ _ _ _ _) fun U val hne hv hcall => ?_
        have HC := Lib.hid hcall
        have z0 : ∀ u, (val u).cell? ⟨w.heap.size, 0, none⟩ = some (.int .i64 n) := fun u => (hv u).2.1.1
        have z1 : ∀ u, (val u).cell? ⟨w.heap.size, 1, none⟩ = some (.slice a x.length cap) := fun u => (hv u).2.1.2
        have z2 : ∀ u, (val u).cell? ⟨w.heap.size + 1, 0, none⟩ = some (.int .i64 m) := fun u => (hv u).2.2.1
        have z3 : ∀ u, (val u).cell? ⟨w.heap.size + 1, 1, none⟩ = some (.slice a' y.length cap') := fun u => (hv u).2.2.2
        have HV := Lib.hid hv
        clear hv hcall
        repeat (go_big_quiet_step ((first | (go_at_call_of 59 (Value.agg #[Value.int IntKind.i64 n, Value.slice a x.length cap]); exact HC.out _ _ _ _ (retB (specRhythmOkC _ _ x c _ (Ints.ofBelow hu' (HV.out _).1)) Hr.out)) | (go_at_call_of 59 (Value.agg #[Value.int IntKind.i64 m, Value.slice a' y.length cap']); exact HC.out _ _ _ _ (retB (specRhythmOkC _ _ y d _ (Ints.ofBelow hv' (HV.out _).1)) Hs.out)))))
        refine wpQuiet_nil ?_
        rintro _ ⟨u, rfl⟩
        have HB := Lib.hid (HV.out u).1
        go_wp2
        go_ret
        exact ⟨ret_bool Hf.out.symm, HB.out⟩
end Go.Proofs.Ytopfenhphnmfkaa

namespace Go.Proofs.Ytopfenhphnmfkaa
open Go.RowKit

def ivl (n p q : Int) : Int := min (mo (q - p) n) (mo (p - q) n)
theorem ivl_spec {n p q : Int} (hp : 0 ≤ p) (hp' : p < n) (hq : 0 ≤ q) (hq' : q < n) : min (mo (p - q) n) (n - mo (p - q) n) = ivl n p q := by
  unfold ivl
  rcases Int.lt_trichotomy p q with h | h | h
  · have h1 : mo (p - q) n = p - q + n := by
      unfold mo
      have := Int.add_emod_right (p - q) n
      rw [← this]
      exact Int.emod_eq_of_lt (by omega) (by omega)
    have h2 : mo (q - p) n = q - p := mo_id (by omega) (by omega)
    rw [h1, h2]; omega
  · subst h
    have h1 : mo (p - p) n = 0 := by rw [Int.sub_self]; exact mo_id (by omega) (by omega)
    rw [h1]; omega
  · have h1 : mo (q - p) n = q - p + n := by
      unfold mo
      have := Int.add_emod_right (q - p) n
      rw [← this]
      exact Int.emod_eq_of_lt (by omega) (by omega)
    have h2 : mo (p - q) n = p - q := mo_id (by omega) (by omega)
    rw [h1, h2]; omega
def valIntervalBetween (n : Int) (x : List Int) (p q : Int) : Int := if rok n x = true ∧ hasL x p = true ∧ hasL x q = true then ivl n p q else -1
theorem valIntervalBetween_yes {n : Int} {x : List Int} {p q : Int} (h : rok n x = true) (hp : hasL x p = true) (hq : hasL x q = true) : valIntervalBetween n x p q = ivl n p q := by simp [valIntervalBetween, h, hp, hq]
theorem valIntervalBetween_no {n : Int} {x : List Int} {p q : Int} (h : rok n x = false ∨ hasL x p = false ∨ hasL x q = false) : valIntervalBetween n x p q = -1 := by
  rcases h with h | h | h <;> simp [valIntervalBetween, h]
theorem hasL_bd {n : Int} {x : List Int} (h : Rok n x) {p : Int} (hp : hasL x p = true) : 0 ≤ p ∧ p < n := by
  have hm : p ∈ x := by simpa [hasL] using hp
  exact ⟨h.ge _ hm, h.lt _ hm⟩

set_option maxHeartbeats 400000 in
theorem implIntervalBetweenC (n : Int) (v : Value) (x : List Int) (c : I64 n) (p : Int) (cp : I64 p) (q : Int) (cq : I64 q) (w : World) (h : Ints w w.heap.size v x) :
    Calls Try.prog 52 #[.agg #[.int .i64 n, v], .int .i64 p, .int .i64 q] w fun e w' => e = .returned (.int .i64 (valIntervalBetween n x p q)) ∧ Below w.heap.size w w' := by
  have h' := h
  obtain ⟨a, cap, rfl, -⟩ := h'
  cases hr : rok n x with
  | false =>
    have Hr := Lib.hid hr
    have Hf := Lib.hid (valIntervalBetween_no (p := p) (q := q) (.inl hr))
    clear hr
    go_enter Try.func52, Try.ntmps52
    go_wp2_with (go_at_call 49; refine (implRhythmOk _ _ x _ _ c.1 c.2 (h.alloc (Nat.le_refl _) _)).mono ?_; rintro e w' ⟨rfl, rfl⟩; rw [Hr.out])
    go_ret
    exact ⟨ret_int Hf.out.symm, ((Below.refl _ _).alloc (Nat.le_refl _) _).alloc (by simp) _⟩
  | true =>
    have Hr := Lib.hid hr
    have hR := (rok_iff n x).1 hr
    cases hp : hasL x p with
    | false =>
      have Hp := Lib.hid hp
      have Hf := Lib.hid (valIntervalBetween_no (n := n) (q := q) (.inr (.inl hp)))
      clear hr hp
      go_enter Try.func52, Try.ntmps52
      go_wp2_with (first | (go_at_call 49; refine (implRhythmOk _ _ x _ _ c.1 c.2 (h.alloc (Nat.le_refl _) _)).mono ?_; rintro e w' ⟨rfl, rfl⟩; rw [Hr.out]) | (go_at_call 90; refine (slicesContains _ x _ _ _ ((h.alloc (Nat.le_refl _) _).alloc (by simp) _)).mono ?_; rintro e w' ⟨rfl, rfl⟩; rw [Hp.out]))
      go_ret
      exact ⟨ret_int Hf.out.symm, ((Below.refl _ _).alloc (Nat.le_refl _) _).alloc (by simp) _⟩
    | true =>
      have Hp := Lib.hid hp
      cases hq : hasL x q with
      | false =>
        have Hq := Lib.hid hq
        have Hf := Lib.hid (valIntervalBetween_no (n := n) (p := p) (.inr (.inr hq)))
        clear hr hp hq
        go_enter Try.func52, Try.ntmps52
        go_wp2_with fail
        refine (implRhythmOk _ _ x _ _ c.1 c.2 (h.alloc (Nat.le_refl _) _)).mono ?_
        rintro e w' ⟨rfl, rfl⟩
        rw [Hr.out]
        go_wp2_with fail
        refine (slicesContains _ x _ _ _ ((h.alloc (Nat.le_refl _) _).alloc (by simp) _)).mono ?_
        rintro e w' ⟨rfl, rfl⟩
        rw [Hp.out]
        go_wp2_with fail
        refine (slicesContains _ x _ _ _ ((h.alloc (Nat.le_refl _) _).alloc (by simp) _)).mono ?_
        rintro e w' ⟨rfl, rfl⟩
        rw [Hq.out]
        go_wp2
        go_ret
        exact ⟨ret_int Hf.out.symm, ((Below.refl _ _).alloc (Nat.le_refl _) _).alloc (by simp) _⟩
      | true =>
        have Hq := Lib.hid hq
        have Hf := Lib.hid (valIntervalBetween_yes hr hp hq)
        have hlo := hR.lo
        have hhi := hR.hi
        obtain ⟨p1, p2⟩ := hasL_bd hR hp
        obtain ⟨q1, q2⟩ := hasL_bd hR hq
        have hw1 : IntKind.i64.wrap (q - p) = q - p := IntWalk.i64_in _ (by omega)
        have hw2 : IntKind.i64.wrap (p - q) = p - q := IntWalk.i64_in _ (by omega)
        clear hr hp hq
        go_enter Try.func52, Try.ntmps52
        go_wp2_with fail
        refine (implRhythmOk _ _ x _ _ c.1 c.2 (h.alloc (Nat.le_refl _) _)).mono ?_
        rintro e w' ⟨rfl, rfl⟩
        rw [Hr.out]
        go_wp2_with fail
        refine (slicesContains _ x _ _ _ ((h.alloc (Nat.le_refl _) _).alloc (by simp) _)).mono ?_
        rintro e w' ⟨rfl, rfl⟩
        rw [Hp.out]
        go_wp2_with fail
        refine (slicesContains _ x _ _ _ ((h.alloc (Nat.le_refl _) _).alloc (by simp) _)).mono ?_
        rintro e w' ⟨rfl, rfl⟩
        rw [Hq.out]
        go_wp2_with fail
        refine region_held (Held1 w (.int .i64 n) (.slice a x.length cap)) (by kernel_rfl) (by kernel_rfl) ((Held1.new w _ _ _).alloc _).drew (Held1.keeps _ _ _) fun U val hne hv hcall => ?_
        have HC := Lib.hid hcall
        have z0 : ∀ u, (val u).cell? ⟨w.heap.size, 0, none⟩ = some (.int .i64 n) := fun u => (hv u).2.1
        have HV := Lib.hid hv
        clear hv hcall
        repeat (go_big_quiet_step ((first | (go_at_call 91; exact HC.out _ _ _ _ (retSame (implRemainder _ _ _ hlo (by omega) ⟨by omega, by omega⟩))))))
        refine wpQuiet_nil ?_
        rintro _ ⟨u, rfl⟩
        have HB := Lib.hid (HV.out u).1
        generalize hm : (if mo (p - q) n < mo (q - p) n then mo (p - q) n else mo (q - p) n) = M
        have HM : Hid (M = ivl n p q) := by unfold Hid ivl; subst hm; split <;> omega
        clear hm
        go_wp2
        go_ret
        exact ⟨ret_int (by rw [Hf.out, ← HM.out]), HB.out⟩
end Go.Proofs.Ytopfenhphnmfkaa

namespace Go.Proofs.Ytopfenhphnmfkaa
open Go.RowKit

theorem Own.lit0 (w : World) {B : Nat} (hB : B ≤ w.heap.size) : Own (w.alloc (.cells #[] 3)) B (.slice (some ⟨w.heap.size, 0, none⟩) 0 0) [] :=
  World.ownsRow_lit (e := 3) (size := 1) w #[] 0 hB (Nat.zero_le _) rfl

end Go.Proofs.Ytopfenhphnmfkaa

namespace Go.Proofs.Ytopfenhphnmfkaa
open Go.RowKit

end Go.Proofs.Ytopfenhphnmfkaa
