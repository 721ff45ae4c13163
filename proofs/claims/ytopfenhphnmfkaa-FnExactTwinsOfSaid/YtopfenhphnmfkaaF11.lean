/-
  Contracts of VectorOf, in the program and in the reference.
  Conditions: the rhythm's beats lie in memory.
-/
import Derived.Test.YtopfenhphnmfkaaF4
import Derived.Test.YtopfenhphnmfkaaB0
import Derived.Test.YtopfenhphnmfkaaM10
set_option linter.unusedVariables false
set_option linter.unusedSimpArgs false
namespace Go.Proofs.Ytopfenhphnmfkaa
open Go.RowKit

set_option maxHeartbeats 1600000 in
theorem implVector (n : Int) (v : Value) (x : List Int) (w : World) (hR : Rok n x) (h : Ints w w.heap.size v x) :
    Calls Try.prog 92 #[.agg #[.int .i64 n, v]] w (RetOwn w (vecOut n x x.length)) := by
  have hlo := hR.lo
  have hhi := hR.hi
  have hlen := hR.len24
  obtain ⟨N, hN⟩ : ∃ N : Nat, n = (N : Int) := ⟨n.toNat, by omega⟩
  subst hN
  obtain ⟨M, hM⟩ : ∃ M : Nat, (N : Int) / 2 = (M : Int) := ⟨((N : Int) / 2).toNat, by omega⟩
  have hMt : ((N : Int) / 2).toNat = M := by omega
  have hMd : (N : Int).tdiv 2 = (M : Int) := by rw [Int.tdiv_eq_ediv_of_nonneg (by omega)]; exact hM
  have hcap : ∃ a cap, v = .slice a x.length cap ∧ x.length ≤ cap ∧ cap ≤ 9223372036854775807 := by
    obtain ⟨a, cap, e, h1, h2, -⟩ := h
    exact ⟨a, cap, e, h1, by unfold maxLen at h2; omega⟩
  rcases h.open with ⟨rfl, a, cap, rfl⟩ | ⟨b, o, cap, rfl, hm, hpos, hB, hb, hc⟩
  · clear hcap
    go_enter Try.func92, Try.ntmps92
    go_wp2_with (refine wpMakeInt rfl _ _ rfl (w.heap.size + 1) M rfl rfl (by omega) (by simp) ?_; intro w1 hown hbel hsz; have q0 : w1.cell? ⟨w.heap.size, 0, none⟩ = some (.int .i64 (N : Int)) := ((bcell hbel).1 _ _ (by omega)).trans (cellNew _ _ _ 0 rfl); have q1 : w1.cell? ⟨w.heap.size, 1, none⟩ = some (.slice a 0 cap) := ((bcell hbel).1 _ _ (by omega)).trans (cellNew _ _ _ 1 rfl); have HO := Lib.hid hown; have HB := Lib.hid hbel; clear hown hbel)
    refine wp_loop_rounds 1 ?_; rw [rounds_succ]
    go_wp2
    go_ret
    refine RetOwn.mk rfl ?_ (((Below.refl _ _).alloc (Nat.le_refl _) _).trans (HB.out.mono (by omega)))
    have := HO.out.mono (show w.heap.size ≤ w.heap.size + 1 by omega)
    simpa [vecOut, hMt] using this
  · obtain ⟨a', cap', he, hcap1, hcap2⟩ := hcap
    injection he with he1 he2 he3
    subst he3
    clear he1 he2
    go_enter Try.func92, Try.ntmps92
    go_wp2_with (refine wpMakeInt rfl _ _ rfl (w.heap.size + 1) M rfl rfl (by omega) (by simp) ?_; intro w1 hown hbel hsz; have q0 : w1.cell? ⟨w.heap.size, 0, none⟩ = some (.int .i64 (N : Int)) := ((bcell hbel).1 _ _ (by omega)).trans (cellNew _ _ _ 0 rfl); have q1 : w1.cell? ⟨w.heap.size, 1, none⟩ = some (.slice (some ⟨b, o, none⟩) x.length cap) := ((bcell hbel).1 _ _ (by omega)).trans (cellNew _ _ _ 1 rfl); have HO := Lib.hid hown; have HB := Lib.hid hbel; clear hown hbel)
    go_loopw [15] (fun i wr => ∃ k : Nat, k ≤ x.length ∧ i = .int .i64 k ∧ Own wr (w.heap.size + 1) (.slice (some ⟨w.heap.size + 1, 0, none⟩) M M) (vecOut N x k) ∧ Below (w.heap.size + 1) (w.alloc (.cells #[.int .i64 (N : Int), .slice (some ⟨b, o, none⟩) x.length cap] 25)) wr) (fun i _ => x.length - (intOf i).toNat)
    case atStart => exact ⟨0, Nat.zero_le _, rfl, by rw [vecOut_zero, hMt]; simpa using HO.out, HB.out⟩
    case round =>
      obtain ⟨k, hk, rfl, hown, hbel⟩ := hrel
      clear q0 q1 hsz
      have q0 : wr.cell? ⟨w.heap.size, 0, none⟩ = some (.int .i64 (N : Int)) := ((bcell hbel).1 _ _ (by omega)).trans (cellNew _ _ _ 0 rfl)
      have q1 : wr.cell? ⟨w.heap.size, 1, none⟩ = some (.slice (some ⟨b, o, none⟩) x.length cap) := ((bcell hbel).1 _ _ (by omega)).trans (cellNew _ _ _ 1 rfl)
      have HO2 := Lib.hid hown
      have HB2 := Lib.hid hbel
      by_cases hlt : k < x.length
      · have hc1 : wr.cell? ⟨b, o + k, none⟩ = some (.int .i64 (x.getD k 0)) := ((bcell hbel).1 _ _ (by omega)).trans (cellAlloc _ (hc k hlt))
        have hkc : k ≤ cap := by omega
        clear hown hbel
        have hat := hR.at_ hlt
        have hpr := hR.pair hlt
        rw [getD_get hlt] at hat hc1 hpr
        have Hsucc := Lib.hid (vecOut_succ N x k)
        have Hpr := Lib.hid hpr
        clear hpr
        go_wp2_with fail
        go_loopw [25] (fun i wr => ∃ j : Nat, j ≤ k ∧ i = .int .i64 j ∧ Own wr (w.heap.size + 1) (.slice (some ⟨w.heap.size + 1, 0, none⟩) M M) (vecIn N x[k] (vecOut N x k) (x.take j)) ∧ Below (w.heap.size + 1) (w.alloc (.cells #[.int .i64 (N : Int), .slice (some ⟨b, o, none⟩) x.length cap] 25)) wr) (fun i _ => k - (intOf i).toNat)
        case atStart => exact ⟨0, Nat.zero_le _, rfl, HO2.out, HB2.out⟩
        case round =>
          obtain ⟨j, hj, rfl, hown, hbel⟩ := hrel
          clear q0 q1 hc1
          have q0 : wr.cell? ⟨w.heap.size, 0, none⟩ = some (.int .i64 (N : Int)) := ((bcell hbel).1 _ _ (by omega)).trans (cellNew _ _ _ 0 rfl)
          have q1 : wr.cell? ⟨w.heap.size, 1, none⟩ = some (.slice (some ⟨b, o, none⟩) x.length cap) := ((bcell hbel).1 _ _ (by omega)).trans (cellNew _ _ _ 1 rfl)
          by_cases hjt : j < k
          · have hjl : j < x.length := by omega
            have hc2 : wr.cell? ⟨b, o + j, none⟩ = some (.int .i64 (x.getD j 0)) := ((bcell hbel).1 _ _ (by omega)).trans (cellAlloc _ (hc j hjl))
            have haj := hR.at_ hjl
            have hjk := hR.mono hjt hlt
            rw [getD_get hjl] at haj hc2 hjk
            rw [getD_get hlt] at hjk
            have hcb := cls_bd (n := (N : Int)) haj.1 hjk hat.2
            have hbd := vec_bd (n := (N : Int)) hlen (Nat.le_of_lt hlt) (x.take j) (by rw [List.length_take]; omega)
            rw [getD_get hlt] at hbd
            have hll : (vecIn (N : Int) x[k] (vecOut N x k) (x.take j)).length = M := by rw [vecIn_len, vecOut_len, hMt]
            obtain ⟨r, hr⟩ : ∃ r : Nat, cls (N : Int) x[k] x[j] - 1 = (r : Int) := ⟨(cls (N : Int) x[k] x[j] - 1).toNat, by omega⟩
            have hrM : r < M := by omega
            have hcs := hown.cell (k := r) (by rw [hll]; exact hrM)
            have hcf := hown.free r
            have hge := hbd.get (i := r) (by rw [hll]; exact hrM)
            have Hnext : Hid (vecIn (N : Int) x[k] (vecOut N x k) (x.take (j + 1)) = (vecIn (N : Int) x[k] (vecOut N x k) (x.take j)).set r ((vecIn (N : Int) x[k] (vecOut N x k) (x.take j)).getD r 0 + 1)) := by
              unfold Hid
              rw [take_snoc hjl, vecIn_snoc, getD_get hjl, hr, Int.toNat_natCast]; rfl
            obtain ⟨L, hL⟩ : ∃ L, L = vecIn (N : Int) x[k] (vecOut N x k) (x.take j) := ⟨_, rfl⟩
            rw [← hL] at hown hcs hge hll Hnext
            have hrL : r < L.length := by omega
            rw [getD_get hrL] at hcs hge Hnext
            have HR : Hid (Own (wr.setCell ⟨w.heap.size + 1, r, none⟩ (.int .i64 (L[r] + 1))) (w.heap.size + 1) (.slice (some ⟨w.heap.size + 1, 0, none⟩) M M) (vecIn N x[k] (vecOut N x k) (x.take (j + 1)))) := by
              unfold Hid; rw [Hnext.out]; exact hown.store _ r _
            have HB3 : Hid (Below (w.heap.size + 1) (w.alloc (.cells #[.int .i64 (N : Int), .slice (some ⟨b, o, none⟩) x.length cap] 25)) (wr.setCell ⟨w.heap.size + 1, r, none⟩ (.int .i64 (L[r] + 1)))) := hbel.setCell (Nat.le_refl _) _
            have HL := Lib.hid hll
            clear hown hbel hbd hll hL
            by_cases hmin : (N : Int) + x[j] - x[k] < x[k] - x[j]
            · have hidx : (N : Int) + x[j] - x[k] - 1 = (r : Int) := by unfold cls at hr; omega
              have hrr : ((N : Int) + x[j] - x[k] - 1).toNat = r := by omega
              clear hr
              go_wp2_with fail
              go_roundw
              case rel => exact ⟨j + 1, by omega, by go_num, HR.out, HB3.out⟩
              case measure => simp [intOf]; omega
            · have hidx : x[k] - x[j] - 1 = (r : Int) := by unfold cls at hr; omega
              have hrr : (x[k] - x[j] - 1).toNat = r := by omega
              clear hr
              go_wp2_with fail
              go_roundw
              case rel => exact ⟨j + 1, by omega, by go_num, HR.out, HB3.out⟩
              case measure => simp [intOf]; omega
          · have e : j = k := by omega
            subst e
            rw [← getD_get hlt, ← Hsucc.out] at hown
            have HO4 := Lib.hid hown
            have HB4 := Lib.hid hbel
            clear hown hbel
            go_wp2_with fail
            go_roundw
            case rel => exact ⟨j + 1, by omega, by go_num, HO4.out, HB4.out⟩
            case measure => simp [intOf]; omega
      · have e : k = x.length := by omega
        subst e
        clear hown hbel
        go_wp2
        go_ret
        exact .mk rfl (HO2.out.mono (by omega)) (((Below.refl _ _).alloc (Nat.le_refl _) _).trans (HB2.out.mono (by omega)))
theorem Own.lit0v (w : World) {B : Nat} (hB : B ≤ w.heap.size) : Own (w.alloc (.cells #[] 3)) B (.slice (some ⟨w.heap.size, 0, none⟩) 0 0) [] :=
  World.ownsRow_lit (e := 3) (size := 1) w #[] 0 hB (Nat.zero_le _) rfl

set_option maxHeartbeats 800000 in
theorem specL05Vector (n : Int) (v : Value) (x : List Int) (w : World) (hR : Rok n x) (h : Ints w w.heap.size v x) :
    Calls Try.prog 97 #[.agg #[.int .i64 n, v]] w (RetOwn w (veTo (difOut n x x.length) n (n / 2).toNat)) := by
  have hlo := hR.lo
  have hhi := hR.hi
  have hlen := hR.len24
  have hdl := difOut_len n x x.length
  have hdb := difOut_all (n := n) hlen
  have h' := h
  obtain ⟨a, cap, rfl, -⟩ := h'
  obtain ⟨M, hM⟩ : ∃ M : Nat, n / 2 = (M : Int) := ⟨(n / 2).toNat, by omega⟩
  have hMt : (n / 2).toNat = M := by omega
  have hMd : n.tdiv 2 = (M : Int) := by rw [Int.tdiv_eq_ediv_of_nonneg (by omega)]; exact hM
  rw [hMt]
  go_enter Try.func97, Try.ntmps97
  go_wp2_with fail
  refine withWorld fun X hX => ?_
  have hB : Below w.heap.size w X := by rw [hX]; (repeat (first | (with_reducible exact (Below.refl _ _)) | (with_reducible refine bel_alloc ?_ _) | (with_reducible refine Below.drew ?_) | (with_reducible refine bel_drewN ?_ _) | (with_reducible refine Below.setCell ?_ (by simp) _)))
  have hx : Bx X w.heap.size (.int .i64 n) (.slice a x.length cap) 25 := by rw [hX]; (repeat (first | (with_reducible refine Bx.newAt _ _ _ _ ?_; simp; done) | (with_reducible refine Bx.alloc ?_ _) | (with_reducible refine Bx.drew ?_) | (with_reducible refine Bx.drewN ?_ _)))
  clear hX
  refine (specL05Differences _ _ x _ hR (Ints.ofBelow h hB)).mono ?_
  rintro e w1 ⟨a1, c1, rfl, ho1, hb1⟩
  obtain ⟨D, hD⟩ : ∃ D, D = difOut n x x.length := ⟨_, rfl⟩
  rw [← hD] at ho1 hdl hdb
  have HD := Lib.hid hD
  rw [← hD]
  clear hD
  have hx1 := hx.below hb1 hx.lt
  have hsz1 := hx1.lt
  have HB1 := Lib.hid (bel_step hB hb1 hB.size)
  have HX1 := Lib.hid hx1
  rcases ho1.ints.open with ⟨hnil, -⟩ | ⟨g, o, c2, he, -, hpos, -, hgb, hgc⟩
  · rw [hnil] at hdl; simp at hdl; omega
  injection he with he1 he2 he3
  subst he1 he3
  have HG := Lib.hid hgc
  clear hb1 hx hx1 hB ho1 hgc
  go_wp2_with fail
  go_loopw [5, 4] (fun i u wr => ∃ k : Nat, k ≤ M ∧ i = .int .i64 ((k : Int) + 1) ∧ (∃ a' c', u = .slice a' k c' ∧ Own wr w1.heap.size (.slice a' k c') (veTo D n k)) ∧ Below w1.heap.size w1 wr) (fun i _ _ => ((M : Int) + 1 - intOf i).toNat)
  case atStart => exact ⟨0, Nat.zero_le _, rfl, ⟨_, 0, rfl, Own.lit0v _ (Nat.le_refl _)⟩, (Below.refl _ _).alloc (Nat.le_refl _) _⟩
  case round =>
    obtain ⟨k, hk, rfl, ⟨a', c', rfl, hown⟩, hbel⟩ := hrel
    have hbx := HX1.out.below hbel hsz1
    have q0 := hbx.c0
    have q1 := hbx.c1
    have hszr := hbel.size
    have HO := Lib.hid hown
    have HB := Lib.hid hbel
    by_cases hlt : k < M
    · have hkD : k + 1 < D.length := by omega
      have hcd : wr.cell? ⟨g, o + (k + 1), none⟩ = some (.int .i64 (D.getD (k + 1) 0)) := ((bcell hbel).1 _ _ hgb).trans (HG.out _ hkD)
      have hge := hdb.get hkD
      have hti : ((k : Int) + 1).toNat = k + 1 := by omega
      obtain ⟨y, hy⟩ : ∃ y, y = D.getD (k + 1) 0 := ⟨_, rfl⟩
      rw [← hy] at hcd hge
      have hyd : y.tdiv 2 = y / 2 := Int.tdiv_eq_ediv_of_nonneg (by omega)
      have hy2 : 0 ≤ y / 2 ∧ y / 2 ≤ 1152 := by omega
      have Hs := Lib.hid (veTo_succ D n k)
      clear hown hbel hbx
      by_cases hh : 2 * ((k : Int) + 1) = n
      · have Hv : Hid (veAt D n k = y / 2) := by unfold Hid; rw [veAt_yes hh, hy]
        have hhb : (2 * ((k : Int) + 1) == n) = true := by simp [hh]
        clear hy
        go_wp2_with (at_builtin; refine wpAppInt rfl _ _ rfl w1.heap.size a' k c' (veTo D n k) _ rfl rfl HO.out (veTo_len _ _ _) (by omega) (by omega) ?_; intro a2 c3 w2 ho2 hb2)
        have HO2 : Hid (Own w2 w1.heap.size (.slice a2 (k + 1) c3) (veTo D n (k + 1))) := by unfold Hid; rw [Hs.out, Hv.out]; exact ho2
        have HB2 := Lib.hid (HB.out.trans hb2)
        clear ho2 hb2
        go_roundw
        case rel => exact ⟨k + 1, by omega, by go_num, ⟨a2, c3, rfl, HO2.out⟩, HB2.out⟩
        case measure => simp [intOf]; omega
      · have Hv : Hid (veAt D n k = y) := by unfold Hid; rw [veAt_no hh, hy]
        have hhb : (2 * ((k : Int) + 1) == n) = false := by simp [hh]
        clear hy
        go_wp2_with (at_builtin; refine wpAppInt rfl _ _ rfl w1.heap.size a' k c' (veTo D n k) _ rfl rfl HO.out (veTo_len _ _ _) (by omega) (by omega) ?_; intro a2 c3 w2 ho2 hb2)
        have HO2 : Hid (Own w2 w1.heap.size (.slice a2 (k + 1) c3) (veTo D n (k + 1))) := by unfold Hid; rw [Hs.out, Hv.out]; exact ho2
        have HB2 := Lib.hid (HB.out.trans hb2)
        clear ho2 hb2
        go_roundw
        case rel => exact ⟨k + 1, by omega, by go_num, ⟨a2, c3, rfl, HO2.out⟩, HB2.out⟩
        case measure => simp [intOf]; omega
    · have e : k = M := by omega
      subst e
      clear hown hbel hbx
      go_wp2
      go_ret
      exact RetOwn.mk (v := .slice a' k c') rfl (by rw [← HD.out]; exact HO.out.mono HB1.out.size) (HB1.out.trans (HB.out.mono HB1.out.size))


end Go.Proofs.Ytopfenhphnmfkaa
