/-
  Contracts of OverlapsOf, in the program and in the reference.
  Conditions: rhythms whose beats lie in memory.
-/
import Derived.Test.YtopfenhphnmfkaaN15
import Derived.Test.YtopfenhphnmfkaaN2
import Derived.Test.YtopfenhphnmfkaaB3
import Derived.Deep.RegionLaw
set_option linter.unusedVariables false
set_option linter.unusedSimpArgs false
namespace Go.Proofs.Ytopfenhphnmfkaa
open Go.RowKit

def ovTo (n : Int) (x y : List Int) (k : Nat) : List Int := (List.range k).map fun (i : Nat) => ((comm x (mapV n y 1 (i : Int)) : Nat) : Int)
theorem ovTo_succ (n : Int) (x y : List Int) (k : Nat) : ovTo n x y (k + 1) = ovTo n x y k ++ [((comm x (mapV n y 1 (k : Int)) : Nat) : Int)] := by
  unfold ovTo; rw [List.range_succ, List.map_append]; rfl
theorem ovTo_len (n : Int) (x y : List Int) (k : Nat) : (ovTo n x y k).length = k := by simp [ovTo]
theorem ovTo_zero (n : Int) (x y : List Int) : ovTo n x y 0 = [] := rfl
def lstOverlapsOf (n : Int) (x : List Int) (m : Int) (y : List Int) : List Int := if sameSz n m x y then ovTo n x y n.toNat else []
theorem overlaps_no {n m : Int} {x y : List Int} (h : sameSz n m x y = false) : lstOverlapsOf n x m y = [] := by simp [lstOverlapsOf, h]
theorem overlaps_yes {n m : Int} {x y : List Int} (h : sameSz n m x y = true) : lstOverlapsOf n x m y = ovTo n x y n.toNat := by simp [lstOverlapsOf, h]
theorem lenOverlapsOf (n : Int) (x : List Int) (m : Int) (y : List Int) : (lstOverlapsOf n x m y).length ≤ 24 := by
  cases hs : sameSz n m x y with
  | false => rw [overlaps_no hs]; simp
  | true =>
    obtain ⟨hR, -, -⟩ := sameSz_iff.1 hs
    have := hR.hi
    rw [overlaps_yes hs, ovTo_len]; omega
theorem Held2.below2 {w X Y : World} {v0 v1 u0 u1 : Value} (h : Held2 w v0 v1 u0 u1 X) (b : Below (w.heap.size + 2) X Y) : Held2 w v0 v1 u0 u1 Y :=
  ⟨h.1.trans (b.mono (by omega)), ⟨((bcell b).1 _ _ (by omega)).trans h.2.1.1, ((bcell b).1 _ _ (by omega)).trans h.2.1.2⟩, ⟨((bcell b).1 _ _ (by omega)).trans h.2.2.1, ((bcell b).1 _ _ (by omega)).trans h.2.2.2⟩⟩

set_option maxRecDepth 20000 in
set_option maxHeartbeats 4000000 in
theorem implOverlapsOfC (n : Int) (u : Value) (x : List Int) (c : I64 n) (m : Int) (v : Value) (y : List Int) (d : I64 m) (w : World) (hu : Ints w w.heap.size u x) (hv : Ints w w.heap.size v y) :
    Calls Try.prog 30 #[.agg #[.int .i64 n, u], .agg #[.int .i64 m, v]] w (RetOwn w (lstOverlapsOf n x m y)) := by
  have hu' := hu
  have hv' := hv
  obtain ⟨a, cap, rfl, -⟩ := hu
  obtain ⟨a', cap', rfl, -⟩ := hv
  have hh := Held2.new w (.int .i64 n) (.slice a x.length cap) (.int .i64 m) (.slice a' y.length cap') 25 25
  have H0 := Lib.hid hh
  clear hh
  cases hs : sameSz n m x y with
  | false =>
    have Hs := Lib.hid hs
    have Hf := Lib.hid (overlaps_no hs)
    clear hs
    go_enter Try.func30, Try.ntmps30
    go_wp2_with fail
    refine withWorld fun X hX => ?_
    have hH : Held2 w _ _ _ _ X := hX ▸ H0.out
    clear hX
    refine (implSameSizeC _ _ _ _ x y c d _ (Ints.ofBelow hu' hH.1) (Ints.ofBelow hv' hH.1)).mono ?_
    rintro e w1 ⟨rfl, b1⟩
    rw [Hs.out]
    have H1 := Lib.hid (hH.after b1)
    clear b1 hH X H0
    go_wp2
    go_ret
    rw [Hf.out]
    exact .mk rfl (Own.nil _ _) H1.out.1
  | true =>
    have Hs := Lib.hid hs
    have Hf := Lib.hid (overlaps_yes hs)
    obtain ⟨hR1, hR2, hnm⟩ := sameSz_iff.1 hs
    clear hs
    subst hnm
    have hlo := hR1.lo
    have hhi := hR1.hi
    have hlx := hR1.len24
    have Hm := Lib.hid (fun k : Int => mapV_rok hlo hhi y 1 k)
    go_enter Try.func30, Try.ntmps30
    go_wp2_with fail
    refine withWorld fun X hX => ?_
    have hH : Held2 w _ _ _ _ X := hX ▸ H0.out
    clear hX
    refine (implSameSizeC _ _ _ _ x y c d _ (Ints.ofBelow hu' hH.1) (Ints.ofBelow hv' hH.1)).mono ?_
    rintro e w1 ⟨rfl, b1⟩
    rw [Hs.out]
    have H1 := Lib.hid (hH.after b1)
    have hz1 : w.heap.size + 2 ≤ w1.heap.size := by
      have := World.block_lt_of_cell? w1 ⟨w.heap.size + 1, 0, none⟩ H1.out.2.2.1
      simp at this; omega
    clear b1 hH X H0
    obtain ⟨q0, q1⟩ := H1.out.2.1
    obtain ⟨q2, q3⟩ := H1.out.2.2
    go_wp2
    go_loopw [5, 13] (fun u i wr => ∃ k : Nat, (k : Int) ≤ n ∧ i = .int .i64 k ∧ (∃ g' c', u = .slice g' k c' ∧ Own wr (w.heap.size + 2) (.slice g' k c') (ovTo n x y k)) ∧ Held2 w (.int .i64 n) (.slice a x.length cap) (.int .i64 n) (.slice a' y.length cap') wr) (fun _ i _ => n.toNat - (intOf i).toNat)
    case atStart => exact ⟨0, by omega, rfl, ⟨none, 0, rfl, Own.nil _ _⟩, H1.out⟩
    case round =>
      obtain ⟨k, hk, rfl, ⟨g', c', rfl, hown⟩, hH⟩ := hrel
      have HO := Lib.hid hown
      have H2 := Lib.hid hH
      clear q0 q1 q2 q3
      obtain ⟨q0, q1⟩ := H2.out.2.1
      obtain ⟨q2, q3⟩ := H2.out.2.2
      have hz2 : w.heap.size + 2 ≤ wr.heap.size := by
        have := World.block_lt_of_cell? wr ⟨w.heap.size + 1, 0, none⟩ H2.out.2.2.1
        simp at this; omega
      have Hz2 := Lib.hid hz2
      clear hown hH hz1
      by_cases hlt : (k : Int) < n
      · have Hsu := Lib.hid (ovTo_succ n x y k)
        go_wp2_with fail
        go_region_law (first
          | (refine stepAppInt (wr := w4) rfl (.tmp 16) (.tmp 22) rfl (w.heap.size + 2) g' k c' (ovTo n x y k) _ rfl rfl HO4.out (ovTo_len _ _ _ _) (by omega) Hz4.out (.inl rfl) ?_; intro g2 c2 w5 o2 b5)
          | (go_simp; go_at_call 63; refine (implRotated _ _ y _ _ hR2 (by omega) (by omega) (Ints.ofBelow hv' H2.out.drew.1)).mono ?_; rintro e w3 ⟨g1, c1, rfl, o1, b3⟩; have H3 := Lib.hid (H2.out.drew.after b3); have HO3 := Lib.hid (HO.out.drew.below b3); have Hz3 := Lib.hid (Nat.le_trans Hz2.out b3.size); obtain ⟨s0, s1⟩ := H3.out.2.1)
          | (go_simp; go_at_call 76; refine (implCommon _ _ x _ (mapV n y 1 k) _ hR1 (Hm.out _) (Ints.ofBelow hu' H3.out.1) o1.ints).mono ?_; rintro e w4 ⟨rfl, b4⟩; have H4 := Lib.hid (H3.out.after b4); have HO4 := Lib.hid (HO3.out.below b4); have Hz4 := Lib.hid (Nat.le_trans Hz3.out b4.size)))
        all_goals
          have HO5 : Hid (Own w5 (w.heap.size + 2) (.slice g2 (k + 1) c2) (ovTo n x y (k + 1))) := by unfold Hid; rw [Hsu.out]; exact o2
          have H5 := Lib.hid (H4.out.below2 b5)
          clear o2 b5 o1 b3 b4 q0 q1 q2 q3
          go_wp2_with fail
          go_roundw
          case rel => exact ⟨k + 1, by omega, by go_num, ⟨g2, c2, rfl, HO5.out⟩, H5.out⟩
          case measure => simp [intOf]; omega
      · have e : k = n.toNat := by omega
        have hko := HO.out
        rw [e] at hko
        rw [← Hf.out] at hko
        have HK := Lib.hid hko
        have hkl : k = (lstOverlapsOf n x n y).length := by rw [Hf.out, ovTo_len, e]
        have Hkl := Lib.hid hkl
        have Hk := Lib.hid e
        clear hko hkl e
        go_wp2
        go_ret
        refine .mk (v := .slice g' k c') rfl ?_ (H2.out.1)
        have := HK.out
        rw [← Hk.out] at this
        exact this.mono (by omega)

set_option maxRecDepth 20000 in
set_option maxHeartbeats 4000000 in
theorem specOverlapsOfC (n : Int) (u : Value) (x : List Int) (c : I64 n) (m : Int) (v : Value) (y : List Int) (d : I64 m) (w : World) (hu : Ints w w.heap.size u x) (hv : Ints w w.heap.size v y) :
    Calls Try.prog 28 #[.agg #[.int .i64 n, u], .agg #[.int .i64 m, v]] w (RetOwn w (lstOverlapsOf n x m y)) := by
  have hu' := hu
  have hv' := hv
  obtain ⟨a, cap, rfl, -⟩ := hu
  obtain ⟨a', cap', rfl, -⟩ := hv
  have hh := Held2.new w (.int .i64 n) (.slice a x.length cap) (.int .i64 m) (.slice a' y.length cap') 25 25
  have H0 := Lib.hid hh
  clear hh
  cases hs : sameSz n m x y with
  | false =>
    have Hs := Lib.hid hs
    have Hf := Lib.hid (overlaps_no hs)
    clear hs
    go_enter Try.func28, Try.ntmps28
    go_wp2_with fail
    refine withWorld fun X hX => ?_
    have hH : Held2 w _ _ _ _ X := hX ▸ H0.out
    clear hX
    refine (specL05Two _ _ _ _ x y c d _ (Ints.ofBelow hu' hH.1) (Ints.ofBelow hv' hH.1)).mono ?_
    rintro e w1 ⟨rfl, b1⟩
    rw [Hs.out]
    have H1 := Lib.hid (hH.after b1)
    clear b1 hH X H0
    go_wp2
    go_ret
    rw [Hf.out]
    exact .mk rfl (Own.nil _ _) H1.out.1
  | true =>
    have Hs := Lib.hid hs
    have Hf := Lib.hid (overlaps_yes hs)
    obtain ⟨hR1, hR2, hnm⟩ := sameSz_iff.1 hs
    clear hs
    subst hnm
    have hlo := hR1.lo
    have hhi := hR1.hi
    have hlx := hR1.len24
    have Hm := Lib.hid (fun k : Int => mapV_rok hlo hhi y 1 k)
    go_enter Try.func28, Try.ntmps28
    go_wp2_with fail
    refine withWorld fun X hX => ?_
    have hH : Held2 w _ _ _ _ X := hX ▸ H0.out
    clear hX
    refine (specL05Two _ _ _ _ x y c d _ (Ints.ofBelow hu' hH.1) (Ints.ofBelow hv' hH.1)).mono ?_
    rintro e w1 ⟨rfl, b1⟩
    rw [Hs.out]
    have H1 := Lib.hid (hH.after b1)
    have hz1 : w.heap.size + 2 ≤ w1.heap.size := by
      have := World.block_lt_of_cell? w1 ⟨w.heap.size + 1, 0, none⟩ H1.out.2.2.1
      simp at this; omega
    clear b1 hH X H0
    obtain ⟨q0, q1⟩ := H1.out.2.1
    obtain ⟨q2, q3⟩ := H1.out.2.2
    go_wp2
    go_loopw [5, 6] (fun u i wr => ∃ k : Nat, (k : Int) ≤ n ∧ i = .int .i64 k ∧ (∃ g' c', u = .slice g' k c' ∧ Own wr (w.heap.size + 2) (.slice g' k c') (ovTo n x y k)) ∧ Held2 w (.int .i64 n) (.slice a x.length cap) (.int .i64 n) (.slice a' y.length cap') wr) (fun _ i _ => n.toNat - (intOf i).toNat)
    case atStart => exact ⟨0, by omega, rfl, ⟨_, _, rfl, Own.lit w1 hz1⟩, H1.out.alloc _⟩
    case round =>
      obtain ⟨k, hk, rfl, ⟨g', c', rfl, hown⟩, hH⟩ := hrel
      have HO := Lib.hid hown
      have H2 := Lib.hid hH
      clear q0 q1 q2 q3
      obtain ⟨q0, q1⟩ := H2.out.2.1
      obtain ⟨q2, q3⟩ := H2.out.2.2
      have hz2 : w.heap.size + 2 ≤ wr.heap.size := by
        have := World.block_lt_of_cell? wr ⟨w.heap.size + 1, 0, none⟩ H2.out.2.2.1
        simp at this; omega
      have Hz2 := Lib.hid hz2
      clear hown hH hz1
      by_cases hlt : (k : Int) < n
      · have Hsu := Lib.hid (ovTo_succ n x y k)
        go_wp2_with fail
        go_region_law (first
          | (refine stepAppInt (wr := w4) rfl (.tmp 18) (.tmp 24) rfl (w.heap.size + 2) g' k c' (ovTo n x y k) _ rfl rfl HO4.out (ovTo_len _ _ _ _) (by omega) Hz4.out (.inl rfl) ?_; intro g2 c2 w5 o2 b5)
          | (go_simp; go_at_call 74; refine (specL02Map _ _ y _ _ _ hR2 (by omega) (by omega) (by omega) (by omega) (Ints.ofBelow hv' H2.out.drew.1)).mono ?_; rintro e w3 ⟨g1, c1, rfl, o1, b3⟩; have H3 := Lib.hid (H2.out.drew.after b3); have HO3 := Lib.hid (HO.out.drew.below b3); have Hz3 := Lib.hid (Nat.le_trans Hz2.out b3.size); obtain ⟨s0, s1⟩ := H3.out.2.1)
          | (go_simp; go_at_call 73; refine (specL05Common _ _ x _ _ (mapV n y 1 k) _ (by omega) (Ints.ofBelow hu' H3.out.1) o1.ints).mono ?_; rintro e w4 ⟨rfl, b4⟩; have H4 := Lib.hid (H3.out.after b4); have HO4 := Lib.hid (HO3.out.below b4); have Hz4 := Lib.hid (Nat.le_trans Hz3.out b4.size)))
        all_goals
          have HO5 : Hid (Own w5 (w.heap.size + 2) (.slice g2 (k + 1) c2) (ovTo n x y (k + 1))) := by unfold Hid; rw [Hsu.out]; exact o2
          have H5 := Lib.hid (H4.out.below2 b5)
          clear o2 b5 o1 b3 b4 q0 q1 q2 q3
          go_wp2_with fail
          go_roundw
          case rel => exact ⟨k + 1, by omega, by go_num, ⟨g2, c2, rfl, HO5.out⟩, H5.out⟩
          case measure => simp [intOf]; omega
      · have e : k = n.toNat := by omega
        have hko := HO.out
        rw [e] at hko
        rw [← Hf.out] at hko
        have HK := Lib.hid hko
        have hkl : k = (lstOverlapsOf n x n y).length := by rw [Hf.out, ovTo_len, e]
        have Hkl := Lib.hid hkl
        have Hk := Lib.hid e
        clear hko hkl e
        go_wp2
        go_ret
        refine .mk (v := .slice g' k c') rfl ?_ (H2.out.1)
        have := HK.out
        rw [← Hk.out] at this
        exact this.mono (by omega)
end Go.Proofs.Ytopfenhphnmfkaa
