/-
  Contracts of the number of beats in common and of CommonBeats, in the program and in the reference.
  Conditions: rhythms whose beats lie in memory.
-/
import Derived.Test.YtopfenhphnmfkaaN9
import Derived.Test.YtopfenhphnmfkaaN13
import Derived.Test.YtopfenhphnmfkaaM17
import Derived.Test.YtopfenhphnmfkaaE2
import Derived.Deep.RegionWith
set_option linter.unusedVariables false
set_option linter.unusedSimpArgs false
namespace Go.Proofs.Ytopfenhphnmfkaa
open Go.RowKit

theorem code_and {a b : Nat} (ha : a < 16777216) (hb : b < 16777216) : bits .and .i64 (a : Int) (b : Int) = ((a &&& b : Nat) : Int) :=
  (bits_nat .i64 24 (by decide) (fun n h0 h1 => by rw [IntKind.wrap_i64]; omega) a b ha hb).1
theorem and_lt {a b : Nat} (ha : a < 16777216) : a &&& b < 16777216 := Nat.lt_of_le_of_lt Nat.and_le_left ha

set_option maxHeartbeats 4000000 in
theorem implCommon (n : Int) (u : Value) (x : List Int) (v : Value) (y : List Int) (w : World) (hR1 : Rok n x) (hR2 : Rok n y) (hu : Ints w w.heap.size u x) (hv : Ints w w.heap.size v y) :
    Calls Try.prog 76 #[.agg #[.int .i64 n, u], .agg #[.int .i64 n, v]] w fun e w' => e = .returned (.int .i64 (comm x y : Nat)) ∧ Below w.heap.size w w' := by
  have hu' := hu
  have hv' := hv
  obtain ⟨a, cap, rfl, -⟩ := hu
  obtain ⟨a', cap', rfl, -⟩ := hv
  have hh := Held2.new w (.int .i64 n) (.slice a x.length cap) (.int .i64 n) (.slice a' y.length cap') 25 25
  have H0 := Lib.hid hh
  clear hh
  have hlt := and_lt (b := codeN n y) (codeN_ltR hR1)
  have hA := code_and (codeN_ltR hR1) (codeN_ltR hR2)
  have hW := wrapNat (codeN n x &&& codeN n y) (by omega)
  have Hp := Lib.hid (comm_pop hR1 hR2)
  have Hlt := Lib.hid hlt
  clear hlt
  go_enter Try.func76, Try.ntmps76
  go_wp2_with fail
  have H1 := Lib.hid H0.out.drew
  obtain ⟨q0, q1⟩ := H1.out.2.1
  obtain ⟨q2, q3⟩ := H1.out.2.2
  go_region_with (first
    | (go_at_call_of 111 (Value.agg #[Value.int IntKind.i64 n, Value.slice a x.length cap]); refine (implCode _ _ x _ hR1 (Ints.ofBelow hu' H1.out.1)).mono ?_; rintro e w2 ⟨rfl, b2⟩; have H3 := Lib.hid (H1.out.after b2); obtain ⟨s0, s1⟩ := H3.out.2.1; obtain ⟨s2, s3⟩ := H3.out.2.2)
    | (go_at_call_of 111 (Value.agg #[Value.int IntKind.i64 n, Value.slice a' y.length cap']); refine (implCode _ _ y _ hR2 (Ints.ofBelow hv' H3.out.1)).mono ?_; rintro e w3 ⟨rfl, b3⟩; have H4 := Lib.hid (H3.out.after b3))
    | (go_at_call 110; refine (implOnes _ _ Hlt.out).mono ?_; rintro e w' ⟨rfl, rfl⟩; rw [Hp.out]))
  all_goals
    go_wp2
    go_ret
    exact ⟨rfl, H4.out.1⟩

set_option maxHeartbeats 4000000 in
theorem specL05Common (n : Int) (u : Value) (x : List Int) (m : Int) (v : Value) (y : List Int) (w : World) (hl : x.length ≤ 1048576) (hu : Ints w w.heap.size u x) (hv : Ints w w.heap.size v y) :
    Calls Try.prog 73 #[.agg #[.int .i64 n, u], .agg #[.int .i64 m, v]] w fun e w' => e = .returned (.int .i64 (comm x y : Nat)) ∧ Below w.heap.size w w' := by
  have hv' := hv
  have hu' := hu
  obtain ⟨a', cap', rfl, -⟩ := hv
  rcases hu'.open with ⟨rfl, a, cap, rfl⟩ | ⟨b, o, cap, rfl, hm, hpos, hB, hlt0, hc⟩
  · go_enter Try.func73, Try.ntmps73
    go_wp2
    refine wp_loop_rounds 1 ?_; rw [rounds_succ]
    go_wp2
    go_ret
    exact ⟨rfl, by (repeat (first | (with_reducible exact (Below.refl _ _)) | (with_reducible refine bel_alloc ?_ _) | (with_reducible refine Below.drew ?_) | (with_reducible refine bel_drewN ?_ _) | (with_reducible refine Below.setCell ?_ (by simp) _)))⟩
  · have hh := Held2.new w (.int .i64 n) (.slice (some ⟨b, o, none⟩) x.length cap) (.int .i64 m) (.slice a' y.length cap') 25 25
    have H0 := Lib.hid hh
    clear hh
    go_enter Try.func73, Try.ntmps73
    go_wp2
    go_loopw [5, 11] (fun u i wr => ∃ k : Nat, k ≤ x.length ∧ i = .int .i64 k ∧ u = .int .i64 (comm (x.take k) y : Nat) ∧ Held2 w (.int .i64 n) (.slice (some ⟨b, o, none⟩) x.length cap) (.int .i64 m) (.slice a' y.length cap') wr) (fun _ i _ => x.length - (intOf i).toNat)
    case atStart => exact ⟨0, Nat.zero_le _, rfl, rfl, H0.out⟩
    case round =>
      obtain ⟨k, hk, rfl, rfl, hH⟩ := hrel
      have HH := Lib.hid hH
      by_cases hlt : k < x.length
      · have hc1 : wr.cell? ⟨b, o + k, none⟩ = some (.int .i64 x[k]) := by
          have := ((bcell hH.1).1 _ _ hlt0).trans (hc k hlt)
          rwa [getD_get hlt] at this
        obtain ⟨q2, q3⟩ := hH.2.2
        clear hH
        have hcm := comm_le (x.take k) y
        have hcl : (comm (x.take k) y : Nat) ≤ 1048576 := by
          have : (x.take k).length ≤ x.length := by rw [List.length_take]; exact Nat.min_le_right _ _
          omega
        cases hh : hasL y x[k] with
        | false =>
          have Hh := Lib.hid hh
          have He := Lib.hid (comm_no hlt hh)
          clear hh hcm
          go_wp2_with (first | (go_at_call 107; refine (specL02Has _ y _ _ _ (Ints.ofBelow hv' HH.out.1)).mono ?_; rintro e w' ⟨rfl, rfl⟩; rw [Hh.out]))
          go_roundw
          case rel => exact ⟨k + 1, by omega, by go_num, by rw [He.out], HH.out⟩
          case measure => simp [intOf]; omega
        | true =>
          have Hh := Lib.hid hh
          have He := Lib.hid (comm_yes hlt hh)
          clear hh hcm
          go_wp2_with (first | (go_at_call 107; refine (specL02Has _ y _ _ _ (Ints.ofBelow hv' HH.out.1)).mono ?_; rintro e w' ⟨rfl, rfl⟩; rw [Hh.out]))
          go_roundw
          case rel => exact ⟨k + 1, by omega, by go_num, by rw [He.out]; go_num, HH.out⟩
          case measure => simp [intOf]; omega
      · have e : k = x.length := by omega
        subst e
        rw [List.take_length]
        clear hH
        go_wp2
        go_ret
        exact ⟨rfl, HH.out.1⟩

theorem specL05Two (n m : Int) (u v : Value) (x y : List Int) (c : I64 n) (d : I64 m) (w : World) (hu : Ints w w.heap.size u x) (hv : Ints w w.heap.size v y) :
    Calls Try.prog 72 #[.agg #[.int .i64 n, u], .agg #[.int .i64 m, v]] w fun e w' => e = .returned (.bool (sameSz n m x y)) ∧ Below w.heap.size w w' := by
  have hu' := hu
  have hv' := hv
  obtain ⟨a, cap, rfl, -⟩ := hu
  obtain ⟨a', cap', rfl, -⟩ := hv
  have H0 := Lib.hid (Held2.new w (.int .i64 n) (.slice a x.length cap) (.int .i64 m) (.slice a' y.length cap') 25 25)
  have H1 := Lib.hid (H0.out.alloc (.cells #[.int .i64 n, .slice a x.length cap] 25))
  cases hr : rok n x with
  | false =>
    have Hr := Lib.hid hr
    have Hf := Lib.hid (sameSz_no1 (m := m) y hr)
    clear hr
    go_enter Try.func72, Try.ntmps72
    go_wp2_with (go_at_call 59; refine (specRhythmOk _ _ x _ _ c.1 c.2 (Ints.ofBelow hu' H0.out.1)).mono ?_; rintro e w' ⟨rfl, rfl⟩; rw [Hr.out])
    go_ret
    exact ⟨ret_bool Hf.out.symm, by (repeat (first | (with_reducible exact (Below.refl _ _)) | (with_reducible refine bel_alloc ?_ _) | (with_reducible refine Below.drew ?_) | (with_reducible refine bel_drewN ?_ _) | (with_reducible refine Below.setCell ?_ (by simp) _)))⟩
  | true =>
    have Hr := Lib.hid hr
    cases hs : rok m y with
    | false =>
      have Hs := Lib.hid hs
      have Hf := Lib.hid (sameSz_no2 (n := n) x hs)
      clear hr hs
      go_enter Try.func72, Try.ntmps72
      go_wp2_with fail
      refine (specRhythmOk _ _ x _ _ c.1 c.2 (Ints.ofBelow hu' H0.out.1)).mono ?_
      rintro e w' ⟨rfl, rfl⟩
      rw [Hr.out]
      go_wp2_with fail
      refine (specRhythmOk _ _ y _ _ d.1 d.2 (Ints.ofBelow hv' H1.out.1)).mono ?_
      rintro e w' ⟨rfl, rfl⟩
      rw [Hs.out]
      go_wp2
      go_ret
      exact ⟨ret_bool Hf.out.symm, by (repeat (first | (with_reducible exact (Below.refl _ _)) | (with_reducible refine bel_alloc ?_ _) | (with_reducible refine Below.drew ?_) | (with_reducible refine bel_drewN ?_ _) | (with_reducible refine Below.setCell ?_ (by simp) _)))⟩
    | true =>
      have Hs := Lib.hid hs
      have Hf := Lib.hid (sameSz_yes hr hs)
      clear hr hs
      cases hb : (n == m) with
      | false =>
        go_enter Try.func72, Try.ntmps72
        go_wp2_with fail
        refine (specRhythmOk _ _ x _ _ c.1 c.2 (Ints.ofBelow hu' H0.out.1)).mono ?_
        rintro e w' ⟨rfl, rfl⟩
        rw [Hr.out]
        go_wp2_with fail
        refine (specRhythmOk _ _ y _ _ d.1 d.2 (Ints.ofBelow hv' H1.out.1)).mono ?_
        rintro e w' ⟨rfl, rfl⟩
        rw [Hs.out]
        go_wp2
        go_ret
        exact ⟨ret_bool (by rw [Hf.out]; simpa using hb), by (repeat (first | (with_reducible exact (Below.refl _ _)) | (with_reducible refine bel_alloc ?_ _) | (with_reducible refine Below.drew ?_) | (with_reducible refine bel_drewN ?_ _) | (with_reducible refine Below.setCell ?_ (by simp) _)))⟩
      | true =>
        go_enter Try.func72, Try.ntmps72
        go_wp2_with fail
        refine (specRhythmOk _ _ x _ _ c.1 c.2 (Ints.ofBelow hu' H0.out.1)).mono ?_
        rintro e w' ⟨rfl, rfl⟩
        rw [Hr.out]
        go_wp2_with fail
        refine (specRhythmOk _ _ y _ _ d.1 d.2 (Ints.ofBelow hv' H1.out.1)).mono ?_
        rintro e w' ⟨rfl, rfl⟩
        rw [Hs.out]
        go_wp2
        go_ret
        exact ⟨ret_bool (by rw [Hf.out]; simpa using hb), by (repeat (first | (with_reducible exact (Below.refl _ _)) | (with_reducible refine bel_alloc ?_ _) | (with_reducible refine Below.drew ?_) | (with_reducible refine bel_drewN ?_ _) | (with_reducible refine Below.setCell ?_ (by simp) _)))⟩

def valCommonBeats (n : Int) (x : List Int) (m : Int) (y : List Int) : Int := if sameSz n m x y then (comm x y : Nat) else -1
theorem commonBeats_no {n m : Int} {x y : List Int} (h : sameSz n m x y = false) : valCommonBeats n x m y = -1 := by simp [valCommonBeats, h]
theorem commonBeats_yes {n m : Int} {x y : List Int} (h : sameSz n m x y = true) : valCommonBeats n x m y = (comm x y : Nat) := by simp [valCommonBeats, h]


end Go.Proofs.Ytopfenhphnmfkaa
