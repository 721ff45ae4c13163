/-
  Contract of SameVector in the reference.
  Conditions: the rhythms' beats lie in memory.
-/
import Derived.Test.YtopfenhphnmfkaaF12
set_option linter.unusedVariables false
set_option linter.unusedSimpArgs false
namespace Go.Proofs.Ytopfenhphnmfkaa
open Go.RowKit

set_option maxHeartbeats 4000000 in
theorem specSameVectorC (n : Int) (u : Value) (x : List Int) (c : I64 n) (m : Int) (v : Value) (y : List Int) (d : I64 m) (w : World) (hu : Ints w w.heap.size u x) (hv : Ints w w.heap.size v y) :
    Calls Try.prog 77 #[.agg #[.int .i64 n, u], .agg #[.int .i64 m, v]] w fun e w' => e = .returned (.bool (valSameVector n x m y)) ∧ Below w.heap.size w w' := by
  have hu' := hu
  have hv' := hv
  obtain ⟨a, cap, rfl, -⟩ := hu
  obtain ⟨a', cap', rfl, -⟩ := hv
  have hh := Held2.new w (.int .i64 n) (.slice a x.length cap) (.int .i64 m) (.slice a' y.length cap') 25 25
  have H0 := Lib.hid hh
  clear hh
  cases hr : rok n x with
  | false =>
    have Hr := Lib.hid hr
    have Hf := Lib.hid (valSameVector_no (sameSz_no1 (m := m) y hr))
    clear hr
    go_enter Try.func77, Try.ntmps77
    go_wp2_with fail
    refine region_held (Held2 w (.int .i64 n) (.slice a x.length cap) (.int .i64 m) (.slice a' y.length cap')) (by kernel_rfl) (by kernel_rfl) H0.out.drew (Held2.keeps _ _ _ _ _) fun U val hne hv hcall => ?_
    have HC := Lib.hid hcall
    have z0 : ∀ u, (val u).cell? ⟨w.heap.size, 0, none⟩ = some (.int .i64 n) := fun u => (hv u).2.1.1
    have z1 : ∀ u, (val u).cell? ⟨w.heap.size, 1, none⟩ = some (.slice a x.length cap) := fun u => (hv u).2.1.2
    have z2 : ∀ u, (val u).cell? ⟨w.heap.size + 1, 0, none⟩ = some (.int .i64 m) := fun u => (hv u).2.2.1
    have z3 : ∀ u, (val u).cell? ⟨w.heap.size + 1, 1, none⟩ = some (.slice a' y.length cap') := fun u => (hv u).2.2.2
    have HV := Lib.hid hv
    clear hv hcall
    repeat (go_big_quiet_step ((first | (go_at_call_of 59 (Value.agg #[Value.int IntKind.i64 n, Value.slice a x.length cap]); exact HC.out _ _ _ _ (retB (specRhythmOkC _ _ x c _ (Ints.ofBelow hu' (HV.out _).1)) Hr.out)))))
    refine wpQuiet_nil ?_
    rintro _ ⟨u, rfl⟩
    have HB := Lib.hid (HV.out u).1
    go_wp2
    go_ret
    exact ⟨ret_bool Hf.out.symm, HB.out⟩
  | true =>
    have Hr := Lib.hid hr
    cases hs : rok m y with
    | false =>
      have Hs := Lib.hid hs
      have Hf := Lib.hid (valSameVector_no (sameSz_no2 (n := n) x hs))
      clear hr hs
      go_enter Try.func77, Try.ntmps77
      go_wp2_with fail
      refine region_held (Held2 w (.int .i64 n) (.slice a x.length cap) (.int .i64 m) (.slice a' y.length cap')) (by kernel_rfl) (by kernel_rfl) H0.out.drew (Held2.keeps _ _ _ _ _) fun U val hne hv hcall => ?_
      have HC := Lib.hid hcall
      have z0 : ∀ u, (val u).cell? ⟨w.heap.size, 0, none⟩ = some (.int .i64 n) := fun u => (hv u).2.1.1
      have z1 : ∀ u, (val u).cell? ⟨w.heap.size, 1, none⟩ = some (.slice a x.length cap) := fun u => (hv u).2.1.2
      have z2 : ∀ u, (val u).cell? ⟨w.heap.size + 1, 0, none⟩ = some (.int .i64 m) := fun u => (hv u).2.2.1
      have z3 : ∀ u, (val u).cell? ⟨w.heap.size + 1, 1, none⟩ = some (.slice a' y.length cap') := fun u => (hv u).2.2.2
      have HV := Lib.hid hv
      clear hv hcall
      repeat (go_big_quiet_step ((first | (go_at_call_of 59 (Value.agg #[Value.int IntKind.i64 n, Value.slice a x.length cap]); exact HC.out _ _ _ _ (retB (specRhythmOkC _ _ x c _ (Ints.ofBelow hu' (HV.out _).1)) Hr.out)) | (go_at_call_of 59 (Value.agg #[Value.int IntKind.i64 m, Value.slice a' y.length cap']); exact HC.out _ _ _ _ (retB (specRhythmOkC _ _ y d _ (Ints.ofBelow hv' (HV.out _).1)) Hs.out)))))
      refine wpQuiet_nil ?_
      rintro _ ⟨u, rfl⟩
      have HB := Lib.hid (HV.out u).1
      go_wp2
      go_ret
      exact ⟨ret_bool Hf.out.symm, HB.out⟩
    | true =>
      have Hs := Lib.hid hs
      by_cases hn : n = m
      · have hq : sameSz n m x y = true := by rw [sameSz_yes hr hs]; simp [hn]
        have hf := valSameVector_yes hq
        obtain ⟨hR1, hR2, -⟩ := sameSz_iff.1 hq
        rw [vec_same hR1, vec_same hR2] at hf
        subst hn
        have Hf := Lib.hid hf
        clear hf
        clear hr hs hq
        have hb : (n == n) = true := by simp
        go_enter Try.func77, Try.ntmps77
        go_wp2_with fail
        have H1 := Lib.hid H0.out.drew
        obtain ⟨q0, q1⟩ := H1.out.2.1
        obtain ⟨q2, q3⟩ := H1.out.2.2
        go_region_with (first
          | (go_at_call_of 59 (Value.agg #[Value.int IntKind.i64 n, Value.slice a x.length cap]); refine (specRhythmOkC _ _ x c _ (Ints.ofBelow hu' H1.out.1)).mono ?_; rintro e w1 ⟨rfl, b1⟩; rw [Hr.out]; have H2 := Lib.hid (H1.out.after b1); obtain ⟨p20, p21⟩ := H2.out.2.1; obtain ⟨p22, p23⟩ := H2.out.2.2)
          | (go_at_call_of 59 (Value.agg #[Value.int IntKind.i64 n, Value.slice a' y.length cap']); refine (specRhythmOkC _ _ y d _ (Ints.ofBelow hv' H2.out.1)).mono ?_; rintro e w2 ⟨rfl, b2⟩; rw [Hs.out]; have H3 := Lib.hid (H2.out.after b2); obtain ⟨p30, p31⟩ := H3.out.2.1; obtain ⟨p32, p33⟩ := H3.out.2.2)
          | (go_at_call_of 97 (Value.agg #[Value.int IntKind.i64 n, Value.slice a x.length cap]); refine (specL05Vector _ _ x _ hR1 (Ints.ofBelow hu' H3.out.1)).mono ?_; rintro e w3 ⟨a1, c1, rfl, o1, b3⟩; have H4 := Lib.hid (H3.out.after b3); obtain ⟨p40, p41⟩ := H4.out.2.1; obtain ⟨p42, p43⟩ := H4.out.2.2)
          | (go_at_call_of 97 (Value.agg #[Value.int IntKind.i64 n, Value.slice a' y.length cap']); refine (specL05Vector _ _ y _ hR2 (Ints.ofBelow hv' H4.out.1)).mono ?_; rintro e w4 ⟨a2, c2, rfl, o2, b4⟩; have H5 := Lib.hid (H4.out.after b4))
          | (go_at_call 96; refine (specL02Same _ _ (veTo (difOut n x x.length) n (n / 2).toNat) (veTo (difOut n y y.length) n (n / 2).toNat) _ _ _ ((o1.ints.below b4).mono b4.size) o2.ints).mono ?_; rintro e w' ⟨rfl, rfl⟩))
        all_goals
          go_wp2
          go_ret
          exact ⟨ret_bool Hf.out.symm, H5.out.1⟩
      · have hq : sameSz n m x y = false := by rw [sameSz_yes hr hs]; simpa using hn
        have hb : (n == m) = false := by simpa using hn
        have Hf := Lib.hid (valSameVector_no hq)
        clear hr hs hq
        go_enter Try.func77, Try.ntmps77
        go_wp2_with fail
        refine region_held (Held2 w (.int .i64 n) (.slice a x.length cap) (.int .i64 m) (.slice a' y.length cap')) (by kernel_rfl) (by kernel_rfl) H0.out.drew (Held2.keeps _ _ _ _ _) fun U val hne hv hcall => ?_
        have HC := Lib.hid hcall
        have z0 : ∀ u, (val u).cell? ⟨w.heap.size, 0, none⟩ = some (.int .i64 n) := fun u => (hv u).2.1.1
        have z1 : ∀ u, (val u).cell? ⟨w.heap.size, 1, none⟩ = some (.slice a x.length cap) := fun u => (hv u).2.1.2
        have z2 : ∀ u, (val u).cell? ⟨w.heap.size + 1, 0, none⟩ = some (.int .i64 m) := fun u => (hv u).2.2.1
        have z3 : ∀ u, (val u).cell? ⟨w.heap.size + 1, 1, none⟩ = some (.slice a' y.length cap') := fun u => (hv u).2.2.2
        have HV := Lib.hid hv
        clear hv hcall
        repeat (go_big_quiet_step ((first | (go_at_call_of 59 (Value.agg #[Value.int IntKind.i64 n, Value.slice a x.length cap]); exact HC.out _ _ _ _ (retB (specRhythmOkC _ _ x c _ (Ints.ofBelow hu' (HV.out _).1)) Hr.out)) | (go_at_call_of 59 (Value.agg #[Value.int IntKind.i64 m, Value.slice a' y.length cap']); exact HC.out _ _ _ _ (retB (specRhythmOkC _ _ y d _ (Ints.ofBelow hv' (HV.out _).1)) Hs.out)))))
        refine wpQuiet_nil ?_
        rintro _ ⟨u, rfl⟩
        have HB := Lib.hid (HV.out u).1
        go_wp2
        go_ret
        exact ⟨ret_bool Hf.out.symm, HB.out⟩
end Go.Proofs.Ytopfenhphnmfkaa
