/-
  Contracts of SameVector, in the program and in the reference.
  Conditions: the rhythms' beats lie in memory.
-/
import Derived.Test.YtopfenhphnmfkaaF11
import Derived.Deep.RegionHeld3
import Derived.Deep.RegionWith
set_option linter.unusedVariables false
set_option linter.unusedSimpArgs false
namespace Go.Proofs.Ytopfenhphnmfkaa
open Go.RowKit

def valSameVector (n : Int) (x : List Int) (m : Int) (y : List Int) : Bool := sameSz n m x y && eqL (lstVectorOf n x) (lstVectorOf m y)
theorem valSameVector_no {n m : Int} {x y : List Int} (h : sameSz n m x y = false) : valSameVector n x m y = false := by simp [valSameVector, h]
theorem valSameVector_yes {n m : Int} {x y : List Int} (h : sameSz n m x y = true) : valSameVector n x m y = eqL (vecOut n x x.length) (vecOut m y y.length) := by
  obtain ⟨h1, h2, _⟩ := sameSz_iff.1 h
  unfold valSameVector
  rw [h, lstVectorOf_yes ((rok_iff _ _).2 h1), lstVectorOf_yes ((rok_iff _ _).2 h2)]; rfl

set_option maxHeartbeats 4000000 in
theorem implSameVectorC (n : Int) (u : Value) (x : List Int) (c : I64 n) (m : Int) (v : Value) (y : List Int) (d : I64 m) (w : World) (hu : Ints w w.heap.size u x) (hv : Ints w w.heap.size v y) :
    Calls Try.prog 79 #[.agg #[.int .i64 n, u], .agg #[.int .i64 m, v]] w fun e w' => e = .returned (.bool (valSameVector n x m y)) ∧ Below w.heap.size w w' := by
  have hu' := hu
  have hv' := hv
  obtain ⟨a, cap, rfl, -⟩ := hu
  obtain ⟨a', cap', rfl, -⟩ := hv
  have hh := Held2.new w (.int .i64 n) (.slice a x.length cap) (.int .i64 m) (.slice a' y.length cap') 25 25
  have H0 := Lib.hid hh
  clear hh
  cases hs : sameSz n m x y with
  | false =>
    have Hs := Lib.hid hs
    have Hf := Lib.hid (valSameVector_no hs)
    clear hs
    go_enter Try.func79, Try.ntmps79
    go_wp2_with fail
    refine region_held (Held2 w (.int .i64 n) (.slice a x.length cap) (.int .i64 m) (.slice a' y.length cap')) (by kernel_rfl) (by kernel_rfl) H0.out.drew (Held2.keeps _ _ _ _ _) fun U val hne hv hcall => ?_
    have HC := Lib.hid hcall
    have z0 : ∀ u, (val u).cell? ⟨w.heap.size, 0, none⟩ = some (.int .i64 n) := fun u => (hv u).2.1.1
    have z1 : ∀ u, (val u).cell? ⟨w.heap.size, 1, none⟩ = some (.slice a x.length cap) := fun u => (hv u).2.1.2
    have z2 : ∀ u, (val u).cell? ⟨w.heap.size + 1, 0, none⟩ = some (.int .i64 m) := fun u => (hv u).2.2.1
    have z3 : ∀ u, (val u).cell? ⟨w.heap.size + 1, 1, none⟩ = some (.slice a' y.length cap') := fun u => (hv u).2.2.2
    have HV := Lib.hid hv
    clear hv hcall
    repeat (go_big_quiet_step ((first | (go_at_call 69; exact HC.out _ _ _ _ (retB (implSameSizeC _ _ _ _ x y c d _ (Ints.ofBelow hu' (HV.out _).1) (Ints.ofBelow hv' (HV.out _).1)) Hs.out)))))
    refine wpQuiet_nil ?_
    rintro _ ⟨u, rfl⟩
    have HB := Lib.hid (HV.out u).1
    go_wp2
    go_ret
    exact ⟨ret_bool Hf.out.symm, HB.out⟩
  | true =>
    have Hs := Lib.hid hs
    have Hf := Lib.hid (valSameVector_yes hs)
    obtain ⟨hR1, hR2, -⟩ := sameSz_iff.1 hs
    clear hs
    go_enter Try.func79, Try.ntmps79
    go_wp2_with fail
    have H1 := Lib.hid H0.out.drew
    obtain ⟨q0, q1⟩ := H1.out.2.1
    obtain ⟨q2, q3⟩ := H1.out.2.2
    go_region_with (first
      | (go_at_call 69; refine (implSameSizeC _ _ _ _ x y c d _ (Ints.ofBelow hu' H1.out.1) (Ints.ofBelow hv' H1.out.1)).mono ?_; rintro e w1 ⟨rfl, b1⟩; rw [Hs.out]; have H2 := Lib.hid (H1.out.after b1); obtain ⟨p0, p1⟩ := H2.out.2.1; obtain ⟨p2, p3⟩ := H2.out.2.2)
      | (go_at_call_of 92 (Value.agg #[Value.int IntKind.i64 n, Value.slice a x.length cap]); refine (implVector _ _ x _ hR1 (Ints.ofBelow hu' H2.out.1)).mono ?_; rintro e w2 ⟨a1, c1, rfl, o1, b2⟩; have H3 := Lib.hid (H2.out.after b2); obtain ⟨s0, s1⟩ := H3.out.2.1; obtain ⟨s2, s3⟩ := H3.out.2.2)
      | (go_at_call_of 92 (Value.agg #[Value.int IntKind.i64 m, Value.slice a' y.length cap']); refine (implVector _ _ y _ hR2 (Ints.ofBelow hv' H3.out.1)).mono ?_; rintro e w3 ⟨a2, c2, rfl, o2, b3⟩; have H4 := Lib.hid (H3.out.after b3))
      | (go_at_call 105; refine (slicesEqual _ _ (vecOut n x x.length) (vecOut m y y.length) _ _ _ ((o1.ints.below b3).mono b3.size) o2.ints).mono ?_; rintro e w' ⟨rfl, q, rfl⟩))
    all_goals
      go_wp2
      go_ret
      exact ⟨ret_bool Hf.out.symm, bel_drewN H4.out.1 _⟩
end Go.Proofs.Ytopfenhphnmfkaa
