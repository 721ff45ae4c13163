/-
  Contracts of AreTwins, in the program and in the reference.
  Conditions: rhythms whose beats lie in memory.
-/
import Derived.Test.YtopfenhphnmfkaaN5
import Derived.Test.YtopfenhphnmfkaaF13
set_option linter.unusedVariables false
set_option linter.unusedSimpArgs false
namespace Go.Proofs.Ytopfenhphnmfkaa
open Go.RowKit

def valAreTwins (n : Int) (x : List Int) (m : Int) (y : List Int) : Bool := valSameVector n x m y && !valAreForms n x m y
theorem twins_no {n : Int} {x : List Int} {m : Int} {y : List Int} (h : valSameVector n x m y = false) : valAreTwins n x m y = false := by simp [valAreTwins, h]
theorem twins_yes {n : Int} {x : List Int} {m : Int} {y : List Int} (h : valSameVector n x m y = true) : valAreTwins n x m y = !valAreForms n x m y := by simp [valAreTwins, h]

theorem implAreTwinsC (n : Int) (u : Value) (x : List Int) (c : I64 n) (m : Int) (v : Value) (y : List Int) (d : I64 m) (w : World) (hu : Ints w w.heap.size u x) (hv : Ints w w.heap.size v y) :
    Calls Try.prog 37 #[.agg #[.int .i64 n, u], .agg #[.int .i64 m, v]] w fun e w' => e = .returned (.bool (valAreTwins n x m y)) ∧ Below w.heap.size w w' := by
  have hu' := hu
  have hv' := hv
  obtain ⟨a, cap, rfl, -⟩ := hu
  obtain ⟨a', cap', rfl, -⟩ := hv
  have hh := Held2.new w (.int .i64 n) (.slice a x.length cap) (.int .i64 m) (.slice a' y.length cap') 25 25
  have H0 := Lib.hid hh
  clear hh
  cases hs : valSameVector n x m y with
  | false =>
    have Hs := Lib.hid hs
    have Hf := Lib.hid (twins_no hs)
    clear hs
    go_enter Try.func37, Try.ntmps37
    go_wp2_with fail
    refine withWorld fun X hX => ?_
    have hH : Held2 w _ _ _ _ X := hX ▸ H0.out
    clear hX
    refine (implSameVectorC _ _ x c _ _ y d _ (Ints.ofBelow hu' hH.1) (Ints.ofBelow hv' hH.1)).mono ?_
    rintro e w1 ⟨rfl, b1⟩
    rw [Hs.out]
    have H1 := Lib.hid (hH.after b1)
    clear b1 hH X H0
    go_wp2
    go_ret
    exact ⟨ret_bool Hf.out.symm, H1.out.1⟩
  | true =>
    have Hs := Lib.hid hs
    have Hf := Lib.hid (twins_yes hs)
    clear hs
    go_enter Try.func37, Try.ntmps37
    go_wp2_with fail
    refine withWorld fun X hX => ?_
    have hH : Held2 w _ _ _ _ X := hX ▸ H0.out
    clear hX
    refine (implSameVectorC _ _ x c _ _ y d _ (Ints.ofBelow hu' hH.1) (Ints.ofBelow hv' hH.1)).mono ?_
    rintro e w1 ⟨rfl, b1⟩
    rw [Hs.out]
    have H1 := Lib.hid (hH.after b1)
    clear b1 hH X H0
    obtain ⟨q0, q1⟩ := H1.out.2.1
    obtain ⟨q2, q3⟩ := H1.out.2.2
    go_wp2_with fail
    refine (implAreFormsC _ _ x c _ _ y d _ (Ints.ofBelow hu' H1.out.1) (Ints.ofBelow hv' H1.out.1)).mono ?_
    rintro e w2 ⟨rfl, b2⟩
    have H2 := Lib.hid (H1.out.after b2).1
    clear b2 H1 q0 q1 q2 q3
    go_wp2
    go_ret
    exact ⟨ret_bool (by rw [Hf.out]), H2.out⟩

theorem specAreTwinsC (n : Int) (u : Value) (x : List Int) (c : I64 n) (m : Int) (v : Value) (y : List Int) (d : I64 m) (w : World) (hu : Ints w w.heap.size u x) (hv : Ints w w.heap.size v y) :
    Calls Try.prog 36 #[.agg #[.int .i64 n, u], .agg #[.int .i64 m, v]] w fun e w' => e = .returned (.bool (valAreTwins n x m y)) ∧ Below w.heap.size w w' := by
  have hu' := hu
  have hv' := hv
  obtain ⟨a, cap, rfl, -⟩ := hu
  obtain ⟨a', cap', rfl, -⟩ := hv
  have hh := Held2.new w (.int .i64 n) (.slice a x.length cap) (.int .i64 m) (.slice a' y.length cap') 25 25
  have H0 := Lib.hid hh
  clear hh
  cases hs : valSameVector n x m y with
  | false =>
    have Hs := Lib.hid hs
    have Hf := Lib.hid (twins_no hs)
    clear hs
    go_enter Try.func36, Try.ntmps36
    go_wp2_with fail
    refine withWorld fun X hX => ?_
    have hH : Held2 w _ _ _ _ X := hX ▸ H0.out
    clear hX
    refine (specSameVectorC _ _ x c _ _ y d _ (Ints.ofBelow hu' hH.1) (Ints.ofBelow hv' hH.1)).mono ?_
    rintro e w1 ⟨rfl, b1⟩
    rw [Hs.out]
    have H1 := Lib.hid (hH.after b1)
    clear b1 hH X H0
    go_wp2
    go_ret
    exact ⟨ret_bool Hf.out.symm, H1.out.1⟩
  | true =>
    have Hs := Lib.hid hs
    have Hf := Lib.hid (twins_yes hs)
    clear hs
    go_enter Try.func36, Try.ntmps36
    go_wp2_with fail
    refine withWorld fun X hX => ?_
    have hH : Held2 w _ _ _ _ X := hX ▸ H0.out
    clear hX
    refine (specSameVectorC _ _ x c _ _ y d _ (Ints.ofBelow hu' hH.1) (Ints.ofBelow hv' hH.1)).mono ?_
    rintro e w1 ⟨rfl, b1⟩
    rw [Hs.out]
    have H1 := Lib.hid (hH.after b1)
    clear b1 hH X H0
    obtain ⟨q0, q1⟩ := H1.out.2.1
    obtain ⟨q2, q3⟩ := H1.out.2.2
    go_wp2_with fail
    refine (specAreFormsC _ _ x c _ _ y d _ (Ints.ofBelow hu' H1.out.1) (Ints.ofBelow hv' H1.out.1)).mono ?_
    rintro e w2 ⟨rfl, b2⟩
    have H2 := Lib.hid (H1.out.after b2).1
    clear b2 H1 q0 q1 q2 q3
    go_wp2
    go_ret
    exact ⟨ret_bool (by rw [Hf.out]), H2.out⟩
end Go.Proofs.Ytopfenhphnmfkaa
