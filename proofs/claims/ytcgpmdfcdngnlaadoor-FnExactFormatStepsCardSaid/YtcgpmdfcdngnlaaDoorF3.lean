/-
  Contracts of StepsOf and RestsOf, in the program and in the reference.
  Conditions: the rhythm's beats lie in memory.
-/
import Derived.Test.YtcgpmdfcdngnlaaDoorF2
set_option linter.unusedVariables false
set_option linter.unusedSimpArgs false
namespace Go.Proofs.YtcgpmdfcdngnlaaDoor
open Go.RowKit

theorem implStepsOfC (n : Int) (v : Value) (x : List Int) (c : I64 n) (w : World) (h : Ints w w.heap.size v x) :
    Calls Tryd.prog 51 #[.agg #[.int .i64 n, v]] w (RetOwn w (lstStepsOf n x)) := by
  have h' := h
  obtain ⟨a, cap, rfl, -⟩ := h'
  have H0 := Lib.hid (Held1.new w (.int .i64 n) (.slice a x.length cap) 31)
  cases hr : rok n x with
  | false =>
    have Hr := Lib.hid hr
    rw [lstStepsOf_no hr]
    clear hr
    go_enter Tryd.func51, Tryd.ntmps51
    go_wp2_with (go_at_call 75; refine (implRhythmOk _ _ x _ _ c.1 c.2 (h.alloc (Nat.le_refl _) _)).mono ?_; rintro e w' ⟨rfl, rfl⟩; rw [Hr.out])
    go_ret
    exact .mk rfl (Own.nil _ _) (((Below.refl _ _).alloc (Nat.le_refl _) _).alloc (by simp) _)
  | true =>
    have Hr := Lib.hid hr
    have hR := (rok_iff n x).1 hr
    rw [lstStepsOf_yes hr]
    clear hr
    go_enter Tryd.func51, Tryd.ntmps51
    go_wp2_with (go_at_call 75; refine (implRhythmOk _ _ x _ _ c.1 c.2 (h.alloc (Nat.le_refl _) _)).mono ?_; rintro e w' ⟨rfl, rfl⟩; rw [Hr.out])
    refine withWorld fun X hX => ?_
    have hH : Held1 w _ _ X := hX ▸ H0.out.alloc _
    clear hX
    refine (implSteps _ _ x _ hR (Ints.ofBelow h hH.1)).mono ?_
    rintro e w1 ⟨a1, c1, rfl, o1, b1⟩
    have HO := Lib.hid (o1.mono hH.1.size)
    have HB := Lib.hid (hH.after b1).1
    clear o1 b1 hH H0 X
    go_wp2
    go_ret
    exact .mk rfl HO.out HB.out

theorem specStepsOfC (n : Int) (v : Value) (x : List Int) (c : I64 n) (w : World) (h : Ints w w.heap.size v x) :
    Calls Tryd.prog 46 #[.agg #[.int .i64 n, v]] w (RetOwn w (lstStepsOf n x)) := by
  have h' := h
  obtain ⟨a, cap, rfl, -⟩ := h'
  have H0 := Lib.hid (Held1.new w (.int .i64 n) (.slice a x.length cap) 31)
  cases hr : rok n x with
  | false =>
    have Hr := Lib.hid hr
    rw [lstStepsOf_no hr]
    clear hr
    go_enter Tryd.func46, Tryd.ntmps46
    go_wp2_with (go_at_call 62; refine (specRhythmOk _ _ x _ _ c.1 c.2 (h.alloc (Nat.le_refl _) _)).mono ?_; rintro e w' ⟨rfl, rfl⟩; rw [Hr.out])
    go_ret
    exact .mk rfl (Own.nil _ _) (((Below.refl _ _).alloc (Nat.le_refl _) _).alloc (by simp) _)
  | true =>
    have Hr := Lib.hid hr
    have hR := (rok_iff n x).1 hr
    rw [lstStepsOf_yes hr]
    clear hr
    by_cases h0 : x.length = 0
    · have hx : x = [] := List.eq_nil_of_length_eq_zero h0
      subst hx
      go_enter Tryd.func46, Tryd.ntmps46
      go_wp2_with (go_at_call 62; refine (specRhythmOk _ _ [] _ _ c.1 c.2 (h.alloc (Nat.le_refl _) _)).mono ?_; rintro e w' ⟨rfl, rfl⟩; rw [Hr.out])
      go_ret
      exact .mk rfl (Own.nil _ _) (((Below.refl _ _).alloc (Nat.le_refl _) _).alloc (by simp) _)
    · have hz : (((x.length : Nat) : Int) == 0) = false := by simpa using h0
      go_enter Tryd.func46, Tryd.ntmps46
      go_wp2_with (go_at_call 62; refine (specRhythmOk _ _ x _ _ c.1 c.2 (h.alloc (Nat.le_refl _) _)).mono ?_; rintro e w' ⟨rfl, rfl⟩; rw [Hr.out])
      refine withWorld fun X hX => ?_
      have hH : Held1 w _ _ X := hX ▸ H0.out.alloc _
      clear hX
      refine (specL03Steps _ _ x _ hR (Ints.ofBelow h hH.1) (by omega)).mono ?_
      rintro e w1 ⟨a1, c1, rfl, o1, b1⟩
      have HO := Lib.hid (o1.mono hH.1.size)
      have HB := Lib.hid (hH.after b1).1
      clear o1 b1 hH H0 X
      go_wp2
      go_ret
      exact .mk rfl HO.out HB.out


end Go.Proofs.YtcgpmdfcdngnlaaDoor
