/-
  Contracts of HasBeat and SameRhythm, in the program and in the reference, and of the helpers has, equals, sameSize.
  Conditions: the rhythms' beats lie in memory.
-/
import Derived.Test.YtopfenhphnmfkaaE1
import Derived.Test.YtopfenhphnmfkaaQ1
set_option linter.unusedVariables false
set_option linter.unusedSimpArgs false
namespace Go.Proofs.Ytopfenhphnmfkaa
open Go.RowKit

theorem implHas (n : Int) (v : Value) (x : List Int) (k : Int) (w : World) (h1 : 1 ≤ n) (h2 : n ≤ 24) (c : I64 k) (h : Ints w w.heap.size v x) :
    Calls Try.prog 82 #[.agg #[.int .i64 n, v], .int .i64 k] w fun e w' => e = .returned (.bool (hasL x (mo k n))) ∧ Below w.heap.size w w' := by
  have h' := h.alloc (Nat.le_refl _) (.cells #[.int .i64 n, v] 25)
  obtain ⟨a, cap, rfl, -⟩ := h
  go_enter Try.func82, Try.ntmps82
  go_wp2
  go_quiet ((first | (go_at_call 91; refine Calls.quiet_of_same ((implRemainder _ _ _ h1 (by omega) c).mono fun _ _ ⟨p, q⟩ => ⟨p, q.symm⟩)) | (go_at_call 90; refine Calls.quiet_of_same ((slicesContains _ x _ _ _ (Ints.drewN h' _)).mono fun _ _ ⟨p, q⟩ => ⟨p, q.symm⟩))))
  go_wp2
  go_ret
  exact ⟨rfl, bel_drewN ((Below.refl _ _).alloc (Nat.le_refl _) _) _⟩


/-- Two valid rhythms of one size. -/
def sameSz (n m : Int) (x y : List Int) : Bool := rok n x && rok m y && decide (n = m)
theorem sameSz_no1 {n m : Int} {x : List Int} (y : List Int) (h : rok n x = false) : sameSz n m x y = false := by simp [sameSz, h]
theorem sameSz_no2 {n m : Int} (x : List Int) {y : List Int} (h : rok m y = false) : sameSz n m x y = false := by simp [sameSz, h]
theorem sameSz_yes {n m : Int} {x y : List Int} (h : rok n x = true) (h' : rok m y = true) : sameSz n m x y = (n == m) := by
  simp only [sameSz, h, h', Bool.true_and, Bool.and_self]
  by_cases e : n = m <;> simp [e]
theorem sameSz_iff {n m : Int} {x y : List Int} : sameSz n m x y = true ↔ Rok n x ∧ Rok m y ∧ n = m := by
  simp only [sameSz, Bool.and_eq_true, decide_eq_true_eq, rok_iff, and_assoc]

theorem implSameSizeC (n m : Int) (u v : Value) (x y : List Int) (c : I64 n) (d : I64 m) (w : World) (hu : Ints w w.heap.size u x) (hv : Ints w w.heap.size v y) :
    Calls Try.prog 69 #[.agg #[.int .i64 n, u], .agg #[.int .i64 m, v]] w fun e w' => e = .returned (.bool (sameSz n m x y)) ∧ Below w.heap.size w w' := by
  have hu' := (hu.alloc (Nat.le_refl _) (.cells #[.int .i64 n, u] 25)).alloc (by simp) (.cells #[.int .i64 m, v] 25)
  have hv' := (hv.alloc (Nat.le_refl _) (.cells #[.int .i64 n, u] 25)).alloc (by simp) (.cells #[.int .i64 m, v] 25)
  obtain ⟨a, cap, rfl, -⟩ := hu
  obtain ⟨a', cap', rfl, -⟩ := hv
  cases hr : rok n x with
  | false =>
    have Hr := Lib.hid hr
    have Hf := Lib.hid (sameSz_no1 (m := m) y hr)
    clear hr
    go_enter Try.func69, Try.ntmps69
    go_wp2_with (go_at_call 49; refine (implRhythmOk _ _ x _ _ c.1 c.2 hu').mono ?_; rintro e w' ⟨rfl, rfl⟩; rw [Hr.out])
    go_ret
    exact ⟨ret_bool Hf.out.symm, (((Below.refl _ _).alloc (Nat.le_refl _) _).alloc (by simp) _).alloc (by simp; omega) _⟩
  | true =>
    have Hr := Lib.hid hr
    cases hs : rok m y with
    | false =>
      have Hs := Lib.hid hs
      have Hf := Lib.hid (sameSz_no2 (n := n) x hs)
      clear hr hs
      go_enter Try.func69, Try.ntmps69
      go_wp2_with fail
      refine (implRhythmOk _ _ x _ _ c.1 c.2 hu').mono ?_
      rintro e w' ⟨rfl, rfl⟩
      rw [Hr.out]
      go_wp2_with fail
      refine (implRhythmOk _ _ y _ _ d.1 d.2 (hv'.alloc (by simp; omega) _)).mono ?_
      rintro e w' ⟨rfl, rfl⟩
      rw [Hs.out]
      go_wp2
      go_ret
      exact ⟨ret_bool Hf.out.symm, ((((Below.refl _ _).alloc (Nat.le_refl _) _).alloc (by simp) _).alloc (by simp; omega) _).alloc (by simp; omega) _⟩
    | true =>
      have Hs := Lib.hid hs
      have Hf := Lib.hid (sameSz_yes hr hs)
      clear hr hs
      go_enter Try.func69, Try.ntmps69
      go_wp2_with fail
      refine (implRhythmOk _ _ x _ _ c.1 c.2 hu').mono ?_
      rintro e w' ⟨rfl, rfl⟩
      rw [Hr.out]
      go_wp2_with fail
      refine (implRhythmOk _ _ y _ _ d.1 d.2 (hv'.alloc (by simp; omega) _)).mono ?_
      rintro e w' ⟨rfl, rfl⟩
      rw [Hs.out]
      go_wp2
      go_ret
      exact ⟨ret_bool (by rw [Hf.out]), ((((Below.refl _ _).alloc (Nat.le_refl _) _).alloc (by simp) _).alloc (by simp; omega) _).alloc (by simp; omega) _⟩

theorem implEqualsC (n m : Int) (u v : Value) (x y : List Int) (w : World) (hu : Ints w w.heap.size u x) (hv : Ints w w.heap.size v y) :
    Calls Try.prog 64 #[.agg #[.int .i64 n, u], .agg #[.int .i64 m, v]] w fun e w' => e = .returned (.bool (eqR n m x y)) ∧ Below w.heap.size w w' := by
  have hu' := (hu.alloc (Nat.le_refl _) (.cells #[.int .i64 n, u] 25)).alloc (by simp) (.cells #[.int .i64 m, v] 25)
  have hv' := (hv.alloc (Nat.le_refl _) (.cells #[.int .i64 n, u] 25)).alloc (by simp) (.cells #[.int .i64 m, v] 25)
  obtain ⟨a, cap, rfl, -⟩ := hu
  obtain ⟨a', cap', rfl, -⟩ := hv
  by_cases hn : n = m
  · subst hn
    have hb : (n == n) = true := by simp
    have Hf := Lib.hid (show eqR n n x y = eqL x y by simp [eqR])
    go_enter Try.func64, Try.ntmps64
    go_wp2_with (go_at_call 105; refine (slicesEqual _ _ x y _ _ _ hu' hv').mono ?_; rintro e w' ⟨rfl, q, rfl⟩)
    go_ret
    exact ⟨ret_bool Hf.out.symm, bel_drewN (((Below.refl _ _).alloc (Nat.le_refl _) _).alloc (by simp) _) _⟩
  · have hb : (n == m) = false := by simpa using hn
    have Hf := Lib.hid (show eqR n m x y = false by simp [eqR, hn])
    clear hn
    go_enter Try.func64, Try.ntmps64
    go_wp2
    go_ret
    exact ⟨ret_bool Hf.out.symm, ((Below.refl _ _).alloc (Nat.le_refl _) _).alloc (by simp) _⟩

end Go.Proofs.Ytopfenhphnmfkaa
