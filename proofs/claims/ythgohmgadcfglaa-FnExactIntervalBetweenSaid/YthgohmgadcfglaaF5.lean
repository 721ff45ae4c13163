/-
  Contracts of IntervalBetween, in the program and in the reference.
  Conditions: the rhythm's beats lie in memory.
-/
import Derived.Test.YthgohmgadcfglaaE2
import Derived.Test.YthgohmgadcfglaaM3
namespace Go.Proofs.Ythgohmgadcfglaa
open Go.RowKit

def ivl (n p q : Int) : Int := min (mo (q - p) n) (mo (p - q) n)
theorem ivl_spec {n p q : Int} (hp : 0 ≤ p) (hp' : p < n) (hq : 0 ≤ q) (hq' : q < n) : min (mo (p - q) n) (n - mo (p - q) n) = ivl n p q := by
  unfold ivl
  rcases Int.lt_trichotomy p q with h | h | h
  · have h1 : mo (p - q) n = p - q + n := by
      unfold mo
      have := Int.add_emod_right (p - q) n
      rw [← this]
      exact Int.emod_eq_of_lt (by omega) (by omega)
    have h2 : mo (q - p) n = q - p := mo_id (by omega) (by omega)
    rw [h1, h2]; omega
  · subst h
    have h1 : mo (p - p) n = 0 := by rw [Int.sub_self]; exact mo_id (by omega) (by omega)
    rw [h1]; omega
  · have h1 : mo (q - p) n = q - p + n := by
      unfold mo
      have := Int.add_emod_right (q - p) n
      rw [← this]
      exact Int.emod_eq_of_lt (by omega) (by omega)
    have h2 : mo (p - q) n = p - q := mo_id (by omega) (by omega)
    rw [h1, h2]; omega
def valIntervalBetween (n : Int) (x : List Int) (p q : Int) : Int := if rok n x = true ∧ hasL x p = true ∧ hasL x q = true then ivl n p q else -1
theorem valIntervalBetween_yes {n : Int} {x : List Int} {p q : Int} (h : rok n x = true) (hp : hasL x p = true) (hq : hasL x q = true) : valIntervalBetween n x p q = ivl n p q := by simp [valIntervalBetween, h, hp, hq]
theorem valIntervalBetween_no {n : Int} {x : List Int} {p q : Int} (h : rok n x = false ∨ hasL x p = false ∨ hasL x q = false) : valIntervalBetween n x p q = -1 := by
  rcases h with h | h | h <;> simp [valIntervalBetween, h]
theorem hasL_bd {n : Int} {x : List Int} (h : Rok n x) {p : Int} (hp : hasL x p = true) : 0 ≤ p ∧ p < n := by
  have hm : p ∈ x := by simpa [hasL] using hp
  exact ⟨h.ge _ hm, h.lt _ hm⟩

set_option maxHeartbeats 400000 in
theorem specIntervalBetweenC (n : Int) (v : Value) (x : List Int) (c : I64 n) (p : Int) (cp : I64 p) (q : Int) (cq : I64 q) (w : World) (h : Ints w w.heap.size v x) :
    Calls Try.prog 30 #[.agg #[.int .i64 n, v], .int .i64 p, .int .i64 q] w fun e w' => e = .returned (.int .i64 (valIntervalBetween n x p q)) ∧ Below w.heap.size w w' := by
  have h' := h
  obtain ⟨a, cap, rfl, -⟩ := h'
  cases hr : rok n x with
  | false =>
    have Hr := Lib.hid hr
    have Hf := Lib.hid (valIntervalBetween_no (p := p) (q := q) (.inl hr))
    clear hr
    go_enter Try.func30, Try.ntmps30
    go_wp2_with (go_at_call 52; refine (specRhythmOk _ _ x _ _ c.1 c.2 (h.alloc (Nat.le_refl _) _)).mono ?_; rintro e w' ⟨rfl, rfl⟩; rw [Hr.out])
    go_ret
    exact ⟨ret_int Hf.out.symm, ((Below.refl _ _).alloc (Nat.le_refl _) _).alloc (by simp) _⟩
  | true =>
    have Hr := Lib.hid hr
    have hR := (rok_iff n x).1 hr
    cases hp : hasL x p with
    | false =>
      have Hp := Lib.hid hp
      have Hf := Lib.hid (valIntervalBetween_no (n := n) (q := q) (.inr (.inl hp)))
      clear hr hp
      go_enter Try.func30, Try.ntmps30
      go_wp2_with (first | (go_at_call 52; refine (specRhythmOk _ _ x _ _ c.1 c.2 (h.alloc (Nat.le_refl _) _)).mono ?_; rintro e w' ⟨rfl, rfl⟩; rw [Hr.out]) | (go_at_call 57; refine (specL02Has _ x _ _ _ ((h.alloc (Nat.le_refl _) _).alloc (by simp) _)).mono ?_; rintro e w' ⟨rfl, rfl⟩; rw [Hp.out]))
      go_ret
      exact ⟨ret_int Hf.out.symm, ((Below.refl _ _).alloc (Nat.le_refl _) _).alloc (by simp) _⟩
    | true =>
      have Hp := Lib.hid hp
      cases hq : hasL x q with
      | false =>
        have Hq := Lib.hid hq
        have Hf := Lib.hid (valIntervalBetween_no (n := n) (p := p) (.inr (.inr hq)))
        clear hr hp hq
        go_enter Try.func30, Try.ntmps30
        go_wp2_with fail
        refine (specRhythmOk _ _ x _ _ c.1 c.2 (h.alloc (Nat.le_refl _) _)).mono ?_
        rintro e w' ⟨rfl, rfl⟩
        rw [Hr.out]
        go_wp2_with fail
        refine (specL02Has _ x _ _ _ ((h.alloc (Nat.le_refl _) _).alloc (by simp) _)).mono ?_
        rintro e w' ⟨rfl, rfl⟩
        rw [Hp.out]
        go_wp2_with fail
        refine (specL02Has _ x _ _ _ ((h.alloc (Nat.le_refl _) _).alloc (by simp) _)).mono ?_
        rintro e w' ⟨rfl, rfl⟩
        rw [Hq.out]
        go_wp2
        go_ret
        exact ⟨ret_int Hf.out.symm, ((Below.refl _ _).alloc (Nat.le_refl _) _).alloc (by simp) _⟩
      | true =>
        have Hq := Lib.hid hq
        have Hf := Lib.hid (valIntervalBetween_yes hr hp hq)
        have hlo := hR.lo
        have hhi := hR.hi
        obtain ⟨p1, p2⟩ := hasL_bd hR hp
        obtain ⟨q1, q2⟩ := hasL_bd hR hq
        have Hs := Lib.hid (ivl_spec p1 p2 q1 q2)
        have m1 := mo_ge (k := p - q) hlo
        have m2 := mo_lt (k := p - q) hlo
        clear hr hp hq
        go_enter Try.func30, Try.ntmps30
        go_wp2_with fail
        refine (specRhythmOk _ _ x _ _ c.1 c.2 (h.alloc (Nat.le_refl _) _)).mono ?_
        rintro e w' ⟨rfl, rfl⟩
        rw [Hr.out]
        go_wp2_with fail
        refine (specL02Has _ x _ _ _ ((h.alloc (Nat.le_refl _) _).alloc (by simp) _)).mono ?_
        rintro e w' ⟨rfl, rfl⟩
        rw [Hp.out]
        go_wp2_with fail
        refine (specL02Has _ x _ _ _ ((h.alloc (Nat.le_refl _) _).alloc (by simp) _)).mono ?_
        rintro e w' ⟨rfl, rfl⟩
        rw [Hq.out]
        go_wp2_with (go_at_call 58; refine (specL02Mod _ _ _ hlo (by omega) ⟨by omega, by omega⟩).mono ?_; rintro e w' ⟨rfl, rfl⟩)
        all_goals
          go_ret
          exact ⟨ret_int (by rw [Hf.out, ← Hs.out]; omega), ((Below.refl _ _).alloc (Nat.le_refl _) _).alloc (by simp) _⟩

set_option maxHeartbeats 400000 in
theorem implIntervalBetweenC (n : Int) (v : Value) (x : List Int) (c : I64 n) (p : Int) (cp : I64 p) (q : Int) (cq : I64 q) (w : World) (h : Ints w w.heap.size v x) :
    Calls Try.prog 31 #[.agg #[.int .i64 n, v], .int .i64 p, .int .i64 q] w fun e w' => e = .returned (.int .i64 (valIntervalBetween n x p q)) ∧ Below w.heap.size w w' := by
  have h' := h
  obtain ⟨a, cap, rfl, -⟩ := h'
  cases hr : rok n x with
  | false =>
    have Hr := Lib.hid hr
    have Hf := Lib.hid (valIntervalBetween_no (p := p) (q := q) (.inl hr))
    clear hr
    go_enter Try.func31, Try.ntmps31
    go_wp2_with (go_at_call 53; refine (implRhythmOk _ _ x _ _ c.1 c.2 (h.alloc (Nat.le_refl _) _)).mono ?_; rintro e w' ⟨rfl, rfl⟩; rw [Hr.out])
    go_ret
    exact ⟨ret_int Hf.out.symm, ((Below.refl _ _).alloc (Nat.le_refl _) _).alloc (by simp) _⟩
  | true =>
    have Hr := Lib.hid hr
    have hR := (rok_iff n x).1 hr
    cases hp : hasL x p with
    | false =>
      have Hp := Lib.hid hp
      have Hf := Lib.hid (valIntervalBetween_no (n := n) (q := q) (.inr (.inl hp)))
      clear hr hp
      go_enter Try.func31, Try.ntmps31
      go_wp2_with (first | (go_at_call 53; refine (implRhythmOk _ _ x _ _ c.1 c.2 (h.alloc (Nat.le_refl _) _)).mono ?_; rintro e w' ⟨rfl, rfl⟩; rw [Hr.out]) | (go_at_call 63; refine (slicesContains _ x _ _ _ ((h.alloc (Nat.le_refl _) _).alloc (by simp) _)).mono ?_; rintro e w' ⟨rfl, rfl⟩; rw [Hp.out]))
      go_ret
      exact ⟨ret_int Hf.out.symm, ((Below.refl _ _).alloc (Nat.le_refl _) _).alloc (by simp) _⟩
    | true =>
      have Hp := Lib.hid hp
      cases hq : hasL x q with
      | false =>
        have Hq := Lib.hid hq
        have Hf := Lib.hid (valIntervalBetween_no (n := n) (p := p) (.inr (.inr hq)))
        clear hr hp hq
        go_enter Try.func31, Try.ntmps31
        go_wp2_with fail
        refine (implRhythmOk _ _ x _ _ c.1 c.2 (h.alloc (Nat.le_refl _) _)).mono ?_
        rintro e w' ⟨rfl, rfl⟩
        rw [Hr.out]
        go_wp2_with fail
        refine (slicesContains _ x _ _ _ ((h.alloc (Nat.le_refl _) _).alloc (by simp) _)).mono ?_
        rintro e w' ⟨rfl, rfl⟩
        rw [Hp.out]
        go_wp2_with fail
        refine (slicesContains _ x _ _ _ ((h.alloc (Nat.le_refl _) _).alloc (by simp) _)).mono ?_
        rintro e w' ⟨rfl, rfl⟩
        rw [Hq.out]
        go_wp2
        go_ret
        exact ⟨ret_int Hf.out.symm, ((Below.refl _ _).alloc (Nat.le_refl _) _).alloc (by simp) _⟩
      | true =>
        have Hq := Lib.hid hq
        have Hf := Lib.hid (valIntervalBetween_yes hr hp hq)
        have hlo := hR.lo
        have hhi := hR.hi
        obtain ⟨p1, p2⟩ := hasL_bd hR hp
        obtain ⟨q1, q2⟩ := hasL_bd hR hq
        have hw1 : IntKind.i64.wrap (q - p) = q - p := IntWalk.i64_in _ (by omega)
        have hw2 : IntKind.i64.wrap (p - q) = p - q := IntWalk.i64_in _ (by omega)
        clear hr hp hq
        go_enter Try.func31, Try.ntmps31
        go_wp2_with fail
        refine (implRhythmOk _ _ x _ _ c.1 c.2 (h.alloc (Nat.le_refl _) _)).mono ?_
        rintro e w' ⟨rfl, rfl⟩
        rw [Hr.out]
        go_wp2_with fail
        refine (slicesContains _ x _ _ _ ((h.alloc (Nat.le_refl _) _).alloc (by simp) _)).mono ?_
        rintro e w' ⟨rfl, rfl⟩
        rw [Hp.out]
        go_wp2_with fail
        refine (slicesContains _ x _ _ _ ((h.alloc (Nat.le_refl _) _).alloc (by simp) _)).mono ?_
        rintro e w' ⟨rfl, rfl⟩
        rw [Hq.out]
        go_wp2_with fail
        refine region_held (Held1 w (.int .i64 n) (.slice a x.length cap)) (by kernel_rfl) (by kernel_rfl) ((Held1.new w _ _ _).alloc _).drew (Held1.keeps _ _ _) fun U val hne hv hcall => ?_
        have HC := Lib.hid hcall
        have z0 : ∀ u, (val u).cell? ⟨w.heap.size, 0, none⟩ = some (.int .i64 n) := fun u => (hv u).2.1
        have HV := Lib.hid hv
        clear hv hcall
        repeat (go_big_quiet_step ((first | (go_at_call 64; exact HC.out _ _ _ _ (retSame (implRemainder _ _ _ hlo (by omega) ⟨by omega, by omega⟩))))))
        refine wpQuiet_nil ?_
        rintro _ ⟨u, rfl⟩
        have HB := Lib.hid (HV.out u).1
        generalize hm : (if mo (p - q) n < mo (q - p) n then mo (p - q) n else mo (q - p) n) = M
        have HM : Hid (M = ivl n p q) := by unfold Hid ivl; subst hm; split <;> omega
        clear hm
        go_wp2
        go_ret
        exact ⟨ret_int (by rw [Hf.out, ← HM.out]), HB.out⟩
end Go.Proofs.Ythgohmgadcfglaa
