/-
  Contracts of HasBeat and SameRhythm, in the program and in the reference, and of the helpers has, equals, sameSize.
  Conditions: the rhythms' beats lie in memory.
-/
import Derived.Test.YthgohmgadcfglaaE1
import Derived.Test.YthgohmgadcfglaaQ1
namespace Go.Proofs.Ythgohmgadcfglaa
open Go.RowKit

theorem implHas (n : Int) (v : Value) (x : List Int) (k : Int) (w : World) (h1 : 1 ≤ n) (h2 : n ≤ 24) (c : I64 k) (h : Ints w w.heap.size v x) :
    Calls Try.prog 59 #[.agg #[.int .i64 n, v], .int .i64 k] w fun e w' => e = .returned (.bool (hasL x (mo k n))) ∧ Below w.heap.size w w' := by
  have h' := h.alloc (Nat.le_refl _) (.cells #[.int .i64 n, v] 27)
  obtain ⟨a, cap, rfl, -⟩ := h
  go_enter Try.func59, Try.ntmps59
  go_wp2
  go_quiet ((first | (go_at_call 64; refine Calls.quiet_of_same ((implRemainder _ _ _ h1 (by omega) c).mono fun _ _ ⟨p, q⟩ => ⟨p, q.symm⟩)) | (go_at_call 63; refine Calls.quiet_of_same ((slicesContains _ x _ _ _ (Ints.drewN h' _)).mono fun _ _ ⟨p, q⟩ => ⟨p, q.symm⟩))))
  go_wp2
  go_ret
  exact ⟨rfl, bel_drewN ((Below.refl _ _).alloc (Nat.le_refl _) _) _⟩

def valHasBeat (n : Int) (x : List Int) (k : Int) : Bool := rok n x && hasL x (mo k n)
theorem valHasBeat_no {n : Int} {x : List Int} (k : Int) (h : rok n x = false) : valHasBeat n x k = false := by simp [valHasBeat, h]
theorem valHasBeat_yes {n : Int} {x : List Int} (k : Int) (h : rok n x = true) : valHasBeat n x k = hasL x (mo k n) := by simp [valHasBeat, h]

theorem implHasBeatC (n : Int) (v : Value) (x : List Int) (c : I64 n) (k : Int) (ck : I64 k) (w : World) (h : Ints w w.heap.size v x) :
    Calls Try.prog 25 #[.agg #[.int .i64 n, v], .int .i64 k] w fun e w' => e = .returned (.bool (valHasBeat n x k)) ∧ Below w.heap.size w w' := by
  have h' := h
  obtain ⟨a, cap, rfl, -⟩ := h'
  cases hr : rok n x with
  | false =>
    have Hr := Lib.hid hr
    have Hf := Lib.hid (valHasBeat_no k hr)
    clear hr
    go_enter Try.func25, Try.ntmps25
    go_wp2_with (go_at_call 53; refine (implRhythmOk _ _ x _ _ c.1 c.2 (h.alloc (Nat.le_refl _) _)).mono ?_; rintro e w' ⟨rfl, rfl⟩; rw [Hr.out])
    go_ret
    exact ⟨ret_bool Hf.out.symm, ((Below.refl _ _).alloc (Nat.le_refl _) _).alloc (by simp) _⟩
  | true =>
    have Hr := Lib.hid hr
    have Hf := Lib.hid (valHasBeat_yes k hr)
    have hR := (rok_iff n x).1 hr
    have hlo := hR.lo
    have hhi := hR.hi
    clear hr hR
    go_enter Try.func25, Try.ntmps25
    go_wp2_with (go_at_call 53; refine (implRhythmOk _ _ x _ _ c.1 c.2 (h.alloc (Nat.le_refl _) _)).mono ?_; rintro e w' ⟨rfl, rfl⟩; rw [Hr.out])
    refine (implHas _ _ x _ _ hlo hhi ck (((h.alloc (Nat.le_refl _) _).alloc (by simp) _).mono (by simp; omega))).mono ?_
    rintro e w1 ⟨rfl, b1⟩
    go_wp2
    go_ret
    exact ⟨ret_bool Hf.out.symm, bel_step (((Below.refl _ _).alloc (Nat.le_refl _) _).alloc (by simp) _) b1 (by simp; omega)⟩

theorem specHasBeatC (n : Int) (v : Value) (x : List Int) (c : I64 n) (k : Int) (ck : I64 k) (w : World) (h : Ints w w.heap.size v x) :
    Calls Try.prog 24 #[.agg #[.int .i64 n, v], .int .i64 k] w fun e w' => e = .returned (.bool (valHasBeat n x k)) ∧ Below w.heap.size w w' := by
  have h' := h
  obtain ⟨a, cap, rfl, -⟩ := h'
  cases hr : rok n x with
  | false =>
    have Hr := Lib.hid hr
    have Hf := Lib.hid (valHasBeat_no k hr)
    clear hr
    go_enter Try.func24, Try.ntmps24
    go_wp2_with fail
    refine region_held (Held1 w (.int .i64 n) (.slice a x.length cap)) (by kernel_rfl) (by kernel_rfl) (Held1.new w _ _ _).drew (Held1.keeps _ _ _) fun U val hne hv hcall => ?_
    have HC := Lib.hid hcall
    have q0 : ∀ u, (val u).cell? ⟨w.heap.size, 0, none⟩ = some (.int .i64 n) := fun u => (hv u).2.1
    have q1 : ∀ u, (val u).cell? ⟨w.heap.size, 1, none⟩ = some (.slice a x.length cap) := fun u => (hv u).2.2
    have HV := Lib.hid hv
    clear hv hcall
    repeat (go_big_quiet_step ((first | (go_at_call 52; exact HC.out _ _ _ _ (retB (specRhythmOkC _ _ x c _ (Ints.ofBelow h (HV.out _).1)) Hr.out)))))
    refine wpQuiet_nil ?_
    rintro _ ⟨u, rfl⟩
    have HB := Lib.hid (HV.out u).1
    go_wp2
    go_ret
    exact ⟨ret_bool Hf.out.symm, HB.out⟩
  | true =>
    have Hr := Lib.hid hr
    have Hf := Lib.hid (valHasBeat_yes k hr)
    have hR := (rok_iff n x).1 hr
    have hlo := hR.lo
    have hhi := hR.hi
    clear hr hR
    go_enter Try.func24, Try.ntmps24
    go_wp2_with fail
    refine region_held (Held1 w (.int .i64 n) (.slice a x.length cap)) (by kernel_rfl) (by kernel_rfl) (Held1.new w _ _ _).drew (Held1.keeps _ _ _) fun U val hne hv hcall => ?_
    have HC := Lib.hid hcall
    have q0 : ∀ u, (val u).cell? ⟨w.heap.size, 0, none⟩ = some (.int .i64 n) := fun u => (hv u).2.1
    have q1 : ∀ u, (val u).cell? ⟨w.heap.size, 1, none⟩ = some (.slice a x.length cap) := fun u => (hv u).2.2
    have HV := Lib.hid hv
    clear hv hcall
    repeat (go_big_quiet_step ((first | (go_at_call 52; exact HC.out _ _ _ _ (retB (specRhythmOkC _ _ x c _ (Ints.ofBelow h (HV.out _).1)) Hr.out)) | (go_at_call 58; exact HC.out _ _ _ _ (retSame (specL02Mod _ _ _ hlo (by omega) ck))) | (go_at_call 57; exact HC.out _ _ _ _ (retSame (specL02Has _ x _ _ _ (Ints.ofBelow h (HV.out _).1)))))))
    refine wpQuiet_nil ?_
    rintro _ ⟨u, rfl⟩
    have HB := Lib.hid (HV.out u).1
    go_wp2
    go_ret
    exact ⟨ret_bool Hf.out.symm, HB.out⟩

/-- Two valid rhythms of one size. -/
def sameSz (n m : Int) (x y : List Int) : Bool := rok n x && rok m y && decide (n = m)
theorem sameSz_no1 {n m : Int} {x : List Int} (y : List Int) (h : rok n x = false) : sameSz n m x y = false := by simp [sameSz, h]
theorem sameSz_no2 {n m : Int} (x : List Int) {y : List Int} (h : rok m y = false) : sameSz n m x y = false := by simp [sameSz, h]
theorem sameSz_yes {n m : Int} {x y : List Int} (h : rok n x = true) (h' : rok m y = true) : sameSz n m x y = (n == m) := by
  simp only [sameSz, h, h', Bool.true_and, Bool.and_self]
  by_cases e : n = m <;> simp [e]
theorem sameSz_iff {n m : Int} {x y : List Int} : sameSz n m x y = true ↔ Rok n x ∧ Rok m y ∧ n = m := by
  simp only [sameSz, Bool.and_eq_true, decide_eq_true_eq, rok_iff, and_assoc]

theorem implSameSizeC (n m : Int) (u v : Value) (x y : List Int) (c : I64 n) (d : I64 m) (w : World) (hu : Ints w w.heap.size u x) (hv : Ints w w.heap.size v y) :
    Calls Try.prog 61 #[.agg #[.int .i64 n, u], .agg #[.int .i64 m, v]] w fun e w' => e = .returned (.bool (sameSz n m x y)) ∧ Below w.heap.size w w' := by
  have hu' := (hu.alloc (Nat.le_refl _) (.cells #[.int .i64 n, u] 27)).alloc (by simp) (.cells #[.int .i64 m, v] 27)
  have hv' := (hv.alloc (Nat.le_refl _) (.cells #[.int .i64 n, u] 27)).alloc (by simp) (.cells #[.int .i64 m, v] 27)
  obtain ⟨a, cap, rfl, -⟩ := hu
  obtain ⟨a', cap', rfl, -⟩ := hv
  cases hr : rok n x with
  | false =>
    have Hr := Lib.hid hr
    have Hf := Lib.hid (sameSz_no1 (m := m) y hr)
    clear hr
    go_enter Try.func61, Try.ntmps61
    go_wp2_with (go_at_call 53; refine (implRhythmOk _ _ x _ _ c.1 c.2 hu').mono ?_; rintro e w' ⟨rfl, rfl⟩; rw [Hr.out])
    go_ret
    exact ⟨ret_bool Hf.out.symm, (((Below.refl _ _).alloc (Nat.le_refl _) _).alloc (by simp) _).alloc (by simp; omega) _⟩
  | true =>
    have Hr := Lib.hid hr
    cases hs : rok m y with
    | false =>
      have Hs := Lib.hid hs
      have Hf := Lib.hid (sameSz_no2 (n := n) x hs)
      clear hr hs
      go_enter Try.func61, Try.ntmps61
      go_wp2_with fail
      refine (implRhythmOk _ _ x _ _ c.1 c.2 hu').mono ?_
      rintro e w' ⟨rfl, rfl⟩
      rw [Hr.out]
      go_wp2_with fail
      refine (implRhythmOk _ _ y _ _ d.1 d.2 (hv'.alloc (by simp; omega) _)).mono ?_
      rintro e w' ⟨rfl, rfl⟩
      rw [Hs.out]
      go_wp2
      go_ret
      exact ⟨ret_bool Hf.out.symm, ((((Below.refl _ _).alloc (Nat.le_refl _) _).alloc (by simp) _).alloc (by simp; omega) _).alloc (by simp; omega) _⟩
    | true =>
      have Hs := Lib.hid hs
      have Hf := Lib.hid (sameSz_yes hr hs)
      clear hr hs
      go_enter Try.func61, Try.ntmps61
      go_wp2_with fail
      refine (implRhythmOk _ _ x _ _ c.1 c.2 hu').mono ?_
      rintro e w' ⟨rfl, rfl⟩
      rw [Hr.out]
      go_wp2_with fail
      refine (implRhythmOk _ _ y _ _ d.1 d.2 (hv'.alloc (by simp; omega) _)).mono ?_
      rintro e w' ⟨rfl, rfl⟩
      rw [Hs.out]
      go_wp2
      go_ret
      exact ⟨ret_bool (by rw [Hf.out]), ((((Below.refl _ _).alloc (Nat.le_refl _) _).alloc (by simp) _).alloc (by simp; omega) _).alloc (by simp; omega) _⟩

theorem implEqualsC (n m : Int) (u v : Value) (x y : List Int) (w : World) (hu : Ints w w.heap.size u x) (hv : Ints w w.heap.size v y) :
    Calls Try.prog 62 #[.agg #[.int .i64 n, u], .agg #[.int .i64 m, v]] w fun e w' => e = .returned (.bool (eqR n m x y)) ∧ Below w.heap.size w w' := by
  have hu' := (hu.alloc (Nat.le_refl _) (.cells #[.int .i64 n, u] 27)).alloc (by simp) (.cells #[.int .i64 m, v] 27)
  have hv' := (hv.alloc (Nat.le_refl _) (.cells #[.int .i64 n, u] 27)).alloc (by simp) (.cells #[.int .i64 m, v] 27)
  obtain ⟨a, cap, rfl, -⟩ := hu
  obtain ⟨a', cap', rfl, -⟩ := hv
  by_cases hn : n = m
  · subst hn
    have hb : (n == n) = true := by simp
    have Hf := Lib.hid (show eqR n n x y = eqL x y by simp [eqR])
    go_enter Try.func62, Try.ntmps62
    go_wp2_with (go_at_call 75; refine (slicesEqual _ _ x y _ _ _ hu' hv').mono ?_; rintro e w' ⟨rfl, q, rfl⟩)
    go_ret
    exact ⟨ret_bool Hf.out.symm, bel_drewN (((Below.refl _ _).alloc (Nat.le_refl _) _).alloc (by simp) _) _⟩
  · have hb : (n == m) = false := by simpa using hn
    have Hf := Lib.hid (show eqR n m x y = false by simp [eqR, hn])
    clear hn
    go_enter Try.func62, Try.ntmps62
    go_wp2
    go_ret
    exact ⟨ret_bool Hf.out.symm, ((Below.refl _ _).alloc (Nat.le_refl _) _).alloc (by simp) _⟩

def valSameRhythm (n : Int) (x : List Int) (m : Int) (y : List Int) : Bool := sameSz n m x y && eqL x y
theorem valSameRhythm_no {n m : Int} {x y : List Int} (h : sameSz n m x y = false) : valSameRhythm n x m y = false := by simp [valSameRhythm, h]
theorem valSameRhythm_yes {n m : Int} {x y : List Int} (h : sameSz n m x y = true) : valSameRhythm n x m y = eqR n m x y := by
  have := (sameSz_iff.1 h).2.2
  unfold valSameRhythm eqR
  rw [h]
  simp [this]
theorem valSameRhythm_yes' {n m : Int} {x y : List Int} (h : sameSz n m x y = true) : valSameRhythm n x m y = eqL x y := by
  simp [valSameRhythm, h]

theorem implSameRhythmC (n : Int) (u : Value) (x : List Int) (c : I64 n) (m : Int) (v : Value) (y : List Int) (d : I64 m) (w : World) (hu : Ints w w.heap.size u x) (hv : Ints w w.heap.size v y) :
    Calls Try.prog 27 #[.agg #[.int .i64 n, u], .agg #[.int .i64 m, v]] w fun e w' => e = .returned (.bool (valSameRhythm n x m y)) ∧ Below w.heap.size w w' := by
  have hu' := hu
  have hv' := hv
  obtain ⟨a, cap, rfl, -⟩ := hu
  obtain ⟨a', cap', rfl, -⟩ := hv
  have hh := Held2.new w (.int .i64 n) (.slice a x.length cap) (.int .i64 m) (.slice a' y.length cap') 27 27
  have H0 := Lib.hid hh
  clear hh
  cases hs : sameSz n m x y with
  | false =>
    have Hs := Lib.hid hs
    have Hf := Lib.hid (valSameRhythm_no hs)
    clear hs
    go_enter Try.func27, Try.ntmps27
    go_wp2_with fail
    refine withWorld fun X hX => ?_
    have hH : Held2 w _ _ _ _ X := hX ▸ H0.out
    clear hX
    refine (implSameSizeC _ _ _ _ x y c d _ (Ints.ofBelow hu' hH.1) (Ints.ofBelow hv' hH.1)).mono ?_
    rintro e w1 ⟨rfl, b1⟩
    rw [Hs.out]
    have H1 := Lib.hid (hH.after b1)
    clear b1 hH X H0
    go_wp2
    go_ret
    exact ⟨ret_bool Hf.out.symm, H1.out.1⟩
  | true =>
    have Hs := Lib.hid hs
    have Hf := Lib.hid (valSameRhythm_yes hs)
    clear hs
    go_enter Try.func27, Try.ntmps27
    go_wp2_with fail
    refine withWorld fun X hX => ?_
    have hH : Held2 w _ _ _ _ X := hX ▸ H0.out
    clear hX
    refine (implSameSizeC _ _ _ _ x y c d _ (Ints.ofBelow hu' hH.1) (Ints.ofBelow hv' hH.1)).mono ?_
    rintro e w1 ⟨rfl, b1⟩
    rw [Hs.out]
    have H1 := Lib.hid (hH.after b1)
    clear b1 hH X H0
    obtain ⟨q0, q1⟩ := H1.out.2.1
    obtain ⟨q2, q3⟩ := H1.out.2.2
    go_wp2_with fail
    refine (implEqualsC _ _ _ _ x y _ (Ints.ofBelow hu' H1.out.1) (Ints.ofBelow hv' H1.out.1)).mono ?_
    rintro e w2 ⟨rfl, b2⟩
    have H2 := Lib.hid (H1.out.after b2).1
    clear b2 H1 q0 q1 q2 q3
    go_wp2
    go_ret
    exact ⟨ret_bool Hf.out.symm, H2.out⟩

theorem specSameRhythmC (n : Int) (u : Value) (x : List Int) (c : I64 n) (m : Int) (v : Value) (y : List Int) (d : I64 m) (w : World) (hu : Ints w w.heap.size u x) (hv : Ints w w.heap.size v y) :
    Calls Try.prog 26 #[.agg #[.int .i64 n, u], .agg #[.int .i64 m, v]] w fun e w' => e = .returned (.bool (valSameRhythm n x m y)) ∧ Below w.heap.size w w' := by
  have hu' := (hu.alloc (Nat.le_refl _) (.cells #[.int .i64 n, u] 27)).alloc (by simp) (.cells #[.int .i64 m, v] 27)
  have hv' := (hv.alloc (Nat.le_refl _) (.cells #[.int .i64 n, u] 27)).alloc (by simp) (.cells #[.int .i64 m, v] 27)
  obtain ⟨a, cap, rfl, -⟩ := hu
  obtain ⟨a', cap', rfl, -⟩ := hv
  cases hr : rok n x with
  | false =>
    have Hr := Lib.hid hr
    have Hf := Lib.hid (valSameRhythm_no (sameSz_no1 (m := m) y hr))
    clear hr
    go_enter Try.func26, Try.ntmps26
    go_wp2_with (go_at_call 52; refine (specRhythmOk _ _ x _ _ c.1 c.2 hu').mono ?_; rintro e w' ⟨rfl, rfl⟩; rw [Hr.out])
    go_ret
    exact ⟨ret_bool Hf.out.symm, (((Below.refl _ _).alloc (Nat.le_refl _) _).alloc (by simp) _).alloc (by simp; omega) _⟩
  | true =>
    have Hr := Lib.hid hr
    cases hs : rok m y with
    | false =>
      have Hs := Lib.hid hs
      have Hf := Lib.hid (valSameRhythm_no (sameSz_no2 (n := n) x hs))
      clear hr hs
      go_enter Try.func26, Try.ntmps26
      go_wp2_with fail
      refine (specRhythmOk _ _ x _ _ c.1 c.2 hu').mono ?_
      rintro e w' ⟨rfl, rfl⟩
      rw [Hr.out]
      go_wp2_with fail
      refine (specRhythmOk _ _ y _ _ d.1 d.2 (hv'.alloc (by simp; omega) _)).mono ?_
      rintro e w' ⟨rfl, rfl⟩
      rw [Hs.out]
      go_wp2
      go_ret
      exact ⟨ret_bool Hf.out.symm, ((((Below.refl _ _).alloc (Nat.le_refl _) _).alloc (by simp) _).alloc (by simp; omega) _).alloc (by simp; omega) _⟩
    | true =>
      have Hs := Lib.hid hs
      by_cases hn : n = m
      · have hq : sameSz n m x y = true := by rw [sameSz_yes hr hs]; simp [hn]
        have Hf := Lib.hid (valSameRhythm_yes' hq)
        clear hr hs hq
        subst hn
        have hb : (n == n) = true := by simp
        go_enter Try.func26, Try.ntmps26
        go_wp2_with fail
        refine (specRhythmOk _ _ x _ _ c.1 c.2 hu').mono ?_
        rintro e w' ⟨rfl, rfl⟩
        rw [Hr.out]
        go_wp2_with fail
        refine (specRhythmOk _ _ y _ _ d.1 d.2 (hv'.alloc (by simp; omega) _)).mono ?_
        rintro e w' ⟨rfl, rfl⟩
        rw [Hs.out]
        go_wp2_with fail
        refine (specL02Same _ _ x y _ _ _ ((hu'.alloc (by simp; omega) _).alloc (by simp; omega) _) ((hv'.alloc (by simp; omega) _).alloc (by simp; omega) _)).mono ?_
        rintro e w' ⟨rfl, rfl⟩
        go_wp2
        go_ret
        exact ⟨ret_bool Hf.out.symm, ((((Below.refl _ _).alloc (Nat.le_refl _) _).alloc (by simp) _).alloc (by simp; omega) _).alloc (by simp; omega) _⟩
      · have hq : sameSz n m x y = false := by rw [sameSz_yes hr hs]; simpa using hn
        have Hf := Lib.hid (valSameRhythm_no hq)
        clear hr hs hq
        have hb : (n == m) = false := by simpa using hn
        go_enter Try.func26, Try.ntmps26
        go_wp2_with fail
        refine (specRhythmOk _ _ x _ _ c.1 c.2 hu').mono ?_
        rintro e w' ⟨rfl, rfl⟩
        rw [Hr.out]
        go_wp2_with fail
        refine (specRhythmOk _ _ y _ _ d.1 d.2 (hv'.alloc (by simp; omega) _)).mono ?_
        rintro e w' ⟨rfl, rfl⟩
        rw [Hs.out]
        go_wp2
        go_ret
        exact ⟨ret_bool Hf.out.symm, ((((Below.refl _ _).alloc (Nat.le_refl _) _).alloc (by simp) _).alloc (by simp; omega) _).alloc (by simp; omega) _⟩
end Go.Proofs.Ythgohmgadcfglaa
