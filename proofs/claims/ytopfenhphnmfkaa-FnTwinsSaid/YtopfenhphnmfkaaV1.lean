/-
  Plain facts: a rhythm looked at as a set of pulses around the circle; turning, mirroring, periods, the rotation with the last text.
  No program in sight.
-/
import Derived.Test.YtopfenhphnmfkaaM15
set_option linter.unusedVariables false
set_option linter.unusedSimpArgs false
namespace Go.Proofs.Ytopfenhphnmfkaa

/-- Is there a beat on pulse z, around? -/
def On (n : Int) (x : List Int) (z : Int) : Prop := mo z n ∈ x
theorem mo_eq {a b n : Int} : mo a n = mo b n ↔ ∃ c, a - b = n * c := by
  unfold mo
  rw [Int.emod_eq_emod_iff_emod_sub_eq_zero, ← Int.dvd_iff_emod_eq_zero]
  exact Iff.rfl
theorem mo_mo (a n : Int) : mo (mo a n) n = mo a n := by unfold mo; exact Int.emod_emod ..
theorem on_mo {n : Int} {x : List Int} {z : Int} : On n x (mo z n) ↔ On n x z := by unfold On; rw [mo_mo]
theorem on_in {n : Int} {x : List Int} {z : Int} (h0 : 0 ≤ z) (h1 : z < n) : On n x z ↔ z ∈ x := by unfold On; rw [mo_id h0 h1]
theorem on_same {n : Int} {x : List Int} {a b : Int} (h : ∃ c, a - b = n * c) : On n x a ↔ On n x b := by unfold On; rw [mo_eq.2 h]
theorem on_ext {n : Int} {x y : List Int} (hx : Rok n x) (hy : Rok n y) (h : ∀ z, On n x z ↔ On n y z) : x = y :=
  sorted_ext hx.inc hy.inc fun z => by
    constructor
    · intro hz; exact (on_in (hx.ge z hz) (hx.lt z hz)).1 ((h z).1 ((on_in (hx.ge z hz) (hx.lt z hz)).2 hz))
    · intro hz; exact (on_in (hy.ge z hz) (hy.lt z hz)).1 ((h z).2 ((on_in (hy.ge z hz) (hy.lt z hz)).2 hz))
theorem on_map1 {n : Int} {x : List Int} (hR : Rok n x) (k z : Int) : On n (mapV n x 1 k) z ↔ On n x (z - k) := by
  unfold On
  rw [mem_mapV hR.lo]
  constructor
  · rintro ⟨p, hp, e⟩
    obtain ⟨c, hc⟩ := mo_eq.1 e
    have : mo (z - k) n = mo p n := mo_eq.2 ⟨-c, by rw [Int.mul_neg]; omega⟩
    rw [this, mo_id (hR.ge p hp) (hR.lt p hp)]; exact hp
  · intro hp
    refine ⟨_, hp, ?_⟩
    rw [mo_lin]
    congr 1; omega
theorem on_mir {n : Int} {x : List Int} (hR : Rok n x) (k z : Int) : On n (mapV n x (-1) k) z ↔ On n x (k - z) := by
  unfold On
  rw [mem_mapV hR.lo]
  constructor
  · rintro ⟨p, hp, e⟩
    obtain ⟨c, hc⟩ := mo_eq.1 e
    have : mo (k - z) n = mo p n := mo_eq.2 ⟨c, by omega⟩
    rw [this, mo_id (hR.ge p hp) (hR.lt p hp)]; exact hp
  · intro hp
    refine ⟨_, hp, ?_⟩
    rw [mo_lin]
    congr 1; omega

/-- Turning by k leaves the beats. -/
def Inv (n : Int) (x : List Int) (k : Int) : Prop := ∀ z, On n x (z + k) ↔ On n x z
theorem rot_eq {n : Int} {x : List Int} (hR : Rok n x) (i j : Int) : mapV n x 1 i = mapV n x 1 j ↔ Inv n x (i - j) := by
  constructor
  · intro e z
    have h1 := on_map1 hR i (z + i)
    have h2 := on_map1 hR j (z + i)
    rw [e] at h1
    have h3 := h1.symm.trans h2
    rw [show z + i - i = z by omega, show z + i - j = z + (i - j) by omega] at h3
    exact h3.symm
  · intro h
    refine on_ext (mapV_rok hR.lo hR.hi _ _ _) (mapV_rok hR.lo hR.hi _ _ _) fun z => ?_
    rw [on_map1 hR, on_map1 hR]
    have := h (z - i)
    rw [show z - i + (i - j) = z - j by omega] at this
    exact this.symm
theorem inv_iff {n : Int} {x : List Int} (hR : Rok n x) (k : Int) : mapV n x 1 k = x ↔ Inv n x k := by
  have h := rot_eq hR k 0
  rw [mapV_one hR, Int.sub_zero] at h
  exact h
theorem mir_eq {n : Int} {x : List Int} (hR : Rok n x) (i j : Int) : mapV n x (-1) i = mapV n x (-1) j ↔ Inv n x (i - j) := by
  constructor
  · intro e z
    have h1 := on_mir hR i (j - z)
    have h2 := on_mir hR j (j - z)
    rw [e] at h1
    have h3 := h1.symm.trans h2
    rw [show i - (j - z) = z + (i - j) by omega, show j - (j - z) = z by omega] at h3
    exact h3
  · intro h
    refine on_ext (mapV_rok hR.lo hR.hi _ _ _) (mapV_rok hR.lo hR.hi _ _ _) fun z => ?_
    rw [on_mir hR, on_mir hR]
    have := h (j - z)
    rw [show j - z + (i - j) = i - z by omega] at this
    exact this
theorem Inv.zero (n : Int) (x : List Int) : Inv n x 0 := fun z => by rw [Int.add_zero]
theorem Inv.add {n : Int} {x : List Int} {a b : Int} (ha : Inv n x a) (hb : Inv n x b) : Inv n x (a + b) := fun z => by
  rw [show z + (a + b) = (z + a) + b by omega]; exact (hb _).trans (ha z)
theorem Inv.neg {n : Int} {x : List Int} {a : Int} (ha : Inv n x a) : Inv n x (-a) := fun z => by
  have := ha (z + -a)
  rw [show z + -a + a = z by omega] at this
  exact this.symm
theorem Inv.mulN {n : Int} {x : List Int} {a : Int} (ha : Inv n x a) : ∀ q : Nat, Inv n x (a * (q : Int))
  | 0 => by simpa using Inv.zero n x
  | q + 1 => by
    have := (Inv.mulN ha q).add ha
    rwa [show a * ((q + 1 : Nat) : Int) = a * (q : Int) + a by rw [Int.natCast_add, Int.mul_add]; simp]
theorem Inv.mul {n : Int} {x : List Int} {a : Int} (ha : Inv n x a) (q : Int) : Inv n x (a * q) := by
  rcases Int.le_total 0 q with h | h
  · have := ha.mulN q.toNat
    rwa [show ((q.toNat : Nat) : Int) = q by omega] at this
  · have := (ha.mulN (-q).toNat).neg
    rwa [show ((((-q).toNat) : Nat) : Int) = -q by omega, Int.mul_neg, Int.neg_neg] at this
theorem Inv.full (n : Int) (x : List Int) : Inv n x n := fun z => on_same ⟨1, by omega⟩

/-! ### the period -/
theorem perGo_inv {n : Int} {x : List Int} (hR : Rok n x) : ∀ (f : Nat) (k : Int), k + f = n → Inv n x (perGo n x f k)
  | 0, k, h => by
    have : k = n := by omega
    rw [this]; exact Inv.full n x
  | f + 1, k, h => by
    unfold perGo
    split
    · next he => exact (inv_iff hR k).1 (by simpa [eqL] using he)
    · exact perGo_inv hR f (k + 1) (by omega)
theorem perGo_min {n : Int} {x : List Int} (hR : Rok n x) : ∀ (f : Nat) (k j : Int), k ≤ j → j < perGo n x f k → ¬ Inv n x j
  | 0, k, j, h1, h2 => by simp [perGo] at h2; omega
  | f + 1, k, j, h1, h2 => by
    unfold perGo at h2
    split at h2
    · omega
    · next he =>
      intro hi
      by_cases e : j = k
      · subst e; exact he (by simpa [eqL] using (inv_iff hR j).2 hi)
      · exact perGo_min hR f (k + 1) j (by omega) h2 hi
theorem per_inv {n : Int} {x : List Int} (hR : Rok n x) : Inv n x (per n x) := perGo_inv hR _ _ (by have := hR.lo; omega)
theorem per_min {n : Int} {x : List Int} (hR : Rok n x) {j : Int} (h1 : 1 ≤ j) (h2 : j < per n x) : ¬ Inv n x j := perGo_min hR _ _ j h1 h2
theorem inv_dvd {n : Int} {x : List Int} (hR : Rok n x) {k : Int} : Inv n x k ↔ k % per n x = 0 := by
  have hb := per_bd (x := x) hR.lo
  have hm : k = per n x * (k / per n x) + k % per n x := (Int.mul_ediv_add_emod k (per n x)).symm
  have h0 := Int.emod_nonneg k (show per n x ≠ 0 by omega)
  have h1 := Int.emod_lt_of_pos k (show 0 < per n x by omega)
  constructor
  · intro h
    have h2 : Inv n x (k % per n x) := by
      have h3 := h.add ((per_inv hR).mul (k / per n x)).neg
      rwa [show k + -(per n x * (k / per n x)) = k % per n x by omega] at h3
    by_cases e : k % per n x = 0
    · exact e
    · exact absurd h2 (per_min hR (by omega) h1)
  · intro e
    have h3 := (per_inv hR).mul (k / per n x)
    rwa [show per n x * (k / per n x) = k by omega] at h3
theorem per_dvd {n : Int} {x : List Int} (hR : Rok n x) : n % per n x = 0 := (inv_dvd hR).1 (Inv.full n x)
theorem per_of {n m : Int} {x y : List Int} (hx : Rok n x) (hy : Rok m y) (h : ∀ k, Inv n x k ↔ Inv m y k) : per n x = per m y := by
  have h1 := per_bd (x := x) hx.lo
  have h2 := per_bd (x := y) hy.lo
  rcases Int.lt_trichotomy (per n x) (per m y) with h3 | h3 | h3
  · exact absurd ((h _).1 (per_inv hx)) (per_min hy h1.1 h3)
  · exact h3
  · exact absurd ((h _).2 (per_inv hy)) (per_min hx h2.1 h3)
theorem inv_map1 {n : Int} {x : List Int} (hR : Rok n x) (k j : Int) : Inv n (mapV n x 1 k) j ↔ Inv n x j := by
  constructor
  · intro h z
    have := h (z + k)
    rw [on_map1 hR, on_map1 hR, show z + k + j - k = z + j by omega, show z + k - k = z by omega] at this
    exact this
  · intro h z
    rw [on_map1 hR, on_map1 hR, show z + j - k = (z - k) + j by omega]
    exact h _

/-! ### the rotation that leads to another rhythm -/
theorem rtGo_spec {n : Int} {x y : List Int} : ∀ (f : Nat) (k j : Int), k ≤ j → j < k + f → mapV n x 1 j = y → (∀ i, k ≤ i → i < j → mapV n x 1 i ≠ y) → rtGo n x y f k = j
  | 0, k, j, h1, h2, _, _ => by omega
  | f + 1, k, j, h1, h2, h3, h4 => by
    by_cases e : k = j
    · subst e; unfold rtGo; rw [if_pos (by simpa [eqL] using h3)]
    · unfold rtGo
      rw [if_neg (by have := h4 k (Int.le_refl _) (by omega); simpa [eqL] using this)]
      exact rtGo_spec f (k + 1) j (by omega) (by omega) h3 fun i hi => h4 i (by omega)
theorem rtGo_some {n : Int} {x y : List Int} : ∀ (f : Nat) (k : Int), 0 ≤ k → (0 ≤ rtGo n x y f k ↔ ∃ j, k ≤ j ∧ j < k + f ∧ mapV n x 1 j = y)
  | 0, k, h0 => by
    constructor
    · intro h; simp [rtGo] at h
    · rintro ⟨j, h1, h2, _⟩; omega
  | f + 1, k, h0 => by
    unfold rtGo
    split
    · next he => exact ⟨fun _ => ⟨k, Int.le_refl _, by omega, by simpa [eqL] using he⟩, fun _ => h0⟩
    · next he =>
      rw [rtGo_some f (k + 1) (by omega)]
      constructor
      · rintro ⟨j, h1, h2, h3⟩; exact ⟨j, by omega, by omega, h3⟩
      · rintro ⟨j, h1, h2, h3⟩
        by_cases e : j = k
        · subst e; exact absurd (by simpa [eqL] using h3) he
        · exact ⟨j, by omega, by omega, h3⟩
theorem rotTo_some {n : Int} {x y : List Int} (h : 1 ≤ n) : 0 ≤ rotTo n x y ↔ ∃ j, 0 ≤ j ∧ j < n ∧ mapV n x 1 j = y := by
  unfold rotTo
  rw [rtGo_some _ _ (Int.le_refl _)]
  constructor
  · rintro ⟨j, h1, h2, h3⟩; exact ⟨j, h1, by omega, h3⟩
  · rintro ⟨j, h1, h2, h3⟩; exact ⟨j, h1, by omega, h3⟩
theorem rotTo_rot {n : Int} {x : List Int} (hR : Rok n x) {k : Int} : rotTo n x (mapV n x 1 k) = k % per n x := by
  have hb := per_bd (x := x) hR.lo
  have h0 := Int.emod_nonneg k (show per n x ≠ 0 by omega)
  have h1 := Int.emod_lt_of_pos k (show 0 < per n x by omega)
  refine rtGo_spec _ _ _ h0 (by omega) ?_ ?_
  · rw [rot_eq hR, inv_dvd hR, Int.sub_emod, Int.emod_emod, Int.sub_self, Int.zero_emod]
  · intro i hi0 hi1 e
    rw [rot_eq hR, inv_dvd hR] at e
    have e2 := Int.emod_eq_emod_iff_emod_sub_eq_zero.2 e
    rw [Int.emod_eq_of_lt hi0 (by omega)] at e2
    omega
theorem rotTo_rots {n : Int} {x : List Int} (hR : Rok n x) (k : Int) : 0 ≤ rotTo n x (mapV n x 1 k) := by
  have hb := per_bd (x := x) hR.lo
  rw [rotTo_rot hR]; exact Int.emod_nonneg k (show per n x ≠ 0 by omega)
theorem rot_back {n : Int} {x : List Int} (hR : Rok n x) (k : Int) : mapV n (mapV n x 1 k) 1 (-k) = x := by
  refine on_ext (mapV_rok hR.lo hR.hi _ _ _) hR fun z => ?_
  rw [on_map1 (mapV_rok hR.lo hR.hi _ _ _), on_map1 hR]
  rw [show z - -k - k = z by omega]
theorem mir_back {n : Int} {x : List Int} (hR : Rok n x) : mapV n (mapV n x (-1) 0) (-1) 0 = x := by
  refine on_ext (mapV_rok hR.lo hR.hi _ _ _) hR fun z => ?_
  rw [on_mir (mapV_rok hR.lo hR.hi _ _ _), on_mir hR]
  rw [show 0 - (0 - z) = z by omega]
theorem mir_rot {n : Int} {x : List Int} (hR : Rok n x) (k : Int) : mapV n (mapV n x 1 k) (-1) 0 = mapV n (mapV n x (-1) 0) 1 (-k) := by
  refine on_ext (mapV_rok hR.lo hR.hi _ _ _) (mapV_rok hR.lo hR.hi _ _ _) fun z => ?_
  rw [on_mir (mapV_rok hR.lo hR.hi _ _ _), on_map1 hR, on_map1 (mapV_rok hR.lo hR.hi _ _ _), on_mir hR]
  rw [show 0 - (z - -k) = 0 - z - k by omega]

/-! ### the rotation with the last text -/
theorem code_inj {n : Int} {x y : List Int} (hx : Rok n x) (hy : Rok n y) (h : codeN n x = codeN n y) : x = y := by
  refine on_ext hx hy fun z => ?_
  have h0 := mo_ge (k := z) hx.lo
  have h1 := mo_lt (k := z) hx.lo
  have hi : (((n - 1 - mo z n).toNat : Nat) : Int) = n - 1 - mo z n := by omega
  have e1 := codeN_pulse (x := x) (n := n) (fun p hp => ⟨hx.ge p hp, hx.lt p hp⟩) (i := (n - 1 - mo z n).toNat) (by omega)
  have e2 := codeN_pulse (x := y) (n := n) (fun p hp => ⟨hy.ge p hp, hy.lt p hp⟩) (i := (n - 1 - mo z n).toNat) (by omega)
  rw [h, e2, hi, show n - 1 - (n - 1 - mo z n) = mo z n by omega] at e1
  unfold On
  simp only [hasL, decide_eq_decide] at e1
  exact e1.symm
theorem latL_two (n : Int) (a b : List Int) : latL n a b = a ∨ latL n a b = b := by
  unfold latL; split
  · exact .inr rfl
  · exact .inl rfl
theorem latL_ge (n : Int) (a b : List Int) : codeN n a ≤ codeN n (latL n a b) ∧ codeN n b ≤ codeN n (latL n a b) := by
  unfold latL; split <;> omega
theorem lrTo_some (n : Int) (x : List Int) : ∀ k : Nat, ∃ j : Int, lrTo n x k = mapV n x 1 j
  | 0 => ⟨0, rfl⟩
  | k + 1 => by
    rcases latL_two n (lrTo n x k) (mapV n x 1 (k : Int)) with h | h
    · obtain ⟨j, hj⟩ := lrTo_some n x k
      exact ⟨j, by rw [lrTo, h]; exact hj⟩
    · exact ⟨k, by rw [lrTo, h]⟩
theorem lrTo_ge (n : Int) (x : List Int) : ∀ (k j : Nat), j < k → codeN n (mapV n x 1 (j : Int)) ≤ codeN n (lrTo n x k)
  | 0, j, h => by omega
  | k + 1, j, h => by
    have h1 := latL_ge n (lrTo n x k) (mapV n x 1 (k : Int))
    rw [lrTo]
    by_cases e : j = k
    · subst e; exact h1.2
    · exact Nat.le_trans (lrTo_ge n x k j (by omega)) h1.1
theorem leastV_some (n : Int) (x : List Int) : ∃ j : Int, leastV n x = mapV n x 1 j := lrTo_some n x _
theorem leastV_ge {n : Int} (h : 1 ≤ n) (x : List Int) (j : Int) : codeN n (mapV n x 1 j) ≤ codeN n (leastV n x) := by
  have h0 := mo_ge (k := j) h
  have h1 := mo_lt (k := j) h
  have := lrTo_ge n x n.toNat (mo j n).toNat (by omega)
  rw [show (((mo j n).toNat : Nat) : Int) = mo j n by omega, mapV_mod h] at this
  exact this
theorem rot_rot {n : Int} {x : List Int} (hR : Rok n x) (i j : Int) : mapV n (mapV n x 1 i) 1 j = mapV n x 1 (i + j) := by
  refine on_ext (mapV_rok hR.lo hR.hi _ _ _) (mapV_rok hR.lo hR.hi _ _ _) fun z => ?_
  rw [on_map1 (mapV_rok hR.lo hR.hi _ _ _), on_map1 hR, on_map1 hR, show z - j - i = z - (i + j) by omega]
theorem leastV_rot {n : Int} {x : List Int} (hR : Rok n x) (k : Int) : leastV n (mapV n x 1 k) = leastV n x := by
  obtain ⟨i, hi⟩ := leastV_some n x
  obtain ⟨j, hj⟩ := leastV_some n (mapV n x 1 k)
  refine code_inj (leastV_rok hR.lo hR.hi _) (leastV_rok hR.lo hR.hi _) (Nat.le_antisymm ?_ ?_)
  · rw [hj, rot_rot hR]; exact leastV_ge hR.lo x _
  · have := leastV_ge hR.lo (mapV n x 1 k) (i - k)
    rw [rot_rot hR, show k + (i - k) = i by omega, ← hi] at this
    exact this
theorem latL_comm {n : Int} {a b : List Int} (ha : Rok n a) (hb : Rok n b) : latL n a b = latL n b a := by
  unfold latL
  split
  · next h => rw [if_neg (by omega)]
  · next h =>
    split
    · rfl
    · exact code_inj ha hb (by omega)
theorem formV_mir {n : Int} {x : List Int} (hR : Rok n x) : formV n (mapV n x (-1) 0) = formV n x := by
  unfold formV
  rw [mir_back hR]
  exact latL_comm (leastV_rok hR.lo hR.hi _) (leastV_rok hR.lo hR.hi _)
theorem formV_rot {n : Int} {x : List Int} (hR : Rok n x) (k : Int) : formV n (mapV n x 1 k) = formV n x := by
  unfold formV
  rw [leastV_rot hR, mir_rot hR, leastV_rot (mapV_rok hR.lo hR.hi _ _ _)]
theorem leastV_least {n : Int} {x : List Int} (hR : Rok n x) : leastV n (leastV n x) = leastV n x := by
  obtain ⟨i, hi⟩ := leastV_some n x
  rw [hi, leastV_rot hR, hi]
/-- The form is a rotation of the rhythm or of its mirror. -/
theorem formV_some {n : Int} {x : List Int} : ∃ j : Int, formV n x = mapV n x 1 j ∨ formV n x = mapV n (mapV n x (-1) 0) 1 j := by
  unfold formV
  rcases latL_two n (leastV n x) (leastV n (mapV n x (-1) 0)) with h | h
  · obtain ⟨j, hj⟩ := leastV_some n x
    exact ⟨j, .inl (by rw [h, hj])⟩
  · obtain ⟨j, hj⟩ := leastV_some n (mapV n x (-1) 0)
    exact ⟨j, .inr (by rw [h, hj])⟩
theorem formV_form {n : Int} {x : List Int} (hR : Rok n x) : formV n (formV n x) = formV n x := by
  obtain ⟨j, h | h⟩ := formV_some (n := n) (x := x)
  · rw [h, formV_rot hR, ← h]
  · rw [h, formV_rot (mapV_rok hR.lo hR.hi _ _ _), formV_mir hR, ← h]

/-! ### axes -/
theorem cnt_one (a : Nat) : ∀ p : Nat, ((List.range p).filter fun j => decide (j = a)).length = if a < p then 1 else 0
  | 0 => by simp
  | p + 1 => by
    rw [List.range_succ, List.filter_append, List.length_append, cnt_one a p]
    by_cases e : p = a
    · subst e; simp
    · simp [e]
      by_cases h : a < p
      · rw [if_pos h, if_pos (by omega)]
      · rw [if_neg h, if_neg (by omega)]
theorem cnt_block (p : Nat) (hp : 0 < p) (r : Int) : ((List.range p).filter fun (j : Nat) => decide (((j : Int) - r) % (p : Int) = 0)).length = 1 := by
  have h0 := Int.emod_nonneg r (show (p : Int) ≠ 0 by omega)
  have h1 := Int.emod_lt_of_pos r (show 0 < (p : Int) by omega)
  have h2 := cnt_one (r % (p : Int)).toNat p
  rw [if_pos (by omega)] at h2
  rw [← h2]
  congr 1
  refine List.filter_congr fun j hj => ?_
  have hj' : j < p := by simpa using hj
  rw [decide_eq_decide, ← Int.emod_eq_emod_iff_emod_sub_eq_zero, Int.emod_eq_of_lt (by omega) (by omega)]
  omega
theorem cnt_all (p : Nat) (hp : 0 < p) (r : Int) : ∀ q : Nat, ((List.range (p * q)).filter fun (j : Nat) => decide (((j : Int) - r) % (p : Int) = 0)).length = q
  | 0 => by simp
  | q + 1 => by
    rw [Nat.mul_succ, List.range_add, List.filter_append, List.length_append, cnt_all p hp r q, List.filter_map, List.length_map]
    congr 1
    rw [← cnt_block p hp r]
    congr 1
    refine List.filter_congr fun j hj => ?_
    simp only [Function.comp]
    rw [decide_eq_decide, show (((p * q + j : Nat) : Int) - r) = ((j : Int) - r) + (p : Int) * (q : Int) by push_cast; omega, Int.add_mul_emod_self_left]
theorem axTo_mem {n : Int} {x : List Int} {k : Nat} {z : Int} : z ∈ axTo n x k ↔ (0 ≤ z ∧ z < k) ∧ mapV n x (-1) z = x := by
  unfold axTo
  rw [List.mem_filter, List.mem_map]
  constructor
  · rintro ⟨⟨i, hi, rfl⟩, h⟩
    have : i < k := by simpa using hi
    exact ⟨by omega, by simpa [eqL] using h⟩
  · rintro ⟨⟨h1, h2⟩, h⟩
    exact ⟨⟨z.toNat, by simp; omega, by omega⟩, by simpa [eqL] using h⟩
theorem axes_len {n : Int} {x : List Int} (hR : Rok n x) : (axTo n x n.toNat).length = 0 ∨ ((axTo n x n.toNat).length : Int) = n / per n x := by
  have hb := per_bd (x := x) hR.lo
  by_cases h : axTo n x n.toNat = []
  · left; rw [h]; rfl
  · right
    obtain ⟨k0, hk0⟩ := List.exists_mem_of_ne_nil _ h
    have hk := (axTo_mem.1 hk0).2
    have hd := per_dvd hR
    have hn : n = per n x * (n / per n x) := by have := Int.mul_ediv_add_emod n (per n x); omega
    have hq : 0 ≤ n / per n x := Int.ediv_nonneg (by omega) (by omega)
    have hc := cnt_all (per n x).toNat (by omega) k0 (n / per n x).toNat
    have hmul : (per n x).toNat * (n / per n x).toNat = n.toNat := by
      have e : (((per n x).toNat * (n / per n x).toNat : Nat) : Int) = n := by
        rw [Int.natCast_mul, show (((per n x).toNat : Nat) : Int) = per n x by omega, show (((n / per n x).toNat : Nat) : Int) = n / per n x by omega]
        exact hn.symm
      omega
    rw [hmul] at hc
    unfold axTo
    rw [List.filter_map, List.length_map]
    have e : ((List.range n.toNat).filter ((fun k => eqL (mapV n x (-1) k) x) ∘ fun (p : Nat) => (p : Int))).length = (n / per n x).toNat := by
      rw [← hc]
      congr 1
      refine List.filter_congr fun j hj => ?_
      show decide (mapV n x (-1) (j : Int) = x) = _
      rw [decide_eq_decide, show (((per n x).toNat : Nat) : Int) = per n x by omega, ← inv_dvd hR, ← mir_eq hR, hk]
    rw [e]; omega
theorem axes_rot {n : Int} {x : List Int} (hR : Rok n x) : 0 ≤ rotTo n x (mapV n x (-1) 0) ↔ 0 < (axTo n x n.toNat).length := by
  rw [rotTo_some hR.lo]
  constructor
  · rintro ⟨j, h0, h1, h2⟩
    refine List.length_pos_of_mem (a := mo (-j) n) (axTo_mem.2 ⟨⟨mo_ge hR.lo, by have := mo_lt (k := -j) hR.lo; have := hR.lo; omega⟩, ?_⟩)
    rw [mapV_mod hR.lo]
    refine on_ext (mapV_rok hR.lo hR.hi _ _ _) hR fun z => ?_
    have h7 := on_map1 hR j (z + j)
    rw [h2, on_mir hR, show z + j - j = z by omega, show 0 - (z + j) = -j - z by omega] at h7
    rw [on_mir hR]
    exact h7
  · intro h
    obtain ⟨k, hk⟩ := List.exists_mem_of_length_pos h
    have he := (axTo_mem.1 hk).2
    refine ⟨mo (-k) n, mo_ge hR.lo, mo_lt hR.lo, ?_⟩
    rw [mapV_mod hR.lo]
    refine on_ext (mapV_rok hR.lo hR.hi _ _ _) (mapV_rok hR.lo hR.hi _ _ _) fun z => ?_
    have h7 := on_mir hR k (z + k)
    rw [he, show k - (z + k) = 0 - z by omega] at h7
    rw [on_map1 hR, on_mir hR, show z - -k = z + k by omega]
    exact h7
end Go.Proofs.Ytopfenhphnmfkaa
