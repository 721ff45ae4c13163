/-
  Plain facts: the interval vector of the other pulses, and forms of one another.
  No program in sight.
-/
import Derived.Test.YtopfenhphnmfkaaV2
set_option linter.unusedVariables false
set_option linter.unusedSimpArgs false
namespace Go.Proofs.Ytopfenhphnmfkaa

theorem cnt_mem (a : Int) : ∀ {l : List Int}, l.Nodup → l.countP (fun q => q == a) = if a ∈ l then 1 else 0
  | [], _ => by simp
  | b :: l, h => by
    rw [List.nodup_cons] at h
    rw [List.countP_cons, cnt_mem a h.2]
    by_cases e : b = a
    · subst e; simp [h.1]
    · by_cases m : a ∈ l
      · simp [m, e]
      · have : ¬ a = b := fun q => e q.symm
        simp [m, e, this]
instance decOn (n : Int) (x : List Int) (z : Int) : Decidable (On n x z) := inferInstanceAs (Decidable (mo z n ∈ x))
theorem cntD_at {n p d : Int} (hn : 1 ≤ n) (h0 : 0 ≤ d) (h1 : d < n) {x : List Int} (hR : Rok n x) : cntD n p d x = if On n x (p - d) then 1 else 0 := by
  have e : (x.countP fun q => mo (p - q) n == d) = x.countP fun q => q == mo (p - d) n := by
    refine List.countP_congr fun q hq => ?_
    simp only [beq_iff_eq]
    have hq0 := hR.ge q hq
    have hq1 := hR.lt q hq
    constructor
    · intro h
      rw [← mo_id h0 h1] at h
      obtain ⟨c, hc⟩ := mo_eq.1 h
      rw [← mo_id hq0 hq1]
      exact mo_eq.2 ⟨-c, by rw [Int.mul_neg]; omega⟩
    · intro h
      rw [← mo_id hq0 hq1] at h
      obtain ⟨c, hc⟩ := mo_eq.1 h
      rw [← mo_id h0 h1]
      exact mo_eq.2 ⟨-c, by rw [Int.mul_neg]; omega⟩
  unfold cntD
  rw [e, cnt_mem _ (nodup_inc hR.inc)]
  by_cases q : mo (p - d) n ∈ x
  · rw [if_pos q, if_pos (show On n x (p - d) from q)]; rfl
  · rw [if_neg q, if_neg (show ¬ On n x (p - d) from q)]; rfl
/-- How many beats have a beat d pulses before them. -/
def cor (n : Int) (x : List Int) (d : Int) : Nat := x.countP fun p => hasL x (mo (p - d) n)
theorem sum_if (f : Int → Bool) : ∀ l : List Int, (l.map fun p => if f p = true then (1 : Int) else 0).sum = ((l.countP f : Nat) : Int)
  | [] => rfl
  | a :: l => by
    have := sum_if f l
    rw [List.map_cons, List.sum_cons, this, List.countP_cons]
    cases f a <;> simp <;> omega
theorem allD_cor {n d : Int} (hn : 1 ≤ n) (h0 : 0 ≤ d) (h1 : d < n) {x : List Int} (hR : Rok n x) : allD n d x x = (cor n x d : Nat) := by
  unfold allD cor
  rw [← sum_if]
  congr 1
  refine List.map_congr_left fun p hp => ?_
  rw [cntD_at hn h0 h1 hR]
  unfold On
  by_cases e : mo (p - d) n ∈ x <;> simp [hasL, e]
theorem cnt_two (f g : Int → Bool) : ∀ l : List Int, (l.countP fun a => !f a && !g a) + l.countP f + l.countP g = l.length + l.countP fun a => f a && g a
  | [] => rfl
  | a :: l => by
    have := cnt_two f g l
    simp only [List.countP_cons, List.length_cons]
    cases f a <;> cases g a <;> simp <;> omega
def allP (n : Int) : List Int := (List.range n.toNat).map fun (p : Nat) => (p : Int)
theorem mem_allP {n z : Int} : z ∈ allP n ↔ 0 ≤ z ∧ z < n := by
  unfold allP
  rw [List.mem_map]
  constructor
  · rintro ⟨i, hi, rfl⟩
    have : i < n.toNat := by simpa using hi
    omega
  · rintro ⟨h1, h2⟩
    exact ⟨z.toNat, by simp; omega, by omega⟩
theorem allP_len {n : Int} : (allP n).length = n.toNat := by simp [allP]
theorem of_allP {n : Int} {x : List Int} (hR : Rok n x) : (allP n).filter (hasL x) = x :=
  ofTo_id hR.inc fun z hz => ⟨hR.ge z hz, by have := hR.lt z hz; omega⟩
theorem allP_nodup {n : Int} : (allP n).Nodup := by
  have h := ofTo_sorted (allP n) n.toNat
  rw [show ofTo (allP n) n.toNat = allP n from ?_] at h
  · exact nodup_inc h
  · show (allP n).filter (hasL (allP n)) = allP n
    rw [List.filter_eq_self]
    intro a ha; simp [hasL, ha]
theorem turn_len {n : Int} {x : List Int} (hR : Rok n x) (d : Int) : (allP n).countP (fun z => hasL x (mo (z - d) n)) = x.length := by
  rw [List.countP_eq_length_filter, ← rot_length hR d]
  refine len_same (allP_nodup.filter _) (nodup_inc (mapV_sorted n x 1 d)) fun z => ?_
  rw [List.mem_filter, mem_allP]
  constructor
  · rintro ⟨⟨h0, h1⟩, h⟩
    rw [← on_in h0 h1, on_map1 hR]
    simpa [hasL, On] using h
  · intro h
    have hM := mapV_rok hR.lo hR.hi x 1 d
    have h0 := hM.ge z h
    have h1 := hM.lt z h
    refine ⟨⟨h0, h1⟩, ?_⟩
    rw [← on_in h0 h1, on_map1 hR] at h
    simpa [hasL, On] using h
theorem cor_oth {n d : Int} {x : List Int} (hR : Rok n x) : cor n (othTo x n.toNat) d + 2 * x.length = n.toNat + cor n x d := by
  have h := cnt_two (hasL x) (fun z => hasL x (mo (z - d) n)) (allP n)
  rw [turn_len hR, allP_len] at h
  have h1 : (allP n).countP (hasL x) = x.length := by rw [List.countP_eq_length_filter, of_allP hR]
  have h2 : cor n x d = (allP n).countP fun a => hasL x a && hasL x (mo (a - d) n) := by
    unfold cor
    conv => lhs; rw [← of_allP hR]
    rw [List.countP_filter]
    refine List.countP_congr fun a ha => ?_
    rw [of_allP hR, Bool.and_comm]
  have h3 : cor n (othTo x n.toNat) d = (allP n).countP fun a => !hasL x a && !hasL x (mo (a - d) n) := by
    have e : othTo x n.toNat = (allP n).filter fun p => !hasL x p := rfl
    have e2 : ∀ a, hasL (othTo x n.toNat) (mo (a - d) n) = !hasL x (mo (a - d) n) := fun a => by
      have := on_oth hR.lo x (a - d)
      unfold On at this
      by_cases q : mo (a - d) n ∈ x
      · have q2 : ¬ mo (a - d) n ∈ othTo x n.toNat := fun q2 => this.1 q2 q
        simp [hasL, q, q2]
      · have q2 : mo (a - d) n ∈ othTo x n.toNat := this.2 q
        simp [hasL, q, q2]
    unfold cor
    rw [show (fun p => hasL (othTo x n.toNat) (mo (p - d) n)) = fun p => !hasL x (mo (p - d) n) from funext e2, e, List.countP_filter]
    refine List.countP_congr fun a ha => ?_
    rw [Bool.and_comm]
  rw [h1, ← h2, ← h3] at h
  omega
theorem vec_oth {n : Int} {x y : List Int} (hx : Rok n x) (hy : Rok n y) (hl : x.length = y.length) (h : vecOut n x x.length = vecOut n y y.length) :
    vecOut n (othTo x n.toNat) (othTo x n.toNat).length = vecOut n (othTo y n.toNat) (othTo y n.toNat).length := by
  have hlo := hx.lo
  have ox := oth_rok hx.lo hx.hi x
  have oy := oth_rok hx.lo hx.hi y
  refine List.ext_getElem (by rw [vecOut_len, vecOut_len]) fun i h1 h2 => ?_
  have hi : i < (n / 2).toNat := by rw [vecOut_len] at h1; exact h1
  have a1 := vecOut_get ox (Nat.le_refl _) hi
  have a2 := vecOut_get oy (Nat.le_refl _) hi
  have a3 := vecOut_get hx (Nat.le_refl _) hi
  have a4 := vecOut_get hy (Nat.le_refl _) hi
  rw [getD_get h1] at a1
  rw [getD_get h2] at a2
  rw [a1, a2]
  have b1 := fold_tri ox (e := (i : Int) + 1) (by omega) (by omega) (Nat.le_refl _)
  have b2 := fold_tri oy (e := (i : Int) + 1) (by omega) (by omega) (Nat.le_refl _)
  have b3 := fold_tri hx (e := (i : Int) + 1) (by omega) (by omega) (Nat.le_refl _)
  have b4 := fold_tri hy (e := (i : Int) + 1) (by omega) (by omega) (Nat.le_refl _)
  rw [List.take_length, allD_cor hlo (by omega) (by omega)] at b1 b2 b3 b4
  · have c1 := cor_oth (d := (i : Int) + 1) hx
    have c2 := cor_oth (d := (i : Int) + 1) hy
    have e : tri n ((i : Int) + 1) x x.length = tri n ((i : Int) + 1) y y.length := by rw [← a3, ← a4, h]
    rw [e] at b3
    split at b1 <;> simp_all <;> omega
  all_goals assumption

/-! ### forms of one another -/
theorem form_iff {n : Int} {x y : List Int} (hx : Rok n x) (hy : Rok n y) : valAreForms n x n y = true ↔ ∃ j, mapV n x 1 j = y ∨ mapV n (mapV n x (-1) 0) 1 j = y := by
  have r1 := (rok_iff n x).2 hx
  have r2 := (rok_iff n y).2 hy
  unfold valAreForms
  rw [r1, r2]
  simp only [decide_true, Bool.and_self, Bool.true_and, Bool.or_eq_true, decide_eq_true_eq]
  rw [rotTo_some hx.lo, rotTo_some hx.lo]
  constructor
  · rintro (⟨j, _, _, h⟩ | ⟨j, _, _, h⟩)
    · exact ⟨j, .inl h⟩
    · exact ⟨j, .inr h⟩
  · rintro ⟨j, h | h⟩
    · exact .inl ⟨mo j n, mo_ge hx.lo, mo_lt hx.lo, by rw [mapV_mod hx.lo]; exact h⟩
    · exact .inr ⟨mo j n, mo_ge hx.lo, mo_lt hx.lo, by rw [mapV_mod hx.lo]; exact h⟩
theorem form_sym1 {n : Int} {x y : List Int} (hx : Rok n x) (hy : Rok n y) (h : valAreForms n x n y = true) : valAreForms n y n x = true := by
  have mx := mapV_rok hx.lo hx.hi x (-1) 0
  rw [form_iff hx hy] at h
  rw [form_iff hy hx]
  obtain ⟨j, rfl | rfl⟩ := h
  · exact ⟨-j, .inl (rot_back hx j)⟩
  · refine ⟨j, .inr ?_⟩
    rw [mir_rot mx, mir_back hx, rot_rot hx]
    have : -j + j = 0 := by omega
    rw [this, mapV_one hx]
theorem form_sym {n : Int} {x y : List Int} (hx : Rok n x) (hy : Rok n y) : valAreForms n x n y = valAreForms n y n x := by
  rw [Bool.eq_iff_iff]
  exact ⟨form_sym1 hx hy, form_sym1 hy hx⟩
theorem oth_rot {n : Int} {x : List Int} (hR : Rok n x) (k : Int) : othTo (mapV n x 1 k) n.toNat = mapV n (othTo x n.toNat) 1 k :=
  on_ext (oth_rok hR.lo hR.hi _) (mapV_rok hR.lo hR.hi _ _ _) fun z => by
    rw [on_oth hR.lo, on_map1 hR, on_map1 (oth_rok hR.lo hR.hi _), on_oth hR.lo]
theorem oth_mir {n : Int} {x : List Int} (hR : Rok n x) (k : Int) : othTo (mapV n x (-1) k) n.toNat = mapV n (othTo x n.toNat) (-1) k :=
  on_ext (oth_rok hR.lo hR.hi _) (mapV_rok hR.lo hR.hi _ _ _) fun z => by
    rw [on_oth hR.lo, on_mir hR, on_mir (oth_rok hR.lo hR.hi _), on_oth hR.lo]
theorem form_oth1 {n : Int} {x y : List Int} (hx : Rok n x) (hy : Rok n y) (h : valAreForms n x n y = true) : valAreForms n (othTo x n.toNat) n (othTo y n.toNat) = true := by
  have mx := mapV_rok hx.lo hx.hi x (-1) 0
  rw [form_iff hx hy] at h
  rw [form_iff (oth_rok hx.lo hx.hi _) (oth_rok hx.lo hx.hi _)]
  obtain ⟨j, rfl | rfl⟩ := h
  · exact ⟨j, .inl (oth_rot hx j).symm⟩
  · exact ⟨j, .inr (by rw [oth_rot mx, oth_mir hx])⟩
theorem form_oth {n : Int} {x y : List Int} (hx : Rok n x) (hy : Rok n y) : valAreForms n (othTo x n.toNat) n (othTo y n.toNat) = valAreForms n x n y := by
  rw [Bool.eq_iff_iff]
  refine ⟨fun h => ?_, form_oth1 hx hy⟩
  have := form_oth1 (oth_rok hx.lo hx.hi x) (oth_rok hx.lo hx.hi y) h
  rwa [oth_oth hx, oth_oth hy] at this
theorem form_rot {n : Int} {x : List Int} (hx : Rok n x) (j : Int) : valAreForms n x n (mapV n x 1 j) = true := (form_iff hx (mapV_rok hx.lo hx.hi _ _ _)).2 ⟨j, .inl rfl⟩
theorem form_form {n : Int} {x : List Int} (hx : Rok n x) : valAreForms n x n (formV n x) = true := by
  rw [form_iff hx (formV_rok hx.lo hx.hi _)]
  obtain ⟨j, h | h⟩ := formV_some (n := n) (x := x)
  · exact ⟨j, .inl h.symm⟩
  · exact ⟨j, .inr h.symm⟩
theorem form_mir {n : Int} {x : List Int} (hx : Rok n x) : valAreForms n x n (mapV n x (-1) 0) = true := by
  have mx := mapV_rok hx.lo hx.hi x (-1) 0
  rw [form_iff hx mx]
  exact ⟨0, .inr (mapV_one mx)⟩
end Go.Proofs.Ytopfenhphnmfkaa
