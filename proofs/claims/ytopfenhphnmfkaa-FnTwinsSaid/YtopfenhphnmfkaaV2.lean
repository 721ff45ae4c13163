/-
  Plain facts: lengths of turned and stretched rhythms, the other pulses, a rhythm repeated.
  No program in sight.
-/
import Derived.Test.YtopfenhphnmfkaaV1
import Derived.Test.YtopfenhphnmfkaaM7
import Derived.Test.YtopfenhphnmfkaaM9
set_option linter.unusedVariables false
set_option linter.unusedSimpArgs false
namespace Go.Proofs.Ytopfenhphnmfkaa

theorem len_same {x y : List Int} (hx : x.Nodup) (hy : y.Nodup) (h : ∀ z, z ∈ x ↔ z ∈ y) : x.length = y.length :=
  ((List.perm_ext_iff_of_nodup hx hy).2 h).length_eq
theorem nodup_inc {x : List Int} (h : x.Pairwise (· < ·)) : x.Nodup := h.imp fun h e => by omega
theorem map_nodup {f : Int → Int} : ∀ {x : List Int}, x.Nodup → (∀ a ∈ x, ∀ b ∈ x, f a = f b → a = b) → (x.map f).Nodup
  | [], _, _ => List.nodup_nil
  | a :: x, h, hf => by
    rw [List.map_cons, List.nodup_cons]
    rw [List.nodup_cons] at h
    refine ⟨fun hm => ?_, map_nodup h.2 fun b hb c hc => hf b (List.mem_cons_of_mem _ hb) c (List.mem_cons_of_mem _ hc)⟩
    obtain ⟨b, hb, e⟩ := List.mem_map.1 hm
    have := hf b (List.mem_cons_of_mem _ hb) a List.mem_cons_self e
    subst this
    exact h.1 hb
theorem unit_inj {n u a b : Int} (hn : 1 ≤ n) (hu : 1 ≤ u) (hg : gcdI u n = 1) (ha : 0 ≤ a) (ha' : a < n) (hb : 0 ≤ b) (hb' : b < n) {k : Int} (h : mo (u * a + k) n = mo (u * b + k) n) : a = b := by
  obtain ⟨c, hc⟩ := mo_eq.1 h
  have h1 : u * (a - b) = n * c := by rw [Int.mul_sub]; omega
  have h2 : u.natAbs * (a - b).natAbs = n.natAbs * c.natAbs := by rw [← Int.natAbs_mul, ← Int.natAbs_mul, h1]
  have h3 : n.natAbs ∣ u.natAbs * (a - b).natAbs := ⟨c.natAbs, h2⟩
  have h4 : Nat.gcd u.natAbs n.natAbs = 1 := by
    unfold gcdI at hg
    rw [show u.natAbs = u.toNat by omega, show n.natAbs = n.toNat by omega]
    omega
  have h5 : n.natAbs ∣ (a - b).natAbs := Nat.Coprime.dvd_of_dvd_mul_left (Nat.Coprime.symm h4) h3
  have h6 := Nat.eq_zero_of_dvd_of_lt h5 (by omega)
  omega
theorem mapV_length {n : Int} {x : List Int} (hR : Rok n x) {u : Int} (k : Int) (hu : 1 ≤ u) (hg : gcdI u n = 1) : (mapV n x u k).length = x.length := by
  have h1 := len_same (nodup_inc (mapV_sorted n x u k)) (map_nodup (f := fun p => mo (u * p + k) n) (nodup_inc hR.inc) fun a ha b hb e => unit_inj hR.lo hu hg (hR.ge a ha) (hR.lt a ha) (hR.ge b hb) (hR.lt b hb) e) fun z => by
    rw [mem_mapV hR.lo, List.mem_map]
  rw [h1, List.length_map]
theorem gcd_one (n : Int) : gcdI 1 n = 1 := by simp [gcdI]
theorem rot_length {n : Int} {x : List Int} (hR : Rok n x) (k : Int) : (mapV n x 1 k).length = x.length := mapV_length hR k (Int.le_refl _) (gcd_one n)

/-! ### the other pulses -/
theorem mem_othTo {list : List Int} {k : Nat} {z : Int} : z ∈ othTo list k ↔ (0 ≤ z ∧ z < k) ∧ z ∉ list := by
  unfold othTo
  rw [List.mem_filter, List.mem_map]
  constructor
  · rintro ⟨⟨i, hi, rfl⟩, h⟩
    have : i < k := by simpa using hi
    exact ⟨by omega, by simpa [hasL] using h⟩
  · rintro ⟨⟨h1, h2⟩, h⟩
    exact ⟨⟨z.toNat, by simp; omega, by omega⟩, by simpa [hasL] using h⟩
theorem othTo_sorted (list : List Int) (k : Nat) : (othTo list k).Pairwise (· < ·) := by
  unfold othTo
  refine List.Pairwise.filter _ ?_
  rw [List.pairwise_map]
  exact List.pairwise_lt_range.imp fun h => by omega
theorem oth_rok {n : Int} (h1 : 1 ≤ n) (h2 : n ≤ 24) (x : List Int) : Rok n (othTo x n.toNat) where
  lo := h1
  hi := h2
  ge := fun z hz => (mem_othTo.1 hz).1.1
  lt := fun z hz => by have := (mem_othTo.1 hz).1.2; omega
  inc := othTo_sorted _ _
theorem on_oth {n : Int} (h1 : 1 ≤ n) (x : List Int) (z : Int) : On n (othTo x n.toNat) z ↔ ¬ On n x z := by
  have h0 := mo_ge (k := z) h1
  have h2 := mo_lt (k := z) h1
  unfold On
  rw [mem_othTo]
  exact ⟨fun h => h.2, fun h => ⟨⟨h0, by omega⟩, h⟩⟩
theorem oth_oth {n : Int} {x : List Int} (hR : Rok n x) : othTo (othTo x n.toNat) n.toNat = x :=
  on_ext (oth_rok hR.lo hR.hi _) hR fun z => by rw [on_oth hR.lo, on_oth hR.lo]; exact Classical.not_not
theorem filter_both {α : Type} (p : α → Bool) : ∀ l : List α, (l.filter p).length + (l.filter fun a => !p a).length = l.length
  | [] => rfl
  | a :: l => by
    have := filter_both p l
    cases h : p a <;> simp [h] <;> omega
theorem oth_len {n : Int} {x : List Int} (hR : Rok n x) : (othTo x n.toNat).length + x.length = n.toNat := by
  have h1 : ofTo x n.toNat = x := ofTo_id hR.inc fun z hz => ⟨hR.ge z hz, by have := hR.lt z hz; omega⟩
  have h2 := filter_both (hasL x) ((List.range n.toNat).map fun (p : Nat) => (p : Int))
  have h3 : (((List.range n.toNat).map fun (p : Nat) => (p : Int)).filter (hasL x)) = x := h1
  rw [h3] at h2
  simp only [List.length_map, List.length_range] at h2
  unfold othTo
  omega
theorem rok_nil {n : Int} (h1 : 1 ≤ n) (h2 : n ≤ 24) : Rok n [] := ⟨h1, h2, fun _ h => (by cases h), fun _ h => (by cases h), List.Pairwise.nil⟩
theorem join_all {n : Int} {x : List Int} (hR : Rok n x) : (ofMo n (x ++ othTo x n.toNat)).length = n.toNat := by
  have h1 : ofMo n (x ++ othTo x n.toNat) = othTo [] n.toNat := by
    refine on_ext (ofMo_rok hR.lo hR.hi _) (oth_rok hR.lo hR.hi _) fun z => ?_
    rw [on_oth hR.lo]
    have h0 := mo_ge (k := z) hR.lo
    have h2 := mo_lt (k := z) hR.lo
    constructor
    · intro _ h; unfold On at h; cases h
    · intro _
      unfold On
      rw [mem_ofMo hR.lo]
      refine ⟨mo z n, ?_, mo_mo z n⟩
      by_cases e : On n x z
      · exact List.mem_append_left _ e
      · exact List.mem_append_right _ ((on_oth hR.lo x z).2 e)
  have h2 := oth_len (rok_nil hR.lo hR.hi)
  rw [h1]
  simpa using h2

/-! ### repeated once -/
theorem mem_repIn {n : Int} {i : Nat} {l : List Int} {z : Int} : z ∈ repIn n i l ↔ ∃ p ∈ l, (i : Int) * n + p = z := by
  unfold repIn; rw [List.mem_map]
theorem mem_rep2 {n : Int} {x : List Int} (hR : Rok n x) {z : Int} : z ∈ repTo n x 2 ↔ (0 ≤ z ∧ z < 2 * n) ∧ mo z n ∈ x := by
  have e : repTo n x 2 = repIn n 0 x ++ repIn n 1 x := rfl
  rw [e, List.mem_append, mem_repIn, mem_repIn]
  constructor
  · rintro (⟨p, hp, rfl⟩ | ⟨p, hp, rfl⟩)
    · have h0 := hR.ge p hp
      have h1 := hR.lt p hp
      have e2 : ((0 : Nat) : Int) * n + p = p := by simp
      rw [e2, mo_id h0 h1]
      exact ⟨by omega, hp⟩
    · have h0 := hR.ge p hp
      have h1 := hR.lt p hp
      have e2 : ((1 : Nat) : Int) * n + p = n + p := by simp
      rw [e2]
      have e3 : mo (n + p) n = mo p n := mo_eq.2 ⟨1, by omega⟩
      rw [e3, mo_id h0 h1]
      exact ⟨by omega, hp⟩
  · rintro ⟨⟨h0, h1⟩, h⟩
    by_cases hz : z < n
    · left; exact ⟨z, by rwa [mo_id h0 hz] at h, by simp⟩
    · right
      refine ⟨z - n, ?_, by simp; omega⟩
      have e3 : mo z n = mo (z - n) n := mo_eq.2 ⟨1, by omega⟩
      rwa [e3, mo_id (by omega) (by omega)] at h
theorem rep2_rok {n : Int} {x : List Int} (hR : Rok n x) (h : 2 * n ≤ 24) : Rok (2 * n) (repTo n x 2) where
  lo := by have := hR.lo; omega
  hi := h
  ge := fun z hz => ((mem_rep2 hR).1 hz).1.1
  lt := fun z hz => ((mem_rep2 hR).1 hz).1.2
  inc := by
    have e : repTo n x 2 = repIn n 0 x ++ repIn n 1 x := rfl
    rw [e, List.pairwise_append]
    refine ⟨?_, ?_, ?_⟩
    · unfold repIn; rw [List.pairwise_map]; exact hR.inc.imp fun h => by omega
    · unfold repIn; rw [List.pairwise_map]; exact hR.inc.imp fun h => by omega
    · intro a ha b hb
      obtain ⟨p, hp, rfl⟩ := mem_repIn.1 ha
      obtain ⟨q, hq, rfl⟩ := mem_repIn.1 hb
      have := hR.lt p hp
      have := hR.ge q hq
      simp; omega
theorem on_rep2 {n : Int} {x : List Int} (hR : Rok n x) (z : Int) : On (2 * n) (repTo n x 2) z ↔ On n x z := by
  have hlo := hR.lo
  have h0 := mo_ge (k := z) (n := 2 * n) (by omega)
  have h1 := mo_lt (k := z) (n := 2 * n) (by omega)
  unfold On
  rw [mem_rep2 hR]
  obtain ⟨c, hc⟩ := mo_eq.1 (mo_mo z (2 * n))
  have e : mo (mo z (2 * n)) n = mo z n := mo_eq.2 ⟨2 * c, by rw [hc, Int.mul_comm 2 n, Int.mul_assoc]⟩
  rw [e]
  exact ⟨fun h => h.2, fun h => ⟨⟨h0, h1⟩, h⟩⟩
theorem rep2_per {n : Int} {x : List Int} (hR : Rok n x) (h : 2 * n ≤ 24) : per (2 * n) (repTo n x 2) = per n x := by
  refine per_of (rep2_rok hR h) hR fun k => ?_
  unfold Inv
  constructor
  · intro hi z; have := hi z; rwa [on_rep2 hR, on_rep2 hR] at this
  · intro hi z; rw [on_rep2 hR, on_rep2 hR]; exact hi z
theorem rep2_len (n : Int) (x : List Int) : (repTo n x 2).length = 2 * x.length := repTo_len n x 2
end Go.Proofs.Ytopfenhphnmfkaa
