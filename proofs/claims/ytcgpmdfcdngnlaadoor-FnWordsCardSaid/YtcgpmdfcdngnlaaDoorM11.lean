/-
  Plain facts: a list in ascending order with each number once; the rhythm to which a rhythm is carried.
  No program in sight.
-/
import Derived.Test.YtcgpmdfcdngnlaaDoorM4
import Derived.Lib.SlicesCompact
set_option linter.unusedVariables false
set_option linter.unusedSimpArgs false
namespace Go.Proofs.YtcgpmdfcdngnlaaDoor

theorem compact_parts (d : Array Int) (hs : ∀ i j, i < j → j < d.size → d[i]! ≤ d[j]!) : ∀ m, m ≤ d.size →
    (Lib.compactUpTo d m).Pairwise (· < ·) ∧ ∀ z, z ∈ Lib.compactUpTo d m ↔ ∃ i, i < m ∧ d[i]! = z := by
  intro m
  induction m with
  | zero => intro _; simp [Lib.compactUpTo]
  | succ m ih =>
    intro hm
    obtain ⟨h1, h2⟩ := ih (by omega)
    rw [Lib.compactUpTo_succ]
    by_cases hk : Lib.keeps d m = true
    · rw [if_pos hk]
      have hlt : ∀ z ∈ Lib.compactUpTo d m, z < d[m]! := by
        intro z hz
        obtain ⟨i, hi, rfl⟩ := (h2 z).1 hz
        have hne : d[m]! ≠ d[m - 1]! := by
          rcases of_decide_eq_true hk with h | h
          · omega
          · exact h
        have a1 : d[m - 1]! ≤ d[m]! := hs _ _ (by omega) (by omega)
        have a2 : d[i]! ≤ d[m - 1]! := by
          by_cases e : i = m - 1
          · rw [e]; exact Int.le_refl _
          · exact hs _ _ (by omega) (by omega)
        omega
      refine ⟨List.pairwise_append.2 ⟨h1, List.pairwise_singleton _ _, fun a ha b hb => ?_⟩, fun z => ?_⟩
      · rw [List.mem_singleton] at hb; subst hb; exact hlt a ha
      · rw [List.mem_append, h2, List.mem_singleton]
        constructor
        · rintro (⟨i, hi, e⟩ | e)
          · exact ⟨i, by omega, e⟩
          · exact ⟨m, by omega, e.symm⟩
        · rintro ⟨i, hi, e⟩
          by_cases e' : i = m
          · subst e'; exact .inr e.symm
          · exact .inl ⟨i, by omega, e⟩
    · rw [if_neg hk, List.append_nil]
      have hk' : m ≠ 0 ∧ d[m]! = d[m - 1]! := by
        unfold Lib.keeps at hk
        rw [decide_eq_true_eq] at hk
        by_cases e : d[m]! = d[m - 1]!
        · exact ⟨fun h => hk (.inl h), e⟩
        · exact absurd (.inr e) hk
      refine ⟨h1, fun z => ?_⟩
      rw [h2]
      constructor
      · rintro ⟨i, hi, e⟩; exact ⟨i, by omega, e⟩
      · rintro ⟨i, hi, e⟩
        by_cases e' : i = m
        · subst e'; exact ⟨i - 1, by omega, by rw [← hk'.2]; exact e⟩
        · exact ⟨i, by omega, e⟩

/-- In ascending order, each once. -/
def srt (xs : List Int) : List Int := Lib.compact (xs.mergeSort fun x y => decide (x ≤ y))
theorem get_toArray (l : List Int) (i : Nat) (h : i < l.length) : l.toArray[i]! = l[i] := by simp [getElem!_pos, h]
theorem compact_of (l : List Int) (hs : l.Pairwise (· ≤ ·)) : (Lib.compact l).Pairwise (· < ·) ∧ ∀ z, z ∈ Lib.compact l ↔ z ∈ l := by
  have hs' : ∀ i j, i < j → j < l.toArray.size → l.toArray[i]! ≤ l.toArray[j]! := by
    intro i j hij hj
    have hj' : j < l.length := by simpa using hj
    rw [get_toArray l i (by omega), get_toArray l j hj']
    exact (List.pairwise_iff_getElem.1 hs) i j (by omega) hj' hij
  obtain ⟨h1, h2⟩ := compact_parts l.toArray hs' l.length (by simp)
  refine ⟨h1, fun z => ?_⟩
  unfold Lib.compact
  rw [h2]
  constructor
  · rintro ⟨i, hi, rfl⟩
    rw [get_toArray l i hi]; exact List.getElem_mem hi
  · intro hz
    obtain ⟨i, hi, rfl⟩ := List.mem_iff_getElem.1 hz
    exact ⟨i, hi, get_toArray l i hi⟩
theorem srt_parts (xs : List Int) : (srt xs).Pairwise (· < ·) ∧ ∀ z, z ∈ srt xs ↔ z ∈ xs := by
  have hp : (xs.mergeSort fun x y => decide (x ≤ y)).Pairwise fun a b => decide (a ≤ b) = true :=
    List.pairwise_mergeSort (fun a b c h1 h2 => by simp at h1 h2 ⊢; omega) (fun a b => by simp; omega) xs
  obtain ⟨h1, h2⟩ := compact_of _ (hp.imp fun h => of_decide_eq_true h)
  exact ⟨h1, fun z => (h2 z).trans List.mem_mergeSort⟩
theorem srt_sorted (xs : List Int) : (srt xs).Pairwise (· < ·) := (srt_parts xs).1
theorem mem_srt {xs : List Int} {z : Int} : z ∈ srt xs ↔ z ∈ xs := (srt_parts xs).2 z
theorem srt_nil : srt [] = [] := List.eq_nil_iff_forall_not_mem.2 fun z hz => by rw [mem_srt] at hz; cases hz
theorem srt_of {xs : List Int} {k : Nat} (h : ∀ z ∈ xs, 0 ≤ z ∧ z < k) : srt xs = ofTo xs k :=
  sorted_ext (srt_sorted _) (ofTo_sorted _ _) fun z => by
    rw [mem_srt, mem_ofTo]
    exact ⟨fun hz => ⟨hz, h z hz⟩, fun hz => hz.1⟩
theorem srt_id {xs : List Int} (h : xs.Pairwise (· < ·)) : srt xs = xs := sorted_ext (srt_sorted _) h fun z => mem_srt
theorem srt_length_le (xs : List Int) : (srt xs).length ≤ xs.length := by
  unfold srt Lib.compact Lib.compactUpTo
  rw [List.length_map]
  refine Nat.le_trans (List.length_filter_le _ _) ?_
  simp

/-- The remainders of numbers, in order. -/
def ofMo (n : Int) (list : List Int) : List Int := ofTo (list.map fun p => mo p n) n.toNat
theorem srt_mo {n : Int} (h : 1 ≤ n) (list : List Int) : srt (list.map fun p => mo p n) = ofMo n list :=
  srt_of fun z hz => by
    obtain ⟨p, _, rfl⟩ := List.mem_map.1 hz
    have h1 := mo_ge (k := p) h
    have h2 := mo_lt (k := p) h
    omega
theorem mem_ofMo {n : Int} (h : 1 ≤ n) {list : List Int} {z : Int} : z ∈ ofMo n list ↔ ∃ p ∈ list, mo p n = z := by
  unfold ofMo
  rw [mem_ofTo, List.mem_map]
  constructor
  · exact fun hz => hz.1
  · rintro ⟨p, hp, rfl⟩
    have h1 := mo_ge (k := p) h
    have h2 := mo_lt (k := p) h
    exact ⟨⟨p, hp, rfl⟩, h1, by omega⟩
theorem ofMo_sorted (n : Int) (list : List Int) : (ofMo n list).Pairwise (· < ·) := ofTo_sorted _ _
theorem ofMo_rok {n : Int} (h1 : 1 ≤ n) (h2 : n ≤ 24) (list : List Int) : Rok n (ofMo n list) := ofTo_rok h1 h2
theorem ofMo_len {n : Int} (h : n ≤ 24) (list : List Int) : (ofMo n list).length ≤ 24 := by
  have := ofTo_len (list.map fun p => mo p n) n.toNat
  unfold ofMo; omega

/-- The rhythm with u p + k for each beat p. -/
def mapV (n : Int) (x : List Int) (u k : Int) : List Int := ofMo n (x.map fun p => u * p + k)
theorem mem_mapV {n : Int} (h : 1 ≤ n) {x : List Int} {u k z : Int} : z ∈ mapV n x u k ↔ ∃ p ∈ x, mo (u * p + k) n = z := by
  unfold mapV
  rw [mem_ofMo h]
  constructor
  · rintro ⟨q, hq, rfl⟩
    obtain ⟨p, hp, rfl⟩ := List.mem_map.1 hq
    exact ⟨p, hp, rfl⟩
  · rintro ⟨p, hp, rfl⟩
    exact ⟨_, List.mem_map.2 ⟨p, hp, rfl⟩, rfl⟩
theorem mapV_sorted (n : Int) (x : List Int) (u k : Int) : (mapV n x u k).Pairwise (· < ·) := ofMo_sorted _ _
theorem mapV_rok {n : Int} (h1 : 1 ≤ n) (h2 : n ≤ 24) (x : List Int) (u k : Int) : Rok n (mapV n x u k) := ofMo_rok h1 h2 _
theorem mapV_ext {n : Int} (h : 1 ≤ n) {x y : List Int} {u k u' k' : Int} (e : ∀ z, (∃ p ∈ x, mo (u * p + k) n = z) ↔ ∃ p ∈ y, mo (u' * p + k') n = z) : mapV n x u k = mapV n y u' k' :=
  sorted_ext (mapV_sorted _ _ _ _) (mapV_sorted _ _ _ _) fun z => by rw [mem_mapV h, mem_mapV h]; exact e z
theorem mo_add (a b n : Int) : mo (a + b) n = mo (mo a n + b) n := by unfold mo; rw [Int.emod_add_emod]
theorem mo_mul (u a n : Int) : mo (u * a) n = mo (u * mo a n) n := by unfold mo; rw [Int.mul_emod, Int.mul_emod u (a % n), Int.emod_emod]
theorem mo_lin (u a k n : Int) : mo (u * mo a n + k) n = mo (u * a + k) n := by rw [mo_add, ← mo_mul, ← mo_add]
/-- Carried twice. -/
theorem mapV_comp {n : Int} (h : 1 ≤ n) (x : List Int) (u k u' k' : Int) : mapV n (mapV n x u k) u' k' = mapV n x (u' * u) (u' * k + k') :=
  mapV_ext h fun z => by
    have e : ∀ p, mo (u' * mo (u * p + k) n + k') n = mo (u' * u * p + (u' * k + k')) n := fun p => by
      rw [mo_lin]; congr 1; rw [Int.mul_add, Int.mul_assoc]; omega
    constructor
    · rintro ⟨q, hq, rfl⟩
      obtain ⟨p, hp, rfl⟩ := (mem_mapV h).1 hq
      exact ⟨p, hp, (e p).symm⟩
    · rintro ⟨p, hp, rfl⟩
      exact ⟨_, (mem_mapV h).2 ⟨p, hp, rfl⟩, e p⟩
theorem mapV_one {n : Int} {x : List Int} (hR : Rok n x) : mapV n x 1 0 = x :=
  sorted_ext (mapV_sorted _ _ _ _) hR.inc fun z => by
    rw [mem_mapV hR.lo]
    have e : ∀ p ∈ x, mo (1 * p + 0) n = p := fun p hp => by rw [Int.one_mul, Int.add_zero]; exact mo_id (hR.ge p hp) (hR.lt p hp)
    constructor
    · rintro ⟨p, hp, rfl⟩; rw [e p hp]; exact hp
    · exact fun hz => ⟨z, hz, e z hz⟩
theorem mapV_mod {n : Int} (h : 1 ≤ n) (x : List Int) (u k : Int) : mapV n x u (mo k n) = mapV n x u k :=
  mapV_ext h fun z => by
    have e : ∀ p, mo (u * p + mo k n) n = mo (u * p + k) n := fun p => by
      rw [Int.add_comm, ← mo_add, Int.add_comm]
    constructor
    · rintro ⟨p, hp, rfl⟩; exact ⟨p, hp, (e p).symm⟩
    · rintro ⟨p, hp, rfl⟩; exact ⟨p, hp, e p⟩
theorem mapV_full {n : Int} {x : List Int} (hR : Rok n x) : mapV n x 1 n = x := by
  rw [← mapV_mod hR.lo]
  have : mo n n = 0 := by unfold mo; exact Int.emod_self
  rw [this, mapV_one hR]
theorem mapV_len {n : Int} (h : n ≤ 24) (x : List Int) (u k : Int) : (mapV n x u k).length ≤ 24 := ofMo_len h _
end Go.Proofs.YtcgpmdfcdngnlaaDoor
