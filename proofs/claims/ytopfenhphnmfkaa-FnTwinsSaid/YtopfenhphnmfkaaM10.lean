/-
  Plain facts: the numbers of intervals of a rhythm are the numbers of its differences, folded.
  No program in sight.
-/
import Derived.Test.YtopfenhphnmfkaaM6
set_option linter.unusedVariables false
set_option linter.unusedSimpArgs false
namespace Go.Proofs.Ytopfenhphnmfkaa

theorem incAt_get {l : List Int} {i d : Nat} (hd : d < l.length) : (incAt l i).getD d 0 = l.getD d 0 + if i = d then 1 else 0 := by
  unfold incAt
  by_cases e : i = d
  · subst e; simp [List.getD_eq_getElem?_getD, hd]
  · simp [List.getD_eq_getElem?_getD, List.getElem?_set_ne e, e]
def cntD (n : Int) (p d : Int) (qs : List Int) : Int := (qs.countP fun q => mo (p - q) n == d)
theorem cntD_nil (n p d : Int) : cntD n p d [] = 0 := rfl
theorem cntD_snoc (n p d : Int) (qs : List Int) (q : Int) : cntD n p d (qs ++ [q]) = cntD n p d qs + if mo (p - q) n = d then 1 else 0 := by
  unfold cntD
  rw [List.countP_append]
  by_cases h : mo (p - q) n = d <;> simp [h]
theorem cntD_cons (n p d : Int) (qs : List Int) (q : Int) : cntD n p d (q :: qs) = cntD n p d qs + if mo (p - q) n = d then 1 else 0 := by
  unfold cntD
  by_cases h : mo (p - q) n = d <;> simp [h]
theorem difIn_get {n p : Int} (hn : 1 ≤ n) {l qs : List Int} {d : Nat} (hd : d < l.length) : (difIn n p l qs).getD d 0 = l.getD d 0 + cntD n p d qs := by
  induction qs generalizing l with
  | nil => simp [difIn, cntD]
  | cons q qs ih =>
    have h1 := ih (l := incAt l (mo (p - q) n).toNat) (by rw [incAt_len]; exact hd)
    have h2 : difIn n p l (q :: qs) = difIn n p (incAt l (mo (p - q) n).toNat) qs := rfl
    have h3 := mo_ge (k := p - q) hn
    rw [h2, h1, incAt_get hd, cntD_cons]
    by_cases e : mo (p - q) n = (d : Int)
    · have : (mo (p - q) n).toNat = d := by omega
      rw [if_pos this, if_pos e]; omega
    · have : ¬ (mo (p - q) n).toNat = d := by omega
      rw [if_neg this, if_neg e]; omega
/-- All pairs: the first out of ps, the second out of qs. -/
def allD (n d : Int) (ps qs : List Int) : Int := (ps.map fun p => cntD n p d qs).sum
theorem allD_snoc (n d : Int) (ps qs : List Int) (p : Int) : allD n d (ps ++ [p]) qs = allD n d ps qs + cntD n p d qs := by simp [allD]
/-- The pairs whose second is q. -/
def cntE (n q d : Int) (ps : List Int) : Int := (ps.countP fun p => mo (p - q) n == d)
theorem allD_snoc2 (n d : Int) (ps qs : List Int) (q : Int) : allD n d ps (qs ++ [q]) = allD n d ps qs + cntE n q d ps := by
  induction ps with
  | nil => rfl
  | cons p ps ih =>
    have h1 : ∀ qs, allD n d (p :: ps) qs = cntD n p d qs + allD n d ps qs := fun qs => by simp [allD]
    have h2 : cntE n q d (p :: ps) = cntE n q d ps + if mo (p - q) n = d then 1 else 0 := by
      unfold cntE
      by_cases h : mo (p - q) n = d <;> simp [h]
    rw [h1, h1, h2, ih, cntD_snoc]; omega
theorem difOut_get {n : Int} (hn : 1 ≤ n) {xs : List Int} {k d : Nat} (hk : k ≤ xs.length) (hd : (d : Int) < n) : (difOut n xs k).getD d 0 = allD n d (xs.take k) xs := by
  have hl : d < n.toNat := by omega
  induction k with
  | zero => simp [difOut_zero, allD, List.getD_eq_getElem?_getD, hl]
  | succ k ih =>
    rw [difOut_succ, difIn_get hn (by rw [difOut_len]; exact hl), ih (by omega), take_snoc (by omega), allD_snoc]
def cls (n p q : Int) : Int := min (p - q) (n + q - p)
def cntC (n p e : Int) (qs : List Int) : Int := (qs.countP fun q => cls n p q == e)
theorem cntC_cons (n p e : Int) (qs : List Int) (q : Int) : cntC n p e (q :: qs) = cntC n p e qs + if cls n p q = e then 1 else 0 := by
  unfold cntC
  by_cases h : cls n p q = e <;> simp [h]
theorem mo_pos {n p q : Int} (h1 : q < p) (h0 : 0 ≤ q) (h2 : p < n) : mo (p - q) n = p - q ∧ mo (q - p) n = n + q - p := by
  refine ⟨mo_id (by omega) (by omega), ?_⟩
  unfold mo
  have := Int.add_emod_right (q - p) n
  rw [← this, Int.emod_eq_of_lt (by omega) (by omega)]; omega
theorem pair_fold {n y e : Int} (he : 1 ≤ e) (h2 : 2 * e ≤ n) (hy : y < n) {qs : List Int} (hq : ∀ q ∈ qs, 0 ≤ q ∧ q < y) :
    cntD n y e qs + cntE n y e qs = (if 2 * e = n then 2 else 1) * cntC n y e qs := by
  induction qs with
  | nil => simp [cntD, cntE, cntC]
  | cons q qs ih =>
    have hqq := hq q List.mem_cons_self
    have h1 := ih (fun z hz => hq z (List.mem_cons_of_mem _ hz))
    have h3 : cntE n y e (q :: qs) = cntE n y e qs + if mo (q - y) n = e then 1 else 0 := by
      unfold cntE
      by_cases h : mo (q - y) n = e <;> simp [h]
    obtain ⟨m1, m2⟩ := mo_pos hqq.2 hqq.1 hy
    rw [cntD_cons, h3, cntC_cons, m1, m2, Int.mul_add, ← h1]
    unfold cls
    by_cases g : 2 * e = n
    · rw [if_pos g]
      by_cases g1 : y - q = e
      · rw [if_pos g1, if_pos (by omega), if_pos (by omega)]; omega
      · rw [if_neg g1, if_neg (by omega), if_neg (by omega)]; omega
    · rw [if_neg g]
      by_cases g1 : y - q = e
      · rw [if_pos g1, if_neg (by omega), if_pos (by omega)]; omega
      · by_cases g2 : n + q - y = e
        · rw [if_neg g1, if_pos g2, if_pos (by omega)]; omega
        · rw [if_neg g1, if_neg g2, if_neg (by omega)]; omega
/-- The pairs with the second before the first, of an interval class. -/
def tri (n e : Int) (xs : List Int) (k : Nat) : Int := ((List.range k).map fun i => cntC n (xs.getD i 0) e (xs.take i)).sum
theorem tri_succ (n e : Int) (xs : List Int) (k : Nat) : tri n e xs (k + 1) = tri n e xs k + cntC n (xs.getD k 0) e (xs.take k) := by simp [tri, List.range_succ]
theorem fold_tri {n : Int} {xs : List Int} (hR : Rok n xs) {e : Int} (he : 1 ≤ e) (h2 : 2 * e ≤ n) {k : Nat} (hk : k ≤ xs.length) :
    allD n e (xs.take k) (xs.take k) = (if 2 * e = n then 2 else 1) * tri n e xs k := by
  induction k with
  | zero => simp [allD, tri]
  | succ k ih =>
    have hkl : k < xs.length := by omega
    have hm := getD_mem hkl
    have h0 : mo (xs.getD k 0 - xs.getD k 0) n = 0 := by rw [Int.sub_self]; exact mo_id (by omega) (by omega)
    rw [take_snoc hkl, allD_snoc, allD_snoc2, cntD_snoc, h0, if_neg (by omega), ih (by omega), tri_succ, Int.mul_add,
      ← pair_fold he h2 (hR.lt _ hm) (qs := xs.take k) ?_]
    · omega
    · intro q hq
      obtain ⟨i, hi, rfl⟩ := List.mem_iff_getElem.1 hq
      have hi' : i < k := by rw [List.length_take] at hi; omega
      rw [List.getElem_take]
      refine ⟨hR.ge _ (List.getElem_mem _), ?_⟩
      rw [getD_get hkl]
      exact List.pairwise_iff_getElem.1 hR.inc i k (by omega) hkl hi'

/-! ### the program's way -/
def vecIn (n p : Int) (l : List Int) (qs : List Int) : List Int := qs.foldl (fun l q => incAt l (cls n p q - 1).toNat) l
theorem vecIn_snoc (n p : Int) (l qs : List Int) (q : Int) : vecIn n p l (qs ++ [q]) = incAt (vecIn n p l qs) (cls n p q - 1).toNat := by simp [vecIn]
theorem vecIn_len (n p : Int) (l : List Int) (qs : List Int) : (vecIn n p l qs).length = l.length := by
  induction qs generalizing l with
  | nil => rfl
  | cons q qs ih => unfold vecIn at ih ⊢; rw [List.foldl_cons, ih, incAt_len]
theorem vecIn_get {n p : Int} {l qs : List Int} {d : Nat} (hd : d < l.length) (hq : ∀ q ∈ qs, 1 ≤ cls n p q) : (vecIn n p l qs).getD d 0 = l.getD d 0 + cntC n p ((d : Int) + 1) qs := by
  induction qs generalizing l with
  | nil => simp [vecIn, cntC]
  | cons q qs ih =>
    have h1 := ih (l := incAt l (cls n p q - 1).toNat) (by rw [incAt_len]; exact hd) (fun z hz => hq z (List.mem_cons_of_mem _ hz))
    have h2 : vecIn n p l (q :: qs) = vecIn n p (incAt l (cls n p q - 1).toNat) qs := rfl
    have h3 := hq q List.mem_cons_self
    rw [h2, h1, incAt_get hd, cntC_cons]
    by_cases e : cls n p q = (d : Int) + 1
    · have : (cls n p q - 1).toNat = d := by omega
      rw [if_pos this, if_pos e]; omega
    · have : ¬ (cls n p q - 1).toNat = d := by omega
      rw [if_neg this, if_neg e]; omega
def vecOut (n : Int) (xs : List Int) (k : Nat) : List Int := (List.range k).foldl (fun l i => vecIn n (xs.getD i 0) l (xs.take i)) (List.replicate (n / 2).toNat 0)
theorem vecOut_zero (n : Int) (xs : List Int) : vecOut n xs 0 = List.replicate (n / 2).toNat 0 := rfl
theorem vecOut_succ (n : Int) (xs : List Int) (k : Nat) : vecOut n xs (k + 1) = vecIn n (xs.getD k 0) (vecOut n xs k) (xs.take k) := by simp [vecOut, List.range_succ]
theorem vecOut_len (n : Int) (xs : List Int) (k : Nat) : (vecOut n xs k).length = (n / 2).toNat := by
  induction k with
  | zero => simp [vecOut]
  | succ k ih => rw [vecOut_succ, vecIn_len, ih]
theorem Rok.pair {n : Int} {xs : List Int} (hR : Rok n xs) {k : Nat} (hk : k < xs.length) : ∀ q ∈ xs.take k, 0 ≤ q ∧ q < xs.getD k 0 := by
  intro q hq
  obtain ⟨i, hi, rfl⟩ := List.mem_iff_getElem.1 hq
  have hi' : i < k := by rw [List.length_take] at hi; omega
  rw [List.getElem_take]
  refine ⟨hR.ge _ (List.getElem_mem _), ?_⟩
  rw [getD_get hk]
  exact List.pairwise_iff_getElem.1 hR.inc i k (by omega) hk hi'
theorem cls_bd {n p q : Int} (h0 : 0 ≤ q) (h1 : q < p) (h2 : p < n) : 1 ≤ cls n p q ∧ cls n p q ≤ n / 2 := by unfold cls; omega
theorem vecOut_get {n : Int} {xs : List Int} (hR : Rok n xs) {k d : Nat} (hk : k ≤ xs.length) (hd : d < (n / 2).toNat) : (vecOut n xs k).getD d 0 = tri n ((d : Int) + 1) xs k := by
  induction k with
  | zero => simp [vecOut_zero, tri, List.getD_eq_getElem?_getD, hd]
  | succ k ih =>
    have hkl : k < xs.length := by omega
    rw [vecOut_succ, vecIn_get (by rw [vecOut_len]; exact hd) (fun q hq => (cls_bd (hR.pair hkl q hq).1 (hR.pair hkl q hq).2 (hR.lt _ (getD_mem hkl))).1), ih (by omega), tri_succ]

/-! ### the reference's way -/
def veAt (l : List Int) (n : Int) (i : Nat) : Int := if 2 * ((i : Int) + 1) = n then l.getD (i + 1) 0 / 2 else l.getD (i + 1) 0
def veTo (l : List Int) (n : Int) (k : Nat) : List Int := (List.range k).map (veAt l n)
theorem veTo_succ (l : List Int) (n : Int) (k : Nat) : veTo l n (k + 1) = veTo l n k ++ [veAt l n k] := by simp [veTo, List.range_succ]
theorem veTo_len (l : List Int) (n : Int) (k : Nat) : (veTo l n k).length = k := by simp [veTo]
theorem vec_same {n : Int} {xs : List Int} (hR : Rok n xs) : vecOut n xs xs.length = veTo (difOut n xs xs.length) n (n / 2).toNat := by
  have hlo := hR.lo
  refine List.ext_getElem (by rw [vecOut_len, veTo_len]) fun i h1 h2 => ?_
  have hi : i < (n / 2).toNat := by rw [vecOut_len] at h1; exact h1
  have e1 := vecOut_get hR (Nat.le_refl _) hi
  rw [getD_get h1] at e1
  have e2 := difOut_get hlo (xs := xs) (d := i + 1) (Nat.le_refl _) (by omega)
  have e3 := fold_tri hR (e := (i : Int) + 1) (by omega) (by omega) (Nat.le_refl xs.length)
  rw [List.take_length] at e2 e3
  rw [Int.natCast_add] at e2
  rw [e1]
  simp only [veTo, List.getElem_map, List.getElem_range, veAt]
  rw [e2]
  have e4 : ((i : Int) + ((1 : Nat) : Int)) = (i : Int) + 1 := rfl
  rw [e4, e3]
  by_cases g : 2 * ((i : Int) + 1) = n
  · rw [if_pos g, if_pos g]; omega
  · rw [if_neg g, if_neg g]; omega
theorem vecIn_bd {n p B : Int} {l qs : List Int} (h : Bd B l) : Bd (B + qs.length) (vecIn n p l qs) := by
  induction qs generalizing l B with
  | nil => simpa [vecIn] using h
  | cons q qs ih =>
    have := ih (h.inc (cls n p q - 1).toNat)
    unfold vecIn at this ⊢
    rw [List.foldl_cons]
    exact this.mono (by simp; omega)
theorem vecOut_bd (n : Int) (xs : List Int) (k : Nat) : Bd ((k : Int) * xs.length) (vecOut n xs k) := by
  induction k with
  | zero => simpa [vecOut] using Bd.zero (n / 2).toNat
  | succ k ih =>
    rw [vecOut_succ]
    have := vecIn_bd (n := n) (p := xs.getD k 0) (qs := xs.take k) ih
    refine this.mono ?_
    have h2 : (xs.take k).length ≤ xs.length := by rw [List.length_take]; omega
    rw [Int.natCast_add, Int.add_mul]; simp; omega
theorem vec_bd {n : Int} {xs : List Int} (h : xs.length ≤ 24) {k : Nat} (hk : k ≤ xs.length) (qs : List Int) (hq : qs.length ≤ 24) : Bd 1152 (vecIn n (xs.getD k 0) (vecOut n xs k) qs) := by
  have h1 := vecIn_bd (n := n) (p := xs.getD k 0) (qs := qs) (vecOut_bd n xs k)
  refine h1.mono ?_
  have h3 : (k : Int) * (xs.length : Int) ≤ 24 * 24 := by
    calc (k : Int) * (xs.length : Int) ≤ 24 * (xs.length : Int) := Int.mul_le_mul_of_nonneg_right (by omega) (by omega)
      _ ≤ 24 * 24 := Int.mul_le_mul_of_nonneg_left (by omega) (by omega)
  omega
theorem difOut_all {n : Int} {xs : List Int} (h : xs.length ≤ 24) : Bd 1152 (difOut n xs xs.length) := by
  refine (difOut_bd n xs xs.length).mono ?_
  have h3 : (xs.length : Int) * (xs.length : Int) ≤ 24 * 24 := by
    calc (xs.length : Int) * (xs.length : Int) ≤ 24 * (xs.length : Int) := Int.mul_le_mul_of_nonneg_right (by omega) (by omega)
      _ ≤ 24 * 24 := Int.mul_le_mul_of_nonneg_left (by omega) (by omega)
  omega
theorem veAt_yes {l : List Int} {n : Int} {i : Nat} (h : 2 * ((i : Int) + 1) = n) : veAt l n i = l.getD (i + 1) 0 / 2 := by simp [veAt, h]
theorem veAt_no {l : List Int} {n : Int} {i : Nat} (h : ¬ 2 * ((i : Int) + 1) = n) : veAt l n i = l.getD (i + 1) 0 := by simp [veAt, h]
def lstVectorOf (n : Int) (x : List Int) : List Int := if rok n x = true then vecOut n x x.length else []
theorem lstVectorOf_yes {n : Int} {x : List Int} (h : rok n x = true) : lstVectorOf n x = vecOut n x x.length := by simp [lstVectorOf, h]
theorem lstVectorOf_no {n : Int} {x : List Int} (h : rok n x = false) : lstVectorOf n x = [] := by simp [lstVectorOf, h]
theorem lenVectorOf (n : Int) (x : List Int) : (lstVectorOf n x).length ≤ 24 := by
  cases h : rok n x with
  | false => rw [lstVectorOf_no h]; simp
  | true =>
    rw [lstVectorOf_yes h, vecOut_len]
    have hR := (rok_iff n x).1 h
    have h1 := hR.lo
    have h2 := hR.hi
    omega
end Go.Proofs.Ytopfenhphnmfkaa
