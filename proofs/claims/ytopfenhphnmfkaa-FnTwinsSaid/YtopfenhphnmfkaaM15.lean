/-
  Plain facts: flat and deep rhythms; the steps in reverse; the rotation and the form with the last text.
  No program in sight.
-/
import Derived.Test.YtopfenhphnmfkaaM13
import Derived.Test.YtopfenhphnmfkaaM14
import Derived.Test.YtopfenhphnmfkaaM10
set_option linter.unusedVariables false
set_option linter.unusedSimpArgs false
namespace Go.Proofs.Ytopfenhphnmfkaa

/-! ### how long the sorted list is -/
theorem nodup_srt (xs : List Int) : (srt xs).Nodup := (srt_sorted xs).imp fun h e => by omega
theorem srt_snoc_in {xs : List Int} {y : Int} (h : y ∈ xs) : srt (xs ++ [y]) = srt xs :=
  sorted_ext (srt_sorted _) (srt_sorted _) fun z => by
    rw [mem_srt, mem_srt, List.mem_append, List.mem_singleton]
    exact ⟨fun h' => h'.elim id (fun e => e ▸ h), .inl⟩
theorem srt_snoc_new {xs : List Int} {y : Int} (h : y ∉ xs) : (srt (xs ++ [y])).length = (srt xs).length + 1 := by
  have hp : List.Perm (srt (xs ++ [y])) (y :: srt xs) := (List.perm_ext_iff_of_nodup (nodup_srt _) (List.nodup_cons.2 ⟨fun h' => h (mem_srt.1 h'), nodup_srt _⟩)).2 fun z => by
    rw [mem_srt, List.mem_append, List.mem_singleton, List.mem_cons, mem_srt]
    exact ⟨fun h' => h'.elim .inr .inl, fun h' => h'.elim .inr .inl⟩
  rw [hp.length_eq, List.length_cons]
theorem srt_snoc_le (xs : List Int) (y : Int) : (srt (xs ++ [y])).length ≤ (srt xs).length + 1 := by
  by_cases h : y ∈ xs
  · rw [srt_snoc_in h]; omega
  · rw [srt_snoc_new h]; exact Nat.le_refl _

/-! ### flat -/
def flatTo (d : List Int) (k : Nat) : Prop := ∀ j, 2 ≤ j → j < k → d.getD j 0 = d.getD 1 0
theorem flatTo.two (d : List Int) : flatTo d 2 := fun j h1 h2 => by omega
theorem flatTo.succ {d : List Int} {k : Nat} (h : flatTo d k) (hk : d.getD k 0 = d.getD 1 0) : flatTo d (k + 1) := by
  intro j h1 h2
  by_cases e : j = k
  · subst e; exact hk
  · exact h j h1 (by omega)
def flatB (d : List Int) : Bool := decide ((srt (d.drop 1)).length ≤ 1)
theorem flatB_yes {d : List Int} {k : Nat} (h : flatTo d k) (hk : d.length ≤ k) : flatB d = true := by
  unfold flatB
  rw [decide_eq_true_eq]
  cases hd : srt (d.drop 1) with
  | nil => simp
  | cons a l =>
    cases l with
    | nil => simp
    | cons b l =>
      exfalso
      have hs := srt_sorted (d.drop 1)
      rw [hd] at hs
      have hab : a < b := (List.pairwise_cons.1 hs).1 b (List.mem_cons_self ..)
      have hall : ∀ z ∈ d.drop 1, z = d.getD 1 0 := by
        intro z hz
        obtain ⟨i, hi, rfl⟩ := List.mem_iff_getElem.1 hz
        rw [List.length_drop] at hi
        rw [List.getElem_drop]
        by_cases e : i = 0
        · subst e; rw [getD_get (show 1 < d.length by omega)]
        · have := h (1 + i) (by omega) (by omega)
          rwa [getD_get (show 1 + i < d.length by omega)] at this
      have ha : a ∈ d.drop 1 := mem_srt.1 (by rw [hd]; exact List.mem_cons_self ..)
      have hb : b ∈ d.drop 1 := mem_srt.1 (by rw [hd]; exact List.mem_cons_of_mem _ (List.mem_cons_self ..))
      have := hall a ha
      have := hall b hb
      omega
theorem flatB_no {d : List Int} {k : Nat} (h2 : 2 ≤ k) (hk : k < d.length) (h : d.getD k 0 ≠ d.getD 1 0) : flatB d = false := by
  unfold flatB
  rw [decide_eq_false_iff_not]
  intro hle
  have h1 : d.getD k 0 ∈ srt (d.drop 1) := by
    rw [mem_srt, getD_get hk]
    exact List.mem_iff_getElem.2 ⟨k - 1, by rw [List.length_drop]; omega, by rw [List.getElem_drop]; congr 1 <;> omega⟩
  have h3 : d.getD 1 0 ∈ srt (d.drop 1) := by
    rw [mem_srt, getD_get (show 1 < d.length by omega)]
    exact List.mem_iff_getElem.2 ⟨0, by rw [List.length_drop]; omega, by rw [List.getElem_drop]⟩
  obtain ⟨i, hi, hi'⟩ := List.mem_iff_getElem.1 h1
  obtain ⟨j, hj, hj'⟩ := List.mem_iff_getElem.1 h3
  have : i = j := by omega
  subst this
  exact h (hi'.symm.trans hj')
def valIsFlat (n : Int) (x : List Int) : Bool := rok n x && flatB (difOut n x x.length)
theorem isFlat_no {n : Int} {x : List Int} (h : rok n x = false) : valIsFlat n x = false := by simp [valIsFlat, h]
theorem isFlat_yes {n : Int} {x : List Int} (h : rok n x = true) : valIsFlat n x = flatB (difOut n x x.length) := by simp [valIsFlat, h]

/-! ### deep -/
def posTo (l : List Int) (k : Nat) : List Int := (l.take k).filter fun z => decide (0 < z)
theorem posTo_yes {l : List Int} {k : Nat} (hk : k < l.length) (h : 0 < l[k]) : posTo l (k + 1) = posTo l k ++ [l[k]] := by
  unfold posTo; rw [List.take_succ_eq_append_getElem hk, List.filter_append]; simp [h]
theorem posTo_no {l : List Int} {k : Nat} (hk : k < l.length) (h : ¬ 0 < l[k]) : posTo l (k + 1) = posTo l k := by
  unfold posTo; rw [List.take_succ_eq_append_getElem hk, List.filter_append]; simp [h]
theorem posTo_len (l : List Int) (k : Nat) : (posTo l k).length ≤ k := by
  unfold posTo
  have := List.length_filter_le (fun z : Int => decide (0 < z)) (l.take k)
  have h2 : (l.take k).length ≤ k := List.length_take_le _ _
  omega
theorem posTo_end {l : List Int} {k : Nat} (hk : l.length ≤ k) : posTo l (k + 1) = posTo l k := by
  unfold posTo; rw [List.take_of_length_le hk, List.take_of_length_le (by omega)]
theorem mem_posTo {l : List Int} {k : Nat} {z : Int} (h : 0 < z) : z ∈ posTo l k ↔ z ∈ l.take k := by
  unfold posTo; rw [List.mem_filter]; simp [h]
def deepB (l : List Int) : Bool := decide ((srt (posTo l l.length)).length = (posTo l l.length).length)
def DeepTo (l : List Int) (k : Nat) : Prop := (srt (posTo l k)).length = (posTo l k).length
theorem DeepTo.zero (l : List Int) : DeepTo l 0 := by unfold DeepTo posTo; simp [srt_nil]
theorem DeepTo.no {l : List Int} {k : Nat} (hk : k < l.length) (h : DeepTo l k) (hx : ¬ 0 < l[k]) : DeepTo l (k + 1) := by
  unfold DeepTo; rw [posTo_no hk hx]; exact h
theorem DeepTo.new {l : List Int} {k : Nat} (hk : k < l.length) (h : DeepTo l k) (hx : 0 < l[k]) (hn : hasL (l.take k) l[k] = false) : DeepTo l (k + 1) := by
  have hm : l[k] ∉ posTo l k := by
    rw [mem_posTo hx]
    simpa [hasL] using hn
  unfold DeepTo at h ⊢
  rw [posTo_yes hk hx, srt_snoc_new hm, List.length_append, h]; rfl
theorem deepB_yes {l : List Int} {k : Nat} (h : DeepTo l k) (hk : k = l.length) : deepB l = true := by
  subst hk; unfold deepB; rw [decide_eq_true_eq]; exact h
theorem deep_drop (l : List Int) (k d : Nat) (h : (srt (posTo l k)).length < (posTo l k).length) : (srt (posTo l (k + d))).length < (posTo l (k + d)).length := by
  induction d with
  | zero => exact h
  | succ d ih =>
    by_cases hk : k + d < l.length
    · by_cases hx : 0 < l[k + d]
      · rw [show k + (d + 1) = k + d + 1 by omega, posTo_yes hk hx, List.length_append]
        have := srt_snoc_le (posTo l (k + d)) l[k + d]
        simp only [List.length_singleton]; omega
      · rw [show k + (d + 1) = k + d + 1 by omega, posTo_no hk hx]; exact ih
    · rw [show k + (d + 1) = k + d + 1 by omega, posTo_end (by omega)]; exact ih
theorem deepB_no {l : List Int} {k : Nat} (hk : k < l.length) (hx : 0 < l[k]) (hn : hasL (l.take k) l[k] = true) : deepB l = false := by
  have hm : l[k] ∈ posTo l k := by
    rw [mem_posTo hx]
    simpa [hasL] using hn
  have h1 : (srt (posTo l (k + 1))).length < (posTo l (k + 1)).length := by
    rw [posTo_yes hk hx, srt_snoc_in hm, List.length_append]
    have := srt_length_le (posTo l k)
    simp only [List.length_singleton]; omega
  have h2 := deep_drop l (k + 1) (l.length - (k + 1)) h1
  rw [show k + 1 + (l.length - (k + 1)) = l.length by omega] at h2
  unfold deepB
  rw [decide_eq_false_iff_not]
  omega
def valIsDeep (n : Int) (x : List Int) : Bool := rok n x && deepB (vecOut n x x.length)
theorem isDeep_no {n : Int} {x : List Int} (h : rok n x = false) : valIsDeep n x = false := by simp [valIsDeep, h]
theorem isDeep_yes {n : Int} {x : List Int} (h : rok n x = true) : valIsDeep n x = deepB (vecOut n x x.length) := by simp [valIsDeep, h]

/-! ### the steps in reverse -/
def turnAt (n : Int) (x : List Int) (j : Nat) : Int := x.getD 0 0 + ((List.range j).map fun i => (lstStepsOf n x).getD ((lstStepsOf n x).length - 1 - i) 0).foldl (· + ·) 0
theorem turnAt_zero (n : Int) (x : List Int) : turnAt n x 0 = x.getD 0 0 := by simp [turnAt]
theorem turnAt_succ (n : Int) (x : List Int) (j : Nat) : turnAt n x (j + 1) = turnAt n x j + (lstStepsOf n x).getD ((lstStepsOf n x).length - 1 - j) 0 := by
  simp [turnAt, List.range_succ, List.foldl_append]; omega
theorem turnAt_bd {n : Int} {x : List Int} (hR : Rok n x) (hpos : 0 < x.length) (hl : 0 < (lstStepsOf n x).length) (j : Nat) : 0 ≤ turnAt n x j ∧ turnAt n x j ≤ 24 + 24 * (j : Int) := by
  induction j with
  | zero =>
    have := hR.at_ hpos
    have := hR.hi
    rw [turnAt_zero]; omega
  | succ j ih =>
    have := lstStepsOf_bd _ (getD_mem (xs := lstStepsOf n x) (k := (lstStepsOf n x).length - 1 - j) (by omega))
    rw [turnAt_succ]; omega
def turnTo (n : Int) (x : List Int) (j : Nat) : List Int := (List.range j).map (turnAt n x)
theorem turnTo_succ (n : Int) (x : List Int) (j : Nat) : turnTo n x (j + 1) = turnTo n x j ++ [turnAt n x j] := by simp [turnTo, List.range_succ]
theorem turnTo_len (n : Int) (x : List Int) (j : Nat) : (turnTo n x j).length = j := by simp [turnTo]
def revTo (l : List Int) (j : Nat) : List Int := (List.range j).map fun i => l.getD (l.length - 1 - i) 0
theorem revTo_succ (l : List Int) (j : Nat) : revTo l (j + 1) = revTo l j ++ [l.getD (l.length - 1 - j) 0] := by simp [revTo, List.range_succ]
theorem revTo_len (l : List Int) (j : Nat) : (revTo l j).length = j := by simp [revTo]
theorem revTo_get {l : List Int} {j i : Nat} (h : i < j) : (revTo l j).getD i 0 = l.getD (l.length - 1 - i) 0 := by
  simp [revTo, List.getD_eq_getElem?_getD, h]
def okTurnSteps (n : Int) (x : List Int) : Bool := decide (lstStepsOf n x ≠ [])
def numTurnSteps (n : Int) (x : List Int) : Int := if lstStepsOf n x = [] then 0 else n
def lstTurnSteps (n : Int) (x : List Int) : List Int := if lstStepsOf n x = [] then [] else ofMo n (turnTo n x (lstStepsOf n x).length)
theorem turn_no {n : Int} {x : List Int} (h : lstStepsOf n x = []) : numTurnSteps n x = 0 ∧ lstTurnSteps n x = [] ∧ okTurnSteps n x = false := by simp [numTurnSteps, lstTurnSteps, okTurnSteps, h]
theorem turn_yes {n : Int} {x : List Int} (h : lstStepsOf n x ≠ []) : numTurnSteps n x = n ∧ lstTurnSteps n x = ofMo n (turnTo n x (lstStepsOf n x).length) ∧ okTurnSteps n x = true := by simp [numTurnSteps, lstTurnSteps, okTurnSteps, h]
theorem steps_rok {n : Int} {x : List Int} (h : lstStepsOf n x ≠ []) : Rok n x ∧ 0 < x.length := by
  cases hr : rok n x with
  | false => exact absurd (lstStepsOf_no hr) h
  | true =>
    refine ⟨(rok_iff n x).1 hr, ?_⟩
    rw [lstStepsOf_yes hr] at h
    have := List.length_pos_iff.2 h
    rwa [stTo_len] at this
theorem steps_len {n : Int} {x : List Int} (h : lstStepsOf n x ≠ []) : (lstStepsOf n x).length = x.length := by
  have hR := (steps_rok h).1
  rw [lstStepsOf_yes ((rok_iff n x).2 hR), stTo_len]
theorem lenTurnSteps (n : Int) (x : List Int) : (lstTurnSteps n x).length ≤ 24 := by
  by_cases h : lstStepsOf n x = []
  · rw [(turn_no h).2.1]; simp
  · rw [(turn_yes h).2.1]; exact ofMo_len (steps_rok h).1.hi _

/-! ### the rotation with the last text -/
def latL (n : Int) (a b : List Int) : List Int := if codeN n a < codeN n b then b else a
theorem latL_yes {n : Int} {a b : List Int} (h : codeN n a < codeN n b) : latL n a b = b := if_pos h
theorem latL_no {n : Int} {a b : List Int} (h : ¬ codeN n a < codeN n b) : latL n a b = a := if_neg h
theorem latL_rok {n : Int} {a b : List Int} (ha : Rok n a) (hb : Rok n b) : Rok n (latL n a b) := by
  unfold latL; split
  · exact hb
  · exact ha
def lrTo (n : Int) (x : List Int) : Nat → List Int
  | 0 => mapV n x 1 0
  | k + 1 => latL n (lrTo n x k) (mapV n x 1 (k : Int))
theorem lrTo_one (n : Int) (x : List Int) : lrTo n x 1 = mapV n x 1 0 := by
  show latL n (mapV n x 1 0) (mapV n x 1 ((0 : Nat) : Int)) = _
  exact latL_no (Nat.lt_irrefl _)
theorem lrTo_rok {n : Int} (h1 : 1 ≤ n) (h2 : n ≤ 24) (x : List Int) (k : Nat) : Rok n (lrTo n x k) := by
  induction k with
  | zero => exact mapV_rok h1 h2 _ _ _
  | succ k ih => exact latL_rok ih (mapV_rok h1 h2 _ _ _)
def leastV (n : Int) (x : List Int) : List Int := lrTo n x n.toNat
def formV (n : Int) (x : List Int) : List Int := latL n (leastV n x) (leastV n (mapV n x (-1) 0))
theorem leastV_rok {n : Int} (h1 : 1 ≤ n) (h2 : n ≤ 24) (x : List Int) : Rok n (leastV n x) := lrTo_rok h1 h2 _ _
theorem formV_rok {n : Int} (h1 : 1 ≤ n) (h2 : n ≤ 24) (x : List Int) : Rok n (formV n x) := latL_rok (leastV_rok h1 h2 _) (leastV_rok h1 h2 _)
def okLeastRotation (n : Int) (x : List Int) : Bool := rok n x
def numLeastRotation (n : Int) (x : List Int) : Int := if rok n x = true then n else 0
def lstLeastRotation (n : Int) (x : List Int) : List Int := if rok n x = true then leastV n x else []
theorem leastRotation_no {n : Int} {x : List Int} (h : rok n x = false) : numLeastRotation n x = 0 ∧ lstLeastRotation n x = [] ∧ okLeastRotation n x = false := by simp [numLeastRotation, lstLeastRotation, okLeastRotation, h]
theorem leastRotation_yes {n : Int} {x : List Int} (h : rok n x = true) : numLeastRotation n x = n ∧ lstLeastRotation n x = leastV n x ∧ okLeastRotation n x = true := by simp [numLeastRotation, lstLeastRotation, okLeastRotation, h]
theorem lenLeastRotation (n : Int) (x : List Int) : (lstLeastRotation n x).length ≤ 24 := by
  cases h : rok n x with
  | false => rw [(leastRotation_no h).2.1]; simp
  | true =>
    rw [(leastRotation_yes h).2.1]
    have hR := (rok_iff n x).1 h
    exact (leastV_rok hR.lo hR.hi x).len24
def okLeastForm (n : Int) (x : List Int) : Bool := rok n x
def numLeastForm (n : Int) (x : List Int) : Int := if rok n x = true then n else 0
def lstLeastForm (n : Int) (x : List Int) : List Int := if rok n x = true then formV n x else []
theorem leastForm_no {n : Int} {x : List Int} (h : rok n x = false) : numLeastForm n x = 0 ∧ lstLeastForm n x = [] ∧ okLeastForm n x = false := by simp [numLeastForm, lstLeastForm, okLeastForm, h]
theorem leastForm_yes {n : Int} {x : List Int} (h : rok n x = true) : numLeastForm n x = n ∧ lstLeastForm n x = formV n x ∧ okLeastForm n x = true := by simp [numLeastForm, lstLeastForm, okLeastForm, h]
theorem lenLeastForm (n : Int) (x : List Int) : (lstLeastForm n x).length ≤ 24 := by
  cases h : rok n x with
  | false => rw [(leastForm_no h).2.1]; simp
  | true =>
    rw [(leastForm_yes h).2.1]
    have hR := (rok_iff n x).1 h
    exact (formV_rok hR.lo hR.hi x).len24
def valIsLeastRotation (n : Int) (x : List Int) : Bool := rok n x && eqL (leastV n x) x
theorem isLeast_no {n : Int} {x : List Int} (h : rok n x = false) : valIsLeastRotation n x = false := by simp [valIsLeastRotation, h]
theorem isLeast_yes {n : Int} {x : List Int} (h : rok n x = true) : valIsLeastRotation n x = eqL (leastV n x) x := by simp [valIsLeastRotation, h]
end Go.Proofs.Ytopfenhphnmfkaa
