/-
  Plain facts: a number set into an ascending list; the greatest and the least of a list; what the functions on sizes return.
  No program in sight.
-/
import Derived.Test.YtopfenhphnmfkaaM11
import Derived.Test.YtopfenhphnmfkaaM9
set_option linter.unusedVariables false
set_option linter.unusedSimpArgs false
namespace Go.Proofs.Ytopfenhphnmfkaa

theorem mem_take_succ {xs : List Int} {k : Nat} (hk : k < xs.length) (z : Int) : z ∈ xs.take (k + 1) ↔ z ∈ xs.take k ∨ z = xs[k] := by
  rw [List.take_succ_eq_append_getElem hk, List.mem_append, List.mem_singleton]
theorem srt_take_in {xs : List Int} {k : Nat} (hk : k < xs.length) (h : xs[k] ∈ srt (xs.take k)) : srt (xs.take (k + 1)) = srt (xs.take k) :=
  sorted_ext (srt_sorted _) (srt_sorted _) fun z => by
    rw [mem_srt, mem_srt, mem_take_succ hk]
    rw [mem_srt] at h
    exact ⟨fun h' => h'.elim id (fun e => e ▸ h), .inl⟩
/-- Up to place p all are less than x, from p on all are greater. -/
theorem set_in {l : List Int} (hs : l.Pairwise (· < ·)) {p : Nat} {x : Int} (h1 : ∀ q, q < p → l.getD q 0 < x) (h2 : ∀ hp : p < l.length, x < l[p]) : (l.take p ++ [x] ++ l.drop p).Pairwise (· < ·) := by
  have ha : ∀ a ∈ l.take p, a < x := by
    intro a ha
    obtain ⟨i, hi, rfl⟩ := List.mem_iff_getElem.1 ha
    rw [List.length_take] at hi
    have := h1 i (by omega)
    rw [List.getElem_take]
    rwa [getD_get (show i < l.length by omega)] at this
  have hb : ∀ b ∈ l.drop p, x < b := by
    intro b hb
    obtain ⟨i, hi, rfl⟩ := List.mem_iff_getElem.1 hb
    rw [List.length_drop] at hi
    rw [List.getElem_drop]
    have hp : p < l.length := by omega
    have h0 := h2 hp
    by_cases e : i = 0
    · subst e; simpa using h0
    · have := (List.pairwise_iff_getElem.1 hs) p (p + i) hp (by omega) (by omega)
      omega
  rw [List.pairwise_append, List.pairwise_append]
  refine ⟨⟨hs.sublist (List.take_sublist _ _), List.pairwise_singleton _ _, fun a h a' h' => ?_⟩, hs.sublist (List.drop_sublist _ _), fun a h b h' => ?_⟩
  · rw [List.mem_singleton] at h'; subst h'; exact ha a h
  · rcases List.mem_append.1 h with h | h
    · exact Int.lt_trans (ha a h) (hb b h')
    · rw [List.mem_singleton] at h; subst h; exact hb b h'
theorem srt_take_new {xs : List Int} {k : Nat} (hk : k < xs.length) {p : Nat} (h1 : ∀ q, q < p → (srt (xs.take k)).getD q 0 < xs[k]) (h2 : ∀ hp : p < (srt (xs.take k)).length, xs[k] < (srt (xs.take k))[p]) :
    srt (xs.take (k + 1)) = (srt (xs.take k)).take p ++ [xs[k]] ++ (srt (xs.take k)).drop p :=
  sorted_ext (srt_sorted _) (set_in (srt_sorted _) h1 h2) fun z => by
    rw [mem_srt, mem_take_succ hk, ← mem_srt (xs := xs.take k)]
    have e : z ∈ srt (xs.take k) ↔ z ∈ (srt (xs.take k)).take p ∨ z ∈ (srt (xs.take k)).drop p := by
      rw [← List.mem_append, List.take_append_drop]
    rw [e, List.mem_append, List.mem_append, List.mem_singleton]
    constructor
    · rintro ((h | h) | h)
      · exact .inl (.inl h)
      · exact .inr h
      · exact .inl (.inr h)
    · rintro ((h | h) | h)
      · exact .inl (.inl h)
      · exact .inr h
      · exact .inl (.inr h)
theorem srt_len_le (xs : List Int) (k : Nat) : (srt (xs.take k)).length ≤ k := by
  have := srt_length_le (xs.take k)
  rw [List.length_take] at this
  omega
theorem srt_ne {xs : List Int} (h : xs ≠ []) : srt xs ≠ [] := by
  intro e
  cases xs with
  | nil => exact h rfl
  | cons x xs => have : x ∈ srt (x :: xs) := mem_srt.2 (List.mem_cons_self ..); rw [e] at this; cases this

/-! ### the greatest and the least -/
def maxTo (l : List Int) (k : Nat) : Int := (l.take k).foldl max 0
theorem maxTo_succ {l : List Int} {k : Nat} (h : k < l.length) : maxTo l (k + 1) = max (maxTo l k) l[k] := by
  unfold maxTo; rw [List.take_succ_eq_append_getElem h, List.foldl_append]; rfl
theorem maxTo_bd {l : List Int} (h : ∀ y ∈ l, 1 ≤ y ∧ y ≤ 24) (k : Nat) : 0 ≤ maxTo l k ∧ maxTo l k ≤ 24 := by
  induction k with
  | zero => simp [maxTo]
  | succ k ih =>
    by_cases hk : k < l.length
    · have := h _ (List.getElem_mem hk)
      rw [maxTo_succ hk]; omega
    · have e : l.take (k + 1) = l.take k := by rw [List.take_of_length_le (by omega), List.take_of_length_le (by omega)]
      unfold maxTo at ih ⊢; rw [e]; exact ih
theorem maxTo_ge (l : List Int) (k : Nat) : ∀ i, i < k → i < l.length → l.getD i 0 ≤ maxTo l k := by
  induction k with
  | zero => intro i hi; omega
  | succ k ih =>
    intro i hi hl
    by_cases hk : k < l.length
    · rw [maxTo_succ hk]
      by_cases e : i = k
      · subst e; rw [getD_get hl]; omega
      · have := ih i (by omega) hl; omega
    · have e : l.take (k + 1) = l.take k := by rw [List.take_of_length_le (by omega), List.take_of_length_le (by omega)]
      have := ih i (by omega) hl
      unfold maxTo at this ⊢; rw [e]; exact this
theorem maxTo_mem {l : List Int} (h : ∀ y ∈ l, 1 ≤ y) (k : Nat) (h0 : 0 < k) (hl : 0 < l.length) : maxTo l k ∈ l := by
  induction k with
  | zero => omega
  | succ k ih =>
    by_cases hk : k < l.length
    · rw [maxTo_succ hk]
      have hm := List.getElem_mem hk
      by_cases hz : k = 0
      · subst hz
        have := h _ hm
        have e : max (maxTo l 0) l[0] = l[0] := by simp [maxTo]; omega
        rw [e]; exact hm
      · have := ih (by omega)
        by_cases hx : maxTo l k ≤ l[k]
        · rw [Int.max_eq_right hx]; exact hm
        · rw [Int.max_eq_left (by omega)]; exact this
    · have e : l.take (k + 1) = l.take k := by rw [List.take_of_length_le (by omega), List.take_of_length_le (by omega)]
      have := ih (by omega)
      unfold maxTo at this ⊢; rw [e]; exact this
theorem last_srt {l : List Int} (h : ∀ y ∈ l, 1 ≤ y) (hl : 0 < l.length) : 0 < (srt l).length ∧ (srt l).getD ((srt l).length - 1) 0 = maxTo l l.length := by
  have hp : 0 < (srt l).length := List.length_pos_iff.2 (srt_ne (List.length_pos_iff.1 hl))
  refine ⟨hp, ?_⟩
  have hlast : (srt l).length - 1 < (srt l).length := by omega
  rw [getD_get hlast]
  have h1 : (srt l)[(srt l).length - 1] ∈ l := mem_srt.1 (List.getElem_mem hlast)
  have h2 : maxTo l l.length ∈ srt l := mem_srt.2 (maxTo_mem h _ hl hl)
  obtain ⟨i, hi, he⟩ := List.mem_iff_getElem.1 h1
  have h3 := maxTo_ge l l.length i hi hi
  rw [getD_get hi, he] at h3
  obtain ⟨j, hj, he'⟩ := List.mem_iff_getElem.1 h2
  by_cases e : j = (srt l).length - 1
  · subst e; exact he'
  · have := (List.pairwise_iff_getElem.1 (srt_sorted l)) j _ hj hlast (by omega)
    omega

def minTo (l : List Int) : Nat → Int
  | 0 => 0
  | k + 1 => if k = 0 ∨ l.getD k 0 < minTo l k then l.getD k 0 else minTo l k
theorem minTo_bd {l : List Int} (h : ∀ y ∈ l, 1 ≤ y ∧ y ≤ 24) (k : Nat) (hk : k ≤ l.length) : 0 ≤ minTo l k ∧ minTo l k ≤ 24 := by
  induction k with
  | zero => simp [minTo]
  | succ k ih =>
    have := h _ (getD_mem (xs := l) (k := k) (by omega))
    have := ih (by omega)
    unfold minTo
    split <;> omega
theorem minTo_le (l : List Int) (k : Nat) : ∀ i, i < k → minTo l k ≤ l.getD i 0 := by
  induction k with
  | zero => intro i hi; omega
  | succ k ih =>
    intro i hi
    unfold minTo
    split
    · rename_i h
      by_cases e : i = k
      · subst e; exact Int.le_refl _
      · have := ih i (by omega); omega
    · rename_i h
      by_cases e : i = k
      · subst e; omega
      · exact ih i (by omega)
theorem minTo_mem {l : List Int} (k : Nat) (h0 : 0 < k) (hk : k ≤ l.length) : minTo l k ∈ l := by
  induction k with
  | zero => omega
  | succ k ih =>
    unfold minTo
    split
    · exact getD_mem (by omega)
    · rename_i h
      exact ih (by omega) (by omega)
theorem first_srt {l : List Int} (hl : 0 < l.length) : 0 < (srt l).length ∧ (srt l).getD 0 0 = minTo l l.length := by
  have hp : 0 < (srt l).length := List.length_pos_iff.2 (srt_ne (List.length_pos_iff.1 hl))
  refine ⟨hp, ?_⟩
  rw [getD_get hp]
  have h1 : (srt l)[0] ∈ l := mem_srt.1 (List.getElem_mem hp)
  have h2 : minTo l l.length ∈ srt l := mem_srt.2 (minTo_mem _ hl (Nat.le_refl _))
  obtain ⟨i, hi, he⟩ := List.mem_iff_getElem.1 h1
  have h3 := minTo_le l l.length i hi
  rw [getD_get hi, he] at h3
  obtain ⟨j, hj, he'⟩ := List.mem_iff_getElem.1 h2
  by_cases e : j = 0
  · subst e; exact he'
  · have := (List.pairwise_iff_getElem.1 (srt_sorted l)) 0 j hp hj (by omega)
    omega

/-! ### what the functions return -/
def lstStepSizes (n : Int) (x : List Int) : List Int := srt (lstStepsOf n x)
theorem lenStepSizes (n : Int) (x : List Int) : (lstStepSizes n x).length ≤ 24 := Nat.le_trans (srt_length_le _) (lenStepsOf n x)
theorem lstStepSizes_bd {n : Int} {x : List Int} : ∀ y ∈ lstStepSizes n x, 1 ≤ y ∧ y ≤ 24 := fun y hy => lstStepsOf_bd y (mem_srt.1 hy)
def valLongestStep (n : Int) (x : List Int) : Int := maxTo (lstStepsOf n x) (lstStepsOf n x).length
def valShortestStep (n : Int) (x : List Int) : Int := minTo (lstStepsOf n x) (lstStepsOf n x).length
theorem longest_nil {n : Int} {x : List Int} (h : lstStepsOf n x = []) : valLongestStep n x = 0 ∧ lstStepSizes n x = [] := by simp [valLongestStep, lstStepSizes, h, maxTo, srt_nil]
theorem shortest_nil {n : Int} {x : List Int} (h : lstStepsOf n x = []) : valShortestStep n x = 0 ∧ lstStepSizes n x = [] := by simp [valShortestStep, lstStepSizes, h, minTo, srt_nil]
def spTo (l : List Int) (k : Int) (i : Nat) : List Int := (List.range i).map fun j => spanTo l j k.toNat
theorem spTo_succ (l : List Int) (k : Int) (i : Nat) : spTo l k (i + 1) = spTo l k i ++ [spanTo l i k.toNat] := by simp [spTo, List.range_succ]
theorem spTo_len (l : List Int) (k : Int) (i : Nat) : (spTo l k i).length = i := by simp [spTo]
def okSpans (l : List Int) (k : Int) : Bool := !decide (l = []) && (decide (0 ≤ k) && decide (k ≤ (l.length : Int)))
def lstSpanSizes (n : Int) (x : List Int) (k : Int) : List Int := if okSpans (lstStepsOf n x) k = true then srt (spTo (lstStepsOf n x) k (lstStepsOf n x).length) else []
theorem spanSizes_no {n : Int} {x : List Int} {k : Int} (h : okSpans (lstStepsOf n x) k = false) : lstSpanSizes n x k = [] := by simp [lstSpanSizes, h]
theorem spanSizes_yes {n : Int} {x : List Int} {k : Int} (h : okSpans (lstStepsOf n x) k = true) : lstSpanSizes n x k = srt (spTo (lstStepsOf n x) k (lstStepsOf n x).length) := by simp [lstSpanSizes, h]
theorem lenSpanSizes (n : Int) (x : List Int) (k : Int) : (lstSpanSizes n x k).length ≤ 24 := by
  cases h : okSpans (lstStepsOf n x) k with
  | false => rw [spanSizes_no h]; simp
  | true =>
    rw [spanSizes_yes h]
    have h1 := srt_length_le (spTo (lstStepsOf n x) k (lstStepsOf n x).length)
    rw [spTo_len] at h1
    have h2 := lenStepsOf n x
    omega
end Go.Proofs.Ytopfenhphnmfkaa
