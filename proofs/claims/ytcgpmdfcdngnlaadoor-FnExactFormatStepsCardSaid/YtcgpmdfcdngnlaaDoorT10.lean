/-
  Plain facts: commas of a joined text turned into plus signs.
  No program in sight.
-/
import Derived.Test.YtcgpmdfcdngnlaaDoorT2
import Derived.Test.YtcgpmdfcdngnlaaDoorZ4
import Derived.Lib.Replace
import Derived.Lib.SplitLaws
set_option linter.unusedVariables false
set_option linter.unusedSimpArgs false
namespace Go.Proofs.YtcgpmdfcdngnlaaDoor
open Go.RowKit

def swp (c : UInt8) : UInt8 := if c = 44 then 43 else c
theorem replaceK_swp : ∀ l : List UInt8, Lib.replaceK [44] [43] (Lib.count l [44]) l = l.map swp
  | [] => by rw [Lib.count_miss (by simp [Lib.index])]; rfl
  | b :: l => by
    have ih := replaceK_swp l
    by_cases h : b = 44
    · subst h
      have hix : Lib.index ((44 : UInt8) :: l) [44] = ((0 : Nat) : Int) := by rw [Lib.index]; simp [List.isPrefixOf]
      rw [Lib.count_cons_eq, Nat.add_comm, Lib.replaceK_hit _ _ _ _ 0 hix, List.map_cons, ← ih]
      simp [swp]
    · have hp : ([44] : List UInt8).isPrefixOf (b :: l) = false := by simp [List.isPrefixOf, Ne.symm h]
      have hix : Lib.index (b :: l) [44] = if Lib.index l [44] == -1 then -1 else Lib.index l [44] + 1 := by rw [Lib.index, hp]; simp
      rw [Lib.count_cons_ne b 44 l h, List.map_cons, ← ih, show swp b = b from if_neg h]
      cases hk : Lib.count l [44] with
      | zero => rfl
      | succ k =>
        obtain ⟨i, hi⟩ := Lib.index_of_count (show 0 < Lib.count l [44] by omega)
        have e2 : ((i : Int) == -1) = false := by rw [beq_eq_false_iff_ne]; omega
        rw [hi, e2] at hix
        simp only [Bool.false_eq_true, if_false] at hix
        rw [Lib.replaceK_hit _ _ _ _ i hi, Lib.replaceK_hit _ _ _ _ (i + 1) (by rw [hix]; omega)]
        simp
theorem replaceAll_swp (l : List UInt8) : Lib.replaceAll l [44] [43] = l.map swp := by
  unfold Lib.replaceAll Lib.replace Lib.replaceNum
  rw [if_neg (by decide), if_pos (Or.inl (by decide))]
  exact replaceK_swp l
theorem join_map (f : UInt8 → UInt8) (xs : List (List UInt8)) (sep : List UInt8) : (Lib.join xs sep).map f = Lib.join (xs.map (List.map f)) (sep.map f) := by
  cases xs with
  | nil => rfl
  | cons x r =>
    rw [Lib.join_cons, List.map_cons, Lib.join_cons, List.map_append]
    congr 1
    unfold Lib.joinTail
    rw [List.map_flatten, List.map_map, List.map_map]
    congr 1
    apply List.map_congr_left
    intro y _
    simp
theorem swp_digits (u : Nat) : (Lib.decDigits u).map swp = Lib.decDigits u := by
  have : (Lib.decDigits u).map swp = (Lib.decDigits u).map id := by
    apply List.map_congr_left
    intro c hc
    have := isDig_true (dd_digits u c hc)
    unfold swp
    rw [if_neg]
    · rfl
    · intro e
      subst e
      have e1 : ((44 : UInt8).toNat : Int) = 44 := rfl
      omega
  rw [this, List.map_id]
def wordsOf (tl : List Int) : List ByteArray := tl.map itB
theorem steps_text {tl : List Int} (h : ∀ y ∈ tl, 0 ≤ y) : (⟨(Lib.replaceAll (valJoin (wordsOf tl) ⟨#[44]⟩).data.toList [44] [43]).toArray⟩ : ByteArray) = valJoin (wordsOf tl) ⟨#[43]⟩ := by
  have e : (texts (wordsOf tl)).map (List.map swp) = texts (wordsOf tl) := by
    unfold texts wordsOf
    rw [List.map_map, List.map_map, List.map_map]
    apply List.map_congr_left
    intro y hy
    have hy0 := h y hy
    obtain ⟨u, rfl⟩ := Int.eq_ofNat_of_zero_le hy0
    simp only [Function.comp]
    rw [itB_pos, ddB_list, swp_digits]
  rw [replaceAll_swp]
  unfold valJoin
  simp only [List.toList_toArray]
  rw [join_map, e]
  rfl
theorem words_size {tl : List Int} (h : ∀ y ∈ tl, 1 ≤ y ∧ y ≤ 24) : ∀ x ∈ wordsOf tl, x.size ≤ 1048576 := by
  intro x hx
  obtain ⟨y, hy, rfl⟩ := List.mem_map.1 hx
  have := h y hy
  have := itB_size y ⟨by omega, by omega⟩
  omega
theorem words_len (tl : List Int) : (wordsOf tl).length = tl.length := by simp [wordsOf]
theorem words_take {tl : List Int} {k : Nat} (hk : k < tl.length) : wordsOf (tl.take (k + 1)) = wordsOf (tl.take k) ++ [itB tl[k]] := by
  unfold wordsOf
  rw [List.take_succ_eq_append_getElem hk, List.map_append]; rfl
end Go.Proofs.YtcgpmdfcdngnlaaDoor
