/-
  Plain facts: a text split at one byte, in the library's way and in the reference's.
  No program in sight.
-/
import Derived.Test.YtcgpmdfcdngnlaaDoorZ9
import Derived.Lib.SplitLaws
set_option linter.unusedVariables false
set_option linter.unusedSimpArgs false
namespace Go.Proofs.YtcgpmdfcdngnlaaDoor
open Go.RowKit

def sp (c : UInt8) : List UInt8 → List (List UInt8)
  | [] => [[]]
  | x :: r => if x = c then [] :: sp c r else match sp c r with
    | [] => [[x]]
    | h :: t => (x :: h) :: t
theorem sp_ne (c : UInt8) (l : List UInt8) : sp c l ≠ [] := by
  cases l with
  | nil => simp [sp]
  | cons x r =>
    rw [sp]
    split
    · simp
    · split <;> simp
theorem sp_none {c : UInt8} : ∀ {l : List UInt8}, c ∉ l → sp c l = [l]
  | [], _ => rfl
  | x :: r, h => by
    have h1 : ¬ x = c := fun e => h (by simp [e])
    rw [sp, if_neg h1, sp_none (fun q => h (List.mem_cons_of_mem _ q))]
theorem sp_cut {c : UInt8} : ∀ {a : List UInt8} (r : List UInt8), c ∉ a → sp c (a ++ c :: r) = a :: sp c r
  | [], r, _ => by simp [sp]
  | x :: a, r, h => by
    have h1 : ¬ x = c := fun e => h (by simp [e])
    rw [List.cons_append, sp, if_neg h1, sp_cut r (fun q => h (List.mem_cons_of_mem _ q))]
theorem splitK_sp (c : UInt8) : ∀ l : List UInt8, Lib.splitK [c] 0 (Lib.count l [c]) l = sp c l
  | [] => by rw [Lib.count_miss (by simp [Lib.index])]; rfl
  | b :: l => by
    have ih := splitK_sp c l
    by_cases h : b = c
    · subst h
      have hix : Lib.index (b :: l) [b] = ((0 : Nat) : Int) := by rw [Lib.index]; simp [List.isPrefixOf]
      rw [Lib.count_cons_eq, Nat.add_comm, Lib.splitK, hix, sp, if_pos rfl, ← ih]
      simp
    · have hp : ([c] : List UInt8).isPrefixOf (b :: l) = false := by simp [List.isPrefixOf, Ne.symm h]
      have hix : Lib.index (b :: l) [c] = if Lib.index l [c] == -1 then -1 else Lib.index l [c] + 1 := by rw [Lib.index, hp]; simp
      rw [Lib.count_cons_ne b c l h, sp, if_neg h, ← ih]
      cases hk : Lib.count l [c] with
      | zero => rfl
      | succ k =>
        obtain ⟨i, hi⟩ := Lib.index_of_count (show 0 < Lib.count l [c] by omega)
        have e1 : (Lib.index l [c] == -1) = false := by rw [hi]; simp
        rw [hi] at hix
        have e2 : ((i : Int) == -1) = false := by simp
        rw [e2] at hix
        simp only [Bool.false_eq_true, if_false] at hix
        have e3 : ((i : Int) + 1 == -1) = false := by rw [beq_eq_false_iff_ne]; omega
        rw [Lib.splitK, hix, e3, Lib.splitK, hi, e2]
        simp only [Bool.false_eq_true, if_false, List.length_singleton]
        rw [show ((i : Int) + 1).toNat = i + 1 by omega, show ((i : Int)).toNat = i by omega]
        simp
theorem isIn_one (c x : UInt8) : isIn ⟨#[c]⟩ x = decide (x = c) := by unfold isIn; simp
theorem spTo_sp (s : ByteArray) (c : UInt8) : ∀ k, k ≤ s.size → sp c s.data.toList = (spTo s ⟨#[c]⟩ k).1.map (·.data.toList) ++ sp c (s.data.toList.drop (spTo s ⟨#[c]⟩ k).2) ∧ ∀ j, (spTo s ⟨#[c]⟩ k).2 ≤ j → j < k → spAt s j ≠ c
  | 0, _ => ⟨by simp [spTo], fun j h1 h2 => by omega⟩
  | k + 1, hk => by
    obtain ⟨h1, h2⟩ := spTo_sp s c k (by omega)
    have hf := spTo_from s ⟨#[c]⟩ k
    have hlen : k < s.data.toList.length := by simp; omega
    by_cases hc : spAt s k = c
    · have hin : isIn ⟨#[c]⟩ (spAt s k) = true := by rw [isIn_one]; simpa using hc
      rw [spTo_yes hin]
      refine ⟨?_, fun j q1 q2 => by simp only at q1; omega⟩
      simp only
      rw [h1]
      generalize (spTo s ⟨#[c]⟩ k).2 = f at h2 hf ⊢
      have e : s.data.toList.drop f = ((s.data.toList.take k).drop f) ++ c :: s.data.toList.drop (k + 1) := by
        have e1 : s.data.toList = s.data.toList.take k ++ c :: s.data.toList.drop (k + 1) := by
          have e0 : c = s.data.toList[k] := by rw [← hc]; simp [spAt, List.getD_eq_getElem?_getD, List.getElem?_eq_getElem hlen]
          rw [e0, ← List.drop_eq_getElem_cons hlen, List.take_append_drop]
        have : (s.data.toList.take k ++ c :: s.data.toList.drop (k + 1)).drop f = ((s.data.toList.take k).drop f) ++ c :: s.data.toList.drop (k + 1) := by
          rw [List.drop_append_of_le_length (by rw [List.length_take]; omega)]
        rw [← this, ← e1]
      have hn : c ∉ (s.data.toList.take k).drop f := by
        intro hm
        obtain ⟨i, hi, hci⟩ := List.mem_iff_getElem.1 hm
        rw [List.length_drop, List.length_take] at hi
        rw [List.getElem_drop, List.getElem_take] at hci
        refine h2 (f + i) (by omega) (by omega) ?_
        unfold spAt
        rw [List.getD_eq_getElem?_getD, List.getElem?_eq_getElem (by simp; omega)]
        exact hci
      rw [e, sp_cut _ hn, List.map_append, List.append_assoc]
      congr 1
      simp only [List.map_cons, List.map_nil, List.singleton_append, List.cons.injEq, and_true]
      simp
      exact List.drop_take
    · have hin : isIn ⟨#[c]⟩ (spAt s k) = false := by rw [isIn_one]; simpa using hc
      rw [spTo_no hin]
      refine ⟨h1, fun j q1 q2 => ?_⟩
      by_cases e : j = k
      · subst e; exact hc
      · exact h2 j q1 (by omega)
theorem lstSplit_sp (s : ByteArray) (c : UInt8) : (lstSplitAny s ⟨#[c]⟩).map (·.data.toList) = sp c s.data.toList := by
  obtain ⟨h1, h2⟩ := spTo_sp s c s.size (Nat.le_refl _)
  rw [h1]
  unfold lstSplitAny
  rw [List.map_append]
  congr 1
  generalize (spTo s ⟨#[c]⟩ s.size).2 = f at h2 ⊢
  rw [sp_none]
  · simp
    exact List.take_of_length_le (by simp)
  · intro hm
    obtain ⟨i, hi, hci⟩ := List.mem_iff_getElem.1 hm
    rw [List.length_drop] at hi
    rw [List.getElem_drop] at hci
    refine h2 (f + i) (by omega) (by simp at hi; omega) ?_
    unfold spAt
    rw [List.getD_eq_getElem?_getD, List.getElem?_eq_getElem (by omega)]
    exact hci
theorem list_inj : ∀ {xs ys : List ByteArray}, xs.map (·.data.toList) = ys.map (·.data.toList) → xs = ys
  | [], [], _ => rfl
  | [], y :: ys, h => by simp at h
  | x :: xs, [], h => by simp at h
  | x :: xs, y :: ys, h => by
    simp only [List.map_cons, List.cons.injEq] at h
    rw [list_inj h.2, ByteArray.ext (Array.toList_inj.1 h.1)]
theorem split_same (s : ByteArray) (c : UInt8) : Lib.splitB ⟨#[c]⟩ 0 (Lib.countB s ⟨#[c]⟩) s = lstSplitAny s ⟨#[c]⟩ := by
  apply list_inj
  rw [lstSplit_sp, Lib.splitB_data]
  exact splitK_sp c s.data.toList
end Go.Proofs.YtcgpmdfcdngnlaaDoor
