/-
  Contracts of Join, in the program and in the reference.
  Conditions: the list lies in memory; it, its texts and the separator are no longer than two to the twentieth.
-/
import Derived.Test.YtcgpmdfcdngnlaaDoorZ3
import Derived.Test.YtcgpmdfcdngnlaaDoorSh
set_option linter.unusedVariables false
set_option linter.unusedSimpArgs false
namespace Go.Proofs.YtcgpmdfcdngnlaaDoor
open Go.RowKit Go.Shelf

def texts (xs : List ByteArray) : List (List UInt8) := xs.map (·.data.toList)
def valJoin (xs : List ByteArray) (sep : ByteArray) : ByteArray := ⟨(Lib.join (texts xs) sep.data.toList).toArray⟩
theorem join_snoc (x : List UInt8) (r : List (List UInt8)) (y sep : List UInt8) : Lib.join (x :: r ++ [y]) sep = Lib.join (x :: r) sep ++ sep ++ y := by
  rw [List.cons_append, Lib.join_cons, Lib.join_cons]
  simp [Lib.joinTail]
theorem valJoin_zero (sep : ByteArray) : valJoin [] sep = ⟨#[]⟩ := by simp [valJoin, texts, Lib.join_nil]
theorem valJoin_first {xs : List ByteArray} (sep : ByteArray) (h : 0 < xs.length) : valJoin (xs.take 1) sep = (⟨#[]⟩ : ByteArray) ++ xs[0] := by
  cases xs with
  | nil => simp at h
  | cons x r =>
    apply ByteArray.ext
    apply Array.ext'
    simp [valJoin, texts, Lib.join_one]
theorem valJoin_next {xs : List ByteArray} (sep : ByteArray) {k : Nat} (hk : k < xs.length) (h0 : 0 < k) : valJoin (xs.take (k + 1)) sep = (valJoin (xs.take k) sep ++ sep) ++ xs[k] := by
  rw [List.take_succ_eq_append_getElem hk]
  have hl : (xs.take k).length = k := by rw [List.length_take]; omega
  obtain ⟨x, r, hx⟩ : ∃ x r, texts (xs.take k) = x :: r := by
    cases hq : xs.take k with
    | nil => rw [hq] at hl; simp at hl; omega
    | cons a b => exact ⟨_, _, rfl⟩
  have e : texts (xs.take k ++ [xs[k]]) = x :: r ++ [xs[k].data.toList] := by
    rw [← hx]; unfold texts; rw [List.map_append]; rfl
  have e1 : valJoin (xs.take k ++ [xs[k]]) sep = ⟨(Lib.join (x :: r) sep.data.toList ++ sep.data.toList ++ xs[k].data.toList).toArray⟩ := by unfold valJoin; rw [e, join_snoc]
  have e2 : valJoin (xs.take k) sep = ⟨(Lib.join (x :: r) sep.data.toList).toArray⟩ := by unfold valJoin; rw [hx]
  rw [e1, e2]
  apply ByteArray.ext
  apply Array.ext'
  simp
theorem valJoin_size (xs : List ByteArray) (sep : ByteArray) (hz : ∀ x ∈ xs, x.size ≤ 1048576) (hs : sep.size ≤ 1048576) : ∀ k, k ≤ xs.length → (valJoin (xs.take k) sep).size ≤ k * 2097152
  | 0, _ => by rw [List.take_zero, valJoin_zero]; exact Nat.zero_le _
  | 1, h => by
    rw [valJoin_first sep (by omega), ByteArray.size_append]
    have := hz xs[0] (List.getElem_mem (by omega))
    have e : (⟨#[]⟩ : ByteArray).size = 0 := rfl
    omega
  | k + 2, h => by
    have ih := valJoin_size xs sep hz hs (k + 1) (by omega)
    rw [valJoin_next sep (by omega) (by omega), ByteArray.size_append, ByteArray.size_append]
    have := hz xs[k + 1] (List.getElem_mem (by omega))
    omega
theorem ret_strJ {a b : ByteArray} (h : a = b) : Ending.returned (.string a) = Ending.returned (.string b) := by rw [h]

set_option maxRecDepth 20000 in
set_option maxHeartbeats 1600000 in
theorem specJoinC (v : Value) (xs : List ByteArray) (hn : xs.length ≤ 1048576) (hz : ∀ x ∈ xs, x.size ≤ 1048576) (sep : ByteArray) (hs : sep.size ≤ 1048576) (w : World) (hv : Strs w w.heap.size v xs) :
    Calls Tryd.prog 47 #[v, .string sep] w fun e w' => e = .returned (.string (valJoin xs sep)) ∧ Below w.heap.size w w' := by
  have Hz := Lib.hid hz
  have Hb := Lib.hid (valJoin_size xs sep hz hs)
  clear hz
  rcases hv.open with ⟨rfl, a, cap, rfl⟩ | ⟨b, o, cap, rfl, hm, hpos, hB, hlt0, hc⟩
  · have Hf := Lib.hid (valJoin_zero sep)
    go_enter Tryd.func47, Tryd.ntmps47
    go_wp2
    refine wp_loop_rounds 1 ?_; rw [rounds_succ]
    go_wp2
    go_ret
    exact ⟨ret_strJ Hf.out.symm, Below.refl _ _⟩
  · go_enter Tryd.func47, Tryd.ntmps47
    go_wp2
    go_loopw [5, 10] (fun u i wr => ∃ k : Nat, k ≤ xs.length ∧ i = .int .i64 k ∧ u = .string (valJoin (xs.take k) sep) ∧ wr = w) (fun _ i _ => xs.length - (intOf i).toNat)
    case atStart => exact ⟨0, Nat.zero_le _, rfl, by rw [List.take_zero, valJoin_zero], by first | rfl | trivial⟩
    case round =>
      obtain ⟨k, hk, rfl, rfl, rfl⟩ := hrel
      by_cases hlt : k < xs.length
      · have hc1 := hc k hlt
        rw [show xs.getD k ByteArray.empty = xs[k] by simp [List.getD_eq_getElem?_getD, List.getElem?_eq_getElem hlt]] at hc1
        have hxz := Hz.out xs[k] (List.getElem_mem hlt)
        have hsz := Hb.out k hk
        rcases Nat.eq_zero_or_pos k with h0 | h0
        · have hn1 : valJoin (xs.take (k + 1)) sep = valJoin (xs.take k) sep ++ xs[k] := by
            subst h0
            have hj : valJoin (xs.take 0) sep = ⟨#[]⟩ := by rw [List.take_zero, valJoin_zero]
            rw [hj]; exact valJoin_first sep hlt
          have Hn := Lib.hid hn1
          have hk0 : ¬ (0 : Int) < (k : Int) := by omega
          clear hn1 h0
          generalize hJ : valJoin (xs.take k) sep = J at *
          clear hJ
          go_wp2
          go_roundw
          case rel => exact ⟨k + 1, by omega, by go_num, by rw [Hn.out], by first | rfl | trivial⟩
          case measure => simp [intOf]; omega
        · have Hn := Lib.hid (valJoin_next sep hlt h0)
          have hk0 : (0 : Int) < (k : Int) := by omega
          generalize hJ : valJoin (xs.take k) sep = J at *
          have hs1 : (J ++ sep).size = J.size + sep.size := ByteArray.size_append
          clear hJ
          go_wp2
          go_roundw
          case rel => exact ⟨k + 1, by omega, by go_num, by rw [Hn.out], by first | rfl | trivial⟩
          case measure => simp [intOf]; omega
      · have e : k = xs.length := by omega
        have hj : valJoin (xs.take k) sep = valJoin xs sep := by rw [e, List.take_length]
        rw [hj]
        clear hj e
        go_wp2
        go_ret
        exact ⟨rfl, Below.refl _ _⟩

set_option maxRecDepth 20000 in
set_option maxHeartbeats 1600000 in
theorem implJoinC (v : Value) (xs : List ByteArray) (hn : xs.length ≤ 1048576) (hz : ∀ x ∈ xs, x.size ≤ 1048576) (sep : ByteArray) (hs : sep.size ≤ 1048576) (w : World) (hv : Strs w w.heap.size v xs) :
    Calls Tryd.prog 29 #[v, .string sep] w fun e w' => e = .returned (.string (valJoin xs sep)) ∧ Below w.heap.size w w' := by
  have Hl : Hid ((Lib.join (texts xs) sep.data.toList).length ≤ 140737488355328) := by
    have h := valJoin_size xs sep hz hs xs.length (Nat.le_refl _)
    rw [List.take_length] at h
    have e : (valJoin xs sep).size = (Lib.join (texts xs) sep.data.toList).length := by simp [valJoin, ByteArray.size]
    unfold Hid
    omega
  rcases hv.open with ⟨rfl, a, cap, rfl⟩ | ⟨b, o, cap, rfl, hm, hpos, hB, hlt0, hc⟩
  · have Hf := Lib.hid (valJoin_zero sep)
    have Hr := Lib.hid (Any.strings_Join_none Tryd.lays156 Tryd.Builder_Extra_156 a cap sep w)
    go_enter Tryd.func29, Tryd.ntmps29
    go_wp2_with fail
    refine Calls.mono Hr.out ?_
    rintro e w1 ⟨rfl, rfl⟩
    go_wp2
    go_ret
    exact ⟨ret_strJ Hf.out.symm, Below.refl _ _⟩
  · obtain ⟨a', cap', hv', hcap, -⟩ := hv
    cases hv'
    have Hr := Lib.hid (Tryd.strings_Join b o cap xs sep w (fun j x hj => by
      obtain ⟨hj1, hj2⟩ := List.getElem?_eq_some_iff.1 hj
      rw [hc j hj1]
      simp [List.getD_eq_getElem?_getD, hj]) hlt0 (by omega) hcap Hl.out)
    go_enter Tryd.func29, Tryd.ntmps29
    go_wp2_with fail
    refine Calls.mono Hr.out ?_
    rintro e w1 ⟨rfl, hb⟩
    have Hb := Lib.hid hb
    clear hb
    go_wp2
    go_ret
    exact ⟨rfl, Hb.out⟩
end Go.Proofs.YtcgpmdfcdngnlaaDoor
