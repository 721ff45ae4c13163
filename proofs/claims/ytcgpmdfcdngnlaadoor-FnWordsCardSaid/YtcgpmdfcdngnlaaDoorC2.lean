/-
  Contracts of the laws' helpers: equality of slices and rhythms, marking, the look at the marks.
  Conditions: lengths below two to the fortieth.
-/
import Derived.Test.YtcgpmdfcdngnlaaDoorC1
import Derived.Test.YtcgpmdfcdngnlaaDoorM2
set_option linter.unusedVariables false
set_option linter.unusedSimpArgs false
namespace Go.Proofs.YtcgpmdfcdngnlaaDoor
open Go.RowKit

set_option maxHeartbeats 400000 in
theorem lawEqIntS (u v : Value) (xs ys : List Int) (w : World) (B C : Nat) (hu : Ints w B u xs) (hv : Ints w C v ys) :
    Calls Tryd.prog 40 #[u, v] w fun e w' => e = .returned (.bool (eqL xs ys)) ∧ ∃ n, w' = w.drewN n := by
  have hlu := hu.cap
  have hlv := hv.cap
  unfold maxLen at hlu hlv
  by_cases hl : xs.length = ys.length
  · rcases hu.open with ⟨rfl, a, cap, rfl⟩ | ⟨b, o, cap, rfl, hm, h0, hB, hb, hc⟩
    · have hy : ys = [] := List.eq_nil_of_length_eq_zero hl.symm
      subst hy
      obtain ⟨a', cap', rfl, -⟩ := hv
      clear hu hl hlu hlv
      go_enter Tryd.func40, Tryd.ntmps40
      go_wp2
      refine wp_loop_rounds 1 ?_; rw [rounds_succ]
      go_wp2
      go_ret
      exact ⟨rfl, 0, rfl⟩
    · rcases hv.open with ⟨rfl, a', cap', rfl⟩ | ⟨b', o', cap', rfl, hm', h0', hB', hb', hc'⟩
      · have : ([] : List Int).length = 0 := rfl
        omega
      · have hne : (((xs.length : Nat) : Int) != ((ys.length : Nat) : Int)) = false := by simp [hl]
        have Hl := Lib.hid hl
        have hle : xs.length ≤ ys.length := by omega
        clear hu hv hl hB hB' h0 h0' hm hm'
        go_enter Tryd.func40, Tryd.ntmps40
        go_wp2
        go_loopw [5] (fun i wr => ∃ k : Nat, k ≤ xs.length ∧ i = .int .i64 k ∧ EqTo xs ys k ∧ ∃ m, wr = w.drewN m) (fun i _ => xs.length - (intOf i).toNat)
        case atStart => exact ⟨0, Nat.zero_le _, rfl, EqTo.zero _ _, 0, rfl⟩
        case round =>
          obtain ⟨k, hk, rfl, heq, m, rfl⟩ := hrel
          by_cases hlt : k < xs.length
          · have hlt' : k < ys.length := by omega
            have hlt1 : (k : Int) < (xs.length : Int) := by omega
            have hlt2 : (k : Int) < (ys.length : Int) := by omega
            have hc1 := hc k hlt
            have hc1' := hc' k hlt'
            have e1 : xs.getD k 0 = xs[k] := by simp [List.getD_eq_getElem?_getD, List.getElem?_eq_getElem hlt]
            have e2 : ys.getD k 0 = ys[k] := by simp [List.getD_eq_getElem?_getD, List.getElem?_eq_getElem hlt']
            by_cases hx : xs.getD k 0 = ys.getD k 0
            · have Hn := heq.succ hx
              have hb1 : (xs[k] != ys[k]) = false := by rw [← e1, ← e2, hx]; simp
              clear hx heq e1 e2
              go_wp2
              go_quiet (fail)
              go_wp2
              go_roundw
              case rel => exact ⟨k + 1, by omega, by go_num, Hn, _, rfl⟩
              case measure => simp [intOf]; omega
            · have Hf := Lib.hid (eqL_bad hx)
              have hb1 : (xs[k] != ys[k]) = true := by rw [← e1, ← e2]; simpa using hx
              clear hx heq e1 e2
              go_wp2
              go_quiet (fail)
              go_wp2
              go_ret
              exact ⟨ret_bool Hf.out.symm, _, by rw [World.drewN_drewN]⟩
          · have Hf := Lib.hid (eqL_end Hl.out (by omega) heq)
            clear heq
            go_wp2
            go_ret
            exact ⟨ret_bool Hf.out.symm, _, rfl⟩
  · have Hf := Lib.hid (eqL_len hl)
    have hne : (((xs.length : Nat) : Int) != ((ys.length : Nat) : Int)) = true := by simp; omega
    obtain ⟨a, cap, rfl, -⟩ := hu
    obtain ⟨a', cap', rfl, -⟩ := hv
    clear hl
    go_enter Tryd.func40, Tryd.ntmps40
    go_wp2
    go_ret
    exact ⟨ret_bool Hf.out.symm, 0, rfl⟩

theorem lawEqRhythm (n m : Int) (u v : Value) (xs ys : List Int) (w : World) (hu : Ints w w.heap.size u xs) (hv : Ints w w.heap.size v ys) :
    Calls Tryd.prog 18 #[.agg #[.int .i64 n, u], .agg #[.int .i64 m, v]] w fun e w' => e = .returned (.bool (eqR n m xs ys)) ∧ Below w.heap.size w w' := by
  have hu' := hu
  have hv' := hv
  obtain ⟨a, cap, rfl, -⟩ := hu
  obtain ⟨a', cap', rfl, -⟩ := hv
  by_cases hn : n = m
  · subst hn
    have hne : (n != n) = false := by simp
    cases hq : eqL xs ys with
    | true =>
      have Hq := Lib.hid hq
      have Hf := Lib.hid (show eqR n n xs ys = true by simp [eqR, hq])
      clear hq
      go_enter Tryd.func18, Tryd.ntmps18
      go_wp2_with fail
      refine (lawEqIntS _ _ xs ys _ _ _ ((hu'.alloc (Nat.le_refl _) _).alloc (by simp) _) ((hv'.alloc (Nat.le_refl _) _).alloc (by simp) _)).mono ?_
      rintro e w' ⟨rfl, q, rfl⟩
      rw [Hq.out]
      go_wp2
      go_ret
      exact ⟨ret_bool Hf.out.symm, bel_drewN (((Below.refl _ _).alloc (Nat.le_refl _) _).alloc (by simp) _) _⟩
    | false =>
      have Hq := Lib.hid hq
      have Hf := Lib.hid (show eqR n n xs ys = false by simp [eqR, hq])
      clear hq
      go_enter Tryd.func18, Tryd.ntmps18
      go_wp2_with fail
      refine (lawEqIntS _ _ xs ys _ _ _ ((hu'.alloc (Nat.le_refl _) _).alloc (by simp) _) ((hv'.alloc (Nat.le_refl _) _).alloc (by simp) _)).mono ?_
      rintro e w' ⟨rfl, q, rfl⟩
      rw [Hq.out]
      go_wp2
      go_ret
      exact ⟨ret_bool Hf.out.symm, bel_drewN (((Below.refl _ _).alloc (Nat.le_refl _) _).alloc (by simp) _) _⟩
  · have hne : (n != m) = true := by simpa using hn
    have Hf := Lib.hid (show eqR n m xs ys = false by simp [eqR, hn])
    clear hn
    go_enter Tryd.func18, Tryd.ntmps18
    go_wp2
    go_ret
    exact ⟨ret_bool Hf.out.symm, ((Below.refl _ _).alloc (Nat.le_refl _) _).alloc (by simp) _⟩

/-! ### marks -/
def marks (k : Int) (n : Nat) : List Int := (List.range n).map fun (i : Nat) => k + (i : Int)
theorem marks_len (k : Int) (n : Nat) : (marks k n).length = n := by simp [marks]
theorem marks_get (k : Int) {n i : Nat} (h : i < n) : (marks k n).getD i 0 = k + (i : Int) := by
  simp [marks, List.getD_eq_getElem?_getD, h]
/-- The first i elements are marked. -/
def marked (xs : List Int) (k : Int) (i : Nat) : List Int := marks k i ++ xs.drop i
theorem marked_zero (xs : List Int) (k : Int) : marked xs k 0 = xs := by simp [marked, marks]
theorem marked_len (xs : List Int) (k : Int) {i : Nat} (h : i ≤ xs.length) : (marked xs k i).length = xs.length := by simp [marked, marks_len]; omega
theorem marked_all (xs : List Int) (k : Int) : marked xs k xs.length = marks k xs.length := by simp [marked]
theorem marked_succ (xs : List Int) (k : Int) {i : Nat} (h : i < xs.length) : (marked xs k i).set i (k + (i : Int)) = marked xs k (i + 1) := by
  unfold marked
  apply List.ext_getElem?
  intro j
  rw [List.getElem?_set]
  by_cases hij : i = j
  · subst hij
    rw [if_pos rfl, if_pos (by simp [marks_len]; omega), List.getElem?_append_left (by simp [marks_len])]
    simp [marks]
  · rw [if_neg hij]
    by_cases hlt : j < i
    · rw [List.getElem?_append_left (by simp [marks_len]; omega), List.getElem?_append_left (by simp [marks_len]; omega)]
      simp [marks, hlt, show j < i + 1 by omega]
    · rw [List.getElem?_append_right (by simp [marks_len]; omega), List.getElem?_append_right (by simp [marks_len]; omega), marks_len, marks_len]
      simp only [List.getElem?_drop]
      rw [show i + (j - i) = i + 1 + (j - (i + 1)) by omega]

theorem lawMarkIntS (v : Value) (xs : List Int) (k : Int) (w : World) (B : Nat) (hl : xs.length ≤ 1099511627776) (h0 : 0 ≤ k) (h1 : k ≤ 1099511627776) (hv : Own w B v xs) :
    Calls Tryd.prog 41 #[v, .int .i64 k] w fun e w' => e = .returned (.int .i64 (k + (xs.length : Int))) ∧ Own w' B v (marks k xs.length) ∧ Below B w w' ∧ w'.heap.size = w.heap.size := by
  rcases hv.open with ⟨rfl, rfl⟩ | ⟨g, cap, rfl, hB, hg, hm⟩
  · go_enter Tryd.func41, Tryd.ntmps41
    go_wp2
    refine wp_loop_rounds 1 ?_; rw [rounds_succ]
    go_wp2
    go_ret
    exact ⟨ret_int (by simp), by simpa [marks] using hv, Below.refl _ _, rfl⟩
  · go_enter Tryd.func41, Tryd.ntmps41
    go_wp2
    go_loopw [1, 5] (fun q i wr => ∃ j : Nat, j ≤ xs.length ∧ i = .int .i64 j ∧ q = .int .i64 (k + (j : Int)) ∧ Own wr B (.slice (some ⟨g, 0, none⟩) xs.length cap) (marked xs k j) ∧ Below B w wr ∧ wr.heap.size = w.heap.size) (fun _ i _ => xs.length - (intOf i).toNat)
    case atStart => exact ⟨0, Nat.zero_le _, rfl, by simp, by rw [marked_zero]; exact hv, Below.refl _ _, rfl⟩
    case round =>
      obtain ⟨j, hj, rfl, rfl, hown, hbel, hsz⟩ := hrel
      by_cases hlt : j < xs.length
      · have hcs := hown.cell (k := j) (by rw [marked_len xs k hj]; exact hlt)
        have hcf := hown.free j
        have HR : Hid (Own (wr.setCell ⟨g, j, none⟩ (.int .i64 (k + (j : Int)))) B (.slice (some ⟨g, 0, none⟩) xs.length cap) (marked xs k (j + 1))) := by
          have := hown.store _ j (k + (j : Int))
          rw [marked_succ xs k hlt] at this
          exact this
        have HB : Hid (Below B w (wr.setCell ⟨g, j, none⟩ (.int .i64 (k + (j : Int))))) := hbel.setCell hB _
        have HZ : Hid ((wr.setCell ⟨g, j, none⟩ (.int .i64 (k + (j : Int)))).heap.size = w.heap.size) := by
          rw [← hsz]; simp [Hid, World.setCell]
        clear hown hbel hsz hv
        go_wp2
        go_roundw
        case rel => exact ⟨j + 1, by omega, by go_num, by go_num, HR.out, HB.out, HZ.out⟩
        case measure => simp [intOf]; omega
      · have e : j = xs.length := by omega
        subst e
        rw [marked_all] at hown
        have HR := Lib.hid hown
        have HB := Lib.hid hbel
        have HZ := Lib.hid hsz
        clear hown hbel hsz hv
        go_wp2
        go_ret
        exact ⟨rfl, HR.out, HB.out, HZ.out⟩
theorem lawMarkRhythm (n : Int) (v : Value) (xs : List Int) (k : Int) (w : World) (B : Nat) (hl : xs.length ≤ 1099511627776) (h0 : 0 ≤ k) (h1 : k ≤ 1099511627776) (hv : Own w B v xs) (hB : B ≤ w.heap.size) :
    Calls Tryd.prog 19 #[.agg #[.int .i64 n, v], .int .i64 k] w fun e w' => e = .returned (.int .i64 (k + (xs.length : Int))) ∧ Own w' B v (marks k xs.length) ∧ Below B w w' := by
  obtain ⟨a, cap, rfl⟩ := hv.shape
  go_enter Tryd.func19, Tryd.ntmps19
  go_wp2_with fail
  refine (lawMarkIntS _ xs _ _ B hl h0 h1 (hv.alloc _)).mono ?_
  rintro e w1 ⟨rfl, hown, hbel, hsz⟩
  have HR := Lib.hid hown
  have HB := Lib.hid hbel
  clear hown hbel hv hsz
  go_wp2
  go_ret
  exact ⟨rfl, HR.out, ((Below.refl _ _).alloc hB _).trans HB.out⟩

/-- What the look at the marks finds. -/
def heldOf (xs : List Int) (k : Int) : Int := if xs = marks k xs.length then k + (xs.length : Int) else -1
def HeldTo (xs : List Int) (k : Int) (i : Nat) : Prop := ∀ j, j < i → xs.getD j 0 = k + (j : Int)
theorem HeldTo.zero (xs : List Int) (k : Int) : HeldTo xs k 0 := fun _ h => absurd h (Nat.not_lt_zero _)
theorem HeldTo.succ {xs : List Int} {k : Int} {i : Nat} (h : HeldTo xs k i) (hk : xs.getD i 0 = k + (i : Int)) : HeldTo xs k (i + 1) := by
  intro j hj
  by_cases e : j = i
  · subst e; exact hk
  · exact h j (by omega)
theorem heldOf_bad {xs : List Int} {k : Int} {i : Nat} (hi : i < xs.length) (h : xs.getD i 0 ≠ k + (i : Int)) : heldOf xs k = -1 := by
  unfold heldOf
  rw [if_neg]
  intro e
  rw [e, marks_get k hi] at h
  exact h rfl
theorem heldOf_end {xs : List Int} {k : Int} {i : Nat} (hi : xs.length ≤ i) (h : HeldTo xs k i) : heldOf xs k = k + (xs.length : Int) := by
  unfold heldOf
  rw [if_pos]
  apply List.ext_getElem (by rw [marks_len])
  intro j h1 h2
  have := h j (by omega)
  rw [← marks_get k (n := xs.length) (by omega)] at this
  simpa [List.getD_eq_getElem?_getD, List.getElem?_eq_getElem h1, List.getElem?_eq_getElem h2] using this
theorem heldOf_marks (k : Int) (n : Nat) : heldOf (marks k n) k = k + (n : Int) := by
  unfold heldOf
  rw [if_pos (by rw [marks_len]), marks_len]

theorem lawHeldIntS (v : Value) (xs : List Int) (k : Int) (w : World) (B : Nat) (hl : xs.length ≤ 1099511627776) (h0 : 0 ≤ k) (h1 : k ≤ 1099511627776) (hv : Ints w B v xs) :
    Calls Tryd.prog 42 #[v, .int .i64 k] w fun e w' => e = .returned (.int .i64 (heldOf xs k)) ∧ w = w' := by
  rcases hv.open with ⟨rfl, a, cap, rfl⟩ | ⟨b, o, cap, rfl, hm, hpos, hB, hb, hc⟩
  · have Hf := Lib.hid (heldOf_end (Nat.le_refl _) (HeldTo.zero [] k))
    clear hv
    go_enter Tryd.func42, Tryd.ntmps42
    go_wp2
    refine wp_loop_rounds 1 ?_; rw [rounds_succ]
    go_wp2
    go_ret
    exact ⟨ret_int (by rw [Hf.out]; simp), rfl⟩
  · clear hv
    go_enter Tryd.func42, Tryd.ntmps42
    go_wp2
    go_loop [1, 5] (fun q i => ∃ j : Nat, j ≤ xs.length ∧ i = .int .i64 j ∧ q = .int .i64 (k + (j : Int)) ∧ HeldTo xs k j) (fun _ i => xs.length - (intOf i).toNat)
    case atStart => exact ⟨0, Nat.zero_le _, rfl, by simp, HeldTo.zero _ _⟩
    case round =>
      obtain ⟨j, hj, rfl, rfl, hall⟩ := hrel
      by_cases hlt : j < xs.length
      · have hc1 := hc j hlt
        have e1 : xs.getD j 0 = xs[j] := by simp [List.getD_eq_getElem?_getD, List.getElem?_eq_getElem hlt]
        by_cases hx : xs.getD j 0 = k + (j : Int)
        · have Hn := hall.succ hx
          have hb1 : (xs[j] != k + (j : Int)) = false := by rw [← e1, hx]; simp
          clear hx hall e1
          go_wp2
          go_round
          case rel => exact ⟨j + 1, by omega, by go_num, by go_num, Hn⟩
          case measure => simp [intOf]; omega
        · have Hf := Lib.hid (heldOf_bad hlt hx)
          have hb1 : (xs[j] != k + (j : Int)) = true := by rw [← e1]; simpa using hx
          clear hx hall e1
          go_wp2
          go_ret
          exact ⟨ret_int Hf.out.symm, rfl⟩
      · have Hf := Lib.hid (heldOf_end (by omega) hall)
        have e : j = xs.length := by omega
        subst e
        clear hall
        go_wp2
        go_ret
        exact ⟨ret_int Hf.out.symm, rfl⟩

theorem heldOf_cases (xs : List Int) (k : Int) (h : 0 ≤ k) : heldOf xs k = -1 ∨ 0 ≤ heldOf xs k := by
  unfold heldOf; split <;> omega

theorem lawHeldRhythm (n : Int) (v : Value) (xs : List Int) (k : Int) (w : World) (hl : xs.length ≤ 1099511627776) (h0 : 0 ≤ k) (h1 : k ≤ 1099511627776) (hv : Ints w w.heap.size v xs) :
    Calls Tryd.prog 20 #[.agg #[.int .i64 n, v], .int .i64 k] w fun e w' => e = .returned (.int .i64 (heldOf xs k)) ∧ w.alloc (.cells #[.int .i64 n, v] 31) = w' := by
  have hv' := hv
  obtain ⟨a, cap, rfl, -⟩ := hv
  rcases heldOf_cases xs k h0 with hh | hh
  · have Hh := Lib.hid hh
    clear hh
    go_enter Tryd.func20, Tryd.ntmps20
    go_wp2_with fail
    refine (lawHeldIntS _ xs _ _ _ hl h0 h1 (hv'.alloc (Nat.le_refl _) _)).mono ?_
    rintro e w1 ⟨rfl, rfl⟩
    rw [Hh.out]
    go_wp2
    go_ret
    exact ⟨ret_int Hh.out.symm, rfl⟩
  · go_enter Tryd.func20, Tryd.ntmps20
    go_wp2_with fail
    refine (lawHeldIntS _ xs _ _ _ hl h0 h1 (hv'.alloc (Nat.le_refl _) _)).mono ?_
    rintro e w1 ⟨rfl, rfl⟩
    go_wp2
    go_ret
    exact ⟨rfl, rfl⟩
end Go.Proofs.YtcgpmdfcdngnlaaDoor
