/-
  Contracts of the helpers of the laws: the size of a rhythm, its copy, the equality of two, the marking of its beats and the look at the marks.
  Conditions: lengths below two to the twentieth where a copy is made.
-/
import Derived.Test.YtcgpmdfcdngnlaaDoorB0
import Derived.Deep.QuietTactic
import Derived.BigQuiet
set_option linter.unusedVariables false
set_option linter.unusedSimpArgs false
namespace Go.Proofs.YtcgpmdfcdngnlaaDoor
open Go.RowKit

def szOf (left : Int) (xs : List Int) : Int := if left - (xs.length : Int) < 0 then -1 else left - (xs.length : Int)
theorem szOf_neg {left : Int} {xs : List Int} (h : left - (xs.length : Int) < 0) : szOf left xs = -1 := by simp [szOf, h]
theorem szOf_pos {left : Int} {xs : List Int} (h : ¬ left - (xs.length : Int) < 0) : szOf left xs = left - (xs.length : Int) := by simp [szOf, h]

theorem lawSzIntS (v : Value) (xs : List Int) (left : Int) (w : World) (B : Nat) (h0 : 0 ≤ left) (h1 : left ≤ 1048576) (hv : Ints w B v xs) :
    Calls Tryd.prog 45 #[v, .int .i64 left] w fun e w' => e = .returned (.int .i64 (szOf left xs)) ∧ w = w' := by
  obtain ⟨a, cap, rfl, hl, hm, -⟩ := hv
  unfold maxLen at hm
  by_cases hs : left - (xs.length : Int) < 0
  · have Hf := Lib.hid (szOf_neg hs)
    go_enter Tryd.func45, Tryd.ntmps45
    go_wp2
    go_ret
    exact ⟨ret_int Hf.out.symm, rfl⟩
  · have Hf := Lib.hid (szOf_pos hs)
    have hs' : 0 ≤ left - (xs.length : Int) := by omega
    go_enter Tryd.func45, Tryd.ntmps45
    go_wp2
    go_ret
    exact ⟨ret_int Hf.out.symm, rfl⟩

theorem szOf_lt {left : Int} {xs : List Int} : szOf left xs < 0 ∨ 0 ≤ szOf left xs := by omega
theorem szOf_neg1 {left : Int} {xs : List Int} (h : szOf left xs < 0) : szOf left xs = -1 := by
  unfold szOf at h ⊢; split at h <;> simp_all
theorem szOf_len {left : Int} {xs : List Int} (h : 0 ≤ szOf left xs) : (xs.length : Int) ≤ left := by
  unfold szOf at h; split at h <;> omega

theorem lawSzRhythm (n : Int) (v : Value) (xs : List Int) (left : Int) (w : World) (B : Nat) (h0 : 0 ≤ left) (h1 : left ≤ 1048576) (hv : Ints w B v xs) :
    Calls Tryd.prog 23 #[.agg #[.int .i64 n, v], .int .i64 left] w fun e w' => e = .returned (.int .i64 (szOf left xs)) ∧ w.alloc (.cells #[.int .i64 n, v] 38) = w' := by
  have hB : ∃ B', Ints (w.alloc (.cells #[.int .i64 n, v] 38)) B' v xs := by
    rcases hv.open with ⟨rfl, a, cap, rfl⟩ | ⟨b, o, cap, rfl, hm, h0, hB, hb, hc⟩
    · obtain ⟨a, cap, h2, hl, hm, -⟩ := hv
      exact ⟨0, a, cap, h2, hl, hm, .inl rfl⟩
    · obtain ⟨a, cap, h2, hl, hm, -⟩ := hv
      cases h2
      refine ⟨w.heap.size, _, _, rfl, hl, hm, .inr ⟨b, o, rfl, hb, fun i hi => ?_⟩⟩
      rw [World.cell?_alloc_past _ _ _ hb]; exact hc i hi
  obtain ⟨B', hv'⟩ := hB
  obtain ⟨a, cap, rfl, hl, hm, -⟩ := hv
  rcases szOf_lt (left := left) (xs := xs) with hs | hs
  · have Hf := Lib.hid (szOf_neg1 hs)
    go_enter Tryd.func23, Tryd.ntmps23
    go_wp2_with (go_at_call 45; refine (lawSzIntS _ xs _ _ B' (by assumption) (by assumption) hv').mono ?_; rintro e w' ⟨rfl, rfl⟩)
    go_ret
    exact ⟨ret_int Hf.out.symm, rfl⟩
  · go_enter Tryd.func23, Tryd.ntmps23
    go_wp2_with (go_at_call 45; refine (lawSzIntS _ xs _ _ B' (by assumption) (by assumption) hv').mono ?_; rintro e w' ⟨rfl, rfl⟩)
    go_ret
    exact ⟨rfl, rfl⟩

/-! ### the copy -/
def copied (xs : List Int) (k : Nat) : List Int := xs.take k ++ List.replicate (xs.length - k) 0
theorem copied_zero (xs : List Int) : copied xs 0 = List.replicate xs.length 0 := by simp [copied]
theorem copied_len (xs : List Int) {k : Nat} (h : k ≤ xs.length) : (copied xs k).length = xs.length := by simp [copied]; omega
theorem copied_all (xs : List Int) : copied xs xs.length = xs := by simp [copied]
theorem copied_succ (xs : List Int) {k : Nat} (h : k < xs.length) : (copied xs k).set k (xs.getD k 0) = copied xs (k + 1) := by
  unfold copied
  apply List.ext_getElem?
  intro i
  have ht : (xs.take k).length = k := by simp; omega
  have ht' : (xs.take (k + 1)).length = k + 1 := by simp; omega
  rw [List.getElem?_set]
  by_cases hik : k = i
  · subst hik
    rw [if_pos rfl, if_pos (by simp; omega), List.getElem?_append_left (by omega)]
    simp [List.getElem?_take, List.getD_eq_getElem?_getD, List.getElem?_eq_getElem h]
  · rw [if_neg hik]
    by_cases hlt : i < k
    · rw [List.getElem?_append_left (by omega), List.getElem?_append_left (by omega)]
      simp [List.getElem?_take, hlt, show i < k + 1 by omega]
    · rw [List.getElem?_append_right (by omega), List.getElem?_append_right (by omega), ht, ht']
      simp only [List.getElem?_replicate]
      by_cases hi2 : i < xs.length
      · rw [if_pos (by omega), if_pos (by omega)]
      · rw [if_neg (by omega), if_neg (by omega)]

theorem lawToIntS (v : Value) (xs : List Int) (w : World) (h1 : xs.length ≤ 1048576) (hv : Ints w w.heap.size v xs) :
    Calls Tryd.prog 48 #[v] w (RetOwn w xs) := by
  rcases hv.open with ⟨rfl, a, cap, rfl⟩ | ⟨b, o, cap, rfl, hm, h0, hB, hb, hc⟩
  · clear hv
    go_enter Tryd.func48, Tryd.ntmps48
    go_wp2_with (refine wpMakeInt rfl _ _ rfl w.heap.size 0 rfl rfl (by omega) (Nat.le_refl _) ?_; intro w1 hown hbel hsz)
    have HO := Lib.hid hown
    have HB := Lib.hid hbel
    clear hown hbel hsz
    refine wp_loop_rounds 1 ?_; rw [rounds_succ]
    go_wp2
    go_ret
    exact .mk rfl HO.out HB.out
  · clear hv hB
    go_enter Tryd.func48, Tryd.ntmps48
    go_wp2_with (refine wpMakeInt rfl _ _ rfl w.heap.size xs.length rfl rfl (by omega) (Nat.le_refl _) ?_; intro w1 hown hbel hsz)
    go_loopw [4] (fun i wr => ∃ k : Nat, k ≤ xs.length ∧ i = .int .i64 k ∧ Own wr w.heap.size (.slice (some ⟨w.heap.size, 0, none⟩) xs.length xs.length) (copied xs k) ∧ Below w.heap.size w wr) (fun i _ => xs.length - (intOf i).toNat)
    case atStart => exact ⟨0, Nat.zero_le _, rfl, by rw [copied_zero]; exact hown, hbel⟩
    case round =>
      obtain ⟨k, hk, rfl, hownr, hbelr⟩ := hrel
      by_cases hlt : k < xs.length
      · have hc1 : wr.cell? ⟨b, o + k, none⟩ = some (.int .i64 (xs.getD k 0)) := ((bcell hbelr).1 _ _ hb).trans (hc k hlt)
        have hcs := hownr.cell (k := k) (by rw [copied_len xs hk]; exact hlt)
        have hcf := hownr.free k
        have HR : Hid (Own (wr.setCell ⟨w.heap.size, k, none⟩ (.int .i64 (xs.getD k 0))) w.heap.size (.slice (some ⟨w.heap.size, 0, none⟩) xs.length xs.length) (copied xs (k + 1))) := by
          have := hownr.store _ k (xs.getD k 0)
          rw [copied_succ xs hlt] at this
          exact this
        have HB : Hid (Below w.heap.size w (wr.setCell ⟨w.heap.size, k, none⟩ (.int .i64 (xs.getD k 0)))) := hbelr.setCell (Nat.le_refl _) _
        clear hownr hbelr hown hbel
        go_wp2
        go_roundw
        case rel => exact ⟨k + 1, by omega, by go_num, by simpa [List.getD_eq_getElem?_getD, hlt] using HR.out, by simpa [List.getD_eq_getElem?_getD, hlt] using HB.out⟩
        case measure => simp [intOf]; omega
      · have HR : Hid (Own wr w.heap.size (.slice (some ⟨w.heap.size, 0, none⟩) xs.length xs.length) xs) := by
          have e : k = xs.length := by omega
          rw [e, copied_all] at hownr
          exact hownr
        have HB := Lib.hid hbelr
        clear hownr hbelr hown hbel
        go_wp2
        go_ret
        exact .mk rfl HR.out HB.out

theorem lawToRhythm (n : Int) (v : Value) (xs : List Int) (w : World) (h1 : xs.length ≤ 1048576) (hv : Ints w w.heap.size v xs) :
    Calls Tryd.prog 25 #[.agg #[.int .i64 n, v]] w (RetRhythm w n xs) := by
  have hv' := hv
  obtain ⟨a, cap, hva, hl, hm, -⟩ := hv
  subst hva
  go_enter Tryd.func25, Tryd.ntmps25
  go_wp2_with fail
  refine (lawToIntS _ xs _ h1 ?c1).mono ?_
  case c1 => exact (((hv'.alloc (Nat.le_refl _) _).alloc (by simp) _).alloc (by simp; omega) _).mono (by simp; omega)
  rintro e w4 ⟨a4, c4, rfl, hown, hbel⟩
  obtain ⟨hc4, hf4⟩ := bcell hbel
  have hz := hbel.size
  simp only [World.size_alloc] at hc4 hf4 hz
  have HO := Lib.hid hown
  have HB := Lib.hid hbel
  clear hown hbel
  go_wp2_with fail
  refine bodyPost_ret (v := .agg #[.int .i64 n, .slice a4 xs.length c4]) ?_ rfl ?_
  · simp [results, Tryd.results25, go_sem, hc4]
  · refine ⟨a4, c4, rfl, ?_, ?_⟩
    · refine Own.mono ?_ (show w.heap.size ≤ w.heap.size + 1 + 1 + 1 by omega)
      repeat' refine Own.setc ?_ (by simp; try omega) _
      have := HO.out
      simpa using this
    · repeat' refine Below.setCell ?_ (by simp; try omega) _
      exact ((((Below.refl _ _).alloc (Nat.le_refl _) _).alloc (by simp) _).alloc (by simp; omega) _).trans (HB.out.mono (by simp; omega))
end Go.Proofs.YtcgpmdfcdngnlaaDoor
