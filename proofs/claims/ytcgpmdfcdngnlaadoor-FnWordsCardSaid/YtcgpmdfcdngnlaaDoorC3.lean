/-
  The helpers' contracts in the one form that the laws' walks use: what was there stands.
  Conditions: lengths below two to the fortieth.
-/
import Derived.Test.YtcgpmdfcdngnlaaDoorC2
import Derived.Deep.RegionHeld3
set_option linter.unusedVariables false
set_option linter.unusedSimpArgs false
namespace Go.Proofs.YtcgpmdfcdngnlaaDoor
open Go.RowKit

theorem szOf_le {left : Int} {xs : List Int} (h : -1 ≤ left) {m : Int} (hm : left ≤ m) : szOf left xs ≤ m := by unfold szOf; split <;> omega

theorem lawSzRhythm' (n : Int) (v : Value) (xs : List Int) (left : Int) (w : World) (h0 : 0 ≤ left) (h1 : left ≤ 1048576) (hv : Ints w w.heap.size v xs) :
    Calls Tryd.prog 23 #[.agg #[.int .i64 n, v], .int .i64 left] w fun e w' => e = .returned (.int .i64 (szOf left xs)) ∧ Below w.heap.size w w' :=
  (lawSzRhythm n v xs left w _ h0 h1 hv).mono fun _ _ ⟨he, hw⟩ => ⟨he, hw ▸ (Below.refl _ _).alloc (Nat.le_refl _) _⟩

theorem lawEqIntS' (u v : Value) (xs ys : List Int) (w : World) (hu : Ints w w.heap.size u xs) (hv : Ints w w.heap.size v ys) :
    Calls Tryd.prog 40 #[u, v] w fun e w' => e = .returned (.bool (eqL xs ys)) ∧ Below w.heap.size w w' :=
  (lawEqIntS u v xs ys w _ _ hu hv).mono fun _ _ ⟨he, n, hw⟩ => ⟨he, hw ▸ bel_drewN (Below.refl _ _) n⟩

theorem lawHeldIntS' (v : Value) (xs : List Int) (k : Int) (w : World) (hl : xs.length ≤ 1099511627776) (h0 : 0 ≤ k) (h1 : k ≤ 1099511627776) (hv : Ints w w.heap.size v xs) :
    Calls Tryd.prog 42 #[v, .int .i64 k] w fun e w' => e = .returned (.int .i64 (heldOf xs k)) ∧ Below w.heap.size w w' :=
  (lawHeldIntS v xs k w _ hl h0 h1 hv).mono fun _ _ ⟨he, hw⟩ => ⟨he, hw ▸ Below.refl _ _⟩

theorem lawHeldRhythm' (n : Int) (v : Value) (xs : List Int) (k : Int) (w : World) (hl : xs.length ≤ 1099511627776) (h0 : 0 ≤ k) (h1 : k ≤ 1099511627776) (hv : Ints w w.heap.size v xs) :
    Calls Tryd.prog 20 #[.agg #[.int .i64 n, v], .int .i64 k] w fun e w' => e = .returned (.int .i64 (heldOf xs k)) ∧ Below w.heap.size w w' :=
  (lawHeldRhythm n v xs k w hl h0 h1 hv).mono fun _ _ ⟨he, hw⟩ => ⟨he, hw ▸ (Below.refl _ _).alloc (Nat.le_refl _) _⟩
/-- The marking, said of the one block that is written. -/
theorem lawMarkIntS2 (v : Value) (xs : List Int) (k : Int) (w : World) (lo hi : Nat) (hl : xs.length ≤ 1099511627776) (h0 : 0 ≤ k) (h1 : k ≤ 1099511627776) (hv : Seg w lo hi v xs) :
    Calls Tryd.prog 41 #[v, .int .i64 k] w fun e w' => e = .returned (.int .i64 (k + (xs.length : Int))) ∧ Seg w' lo hi v (marks k xs.length) ∧ Outside lo hi w w' := by
  obtain ⟨ho, hb⟩ := hv
  rcases ho.open with ⟨rfl, rfl⟩ | ⟨g, cap, rfl, hB, hg, hm⟩
  · go_enter Tryd.func41, Tryd.ntmps41
    go_wp2
    refine wp_loop_rounds 1 ?_; rw [rounds_succ]
    go_wp2
    go_ret
    exact ⟨ret_int (by simp), ⟨by simpa [marks] using ho, hb⟩, ⟨rfl, rfl, rfl, Nat.le_refl _, fun _ _ _ => rfl⟩⟩
  · have hgh : g < hi := hb g rfl
    go_enter Tryd.func41, Tryd.ntmps41
    go_wp2
    go_loopw [1, 5] (fun q i wr => ∃ j : Nat, j ≤ xs.length ∧ i = .int .i64 j ∧ q = .int .i64 (k + (j : Int)) ∧ Own wr lo (.slice (some ⟨g, 0, none⟩) xs.length cap) (marked xs k j) ∧ Outside lo hi w wr) (fun _ i _ => xs.length - (intOf i).toNat)
    case atStart => exact ⟨0, Nat.zero_le _, rfl, by simp, by rw [marked_zero]; exact ho, ⟨rfl, rfl, rfl, Nat.le_refl _, fun _ _ _ => rfl⟩⟩
    case round =>
      obtain ⟨j, hj, rfl, rfl, hown, hout⟩ := hrel
      by_cases hlt : j < xs.length
      · have hcs := hown.cell (k := j) (by rw [marked_len xs k hj]; exact hlt)
        have hcf := hown.free j
        have HR : Hid (Own (wr.setCell ⟨g, j, none⟩ (.int .i64 (k + (j : Int)))) lo (.slice (some ⟨g, 0, none⟩) xs.length cap) (marked xs k (j + 1))) := by
          have := hown.store _ j (k + (j : Int))
          rw [marked_succ xs k hlt] at this
          exact this
        have HB : Hid (Outside lo hi w (wr.setCell ⟨g, j, none⟩ (.int .i64 (k + (j : Int))))) :=
          ⟨hout.os, hout.tape, hout.output, by simpa [World.setCell] using hout.size, fun b hb1 hb2 => by rw [Below.heap_setCell _ _ _ _ (show b ≠ g by omega)]; exact hout.block b hb1 hb2⟩
        clear hown hout ho hb
        go_wp2
        go_roundw
        case rel => exact ⟨j + 1, by omega, by go_num, by go_num, HR.out, HB.out⟩
        case measure => simp [intOf]; omega
      · have e : j = xs.length := by omega
        subst e
        rw [marked_all] at hown
        have HR := Lib.hid hown
        have HB := Lib.hid hout
        have HG := Lib.hid hb
        clear hown hout ho hb
        go_wp2
        go_ret
        exact ⟨rfl, ⟨HR.out, HG.out⟩, HB.out⟩

theorem lawMarkRhythm2 (n : Int) (v : Value) (xs : List Int) (k : Int) (w : World) (lo hi : Nat) (hl : xs.length ≤ 1099511627776) (h0 : 0 ≤ k) (h1 : k ≤ 1099511627776) (hv : Seg w lo hi v xs) :
    Calls Tryd.prog 19 #[.agg #[.int .i64 n, v], .int .i64 k] w fun e w' => e = .returned (.int .i64 (k + (xs.length : Int))) ∧ Seg w' lo hi v (marks k xs.length) ∧ Outside lo hi w w' := by
  obtain ⟨a, cap, rfl⟩ := hv.1.shape
  go_enter Tryd.func19, Tryd.ntmps19
  go_wp2_with fail
  refine (lawMarkIntS2 _ xs _ _ lo hi hl h0 h1 (hv.alloc _)).mono ?_
  rintro e w1 ⟨rfl, hown, hout⟩
  have HR := Lib.hid hown
  have HB := Lib.hid hout
  clear hown hout hv
  go_wp2
  go_ret
  have hB := HB.out
  refine ⟨rfl, HR.out, ⟨hB.os, hB.tape, hB.output, ?_, ?_⟩⟩
  · have := hB.size; simp at this; omega
  · intro b hb1 hb2
    rw [hB.block b (by simp; omega) hb2]
    exact Below.heap_alloc _ _ _ hb1
end Go.Proofs.YtcgpmdfcdngnlaaDoor
