/-
  The laws' marking of a slice of texts, and the look at the marks.
  Conditions: lengths and marks are below two to the thirtieth.
-/
import Derived.Test.YtcgpmdfcdngnlaaDoorZ7
import Derived.Deep.RegionHeld3
import Derived.Deep.RegionWith
set_option linter.unusedVariables false
set_option linter.unusedSimpArgs false
namespace Go.Proofs.YtcgpmdfcdngnlaaDoor
open Go.RowKit

theorem lawMarkText' (k : Int) (h0 : 0 ≤ k) (hk : k ≤ 1099511627776) (w : World) :
    Calls Tryd.prog 36 #[.int .i64 k] w fun e w' => e = .returned (.string (mt k.toNat)) ∧ Below w.heap.size w w' := by
  obtain ⟨n, rfl⟩ := Int.eq_ofNat_of_zero_le h0
  exact lawMarkText n (by omega) w
def mkS (k : Int) (i : Nat) : ByteArray := mt (k + (i : Int)).toNat
def marksS (k : Int) (n : Nat) : List ByteArray := (List.range n).map (mkS k)
theorem marksS_len (k : Int) (n : Nat) : (marksS k n).length = n := by simp [marksS]
theorem marksS_get (k : Int) {n i : Nat} (h : i < n) : (marksS k n).getD i ByteArray.empty = mkS k i := by
  simp [marksS, List.getD_eq_getElem?_getD, h]
def markedS (xs : List ByteArray) (k : Int) (i : Nat) : List ByteArray := marksS k i ++ xs.drop i
theorem markedS_zero (xs : List ByteArray) (k : Int) : markedS xs k 0 = xs := by simp [markedS, marksS]
theorem markedS_len (xs : List ByteArray) (k : Int) {i : Nat} (h : i ≤ xs.length) : (markedS xs k i).length = xs.length := by simp [markedS, marksS_len]; omega
theorem markedS_all (xs : List ByteArray) (k : Int) : markedS xs k xs.length = marksS k xs.length := by simp [markedS]
theorem markedS_succ (xs : List ByteArray) (k : Int) {i : Nat} (h : i < xs.length) : (markedS xs k i).set i (mkS k i) = markedS xs k (i + 1) := by
  unfold markedS
  apply List.ext_getElem?
  intro j
  rw [List.getElem?_set]
  by_cases hij : i = j
  · subst hij
    rw [if_pos rfl, if_pos (by simp [marksS_len]; omega), List.getElem?_append_left (by simp [marksS_len])]
    simp [marksS]
  · rw [if_neg hij]
    by_cases hlt : j < i
    · rw [List.getElem?_append_left (by simp [marksS_len]; omega), List.getElem?_append_left (by simp [marksS_len]; omega)]
      simp [marksS, hlt, show j < i + 1 by omega]
    · rw [List.getElem?_append_right (by simp [marksS_len]; omega), List.getElem?_append_right (by simp [marksS_len]; omega), marksS_len, marksS_len]
      simp only [List.getElem?_drop]
      rw [show i + (j - i) = i + 1 + (j - (i + 1)) by omega]

theorem lawMarkStringS2 (v : Value) (xs : List ByteArray) (k : Int) (w : World) (lo hi : Nat) (hl : xs.length ≤ 1073741824) (h0 : 0 ≤ k) (h1 : k ≤ 1073741824) (hhi : hi ≤ w.heap.size) (hv : SegS w lo hi v xs) :
    Calls Tryd.prog 14 #[v, .int .i64 k] w fun e w' => e = .returned (.int .i64 (k + (xs.length : Int))) ∧ SegS w' lo hi v (marksS k xs.length) ∧ Outside lo hi w w' := by
  obtain ⟨ho, hb⟩ := hv
  rcases ho.open with ⟨rfl, rfl⟩ | ⟨g, cap, rfl, hB, hg, hm⟩
  · go_enter Tryd.func14, Tryd.ntmps14
    go_wp2
    refine wp_loop_rounds 1 ?_; rw [rounds_succ]
    go_wp2
    go_ret
    exact ⟨ret_int (by simp), ⟨by simpa [marksS] using ho, hb⟩, ⟨rfl, rfl, rfl, Nat.le_refl _, fun _ _ _ => rfl⟩⟩
  · have hgh : g < hi := hb g rfl
    go_enter Tryd.func14, Tryd.ntmps14
    go_wp2
    go_loopw [1, 5] (fun q i wr => ∃ j : Nat, j ≤ xs.length ∧ i = .int .i64 j ∧ q = .int .i64 (k + (j : Int)) ∧ OwnS wr lo (.slice (some ⟨g, 0, none⟩) xs.length cap) (markedS xs k j) ∧ Outside lo hi w wr) (fun _ i _ => xs.length - (intOf i).toNat)
    case atStart => exact ⟨0, Nat.zero_le _, rfl, by simp, by rw [markedS_zero]; exact ho, ⟨rfl, rfl, rfl, Nat.le_refl _, fun _ _ _ => rfl⟩⟩
    case round =>
      obtain ⟨j, hj, rfl, rfl, hown, hout⟩ := hrel
      by_cases hlt : j < xs.length
      · have HO := Lib.hid hown
        have HT := Lib.hid hout
        have HS := Lib.hid (markedS_succ xs k hlt)
        have HL := Lib.hid (markedS_len xs k hj)
        clear hown hout ho hb
        go_wp2_with (go_at_call 36; refine (lawMarkText' _ (by omega) (by omega) _).mono ?_; rintro e w1 ⟨rfl, hbel⟩; have o1 := HO.out.below hbel; have hcs := o1.cell (k := j) (by rw [HL.out]; exact hlt); have hcf := o1.free j; have HR := Lib.hid (o1.store _ j (mkS k j)); have HB := Lib.hid hbel; clear o1 hbel)
        go_roundw
        case rel =>
          refine ⟨j + 1, by omega, by go_num, by go_num, by rw [← HS.out]; exact HR.out, ?_⟩
          have hout := HT.out
          have hbel := HB.out
          refine ⟨by show w1.os = _; rw [hbel.os]; exact hout.os, by show w1.tape = _; rw [hbel.tape]; exact hout.tape, by show w1.output = _; rw [hbel.output]; exact hout.output, by have := hbel.size; have := hout.size; simp [World.setCell]; omega, fun b hb1 hb2 => ?_⟩
          rw [Below.heap_setCell _ _ _ _ (show b ≠ g by omega)]
          have := hout.size
          exact (hbel.block b (by omega)).trans (hout.block b hb1 hb2)
        case measure => simp [intOf]; omega
      · have e : j = xs.length := by omega
        subst e
        rw [markedS_all] at hown
        have HR := Lib.hid hown
        have HB := Lib.hid hout
        have HG := Lib.hid hb
        clear hown hout ho hb
        go_wp2
        go_ret
        exact ⟨rfl, ⟨HR.out, HG.out⟩, HB.out⟩

theorem lawHeldStringS' (v : Value) (xs : List ByteArray) (n : Nat) (k : Int) (w : World) (he : xs = marksS k n) (hl : n ≤ 1073741824) (h0 : 0 ≤ k) (h1 : k ≤ 1073741824) (hv : Strs w w.heap.size v xs) :
    Calls Tryd.prog 15 #[v, .int .i64 k] w fun e w' => e = .returned (.int .i64 (k + (n : Int))) ∧ Below w.heap.size w w' := by
  have hn : xs.length = n := by rw [he, marksS_len]
  have HG := Lib.hid (fun i (hi : i < n) => by have := marksS_get k hi; rw [← he] at this; exact this)
  clear he
  subst hn
  rcases hv.open with ⟨rfl, a, cap, rfl⟩ | ⟨b, o, cap, rfl, hm, hpos, hB, hb, hc⟩
  · clear hv
    go_enter Tryd.func15, Tryd.ntmps15
    go_wp2
    refine wp_loop_rounds 1 ?_; rw [rounds_succ]
    go_wp2
    go_ret
    exact ⟨ret_int (by simp), Below.refl _ _⟩
  · clear hv
    go_enter Tryd.func15, Tryd.ntmps15
    go_wp2
    go_loopw [1, 5] (fun q i wr => ∃ j : Nat, j ≤ xs.length ∧ i = .int .i64 j ∧ q = .int .i64 (k + (j : Int)) ∧ Below w.heap.size w wr) (fun _ i _ => xs.length - (intOf i).toNat)
    case atStart => exact ⟨0, Nat.zero_le _, rfl, by simp, Below.refl _ _⟩
    case round =>
      obtain ⟨j, hj, rfl, rfl, hbel0⟩ := hrel
      have HB := Lib.hid hbel0
      clear hbel0
      by_cases hlt : j < xs.length
      · have hc0 := hc j hlt
        have hq : xs.getD j ByteArray.empty = mt (k + (j : Int)).toNat := HG.out j hlt
        rw [hq] at hc0
        clear hq
        have hc1 : wr.cell? ⟨b, o + j, none⟩ = some (.string (mt (k + (j : Int)).toNat)) := ((bcell HB.out).1 _ _ hb).trans hc0
        have hbr : b < wr.heap.size := World.block_lt_of_cell? _ _ hc1
        clear hc0
        generalize hM : mt (k + (j : Int)).toNat = M at *
        have HM := Lib.hid hM
        clear hM
        have hself : (M != M) = false := by rw [bne, beq_str]; simp
        have hselfL : (M.toList == M.toList) = true := by simp
        go_wp2_with fail
        go_region_held3 (fun w' => w'.cell? ⟨b, o + j, none⟩ = some (.string M)) (first | exact hc1 | exact cellAlloc _ hc1) (first | (go_at_call 36; refine withWorld fun X hX => ?_; have gB : Below wr.heap.size wr X := (by rw [hX]; repeat (first | (with_reducible exact (Below.refl _ _)) | (with_reducible refine bel_alloc ?_ _) | (with_reducible refine Below.drew ?_) | (with_reducible refine bel_drewN ?_ _))); clear hX; refine (lawMarkText' _ (by omega) (by omega) _).mono ?_; rintro e w1 ⟨rfl, hbel⟩; have b1 := bel_step gB hbel gB.size; have hc1 := cellAfter b1 hc1; have HB2 := Lib.hid (HB.out.trans (b1.mono HB.out.size)); clear hbel gB b1; rw [HM.out]))
        all_goals
          go_wp2
          go_roundw
          case rel => exact ⟨j + 1, by omega, by go_num, by go_num, by first | exact HB2.out | exact bel_drewN HB2.out _⟩
          case measure => simp [intOf]; omega
      · have e : j = xs.length := by omega
        subst e
        go_wp2
        go_ret
        exact ⟨rfl, HB.out⟩
end Go.Proofs.YtcgpmdfcdngnlaaDoor
