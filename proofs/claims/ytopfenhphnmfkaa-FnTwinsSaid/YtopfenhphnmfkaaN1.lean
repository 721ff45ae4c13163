/-
  Contracts of the program's list in ascending order with each number once, and of the rhythm with beats on the remainders of some numbers.
  Conditions: lists lie in memory, shorter than two to the twentieth.
-/
import Derived.Test.YtopfenhphnmfkaaSh
import Derived.Test.YtopfenhphnmfkaaE1
import Derived.Test.YtopfenhphnmfkaaG2
import Derived.Test.YtopfenhphnmfkaaM11
import Derived.Lib.OwnBridge
import Derived.Sort.OwnSortedInts
set_option linter.unusedVariables false
set_option linter.unusedSimpArgs false
namespace Go.Proofs.Ytopfenhphnmfkaa
open Go.RowKit Go.Shelf Go.Sort

/-- What the three contracts leave. -/
theorem left_of {w w1 : World} {g cap n nn q : Nat} {os : Array Obj} {xs : List Int} (hown : w1.ownsRow w.heap.size 3 1 (.slice (some ⟨g, 0, none⟩) n cap) n (xs.map (Value.int .i64))) (hbel : Below w.heap.size w w1) (hbg : w.heap.size ≤ g) (hlen : xs.length = n) :
    RetOwn w (srt xs) (.returned (.slice (some ⟨g, 0, none⟩) (srt xs).length cap))
      (putRow (Value.int .i64) (Sort.ahead (grow (putRow (Value.int .i64) (Sort.ahead w1 nn) g 0 (xs.mergeSort fun x y => decide (x ≤ y)).toArray) os) q) g 0 (srt xs ++ List.replicate (n - (srt xs).length) 0).toArray) := by
  have hl2 : (xs.mergeSort fun x y => decide (x ≤ y)).length = xs.length := List.length_mergeSort xs
  have hle := srt_length_le xs
  subst hlen
  rcases hown.2 with ⟨h0, _⟩ | ⟨g', cap', cur, hv, hbase, hb, h1, h2, h3, h4⟩
  · cases h0
  cases hv
  have hs := ownsRow_sortedI (n := nn) (os := os) (ts := xs.mergeSort fun x y => decide (x ≤ y)) hl2 hbase hb h1 h2 h3
  have hc := Lib.ownsRow_putRow (q := q) (k := (srt xs).length) (ys := srt xs ++ List.replicate (xs.length - (srt xs).length) 0) hs (by simp; omega) (by omega)
  rw [List.take_left] at hc
  exact ⟨some ⟨g, 0, none⟩, cap, rfl, hc, Lib.below_putRow (hbel.grown (grownBy_sortedI _) hbel.size (fun j hj => by cases hj; exact hbase)) hbg⟩

set_option maxHeartbeats 1000000 in
theorem implCollectedOf (arg : Value) (xs : List Int) (n : Nat) (w : World) (hn : n ≤ 1048576)
    (hclone : Calls Try.prog 120 #[arg] w fun e w' => ∃ v', e = .returned v' ∧ w'.ownsRow w.heap.size 3 1 v' n (xs.map (Value.int .i64)) ∧ v' ≠ .slice none 0 0 ∧ Below w.heap.size w w') :
    Calls Try.prog 93 #[arg] w (RetOwn w (srt xs)) := by
  go_enter Try.func93, Try.ntmps93
  go_wp2_with fail
  refine hclone.mono ?_
  rintro e w1 ⟨v1, rfl, hown, hnn, hbel⟩
  obtain ⟨g, cap, rfl, hbg, hgl, hncap, hcm, hlen, hH⟩ := Lib.holds_of_ownsRow hown hnn
  have hsort := Try.slices_Sort_int g 0 cap xs w1 hH hgl (by omega)
  rw [hlen] at hsort
  have X0 : (w1.ownsRow w.heap.size 3 1 (.slice (some ⟨g, 0, none⟩) n cap) n (xs.map (Value.int .i64)) ∧ Below w.heap.size w w1 ∧ w.heap.size ≤ g ∧ g < w1.heap.size ∧ n ≤ cap ∧ xs.length = n ∧ Holds (Value.int .i64) w1 g 0 xs.toArray) := ⟨hown, hbel, hbg, hgl, hncap, hlen, hH⟩
  have X := Lib.hid X0
  clear X0
  clear hown hbel hH hnn hclone hbg hgl hncap hcm hlen
  go_wp2_with fail
  refine hsort.mono ?_
  rintro e w2 ⟨rfl, nn, os, rfl⟩
  have hl2 : (xs.mergeSort fun x y => decide (x ≤ y)).length = n := by rw [List.length_mergeSort]; exact X.out.2.2.2.2.2.1
  have hH2 : Holds (Value.int .i64) (grow (putRow (Value.int .i64) (Sort.ahead w1 nn) g 0 (xs.mergeSort fun x y => decide (x ≤ y)).toArray) os) g 0 (xs.mergeSort fun x y => decide (x ≤ y)).toArray :=
    holds_grow (Value.int .i64) _ os g 0 _ (by simpa [putRow, mapBlock, Sort.ahead] using X.out.2.2.2.1) (holds_putRow (Value.int .i64) _ g 0 _ _ (holds_ahead (Value.int .i64) w1 nn g 0 _ X.out.2.2.2.2.2.2) (by simp))
  have hcomp := Try.slices_Compact_int g 0 cap (xs.mergeSort fun x y => decide (x ≤ y)) _ hH2 (by omega) (by have := X.out.2.2.2.2.1; omega)
  rw [hl2] at hcomp
  clear hH2 hsort hl2
  go_wp2_with fail
  refine hcomp.mono ?_
  rintro e w3 ⟨rfl, q, rfl⟩
  clear hcomp
  go_wp2
  go_ret
  exact left_of X.out.1 X.out.2.1 X.out.2.2.1 X.out.2.2.2.2.2.1

theorem implCollected (v : Value) (xs : List Int) (w : World) (hl : xs.length ≤ 1048576) (hv : Ints w w.heap.size v xs) :
    Calls Try.prog 93 #[v] w (RetOwn w (srt xs)) := by
  rcases hv.open with ⟨rfl, a, cap, rfl⟩ | ⟨b, o, cap, rfl, hm, hpos, hB, hb, hc⟩
  · cases a with
    | some a => exact implCollectedOf _ [] 0 w (by omega) (Try.slices_Clone_int_zero a cap w)
    | none =>
      rw [srt_nil]
      go_enter Try.func93, Try.ntmps93
      go_wp2_with fail
      refine (Try.slices_Clone_int_nil 0 cap w).mono ?_
      rintro e w1 ⟨rfl, rfl⟩
      go_wp2_with fail
      refine (Try.slices_Sort_int_none none 0 _).mono ?_
      rintro e w1 ⟨rfl, rfl⟩
      go_wp2_with fail
      refine (Try.slices_Compact_int_empty none 0 _).mono ?_
      rintro e w1 ⟨rfl, rfl⟩
      go_wp2
      go_ret
      exact .mk rfl (Own.nil _ _) (Below.refl _ _)
  · refine implCollectedOf _ xs xs.length w hl ?_
    have := Try.slices_Clone_int b o xs.length cap xs w (Nat.le_refl _) (by omega) hc
    rwa [List.take_length] at this

theorem moTo_succ {n : Int} {xs : List Int} {k : Nat} (h : k < xs.length) : (xs.take (k + 1)).map (fun p => mo p n) = (xs.take k).map (fun p => mo p n) ++ [mo xs[k] n] := by
  rw [List.take_succ_eq_append_getElem h, List.map_append]; rfl

set_option maxHeartbeats 800000 in
theorem implRhythmOf (n : Int) (v : Value) (xs : List Int) (w : World) (h1 : 1 ≤ n) (h2 : n ≤ 24) (hl : xs.length ≤ 1048576) (hb : ∀ z ∈ xs, I64 z) (h : Ints w w.heap.size v xs) :
    Calls Try.prog 83 #[.int .i64 n, v] w (RetRhythm w n (ofMo n xs)) := by
  have Hsrt := Lib.hid (srt_mo h1 xs)
  have Hb := Lib.hid hb
  clear hb
  rcases h.open with ⟨rfl, a, cap, rfl⟩ | ⟨b, o, cap, rfl, hm, hpos, hB, hlt0, hc⟩
  · go_enter Try.func83, Try.ntmps83
    go_wp2
    refine wp_loop_rounds 1 ?_; rw [rounds_succ]
    go_wp2_with fail
    refine (implCollected _ [] _ (by simp) (Own.nil _ 0).ints).mono ?_
    rintro e w1 ⟨a1, c1, rfl, ho1, hb1⟩
    have hx := (Bx.new w (.int .i64 0) (.slice none 0 0) 25).below hb1 (by simp)
    have p0 := hx.c0
    have p1 := hx.c1
    have f0 := hx.f 0
    have f1 := hx.f 1
    have hfin := (hx.set0 (.int .i64 n)).set1 (.slice a1 (srt []).length c1)
    have r0 := hfin.c0
    have r1 := hfin.c1
    have HO1 := Lib.hid ho1
    have HB1 := Lib.hid (bel_step ((Below.refl _ _).alloc (Nat.le_refl _) _) hb1 (by simp))
    clear ho1 hb1 hx hfin h
    go_wp2
    refine bodyPost_ret (v := .agg #[.int .i64 n, .slice a1 (srt []).length c1]) ?_ rfl ?_
    · simp [results, Try.results83, go_sem, r0, r1]
    · have e := Hsrt.out
      rw [List.map_nil] at e
      rw [← e]
      exact ⟨a1, c1, rfl, ((HO1.out.setc (by simp) _).setc (by simp) _).mono (by simp), (HB1.out.setCell (by simp) _).setCell (by simp) _⟩
  · go_enter Try.func83, Try.ntmps83
    go_wp2
    go_loopw [5, 10] (fun u i wr => ∃ k : Nat, k ≤ xs.length ∧ i = .int .i64 k ∧ (∃ a' c', u = .slice a' k c' ∧ Own wr (w.heap.size + 1) (.slice a' k c') ((xs.take k).map fun p => mo p n)) ∧ Bx wr w.heap.size (.int .i64 0) (.slice none 0 0) 25 ∧ Below w.heap.size w wr) (fun _ i _ => xs.length - (intOf i).toNat)
    case atStart => exact ⟨0, Nat.zero_le _, rfl, ⟨none, 0, rfl, Own.nil _ _⟩, Bx.new w _ _ _, by (repeat (first | (with_reducible exact (Below.refl _ _)) | (with_reducible refine bel_alloc ?_ _) | (with_reducible refine Below.drew ?_) | (with_reducible refine bel_drewN ?_ _) | (with_reducible refine Below.setCell ?_ (by simp) _)))⟩
    case round =>
      obtain ⟨k, hk, rfl, ⟨a', c', rfl, hown⟩, hres, hbel⟩ := hrel
      have hsz := hres.lt
      have HO := Lib.hid hown
      have HR := Lib.hid hres
      have HB := Lib.hid hbel
      have hml : ((xs.take k).map fun p => mo p n).length = k := by simp; omega
      have HM := Lib.hid hml
      by_cases hlt : k < xs.length
      · have hc1 : wr.cell? ⟨b, o + k, none⟩ = some (.int .i64 xs[k]) := by
          have := ((bcell hbel).1 _ _ hlt0).trans (hc k hlt)
          rwa [getD_get hlt] at this
        have Hn := Lib.hid (moTo_succ (n := n) hlt)
        have hi := Hb.out _ (List.getElem_mem hlt)
        have Hi := Lib.hid hi
        obtain ⟨hi1, hi2⟩ := hi
        clear hown hres hbel hml
        go_wp2_with (first | (go_at_call 91; refine (implRemainder _ _ _ h1 (by omega) Hi.out).mono ?_; rintro e w' ⟨rfl, rfl⟩) | (at_builtin; refine wpAppInt rfl _ _ rfl (w.heap.size + 1) a' k c' ((xs.take k).map fun p => mo p n) _ rfl rfl HO.out HM.out (by omega) (by omega) ?_; intro a1 c1 w1 ho1 hb1))
        have ho2 := ho1
        rw [← Hn.out] at ho2
        have HO1 := Lib.hid ho2
        have HR1 := Lib.hid (HR.out.below hb1 (by omega))
        have HB1 := Lib.hid (HB.out.trans (hb1.mono (by omega)))
        clear ho1 ho2 hb1
        go_roundw
        case rel => exact ⟨k + 1, by omega, by go_num, ⟨a1, c1, rfl, HO1.out⟩, HR1.out, HB1.out⟩
        case measure => simp [intOf]; omega
      · have e : k = xs.length := by omega
        subst e
        rw [List.take_length] at hown
        have HI := Lib.hid hown.ints
        have hlm : (xs.map fun p => mo p n).length ≤ 1048576 := by simpa using hl
        have HL := Lib.hid hlm
        clear hown hres hbel hml HO hlm
        go_wp2_with fail
        refine (implCollected _ (xs.map fun p => mo p n) _ HL.out HI.out).mono ?_
        rintro e w1 ⟨a1, c1, rfl, ho1, hb1⟩
        rw [Hsrt.out] at ho1 ⊢
        have hx := HR.out.below hb1 hsz
        have p0 := hx.c0
        have p1 := hx.c1
        have f0 := hx.f 0
        have f1 := hx.f 1
        have hfin := (hx.set0 (.int .i64 n)).set1 (.slice a1 (ofMo n xs).length c1)
        have r0 := hfin.c0
        have r1 := hfin.c1
        have HO1 := Lib.hid ho1
        have HB1 := Lib.hid (bel_step HB.out hb1 (by omega))
        clear ho1 hb1 hx hfin
        go_wp2
        refine bodyPost_ret (v := .agg #[.int .i64 n, .slice a1 (ofMo n xs).length c1]) ?_ rfl ?_
        · simp [results, Try.results83, go_sem, r0, r1]
        · exact ⟨a1, c1, rfl, ((HO1.out.setc (by simp; omega) _).setc (by simp; omega) _).mono (by omega), (HB1.out.setCell (by simp) _).setCell (by simp) _⟩
end Go.Proofs.Ytopfenhphnmfkaa
