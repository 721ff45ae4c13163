/-
  Contracts of a rhythm carried by a function: rotated, mirrored, stretched, in the program; and of the reference's map.
  Conditions: a valid rhythm whose beats lie in memory; small numbers.
-/
import Derived.Test.YtopfenhphnmfkaaN1
import Derived.Test.YtopfenhphnmfkaaG1
set_option linter.unusedVariables false
set_option linter.unusedSimpArgs false
namespace Go.Proofs.Ytopfenhphnmfkaa
open Go.RowKit

theorem take_map_succ (f : Int → Int) {xs : List Int} {k : Nat} (h : k < xs.length) : (xs.take (k + 1)).map f = (xs.take k).map f ++ [f xs[k]] := by
  rw [List.take_succ_eq_append_getElem h, List.map_append]; rfl
theorem mul_bd {u p : Int} (hu : -1 ≤ u) (hu' : u ≤ 24) (hp : 0 ≤ p) (hp' : p ≤ 24) : -24 ≤ u * p ∧ u * p ≤ 576 := by
  constructor
  · calc (-24 : Int) ≤ -1 * p := by omega
      _ ≤ u * p := Int.mul_le_mul_of_nonneg_right hu hp
  · calc u * p ≤ 24 * p := Int.mul_le_mul_of_nonneg_right hu' hp
      _ ≤ 24 * 24 := Int.mul_le_mul_of_nonneg_left hp' (by omega)
      _ = 576 := by omega

theorem implRot1 (k : Int) (y : Int) (q : Nat) (w : World) (hy : 0 ≤ y) (hy' : y ≤ 24) (hk : -1000 ≤ k) (hk' : k ≤ 1000) (hq : w.cell? ⟨q, 0, none⟩ = some (.int .i64 k)) :
    Calls Try.prog 104 #[.int .i64 y, .pointer (some ⟨q, 0, none⟩)] w fun e w' => e = .returned (.int .i64 (y + k)) ∧ w = w' := by
  go_enter Try.func104, Try.ntmps104
  go_wp2
  go_ret
  exact ⟨rfl, rfl⟩

theorem mapRot_eq (n : Int) (x : List Int) (k : Int) : ofMo n (x.map (fun p : Int => p + k)) = mapV n x 1 k := by
  unfold mapV
  congr 1
  apply List.map_congr_left
  intro p _
  rw [Int.one_mul]

set_option maxHeartbeats 800000 in
theorem implMovedRot (n : Int) (v : Value) (x : List Int) (k : Int) (q : Nat) (w : World) (hR : Rok n x) (hk : -1000 ≤ k) (hk' : k ≤ 1000) (hq : w.cell? ⟨q, 0, none⟩ = some (.int .i64 k)) (h : Ints w w.heap.size v x) :
    Calls Try.prog 102 #[.agg #[.int .i64 n, v], .func (.func 104) #[] #[.pointer (some ⟨q, 0, none⟩)]] w (RetRhythm w n (mapV n x 1 k)) := by
  have h1 := hR.lo
  have h2 := hR.hi
  have hlen := hR.len24
  have Hmap := Lib.hid (mapRot_eq n x k)
  have Hge := Lib.hid hR.ge
  have Hlt := Lib.hid hR.lt
  rcases h.open with ⟨rfl, a, cap, rfl⟩ | ⟨b, o, cap, rfl, hm, hpos, hB, hlt0, hc⟩
  · go_enter Try.func102, Try.ntmps102
    go_wp2
    refine wp_loop_rounds 1 ?_; rw [rounds_succ]
    go_wp2_with fail
    refine (implRhythmOf n _ [] _ h1 h2 (by simp) (by simp) (Own.nil _ 0).ints).mono ?_
    rintro e w1 ⟨a1, c1, rfl, ho1, hb1⟩
    have hx := (Bx.newAt (w.alloc (.cells #[.int .i64 n, .slice a 0 cap] 25)) (.int .i64 0) (.slice none 0 0) 25 (p := w.heap.size + 1) (by simp)).below hb1 (by simp)
    have p0 := hx.c0
    have p1 := hx.c1
    have f0 := hx.f 0
    have f1 := hx.f 1
    have hfin := (hx.set0 (.int .i64 n)).set1 (.slice a1 (ofMo n []).length c1)
    have r0 := hfin.c0
    have r1 := hfin.c1
    have HO1 := Lib.hid ho1
    have HB1 := Lib.hid (bel_step (((Below.refl w.heap.size w).alloc (Nat.le_refl _) _).alloc (by simp) _) hb1 (by simp; omega))
    clear ho1 hb1 hx hfin h
    go_wp2
    refine bodyPost_ret (v := .agg #[.int .i64 n, .slice a1 (ofMo n []).length c1]) ?_ rfl ?_
    · simp [results, Try.results102, go_sem, r0, r1]
    · have e := Hmap.out
      rw [List.map_nil] at e
      rw [← e]
      exact ⟨a1, c1, rfl, ((HO1.out.setc (by simp) _).setc (by simp) _).mono (by simp; omega), (HB1.out.setCell (by simp) _).setCell (by simp) _⟩
  · have hqs : q < w.heap.size := World.block_lt_of_cell? _ _ hq
    go_enter Try.func102, Try.ntmps102
    go_wp2
    go_loopw [5, 11] (fun s i wr => ∃ j : Nat, j ≤ x.length ∧ i = .int .i64 j ∧ (∃ a' c', s = .slice a' j c' ∧ Own wr (w.heap.size + 2) (.slice a' j c') ((x.take j).map (fun p : Int => p + k))) ∧ Bx wr w.heap.size (.int .i64 n) (.slice (some ⟨b, o, none⟩) x.length cap) 25 ∧ Bx wr (w.heap.size + 1) (.int .i64 0) (.slice none 0 0) 25 ∧ Below w.heap.size w wr) (fun _ i _ => x.length - (intOf i).toNat)
    case atStart => exact ⟨0, Nat.zero_le _, rfl, ⟨none, 0, rfl, Own.nil _ _⟩, by (repeat (first | (with_reducible refine Bx.newAt _ _ _ _ ?_; simp; done) | (with_reducible refine Bx.alloc ?_ _) | (with_reducible refine Bx.drew ?_) | (with_reducible refine Bx.drewN ?_ _))), by (repeat (first | (with_reducible refine Bx.newAt _ _ _ _ ?_; simp; done) | (with_reducible refine Bx.alloc ?_ _) | (with_reducible refine Bx.drew ?_) | (with_reducible refine Bx.drewN ?_ _))), by (repeat (first | (with_reducible exact (Below.refl _ _)) | (with_reducible refine bel_alloc ?_ _) | (with_reducible refine Below.drew ?_) | (with_reducible refine bel_drewN ?_ _) | (with_reducible refine Below.setCell ?_ (by simp) _)))⟩
    case round =>
      obtain ⟨j, hj, rfl, ⟨a', c', rfl, hown⟩, hbx, hres, hbel⟩ := hrel
      have hsz := hres.lt
      have HO := Lib.hid hown
      have HR := Lib.hid hres
      have HX := Lib.hid hbx
      have HB := Lib.hid hbel
      have q0 := hbx.c0
      have q1 := hbx.c1
      have hml : ((x.take j).map (fun p : Int => p + k)).length = j := by simp; omega
      have HM := Lib.hid hml
      by_cases hlt : j < x.length
      · have hc1 : wr.cell? ⟨b, o + j, none⟩ = some (.int .i64 x[j]) := by
          have := ((bcell hbel).1 _ _ hlt0).trans (hc j hlt)
          rwa [getD_get hlt] at this
        have hqr : wr.cell? ⟨q, 0, none⟩ = some (.int .i64 k) := ((bcell hbel).1 _ _ hqs).trans hq
        have Hn := Lib.hid (take_map_succ (fun p : Int => p + k) hlt)
        have y1 := Hge.out _ (List.getElem_mem hlt)
        have y2 := Hlt.out _ (List.getElem_mem hlt)
        have y3 : x[j] ≤ 24 := by omega
        clear hown hbx hres hbel hml
        go_wp2_with (first | (go_at_call 104; refine (implRot1 _ _ _ _ y1 y3 hk hk' hqr).mono ?_; rintro e w' ⟨rfl, rfl⟩) | (at_builtin; refine wpAppInt rfl _ _ rfl (w.heap.size + 2) a' j c' ((x.take j).map (fun p : Int => p + k)) _ rfl rfl HO.out HM.out (by omega) (by omega) ?_; intro a1 c1 w1 ho1 hb1))
        have ho2 := ho1
        rw [← Hn.out] at ho2
        have HO1 := Lib.hid ho2
        have HR1 := Lib.hid (HR.out.below hb1 (by omega))
        have HX1 := Lib.hid (HX.out.below hb1 (by omega))
        have HB1 := Lib.hid (HB.out.trans (hb1.mono (by omega)))
        clear ho1 ho2 hb1
        go_roundw
        case rel => exact ⟨j + 1, by omega, by go_num, ⟨a1, c1, rfl, HO1.out⟩, HX1.out, HR1.out, HB1.out⟩
        case measure => simp [intOf]; omega
      · have e : j = x.length := by omega
        subst e
        rw [List.take_length] at hown
        have HI := Lib.hid hown.ints
        have hlm : (x.map (fun p : Int => p + k)).length ≤ 1048576 := by simp; omega
        have HL := Lib.hid hlm
        have hlb : ∀ z ∈ x.map (fun p : Int => p + k), I64 z := by
          intro z hz
          obtain ⟨y, hy, rfl⟩ := List.mem_map.1 hz
          have y1 := Hge.out _ hy
          have y2 := Hlt.out _ hy
          constructor <;> omega
        have HLB := Lib.hid hlb
        clear hown hres hbx hbel hml HO hlm hlb
        go_wp2_with fail
        refine (implRhythmOf n _ (x.map (fun p : Int => p + k)) _ h1 h2 HL.out HLB.out HI.out).mono ?_
        rintro e w1 ⟨a1, c1, rfl, ho1, hb1⟩
        have hx := HR.out.below hb1 hsz
        have p0 := hx.c0
        have p1 := hx.c1
        have f0 := hx.f 0
        have f1 := hx.f 1
        have HO1 := Lib.hid ho1
        have HB1 := Lib.hid (bel_step HB.out hb1 (by omega))
        have hfin := (hx.set0 (.int .i64 n)).set1 (.slice a1 (ofMo n (x.map (fun p : Int => p + k))).length c1)
        have r0 := hfin.c0
        have r1 := hfin.c1
        clear ho1 hb1 hx hfin
        go_wp2
        refine bodyPost_ret (v := .agg #[.int .i64 n, .slice a1 (ofMo n (x.map (fun p : Int => p + k))).length c1]) ?_ rfl ?_
        · simp [results, Try.results102, go_sem, r0, r1]
        · rw [← Hmap.out]
          exact ⟨a1, c1, rfl, ((HO1.out.setc (by simp; omega) _).setc (by simp; omega) _).mono (by omega), (HB1.out.setCell (by simp) _).setCell (by simp) _⟩

set_option maxHeartbeats 800000 in
theorem implRotated (n : Int) (v : Value) (x : List Int) (k : Int) (w : World) (hR : Rok n x) (hk : -1000 ≤ k) (hk' : k ≤ 1000) (h : Ints w w.heap.size v x) :
    Calls Try.prog 63 #[.agg #[.int .i64 n, v], .int .i64 k] w (RetRhythm w n (mapV n x 1 k)) := by
  have h' := h
  obtain ⟨a, cap, rfl, -⟩ := h'
  have hmf : ∀ (fn : Fn) (first cap : Array Value) (w : World), (Instr.makeFunc fn first cap).run Try.prog w = .ok (.func fn first cap) w := fun _ _ _ _ => rfl
  go_enter Try.func63, Try.ntmps63
  go_wp2_with fail
  refine withWorld fun X hX => ?_
  have hB : Below w.heap.size w X := by rw [hX]; (repeat (first | (with_reducible exact (Below.refl _ _)) | (with_reducible refine bel_alloc ?_ _) | (with_reducible refine Below.drew ?_) | (with_reducible refine bel_drewN ?_ _) | (with_reducible refine Below.setCell ?_ (by simp) _)))
  have hx : Bx X (w.heap.size + 2) (.int .i64 0) (.slice none 0 0) 25 := by rw [hX]; (repeat (first | (with_reducible refine Bx.newAt _ _ _ _ ?_; simp; done) | (with_reducible refine Bx.alloc ?_ _) | (with_reducible refine Bx.drew ?_) | (with_reducible refine Bx.drewN ?_ _)))
  have hq : X.cell? ⟨w.heap.size + 1, 0, none⟩ = some (.int .i64 k) := by
    rw [hX]
    exact cellAlloc _ (cellNewAt _ _ _ 0 (by simp) rfl)
  clear hX
  refine (implMovedRot _ _ x _ _ _ hR hk hk' hq (Ints.ofBelow h hB)).mono ?_
  rintro e w1 ⟨b1, c1, rfl, ho1, hb1⟩
  have hx1 := hx.below hb1 hx.lt
  have p0 := hx1.c0
  have p1 := hx1.c1
  have f0 := hx1.f 0
  have f1 := hx1.f 1
  have hfin := (hx1.set0 (.int .i64 n)).set1 (.slice b1 (mapV n x 1 k).length c1)
  have r0 := hfin.c0
  have r1 := hfin.c1
  have HO1 := Lib.hid (ho1.mono (show w.heap.size + 2 + 1 ≤ X.heap.size from hx.lt))
  have HB1 := Lib.hid (bel_step hB hb1 hB.size)
  clear ho1 hb1 hx hx1 hfin hB hq
  go_wp2
  refine bodyPost_ret (v := .agg #[.int .i64 n, .slice b1 (mapV n x 1 k).length c1]) ?_ rfl ?_
  · simp [results, Try.results63, go_sem, r0, r1]
  · exact ⟨b1, c1, rfl, ((HO1.out.setc (by (first | omega | (simp; done) | (simp; omega))) _).setc (by (first | omega | (simp; done) | (simp; omega))) _).mono (by omega), (HB1.out.setCell (by (first | omega | (simp; done) | (simp; omega))) _).setCell (by (first | omega | (simp; done) | (simp; omega))) _⟩

theorem implMir1 (y : Int) (w : World) (hy : 0 ≤ y) (hy' : y ≤ 24)  :
    Calls Try.prog 103 #[.int .i64 y] w fun e w' => e = .returned (.int .i64 (-y)) ∧ w = w' := by
  go_enter Try.func103, Try.ntmps103
  go_wp2
  go_ret
  exact ⟨rfl, rfl⟩

theorem mapMir_eq (n : Int) (x : List Int) : ofMo n (x.map (fun p : Int => -p)) = mapV n x (-1) 0 := by
  unfold mapV
  congr 1
  apply List.map_congr_left
  intro p _
  omega

set_option maxHeartbeats 800000 in
theorem implMovedMir (n : Int) (v : Value) (x : List Int) (w : World) (hR : Rok n x)  (h : Ints w w.heap.size v x) :
    Calls Try.prog 102 #[.agg #[.int .i64 n, v], .func (.func 103) #[] #[]] w (RetRhythm w n (mapV n x (-1) 0)) := by
  have h1 := hR.lo
  have h2 := hR.hi
  have hlen := hR.len24
  have Hmap := Lib.hid (mapMir_eq n x)
  have Hge := Lib.hid hR.ge
  have Hlt := Lib.hid hR.lt
  rcases h.open with ⟨rfl, a, cap, rfl⟩ | ⟨b, o, cap, rfl, hm, hpos, hB, hlt0, hc⟩
  · go_enter Try.func102, Try.ntmps102
    go_wp2
    refine wp_loop_rounds 1 ?_; rw [rounds_succ]
    go_wp2_with fail
    refine (implRhythmOf n _ [] _ h1 h2 (by simp) (by simp) (Own.nil _ 0).ints).mono ?_
    rintro e w1 ⟨a1, c1, rfl, ho1, hb1⟩
    have hx := (Bx.newAt (w.alloc (.cells #[.int .i64 n, .slice a 0 cap] 25)) (.int .i64 0) (.slice none 0 0) 25 (p := w.heap.size + 1) (by simp)).below hb1 (by simp)
    have p0 := hx.c0
    have p1 := hx.c1
    have f0 := hx.f 0
    have f1 := hx.f 1
    have hfin := (hx.set0 (.int .i64 n)).set1 (.slice a1 (ofMo n []).length c1)
    have r0 := hfin.c0
    have r1 := hfin.c1
    have HO1 := Lib.hid ho1
    have HB1 := Lib.hid (bel_step (((Below.refl w.heap.size w).alloc (Nat.le_refl _) _).alloc (by simp) _) hb1 (by simp; omega))
    clear ho1 hb1 hx hfin h
    go_wp2
    refine bodyPost_ret (v := .agg #[.int .i64 n, .slice a1 (ofMo n []).length c1]) ?_ rfl ?_
    · simp [results, Try.results102, go_sem, r0, r1]
    · have e := Hmap.out
      rw [List.map_nil] at e
      rw [← e]
      exact ⟨a1, c1, rfl, ((HO1.out.setc (by simp) _).setc (by simp) _).mono (by simp; omega), (HB1.out.setCell (by simp) _).setCell (by simp) _⟩
  · have htr : True := trivial
    go_enter Try.func102, Try.ntmps102
    go_wp2
    go_loopw [5, 11] (fun s i wr => ∃ j : Nat, j ≤ x.length ∧ i = .int .i64 j ∧ (∃ a' c', s = .slice a' j c' ∧ Own wr (w.heap.size + 2) (.slice a' j c') ((x.take j).map (fun p : Int => -p))) ∧ Bx wr w.heap.size (.int .i64 n) (.slice (some ⟨b, o, none⟩) x.length cap) 25 ∧ Bx wr (w.heap.size + 1) (.int .i64 0) (.slice none 0 0) 25 ∧ Below w.heap.size w wr) (fun _ i _ => x.length - (intOf i).toNat)
    case atStart => exact ⟨0, Nat.zero_le _, rfl, ⟨none, 0, rfl, Own.nil _ _⟩, by (repeat (first | (with_reducible refine Bx.newAt _ _ _ _ ?_; simp; done) | (with_reducible refine Bx.alloc ?_ _) | (with_reducible refine Bx.drew ?_) | (with_reducible refine Bx.drewN ?_ _))), by (repeat (first | (with_reducible refine Bx.newAt _ _ _ _ ?_; simp; done) | (with_reducible refine Bx.alloc ?_ _) | (with_reducible refine Bx.drew ?_) | (with_reducible refine Bx.drewN ?_ _))), by (repeat (first | (with_reducible exact (Below.refl _ _)) | (with_reducible refine bel_alloc ?_ _) | (with_reducible refine Below.drew ?_) | (with_reducible refine bel_drewN ?_ _) | (with_reducible refine Below.setCell ?_ (by simp) _)))⟩
    case round =>
      obtain ⟨j, hj, rfl, ⟨a', c', rfl, hown⟩, hbx, hres, hbel⟩ := hrel
      have hsz := hres.lt
      have HO := Lib.hid hown
      have HR := Lib.hid hres
      have HX := Lib.hid hbx
      have HB := Lib.hid hbel
      have q0 := hbx.c0
      have q1 := hbx.c1
      have hml : ((x.take j).map (fun p : Int => -p)).length = j := by simp; omega
      have HM := Lib.hid hml
      by_cases hlt : j < x.length
      · have hc1 : wr.cell? ⟨b, o + j, none⟩ = some (.int .i64 x[j]) := by
          have := ((bcell hbel).1 _ _ hlt0).trans (hc j hlt)
          rwa [getD_get hlt] at this
        have htr2 : True := trivial
        have Hn := Lib.hid (take_map_succ (fun p : Int => -p) hlt)
        have y1 := Hge.out _ (List.getElem_mem hlt)
        have y2 := Hlt.out _ (List.getElem_mem hlt)
        have y3 : x[j] ≤ 24 := by omega
        clear hown hbx hres hbel hml
        go_wp2_with (first | (go_at_call 103; refine (implMir1 _ _ y1 y3).mono ?_; rintro e w' ⟨rfl, rfl⟩) | (at_builtin; refine wpAppInt rfl _ _ rfl (w.heap.size + 2) a' j c' ((x.take j).map (fun p : Int => -p)) _ rfl rfl HO.out HM.out (by omega) (by omega) ?_; intro a1 c1 w1 ho1 hb1))
        have ho2 := ho1
        rw [← Hn.out] at ho2
        have HO1 := Lib.hid ho2
        have HR1 := Lib.hid (HR.out.below hb1 (by omega))
        have HX1 := Lib.hid (HX.out.below hb1 (by omega))
        have HB1 := Lib.hid (HB.out.trans (hb1.mono (by omega)))
        clear ho1 ho2 hb1
        go_roundw
        case rel => exact ⟨j + 1, by omega, by go_num, ⟨a1, c1, rfl, HO1.out⟩, HX1.out, HR1.out, HB1.out⟩
        case measure => simp [intOf]; omega
      · have e : j = x.length := by omega
        subst e
        rw [List.take_length] at hown
        have HI := Lib.hid hown.ints
        have hlm : (x.map (fun p : Int => -p)).length ≤ 1048576 := by simp; omega
        have HL := Lib.hid hlm
        have hlb : ∀ z ∈ x.map (fun p : Int => -p), I64 z := by
          intro z hz
          obtain ⟨y, hy, rfl⟩ := List.mem_map.1 hz
          have y1 := Hge.out _ hy
          have y2 := Hlt.out _ hy
          constructor <;> omega
        have HLB := Lib.hid hlb
        clear hown hres hbx hbel hml HO hlm hlb
        go_wp2_with fail
        refine (implRhythmOf n _ (x.map (fun p : Int => -p)) _ h1 h2 HL.out HLB.out HI.out).mono ?_
        rintro e w1 ⟨a1, c1, rfl, ho1, hb1⟩
        have hx := HR.out.below hb1 hsz
        have p0 := hx.c0
        have p1 := hx.c1
        have f0 := hx.f 0
        have f1 := hx.f 1
        have HO1 := Lib.hid ho1
        have HB1 := Lib.hid (bel_step HB.out hb1 (by omega))
        have hfin := (hx.set0 (.int .i64 n)).set1 (.slice a1 (ofMo n (x.map (fun p : Int => -p))).length c1)
        have r0 := hfin.c0
        have r1 := hfin.c1
        clear ho1 hb1 hx hfin
        go_wp2
        refine bodyPost_ret (v := .agg #[.int .i64 n, .slice a1 (ofMo n (x.map (fun p : Int => -p))).length c1]) ?_ rfl ?_
        · simp [results, Try.results102, go_sem, r0, r1]
        · rw [← Hmap.out]
          exact ⟨a1, c1, rfl, ((HO1.out.setc (by simp; omega) _).setc (by simp; omega) _).mono (by omega), (HB1.out.setCell (by simp) _).setCell (by simp) _⟩

set_option maxHeartbeats 800000 in
theorem implMirrored (n : Int) (v : Value) (x : List Int) (w : World) (hR : Rok n x)  (h : Ints w w.heap.size v x) :
    Calls Try.prog 62 #[.agg #[.int .i64 n, v]] w (RetRhythm w n (mapV n x (-1) 0)) := by
  have h' := h
  obtain ⟨a, cap, rfl, -⟩ := h'
  have hmf : ∀ (fn : Fn) (first cap : Array Value) (w : World), (Instr.makeFunc fn first cap).run Try.prog w = .ok (.func fn first cap) w := fun _ _ _ _ => rfl
  go_enter Try.func62, Try.ntmps62
  go_wp2_with fail
  refine withWorld fun X hX => ?_
  have hB : Below w.heap.size w X := by rw [hX]; (repeat (first | (with_reducible exact (Below.refl _ _)) | (with_reducible refine bel_alloc ?_ _) | (with_reducible refine Below.drew ?_) | (with_reducible refine bel_drewN ?_ _) | (with_reducible refine Below.setCell ?_ (by simp) _)))
  have hx : Bx X (w.heap.size + 1) (.int .i64 0) (.slice none 0 0) 25 := by rw [hX]; (repeat (first | (with_reducible refine Bx.newAt _ _ _ _ ?_; simp; done) | (with_reducible refine Bx.alloc ?_ _) | (with_reducible refine Bx.drew ?_) | (with_reducible refine Bx.drewN ?_ _)))
  clear hX
  refine (implMovedMir _ _ x _ hR (Ints.ofBelow h hB)).mono ?_
  rintro e w1 ⟨b1, c1, rfl, ho1, hb1⟩
  have hx1 := hx.below hb1 hx.lt
  have p0 := hx1.c0
  have p1 := hx1.c1
  have f0 := hx1.f 0
  have f1 := hx1.f 1
  have hfin := (hx1.set0 (.int .i64 n)).set1 (.slice b1 (mapV n x (-1) 0).length c1)
  have r0 := hfin.c0
  have r1 := hfin.c1
  have HO1 := Lib.hid (ho1.mono (show w.heap.size + 1 + 1 ≤ X.heap.size from hx.lt))
  have HB1 := Lib.hid (bel_step hB hb1 hB.size)
  clear ho1 hb1 hx hx1 hfin hB
  go_wp2
  refine bodyPost_ret (v := .agg #[.int .i64 n, .slice b1 (mapV n x (-1) 0).length c1]) ?_ rfl ?_
  · simp [results, Try.results62, go_sem, r0, r1]
  · exact ⟨b1, c1, rfl, ((HO1.out.setc (by (first | omega | (simp; done) | (simp; omega))) _).setc (by (first | omega | (simp; done) | (simp; omega))) _).mono (by omega), (HB1.out.setCell (by (first | omega | (simp; done) | (simp; omega))) _).setCell (by (first | omega | (simp; done) | (simp; omega))) _⟩

theorem implStr1 (u : Int) (y : Int) (q : Nat) (w : World) (hy : 0 ≤ y) (hy' : y ≤ 24) (hk : 1 ≤ u) (hk' : u ≤ 24) (hq : w.cell? ⟨q, 0, none⟩ = some (.int .i64 u)) :
    Calls Try.prog 116 #[.int .i64 y, .pointer (some ⟨q, 0, none⟩)] w fun e w' => e = .returned (.int .i64 (u * y)) ∧ w = w' := by
  obtain ⟨m1, m2⟩ := mul_bd (u := u) (p := y) (by omega) hk' hy hy'
  go_enter Try.func116, Try.ntmps116
  go_wp2
  go_ret
  exact ⟨rfl, rfl⟩

theorem mapStr_eq (n : Int) (x : List Int) (u : Int) : ofMo n (x.map (fun p : Int => u * p)) = mapV n x u 0 := by
  unfold mapV
  congr 1
  apply List.map_congr_left
  intro p _
  omega

set_option maxHeartbeats 800000 in
theorem implMovedStr (n : Int) (v : Value) (x : List Int) (u : Int) (q : Nat) (w : World) (hR : Rok n x) (hk : 1 ≤ u) (hk' : u ≤ 24) (hq : w.cell? ⟨q, 0, none⟩ = some (.int .i64 u)) (h : Ints w w.heap.size v x) :
    Calls Try.prog 102 #[.agg #[.int .i64 n, v], .func (.func 116) #[] #[.pointer (some ⟨q, 0, none⟩)]] w (RetRhythm w n (mapV n x u 0)) := by
  have h1 := hR.lo
  have h2 := hR.hi
  have hlen := hR.len24
  have Hmap := Lib.hid (mapStr_eq n x u)
  have Hge := Lib.hid hR.ge
  have Hlt := Lib.hid hR.lt
  rcases h.open with ⟨rfl, a, cap, rfl⟩ | ⟨b, o, cap, rfl, hm, hpos, hB, hlt0, hc⟩
  · go_enter Try.func102, Try.ntmps102
    go_wp2
    refine wp_loop_rounds 1 ?_; rw [rounds_succ]
    go_wp2_with fail
    refine (implRhythmOf n _ [] _ h1 h2 (by simp) (by simp) (Own.nil _ 0).ints).mono ?_
    rintro e w1 ⟨a1, c1, rfl, ho1, hb1⟩
    have hx := (Bx.newAt (w.alloc (.cells #[.int .i64 n, .slice a 0 cap] 25)) (.int .i64 0) (.slice none 0 0) 25 (p := w.heap.size + 1) (by simp)).below hb1 (by simp)
    have p0 := hx.c0
    have p1 := hx.c1
    have f0 := hx.f 0
    have f1 := hx.f 1
    have hfin := (hx.set0 (.int .i64 n)).set1 (.slice a1 (ofMo n []).length c1)
    have r0 := hfin.c0
    have r1 := hfin.c1
    have HO1 := Lib.hid ho1
    have HB1 := Lib.hid (bel_step (((Below.refl w.heap.size w).alloc (Nat.le_refl _) _).alloc (by simp) _) hb1 (by simp; omega))
    clear ho1 hb1 hx hfin h
    go_wp2
    refine bodyPost_ret (v := .agg #[.int .i64 n, .slice a1 (ofMo n []).length c1]) ?_ rfl ?_
    · simp [results, Try.results102, go_sem, r0, r1]
    · have e := Hmap.out
      rw [List.map_nil] at e
      rw [← e]
      exact ⟨a1, c1, rfl, ((HO1.out.setc (by simp) _).setc (by simp) _).mono (by simp; omega), (HB1.out.setCell (by simp) _).setCell (by simp) _⟩
  · have hqs : q < w.heap.size := World.block_lt_of_cell? _ _ hq
    go_enter Try.func102, Try.ntmps102
    go_wp2
    go_loopw [5, 11] (fun s i wr => ∃ j : Nat, j ≤ x.length ∧ i = .int .i64 j ∧ (∃ a' c', s = .slice a' j c' ∧ Own wr (w.heap.size + 2) (.slice a' j c') ((x.take j).map (fun p : Int => u * p))) ∧ Bx wr w.heap.size (.int .i64 n) (.slice (some ⟨b, o, none⟩) x.length cap) 25 ∧ Bx wr (w.heap.size + 1) (.int .i64 0) (.slice none 0 0) 25 ∧ Below w.heap.size w wr) (fun _ i _ => x.length - (intOf i).toNat)
    case atStart => exact ⟨0, Nat.zero_le _, rfl, ⟨none, 0, rfl, Own.nil _ _⟩, by (repeat (first | (with_reducible refine Bx.newAt _ _ _ _ ?_; simp; done) | (with_reducible refine Bx.alloc ?_ _) | (with_reducible refine Bx.drew ?_) | (with_reducible refine Bx.drewN ?_ _))), by (repeat (first | (with_reducible refine Bx.newAt _ _ _ _ ?_; simp; done) | (with_reducible refine Bx.alloc ?_ _) | (with_reducible refine Bx.drew ?_) | (with_reducible refine Bx.drewN ?_ _))), by (repeat (first | (with_reducible exact (Below.refl _ _)) | (with_reducible refine bel_alloc ?_ _) | (with_reducible refine Below.drew ?_) | (with_reducible refine bel_drewN ?_ _) | (with_reducible refine Below.setCell ?_ (by simp) _)))⟩
    case round =>
      obtain ⟨j, hj, rfl, ⟨a', c', rfl, hown⟩, hbx, hres, hbel⟩ := hrel
      have hsz := hres.lt
      have HO := Lib.hid hown
      have HR := Lib.hid hres
      have HX := Lib.hid hbx
      have HB := Lib.hid hbel
      have q0 := hbx.c0
      have q1 := hbx.c1
      have hml : ((x.take j).map (fun p : Int => u * p)).length = j := by simp; omega
      have HM := Lib.hid hml
      by_cases hlt : j < x.length
      · have hc1 : wr.cell? ⟨b, o + j, none⟩ = some (.int .i64 x[j]) := by
          have := ((bcell hbel).1 _ _ hlt0).trans (hc j hlt)
          rwa [getD_get hlt] at this
        have hqr : wr.cell? ⟨q, 0, none⟩ = some (.int .i64 u) := ((bcell hbel).1 _ _ hqs).trans hq
        have Hn := Lib.hid (take_map_succ (fun p : Int => u * p) hlt)
        have y1 := Hge.out _ (List.getElem_mem hlt)
        have y2 := Hlt.out _ (List.getElem_mem hlt)
        have y3 : x[j] ≤ 24 := by omega
        clear hown hbx hres hbel hml
        go_wp2_with (first | (go_at_call 116; refine (implStr1 _ _ _ _ y1 y3 hk hk' hqr).mono ?_; rintro e w' ⟨rfl, rfl⟩) | (at_builtin; refine wpAppInt rfl _ _ rfl (w.heap.size + 2) a' j c' ((x.take j).map (fun p : Int => u * p)) _ rfl rfl HO.out HM.out (by omega) (by omega) ?_; intro a1 c1 w1 ho1 hb1))
        have ho2 := ho1
        rw [← Hn.out] at ho2
        have HO1 := Lib.hid ho2
        have HR1 := Lib.hid (HR.out.below hb1 (by omega))
        have HX1 := Lib.hid (HX.out.below hb1 (by omega))
        have HB1 := Lib.hid (HB.out.trans (hb1.mono (by omega)))
        clear ho1 ho2 hb1
        go_roundw
        case rel => exact ⟨j + 1, by omega, by go_num, ⟨a1, c1, rfl, HO1.out⟩, HX1.out, HR1.out, HB1.out⟩
        case measure => simp [intOf]; omega
      · have e : j = x.length := by omega
        subst e
        rw [List.take_length] at hown
        have HI := Lib.hid hown.ints
        have hlm : (x.map (fun p : Int => u * p)).length ≤ 1048576 := by simp; omega
        have HL := Lib.hid hlm
        have hlb : ∀ z ∈ x.map (fun p : Int => u * p), I64 z := by
          intro z hz
          obtain ⟨y, hy, rfl⟩ := List.mem_map.1 hz
          have y1 := Hge.out _ hy
          have y2 := Hlt.out _ hy
          obtain ⟨m1, m2⟩ := mul_bd (u := u) (p := y) (by omega) hk' y1 (by omega); constructor <;> omega
        have HLB := Lib.hid hlb
        clear hown hres hbx hbel hml HO hlm hlb
        go_wp2_with fail
        refine (implRhythmOf n _ (x.map (fun p : Int => u * p)) _ h1 h2 HL.out HLB.out HI.out).mono ?_
        rintro e w1 ⟨a1, c1, rfl, ho1, hb1⟩
        have hx := HR.out.below hb1 hsz
        have p0 := hx.c0
        have p1 := hx.c1
        have f0 := hx.f 0
        have f1 := hx.f 1
        have HO1 := Lib.hid ho1
        have HB1 := Lib.hid (bel_step HB.out hb1 (by omega))
        have hfin := (hx.set0 (.int .i64 n)).set1 (.slice a1 (ofMo n (x.map (fun p : Int => u * p))).length c1)
        have r0 := hfin.c0
        have r1 := hfin.c1
        clear ho1 hb1 hx hfin
        go_wp2
        refine bodyPost_ret (v := .agg #[.int .i64 n, .slice a1 (ofMo n (x.map (fun p : Int => u * p))).length c1]) ?_ rfl ?_
        · simp [results, Try.results102, go_sem, r0, r1]
        · rw [← Hmap.out]
          exact ⟨a1, c1, rfl, ((HO1.out.setc (by simp; omega) _).setc (by simp; omega) _).mono (by omega), (HB1.out.setCell (by simp) _).setCell (by simp) _⟩

set_option maxHeartbeats 800000 in
theorem implStretched (n : Int) (v : Value) (x : List Int) (u : Int) (w : World) (hR : Rok n x) (hk : 1 ≤ u) (hk' : u ≤ 24) (h : Ints w w.heap.size v x) :
    Calls Try.prog 86 #[.agg #[.int .i64 n, v], .int .i64 u] w (RetRhythm w n (mapV n x u 0)) := by
  have h' := h
  obtain ⟨a, cap, rfl, -⟩ := h'
  have hmf : ∀ (fn : Fn) (first cap : Array Value) (w : World), (Instr.makeFunc fn first cap).run Try.prog w = .ok (.func fn first cap) w := fun _ _ _ _ => rfl
  go_enter Try.func86, Try.ntmps86
  go_wp2_with fail
  refine withWorld fun X hX => ?_
  have hB : Below w.heap.size w X := by rw [hX]; (repeat (first | (with_reducible exact (Below.refl _ _)) | (with_reducible refine bel_alloc ?_ _) | (with_reducible refine Below.drew ?_) | (with_reducible refine bel_drewN ?_ _) | (with_reducible refine Below.setCell ?_ (by simp) _)))
  have hx : Bx X (w.heap.size + 2) (.int .i64 0) (.slice none 0 0) 25 := by rw [hX]; (repeat (first | (with_reducible refine Bx.newAt _ _ _ _ ?_; simp; done) | (with_reducible refine Bx.alloc ?_ _) | (with_reducible refine Bx.drew ?_) | (with_reducible refine Bx.drewN ?_ _)))
  have hq : X.cell? ⟨w.heap.size + 1, 0, none⟩ = some (.int .i64 u) := by
    rw [hX]
    exact cellAlloc _ (cellNewAt _ _ _ 0 (by simp) rfl)
  clear hX
  refine (implMovedStr _ _ x _ _ _ hR hk hk' hq (Ints.ofBelow h hB)).mono ?_
  rintro e w1 ⟨b1, c1, rfl, ho1, hb1⟩
  have hx1 := hx.below hb1 hx.lt
  have p0 := hx1.c0
  have p1 := hx1.c1
  have f0 := hx1.f 0
  have f1 := hx1.f 1
  have hfin := (hx1.set0 (.int .i64 n)).set1 (.slice b1 (mapV n x u 0).length c1)
  have r0 := hfin.c0
  have r1 := hfin.c1
  have HO1 := Lib.hid (ho1.mono (show w.heap.size + 2 + 1 ≤ X.heap.size from hx.lt))
  have HB1 := Lib.hid (bel_step hB hb1 hB.size)
  clear ho1 hb1 hx hx1 hfin hB hq
  go_wp2
  refine bodyPost_ret (v := .agg #[.int .i64 n, .slice b1 (mapV n x u 0).length c1]) ?_ rfl ?_
  · simp [results, Try.results86, go_sem, r0, r1]
  · exact ⟨b1, c1, rfl, ((HO1.out.setc (by (first | omega | (simp; done) | (simp; omega))) _).setc (by (first | omega | (simp; done) | (simp; omega))) _).mono (by omega), (HB1.out.setCell (by (first | omega | (simp; done) | (simp; omega))) _).setCell (by (first | omega | (simp; done) | (simp; omega))) _⟩

theorem specMap_eq (n : Int) (x : List Int) (u k : Int) : ofTo (x.map fun p => mo (u * p + k) n) n.toNat = mapV n x u k := by
  unfold mapV ofMo
  rw [List.map_map]; rfl

set_option maxHeartbeats 800000 in
theorem specL02Map (n : Int) (v : Value) (x : List Int) (u k : Int) (w : World) (hR : Rok n x) (hu : -1 ≤ u) (hu' : u ≤ 24) (hk : -1000 ≤ k) (hk' : k ≤ 1000) (h : Ints w w.heap.size v x) :
    Calls Try.prog 74 #[.agg #[.int .i64 n, v], .int .i64 u, .int .i64 k] w (RetRhythm w n (mapV n x u k)) := by
  have h1 := hR.lo
  have h2 := hR.hi
  have hlen := hR.len24
  have Hmap := Lib.hid (specMap_eq n x u k)
  have Hge := Lib.hid hR.ge
  have Hlt := Lib.hid hR.lt
  rcases h.open with ⟨rfl, a, cap, rfl⟩ | ⟨b, o, cap, rfl, hm, hpos, hB, hlt0, hc⟩
  · go_enter Try.func74, Try.ntmps74
    go_wp2
    refine wp_loop_rounds 1 ?_; rw [rounds_succ]
    go_wp2_with fail
    refine withWorld fun X hX => ?_
    have hB : Below w.heap.size w X := by rw [hX]; (repeat (first | (with_reducible exact (Below.refl _ _)) | (with_reducible refine bel_alloc ?_ _) | (with_reducible refine Below.drew ?_) | (with_reducible refine bel_drewN ?_ _) | (with_reducible refine Below.setCell ?_ (by simp) _)))
    have hx : Bx X (w.heap.size + 1) (.int .i64 0) (.slice none 0 0) 25 := by rw [hX]; (repeat (first | (with_reducible refine Bx.newAt _ _ _ _ ?_; simp; done) | (with_reducible refine Bx.alloc ?_ _) | (with_reducible refine Bx.drew ?_) | (with_reducible refine Bx.drewN ?_ _)))
    have hq0 : X.cell? ⟨w.heap.size, 0, none⟩ = some (.int .i64 n) := by rw [hX]; exact cellAlloc _ (cellAlloc _ (cellNew _ _ _ 0 rfl))
    clear hX
    refine (specL02Of n _ [] X (by omega) (by omega) ⟨_, _, rfl, Nat.le_refl _, Nat.zero_le _, .inl rfl⟩).mono ?_
    rintro e w1 ⟨a1, c1, rfl, ho1, hb1⟩
    have hx1 := hx.below hb1 hx.lt
    have p0 := hx1.c0
    have p1 := hx1.c1
    have f0 := hx1.f 0
    have f1 := hx1.f 1
    have hfin := (hx1.set0 (.int .i64 n)).set1 (.slice a1 (ofTo [] n.toNat).length c1)
    have r0 := hfin.c0
    have r1 := hfin.c1
    have HO1 := Lib.hid (ho1.mono (show w.heap.size + 2 ≤ X.heap.size from hx.lt))
    have HB1 := Lib.hid (bel_step hB hb1 hB.size)
    clear ho1 hb1 hx hx1 hfin h hB hq0
    go_wp2
    refine bodyPost_ret (v := .agg #[.int .i64 n, .slice a1 (ofTo [] n.toNat).length c1]) ?_ rfl ?_
    · simp [results, Try.results74, go_sem, r0, r1]
    · have e := Hmap.out
      rw [List.map_nil] at e
      rw [← e]
      exact ⟨a1, c1, rfl, ((HO1.out.setc (by simp) _).setc (by simp) _).mono (by omega), (HB1.out.setCell (by simp) _).setCell (by simp) _⟩
  · go_enter Try.func74, Try.ntmps74
    go_wp2
    have h0 : Own (((w.alloc (.cells #[.int .i64 n, .slice (some ⟨b, o, none⟩) x.length cap] 25)).alloc (.cells #[.int .i64 0, .slice none 0 0] 25)).alloc (.cells #[] 3)) (w.heap.size + 2) (.slice (some ⟨w.heap.size + 2, 0, none⟩) 0 0) [] := by
      have := World.ownsRow_lit (e := 3) (size := 1) ((w.alloc (.cells #[.int .i64 n, .slice (some ⟨b, o, none⟩) x.length cap] 25)).alloc (.cells #[.int .i64 0, .slice none 0 0] 25)) #[] 0 (base := w.heap.size + 2) (by simp) (Nat.zero_le _) rfl
      simpa [Own] using this
    go_loopw [7, 14] (fun s i wr => ∃ j : Nat, j ≤ x.length ∧ i = .int .i64 j ∧ (∃ a' c', s = .slice a' j c' ∧ Own wr (w.heap.size + 2) (.slice a' j c') ((x.take j).map fun p => mo (u * p + k) n)) ∧ Bx wr w.heap.size (.int .i64 n) (.slice (some ⟨b, o, none⟩) x.length cap) 25 ∧ Bx wr (w.heap.size + 1) (.int .i64 0) (.slice none 0 0) 25 ∧ Below w.heap.size w wr) (fun _ i _ => x.length - (intOf i).toNat)
    case atStart => exact ⟨0, Nat.zero_le _, rfl, ⟨_, 0, rfl, h0⟩, by (repeat (first | (with_reducible refine Bx.newAt _ _ _ _ ?_; simp; done) | (with_reducible refine Bx.alloc ?_ _) | (with_reducible refine Bx.drew ?_) | (with_reducible refine Bx.drewN ?_ _))), by (repeat (first | (with_reducible refine Bx.newAt _ _ _ _ ?_; simp; done) | (with_reducible refine Bx.alloc ?_ _) | (with_reducible refine Bx.drew ?_) | (with_reducible refine Bx.drewN ?_ _))), by (repeat (first | (with_reducible exact (Below.refl _ _)) | (with_reducible refine bel_alloc ?_ _) | (with_reducible refine Below.drew ?_) | (with_reducible refine bel_drewN ?_ _) | (with_reducible refine Below.setCell ?_ (by simp) _)))⟩
    case round =>
      obtain ⟨j, hj, rfl, ⟨a', c', rfl, hown⟩, hbx, hres, hbel⟩ := hrel
      clear h0
      have hsz := hres.lt
      have HO := Lib.hid hown
      have HR := Lib.hid hres
      have HX := Lib.hid hbx
      have HB := Lib.hid hbel
      have q0 := hbx.c0
      have q1 := hbx.c1
      have hml : ((x.take j).map fun p => mo (u * p + k) n).length = j := by simp; omega
      have HM := Lib.hid hml
      by_cases hlt : j < x.length
      · have hc1 : wr.cell? ⟨b, o + j, none⟩ = some (.int .i64 x[j]) := by
          have := ((bcell hbel).1 _ _ hlt0).trans (hc j hlt)
          rwa [getD_get hlt] at this
        have Hn := Lib.hid (take_map_succ (fun p => mo (u * p + k) n) hlt)
        have y1 := Hge.out _ (List.getElem_mem hlt)
        have y2 := Hlt.out _ (List.getElem_mem hlt)
        obtain ⟨m1, m2⟩ := mul_bd (u := u) (p := x[j]) hu hu' y1 (by omega)
        clear hown hbx hres hbel hml
        go_wp2_with (first | (go_at_call 108; refine (specL02Mod _ _ _ h1 (by omega) ⟨by omega, by omega⟩).mono ?_; rintro e w' ⟨rfl, rfl⟩) | (at_builtin; refine wpAppInt rfl _ _ rfl (w.heap.size + 2) a' j c' ((x.take j).map fun p => mo (u * p + k) n) _ rfl rfl HO.out HM.out (by omega) (by omega) ?_; intro a1 c1 w1 ho1 hb1))
        have ho2 := ho1
        rw [← Hn.out] at ho2
        have HO1 := Lib.hid ho2
        have HR1 := Lib.hid (HR.out.below hb1 (by omega))
        have HX1 := Lib.hid (HX.out.below hb1 (by omega))
        have HB1 := Lib.hid (HB.out.trans (hb1.mono (by omega)))
        clear ho1 ho2 hb1
        go_roundw
        case rel => exact ⟨j + 1, by omega, by go_num, ⟨a1, c1, rfl, HO1.out⟩, HX1.out, HR1.out, HB1.out⟩
        case measure => simp [intOf]; omega
      · have e : j = x.length := by omega
        subst e
        rw [List.take_length] at hown
        have HI := Lib.hid hown.ints
        clear hown hres hbx hbel hml HO
        go_wp2_with fail
        refine (specL02Of n _ (x.map fun p => mo (u * p + k) n) _ (by omega) (by omega) HI.out).mono ?_
        rintro e w1 ⟨a1, c1, rfl, ho1, hb1⟩
        have hx := HR.out.below hb1 hsz
        have p0 := hx.c0
        have p1 := hx.c1
        have f0 := hx.f 0
        have f1 := hx.f 1
        have HO1 := Lib.hid ho1
        have HB1 := Lib.hid (bel_step HB.out hb1 (by omega))
        have hfin := (hx.set0 (.int .i64 n)).set1 (.slice a1 (ofTo (x.map fun p => mo (u * p + k) n) n.toNat).length c1)
        have r0 := hfin.c0
        have r1 := hfin.c1
        clear ho1 hb1 hx hfin
        go_wp2
        refine bodyPost_ret (v := .agg #[.int .i64 n, .slice a1 (ofTo (x.map fun p => mo (u * p + k) n) n.toNat).length c1]) ?_ rfl ?_
        · simp [results, Try.results74, go_sem, r0, r1]
        · rw [← Hmap.out]
          exact ⟨a1, c1, rfl, ((HO1.out.setc (by simp; omega) _).setc (by simp; omega) _).mono (by omega), (HB1.out.setCell (by simp) _).setCell (by simp) _⟩
end Go.Proofs.Ytopfenhphnmfkaa
