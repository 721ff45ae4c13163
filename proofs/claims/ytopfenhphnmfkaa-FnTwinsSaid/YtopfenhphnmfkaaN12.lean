/-
  Contracts of slices.Concat at two lists of integers and of JoinRhythms, in the program and in the reference.
  Conditions: lists lie in memory, shorter than two to the twentieth.
-/
import Derived.Test.YtopfenhphnmfkaaN2
import Derived.Test.YtopfenhphnmfkaaB3
import Derived.Test.YtopfenhphnmfkaaSg
import Derived.Test.YtopfenhphnmfkaaE2
import Derived.Test.YtopfenhphnmfkaaM12
set_option linter.unusedVariables false
set_option linter.unusedSimpArgs false
namespace Go.Proofs.Ytopfenhphnmfkaa
open Go.RowKit Go.Shelf

theorem implGrowNil (m : Nat) (w : World) (hm : m ≤ 2097152) :
    Calls Try.prog 114 #[.slice none 0 0, .int .i64 m] w fun e w' => ∃ a c, e = .returned (.slice a 0 c) ∧ Own w' w.heap.size (.slice a 0 c) [] ∧ Below w.heap.size w w' := by
  by_cases h0 : m = 0
  · subst h0
    refine Calls.mono (Any8.slices_Grow_room Try.laysGrow none 0 0 0 w (by omega) (by omega) (by omega) (by omega)) ?_
    rintro e w' ⟨rfl, rfl⟩
    exact ⟨none, 0, rfl, Own.nil _ _, Below.refl _ _⟩
  · obtain ⟨i0, hi, hz0, hz1, hz2⟩ := infoSlInt
    refine Calls.mono (Any8.slices_Grow_grow Try.laysGrow i0 (.int .i64 0) hi hz0 (by omega) none 0 0 m [] w (by omega) (by omega) (by rw [hz2]; omega) (by omega) (by simp) (fun _ => rfl) (by intro a h; cases h)) ?_
    rintro e w' ⟨rfl, rfl⟩
    refine ⟨_, _, rfl, ?_, ?_⟩
    · have hg := grownCap_ge w (0 + m) 0 (Try.laysGrow_ren.t 25)
      have hl := grownCap_le_maxLen w (0 + m) 0 (Try.laysGrow_ren.t 25) (by unfold maxLen; omega)
      exact World.ownsRow_made (e := 3) (size := 1) (base := w.heap.size) w.drew _ _ (Nat.le_refl _) hl (by
        rw [Nat.zero_add] at hg ⊢
        simp only [Array.size_append, size_zeroCells, Value.cells]
        simp
        omega)
    · exact ((Below.refl w.heap.size w).drew).alloc (Nat.le_refl _) _

set_option maxHeartbeats 800000 in
theorem implConcat (p : Nat) (u v : Value) (x y : List Int) (w : World) (lx : x.length ≤ 1048576) (ly : y.length ≤ 1048576) (hu : Ints w w.heap.size u x) (hv : Ints w w.heap.size v y)
    (c0 : w.cell? ⟨p, 0, none⟩ = some u) (c1 : w.cell? ⟨p, 1, none⟩ = some v) (hp : p < w.heap.size) :
    Calls Try.prog 84 #[.slice (some ⟨p, 0, none⟩) 2 2] w (RetOwn w (x ++ y)) := by
  have hu' := hu
  have hv' := hv
  obtain ⟨a, cap, rfl, -⟩ := hu
  obtain ⟨a', cap', rfl, -⟩ := hv
  have hw1 : IntKind.i64.wrap ((0 : Int) + (x.length : Int)) = ((x.length : Nat) : Int) := by rw [IntWalk.i64_in _ (by omega)]; omega
  have hw2 : IntKind.i64.wrap ((x.length : Int) + (y.length : Int)) = ((x.length + y.length : Nat) : Int) := by rw [IntWalk.i64_in _ (by omega)]; omega
  go_enter Try.func84, Try.ntmps84
  go_wp2
  refine wp_loop_rounds 3 ?_
  rw [rounds_succ]
  go_wp2
  rw [rounds_succ]
  go_wp2
  rw [rounds_succ]
  go_wp2_with fail
  refine (implGrowNil (x.length + y.length) _ (by omega)).mono ?_
  rintro e w1 ⟨g, c, rfl, ho1, hb1⟩
  have q0 := cellAfter hb1 c0
  have q1 := cellAfter hb1 c1
  have HO1 := Lib.hid ho1
  have HB1 := Lib.hid hb1
  clear ho1 hb1
  go_wp2
  refine wp_loop_rounds 3 ?_
  rw [rounds_succ]
  go_wp2_with (first | (at_builtin; refine wpAppInts rfl (.tmp 31) (.tmp 32) rfl w.heap.size _ _ [] x rfl rfl HO1.out ⟨_, Ints.ofBelow hu' HB1.out⟩ (by (first | omega | (simp; done) | (simp; omega))) HB1.out.size ?_; intro a2 c2 w2 ho2 hb2))
  have s1 : w2.cell? ⟨p, 1, none⟩ = some (.slice a' y.length cap') := ((bcell hb2).1 _ _ hp).trans q1
  have HO2 := Lib.hid ho2
  have HB2 := Lib.hid (HB1.out.trans hb2)
  clear ho2 hb2
  rw [rounds_succ]
  go_wp2_with (first | (at_builtin; refine wpAppInts rfl (.tmp 31) (.tmp 32) rfl w.heap.size _ _ ([] ++ x) y rfl rfl HO2.out ⟨_, Ints.ofBelow hv' HB2.out⟩ (by (first | omega | (simp; done) | (simp; omega))) HB2.out.size ?_; intro a3 c3 w3 ho3 hb3))
  have HO3 := Lib.hid ho3
  have HB3 := Lib.hid (HB2.out.trans hb3)
  clear ho3 hb3
  rw [rounds_succ]
  go_wp2
  go_ret
  exact .mk (v := .slice a3 (x.length + y.length) c3) rfl (by have := HO3.out; simpa using this) HB3.out

def lstJoinRhythms (n : Int) (x : List Int) (m : Int) (y : List Int) : List Int := if sameSz n m x y then ofMo n (x ++ y) else []
def numJoinRhythms (n : Int) (x : List Int) (m : Int) (y : List Int) : Int := if sameSz n m x y then n else 0
def okJoinRhythms (n : Int) (x : List Int) (m : Int) (y : List Int) : Bool := sameSz n m x y
theorem join_no {n m : Int} {x y : List Int} (h : sameSz n m x y = false) : numJoinRhythms n x m y = 0 ∧ lstJoinRhythms n x m y = [] ∧ okJoinRhythms n x m y = false := by simp [numJoinRhythms, lstJoinRhythms, okJoinRhythms, h]
theorem join_yes {n m : Int} {x y : List Int} (h : sameSz n m x y = true) : numJoinRhythms n x m y = n ∧ lstJoinRhythms n x m y = ofMo n (x ++ y) ∧ okJoinRhythms n x m y = true := by simp [numJoinRhythms, lstJoinRhythms, okJoinRhythms, h]
theorem lenJoinRhythms (n : Int) (x : List Int) (m : Int) (y : List Int) : (lstJoinRhythms n x m y).length ≤ 24 := by
  cases hs : sameSz n m x y with
  | false => rw [(join_no hs).2.1]; simp
  | true =>
    obtain ⟨hR, -, -⟩ := sameSz_iff.1 hs
    rw [(join_yes hs).2.1]
    exact ofMo_len hR.hi _

/-- Three boxes in a row: the two arguments' and the result's. -/
def Three (w : World) (u0 u1 v0 v1 r0 r1 : Value) (X : World) : Prop :=
  Below w.heap.size w X ∧ Bx X w.heap.size u0 u1 25 ∧ Bx X (w.heap.size + 1) v0 v1 25 ∧ Bx X (w.heap.size + 2) r0 r1 25
theorem Three.new (w : World) (u0 u1 v0 v1 r0 r1 : Value) : Three w u0 u1 v0 v1 r0 r1 (((w.alloc (.cells #[u0, u1] 25)).alloc (.cells #[v0, v1] 25)).alloc (.cells #[r0, r1] 25)) :=
  ⟨by (repeat (first | (with_reducible exact (Below.refl _ _)) | (with_reducible refine bel_alloc ?_ _) | (with_reducible refine Below.drew ?_) | (with_reducible refine bel_drewN ?_ _) | (with_reducible refine Below.setCell ?_ (by simp) _))), ((Bx.new _ _ _ _).alloc _).alloc _, (Bx.newAt _ _ _ _ (by simp)).alloc _, Bx.newAt _ _ _ _ (by simp)⟩
theorem Three.below {w X Y : World} {u0 u1 v0 v1 r0 r1 : Value} (h : Three w u0 u1 v0 v1 r0 r1 X) (b : Below X.heap.size X Y) : Three w u0 u1 v0 v1 r0 r1 Y :=
  ⟨bel_step h.1 b h.1.size, h.2.1.below b h.2.1.lt, h.2.2.1.below b h.2.2.1.lt, h.2.2.2.below b h.2.2.2.lt⟩
theorem Three.alloc {w X : World} {u0 u1 v0 v1 r0 r1 : Value} (h : Three w u0 u1 v0 v1 r0 r1 X) (o : Obj) : Three w u0 u1 v0 v1 r0 r1 (X.alloc o) :=
  ⟨bel_alloc h.1 o, h.2.1.alloc o, h.2.2.1.alloc o, h.2.2.2.alloc o⟩
theorem Three.drew {w X : World} {u0 u1 v0 v1 r0 r1 : Value} (h : Three w u0 u1 v0 v1 r0 r1 X) : Three w u0 u1 v0 v1 r0 r1 X.drew := ⟨h.1.drew, h.2.1, h.2.2.1, h.2.2.2⟩

set_option maxHeartbeats 4000000 in
theorem implJoinRhythmsC (n : Int) (u : Value) (x : List Int) (c : I64 n) (m : Int) (v : Value) (y : List Int) (d : I64 m) (w : World) (hu : Ints w w.heap.size u x) (hv : Ints w w.heap.size v y) :
    Calls Try.prog 45 #[.agg #[.int .i64 n, u], .agg #[.int .i64 m, v]] w (RetRhythm2 w (numJoinRhythms n x m y) (lstJoinRhythms n x m y) (okJoinRhythms n x m y)) := by
  have hu' := hu
  have hv' := hv
  obtain ⟨a, cap, rfl, -⟩ := hu
  obtain ⟨a', cap', rfl, -⟩ := hv
  have H0 := Lib.hid (Three.new w (.int .i64 n) (.slice a x.length cap) (.int .i64 m) (.slice a' y.length cap') (.int .i64 0) (.slice none 0 0))
  cases hs : sameSz n m x y with
  | false =>
    have Hs := Lib.hid hs
    have Hf := Lib.hid (join_no hs)
    clear hs
    go_enter Try.func45, Try.ntmps45
    go_wp2_with fail
    refine (implSameSizeC _ _ _ _ x y c d _ (Ints.ofBelow hu' H0.out.1) (Ints.ofBelow hv' H0.out.1)).mono ?_
    rintro e w1 ⟨rfl, b1⟩
    rw [Hs.out]
    have H1 := Lib.hid (H0.out.below b1)
    clear b1 H0
    have p0 := H1.out.2.2.2.c0
    have p1 := H1.out.2.2.2.c1
    have f0 := H1.out.2.2.2.f 0
    have f1 := H1.out.2.2.2.f 1
    have hfin := (H1.out.2.2.2.set0 (.int .i64 0)).set1 (.slice none 0 0)
    have r0 := hfin.c0
    have r1 := hfin.c1
    clear hfin
    go_wp2
    refine bodyPost_ret (v := .tuple #[.agg #[.int .i64 0, .slice none 0 0], .bool false]) ?_ rfl ?_
    · simp [results, Try.results45, go_sem, r0, r1]
    · exact .zero rfl ((H1.out.1.setCell (by (first | omega | (simp; done) | (simp; omega))) _).setCell (by (first | omega | (simp; done) | (simp; omega))) _) Hf.out.1 Hf.out.2.1 Hf.out.2.2
  | true =>
    have Hs := Lib.hid hs
    have Hf := Lib.hid (join_yes hs)
    obtain ⟨hR1, hR2, hnm⟩ := sameSz_iff.1 hs
    have Hb := Lib.hid (show ∀ z ∈ x ++ y, I64 z from fun z hz => by
      rcases List.mem_append.1 hz with h | h
      · exact ⟨by have := hR1.ge z h; omega, by have := hR1.lt z h; have := hR1.hi; omega⟩
      · exact ⟨by have := hR2.ge z h; omega, by have := hR2.lt z h; have := hR2.hi; omega⟩)
    have Hl := Lib.hid (show x.length ≤ 24 ∧ y.length ≤ 24 from ⟨hR1.len24, hR2.len24⟩)
    have hlo := hR1.lo
    have hhi := hR1.hi
    clear hs hnm hR1 hR2
    go_enter Try.func45, Try.ntmps45
    go_wp2_with fail
    refine (implSameSizeC _ _ _ _ x y c d _ (Ints.ofBelow hu' H0.out.1) (Ints.ofBelow hv' H0.out.1)).mono ?_
    rintro e w1 ⟨rfl, b1⟩
    rw [Hs.out]
    have H1 := Lib.hid (H0.out.below b1).drew
    clear b1 H0
    go_wp2_with fail
    have a0 := H1.out.2.1.c0
    have a1 := H1.out.2.1.c1
    have a2 := H1.out.2.2.1.c0
    have a3 := H1.out.2.2.1.c1
    have y0 : w.heap.size < w1.heap.size := H1.out.2.1.lt
    have y1 : w.heap.size + 1 < w1.heap.size := H1.out.2.2.1.lt
    have a4 : w1.cell? ⟨w.heap.size, 0, none⟩ = some (.int .i64 n) := a0
    go_region_with (first
      | (go_at_call 84; refine (implConcat _ _ _ x y _ (by have := Hl.out; omega) (by have := Hl.out; omega) (Ints.ofBelow hu' (H1.out.alloc _).1) (Ints.ofBelow hv' (H1.out.alloc _).1) (cellNew _ _ _ _ rfl) (cellNew _ _ _ _ rfl) (by simp)).mono ?_; rintro e w2 ⟨g1, c1, rfl, o1, b2⟩; rw [List.length_append] at o1; have H2 := Lib.hid ((H1.out.alloc (.cells #[.slice a x.length cap, .slice a' y.length cap'] 23)).below b2); have e0 := H2.out.2.1.c0; have e1 := H2.out.2.1.c1; have e2 := H2.out.2.2.1.c0; have e3 := H2.out.2.2.1.c1)
      | (go_at_call 83; refine (implRhythmOf _ _ (x ++ y) _ hlo hhi (by rw [List.length_append]; have := Hl.out; omega) Hb.out o1.ints).mono ?_; rintro e w3 ⟨g2, c2, rfl, o2, b3⟩; have H3 := Lib.hid (H2.out.below b3); have p0 := H3.out.2.2.2.c0; have p1 := H3.out.2.2.2.c1; have f0 := H3.out.2.2.2.f 0; have f1 := H3.out.2.2.2.f 1))
    all_goals
      have hfin := (H3.out.2.2.2.set0 (.int .i64 n)).set1 (.slice g2 (ofMo n (x ++ y)).length c2)
      have r0 := hfin.c0
      have r1 := hfin.c1
      have HO2 := Lib.hid (o2.mono (show w.heap.size + 3 ≤ _ from H2.out.2.2.2.lt))
      clear hfin o1 o2 b2 b3
      go_wp2
      refine bodyPost_ret (v := .tuple #[.agg #[.int .i64 n, .slice g2 (ofMo n (x ++ y)).length c2], .bool true]) ?_ rfl ?_
      · simp [results, Try.results45, go_sem, r0, r1]
      · exact .one rfl (((HO2.out.setc (by (first | omega | (simp; done) | (simp; omega))) _).setc (by (first | omega | (simp; done) | (simp; omega))) _).mono (by omega)) rfl ((H3.out.1.setCell (by (first | omega | (simp; done) | (simp; omega))) _).setCell (by (first | omega | (simp; done) | (simp; omega))) _) Hf.out.1 Hf.out.2.1 Hf.out.2.2

theorem Three.below3 {w X Y : World} {u0 u1 v0 v1 r0 r1 : Value} (h : Three w u0 u1 v0 v1 r0 r1 X) (b : Below (w.heap.size + 3) X Y) : Three w u0 u1 v0 v1 r0 r1 Y :=
  ⟨h.1.trans (b.mono (by omega)), h.2.1.below b (by omega), h.2.2.1.below b (by omega), h.2.2.2.below b (by omega)⟩
theorem ofTo_ofMo {n : Int} {xs : List Int} (h1 : 1 ≤ n) (h : ∀ z ∈ xs, 0 ≤ z ∧ z < n) : ofTo xs n.toNat = ofMo n xs := by
  rw [← srt_mo h1 xs, ← srt_of (fun z hz => ⟨(h z hz).1, by have := (h z hz).2; omega⟩)]
  congr 1
  rw [List.map_congr_left (g := id) (fun z hz => by have := h z hz; unfold mo; exact Int.emod_eq_of_lt this.1 this.2)]
  simp

end Go.Proofs.Ytopfenhphnmfkaa
