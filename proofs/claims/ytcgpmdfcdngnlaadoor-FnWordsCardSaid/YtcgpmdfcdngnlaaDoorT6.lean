/-
  Slices of texts whose capacity was cut: the laws' marking of them; contracts of SplitLines, in the program and in the reference.
  Conditions: the text is no longer than two to the twentieth; for the program a variable of the library's holds some number.
-/
import Derived.Test.YtcgpmdfcdngnlaaDoorT5
import Derived.Test.YtcgpmdfcdngnlaaDoorShS
import Derived.Shelf.Vars
set_option linter.unusedVariables false
set_option linter.unusedSimpArgs false
namespace Go.Proofs.YtcgpmdfcdngnlaaDoor
open Go.RowKit

/-- An own slice of texts, whatever capacity the value shows. -/
def OwnX (w : World) (B : Nat) (v : Value) (xs : List ByteArray) : Prop :=
  ∃ g cap c, v = .slice (some ⟨g, 0, none⟩) xs.length c ∧ xs.length ≤ c ∧ c ≤ maxLen ∧ OwnS w B (.slice (some ⟨g, 0, none⟩) xs.length cap) xs
def SegX (w : World) (lo hi : Nat) (v : Value) (xs : List ByteArray) : Prop :=
  ∃ g cap c, v = .slice (some ⟨g, 0, none⟩) xs.length c ∧ xs.length ≤ c ∧ c ≤ maxLen ∧ OwnS w lo (.slice (some ⟨g, 0, none⟩) xs.length cap) xs ∧ g < hi
theorem OwnX.mono {w : World} {B B' : Nat} {v : Value} {xs : List ByteArray} (h : OwnX w B v xs) (hB : B' ≤ B) : OwnX w B' v xs := by
  obtain ⟨g, cap, c, h1, h2, h3, h4⟩ := h
  exact ⟨g, cap, c, h1, h2, h3, h4.mono hB⟩
theorem SegX.mk' {w : World} {lo : Nat} {v : Value} {xs : List ByteArray} (h : OwnX w lo v xs) : SegX w lo w.heap.size v xs := by
  obtain ⟨g, cap, c, h1, h2, h3, h4⟩ := h
  exact ⟨g, cap, c, h1, h2, h3, h4, (h4.lt g rfl).2⟩
theorem SegX.alloc {w : World} {lo hi : Nat} {v : Value} {xs : List ByteArray} (h : SegX w lo hi v xs) (o : Obj) : SegX (w.alloc o) lo hi v xs := by
  obtain ⟨g, cap, c, h1, h2, h3, h4, h5⟩ := h
  exact ⟨g, cap, c, h1, h2, h3, h4.alloc o, h5⟩
theorem SegX.drew {w : World} {lo hi : Nat} {v : Value} {xs : List ByteArray} (h : SegX w lo hi v xs) : SegX w.drew lo hi v xs := h
theorem SegX.drewN {w : World} {lo hi : Nat} {v : Value} {xs : List ByteArray} (h : SegX w lo hi v xs) (n : Nat) : SegX (w.drewN n) lo hi v xs := h
theorem SegX.after {X w1 : World} {lo hi : Nat} {v : Value} {xs : List ByteArray} (h : SegX X lo hi v xs) (b : Below X.heap.size X w1) : SegX w1 lo hi v xs := by
  obtain ⟨g, cap, c, h1, h2, h3, h4, h5⟩ := h
  exact ⟨g, cap, c, h1, h2, h3, h4.below b, h5⟩
theorem SegX.outside {X w1 : World} {lo hi lo' hi' : Nat} {v : Value} {xs : List ByteArray} (h : SegX X lo hi v xs) (b : Outside lo' hi' X w1) (hd : hi ≤ lo' ∨ hi' ≤ lo) : SegX w1 lo hi v xs := by
  obtain ⟨g, cap, c, h1, h2, h3, h4, h5⟩ := h
  have : SegS X lo hi (.slice (some ⟨g, 0, none⟩) xs.length cap) xs := ⟨h4, fun k hk => by simp [Value.ownBlock] at hk; omega⟩
  exact ⟨g, cap, c, h1, h2, h3, (this.outside b hd).1, h5⟩
theorem SegX.strs {w : World} {lo hi : Nat} {v : Value} {xs : List ByteArray} (h : SegX w lo hi v xs) : Strs w w.heap.size v xs := by
  obtain ⟨g, cap, c, rfl, h2, h3, h4, h5⟩ := h
  obtain ⟨a, cap', e, q1, q2, q⟩ := h4.strs
  injection e with e1 e2 e3
  subst e1
  exact ⟨_, c, rfl, h2, h3, q⟩
/-- What a function that makes such a slice leaves. -/
def RetOwnX (w : World) (xs : List ByteArray) (e : Ending) (w' : World) : Prop :=
  ∃ a c, e = .returned (.slice a xs.length c) ∧ OwnX w' w.heap.size (.slice a xs.length c) xs ∧ Below w.heap.size w w'
theorem OwnS.litL (w : World) (xs : List ByteArray) (h : xs.length ≤ maxLen) : OwnS (w.alloc (.cells (xs.map Value.string).toArray 9)) w.heap.size (.slice (some ⟨w.heap.size, 0, none⟩) xs.length xs.length) xs := by
  have := World.ownsRow_lit (base := w.heap.size) (e := 9) (size := 1) w (xs.map Value.string).toArray xs.length (Nat.le_refl _) h (by simp)
  simpa [OwnS] using this
/-- The last text is left out of view. -/
theorem OwnS.less {w : World} {B : Nat} {a : Option Addr} {cap n : Nat} {xs : List ByteArray} {z : ByteArray} (hn : n = xs.length + 1) (h : OwnS w B (.slice a n cap) (xs ++ [z])) : OwnS w B (.slice a xs.length cap) xs := by
  subst hn
  refine ⟨by simp, ?_⟩
  rcases h.2 with ⟨e, h0⟩ | ⟨g, cap', cur, e, hB, hg, hl, hm, hs, ht⟩
  · simp at h0
  · injection e with e1 e2 e3
    subst e1 e3
    refine .inr ⟨g, cap, cur, rfl, hB, hg, by simp at hl; omega, hm, hs, ?_⟩
    have h2 := congrArg (List.take xs.length) ht
    rw [List.take_take] at h2
    simp only [List.length_append, List.length_singleton, Nat.mul_one, List.map_append, List.map_cons, List.map_nil] at h2
    rw [Nat.min_eq_left (by omega), List.take_append_of_le_length (by simp), List.take_of_length_le (l := List.map Value.string xs) (by simp)] at h2
    rw [Nat.mul_one]
    exact h2

set_option maxRecDepth 20000 in
set_option maxHeartbeats 800000 in
theorem lawMarkStringSX (v : Value) (xs : List ByteArray) (k : Int) (w : World) (lo hi : Nat) (hl : xs.length ≤ 1073741824) (h0 : 0 ≤ k) (h1 : k ≤ 1073741824) (hhi : hi ≤ w.heap.size) (hv : SegX w lo hi v xs) :
    Calls Tryd.prog 14 #[v, .int .i64 k] w fun e w' => e = .returned (.int .i64 (k + (xs.length : Int))) ∧ SegX w' lo hi v (marksS k xs.length) ∧ Outside lo hi w w' := by
  obtain ⟨g, cap, c, rfl, hc0, hc1, ho, hgh⟩ := hv
  have hg : g < w.heap.size := (ho.lt g rfl).2
  have HC := Lib.hid hc0
  have HC1 := Lib.hid hc1
  have hlo := (ho.lt g rfl).1
  clear hc0 hc1
  go_enter Tryd.func14, Tryd.ntmps14
  go_wp2
  go_loopw [1, 5] (fun q i wr => ∃ j : Nat, j ≤ xs.length ∧ i = .int .i64 j ∧ q = .int .i64 (k + (j : Int)) ∧ OwnS wr lo (.slice (some ⟨g, 0, none⟩) xs.length cap) (markedS xs k j) ∧ Outside lo hi w wr) (fun _ i _ => xs.length - (intOf i).toNat)
  case atStart => exact ⟨0, Nat.zero_le _, rfl, by simp, by rw [markedS_zero]; exact ho, ⟨rfl, rfl, rfl, Nat.le_refl _, fun _ _ _ => rfl⟩⟩
  case round =>
    obtain ⟨j, hj, rfl, rfl, hown, hout⟩ := hrel
    by_cases hlt : j < xs.length
    · have HO := Lib.hid hown
      have HT := Lib.hid hout
      have HS := Lib.hid (markedS_succ xs k hlt)
      have HL := Lib.hid (markedS_len xs k hj)
      clear hown hout ho
      go_wp2_with (go_at_call 36; refine (lawMarkText' _ (by omega) (by omega) _).mono ?_; rintro e w1 ⟨rfl, hbel⟩; have o1 := HO.out.below hbel; have hcs := o1.cell (k := j) (by rw [HL.out]; exact hlt); have hcf := o1.free j; have HR := Lib.hid (o1.store _ j (mkS k j)); have HB := Lib.hid hbel; clear o1 hbel)
      go_roundw
      case rel =>
        refine ⟨j + 1, by omega, by go_num, by go_num, by rw [← HS.out]; exact HR.out, ?_⟩
        have hout := HT.out
        have hbel := HB.out
        refine ⟨by show w1.os = _; rw [hbel.os]; exact hout.os, by show w1.tape = _; rw [hbel.tape]; exact hout.tape, by show w1.output = _; rw [hbel.output]; exact hout.output, by have := hbel.size; have := hout.size; simp [World.setCell]; omega, fun b hb1 hb2 => ?_⟩
        rw [Below.heap_setCell _ _ _ _ (show b ≠ g by omega)]
        have := hout.size
        exact (hbel.block b (by omega)).trans (hout.block b hb1 hb2)
      case measure => simp [intOf]; omega
    · have e : j = xs.length := by omega
      subst e
      rw [markedS_all] at hown
      have HR := Lib.hid hown
      have HB := Lib.hid hout
      clear hown hout ho
      go_wp2
      go_ret
      refine ⟨rfl, ⟨g, cap, c, by rw [marksS_len], by rw [marksS_len]; exact HC.out, HC1.out, by rw [marksS_len]; exact HR.out, hgh⟩, HB.out⟩

/-! ### SplitLines -/
def NLB : ByteArray := ⟨#[10]⟩
def lstSplitLines (s : ByteArray) : List ByteArray := if s.extract (spTo s NLB s.size).2 s.size = ⟨#[]⟩ then (spTo s NLB s.size).1 else lstSplitAny s NLB
theorem lenSplitLines (s : ByteArray) : (lstSplitLines s).length ≤ s.size + 1 := by
  have h1 := lenSplitAny s NLB
  have h2 := spTo_len s NLB s.size
  unfold lstSplitLines
  split
  · omega
  · exact h1
theorem splitL_yes {s : ByteArray} {P : List ByteArray} {z : ByteArray} (hP : (spTo s NLB s.size).1 = P) (hz : s.extract (spTo s NLB s.size).2 s.size = z) (h : z = ⟨#[]⟩) : lstSplitLines s = P := by
  unfold lstSplitLines; rw [hz, if_pos h, hP]
theorem splitL_no {s : ByteArray} {P : List ByteArray} {z : ByteArray} (hP : (spTo s NLB s.size).1 = P) (hz : s.extract (spTo s NLB s.size).2 s.size = z) (h : ¬ z = ⟨#[]⟩) : lstSplitLines s = P ++ [z] := by
  unfold lstSplitLines lstSplitAny; rw [hz, if_neg h, hP]
theorem str_empty {z : ByteArray} (h : ¬ z = ⟨#[]⟩) : z.toList.isEmpty = false ∧ (z.toList == []) = false := by
  have h1 : z.toList ≠ [] := by
    intro e
    apply h
    rw [ByteArray.toList_eq] at e
    exact ByteArray.ext (Array.toList_inj.1 e)
  exact ⟨by simpa using h1, by simpa using h1⟩

theorem clipS (g n c : Nat) (hn : n ≤ c) (hc : c ≤ 9223372036854775807) (w : World) :
    Calls Tryd.prog 35 #[.slice (some ⟨g, 0, none⟩) n c] w fun e w' => e = .returned (.slice (some ⟨g, 0, none⟩) n n) ∧ w' = w := by
  go_enter Tryd.func35, Tryd.ntmps35
  go_wp2
  go_ret
  exact ⟨rfl, rfl⟩

/-- The library's variable holds some number. -/
def ML (w : World) : Prop := ∃ m, w.cell? ⟨2, 0, none⟩ = some (.int .i64 m)
theorem ML.below {w w' : World} (h : ML w) (hb : Below w.heap.size w w') : ML w' := by
  obtain ⟨m, hm⟩ := h
  exact ⟨m, cellAfter hb hm⟩
theorem parts (s : ByteArray) : ∃ (P : List ByteArray) (z : ByteArray), (spTo s NLB s.size).1 = P ∧ s.extract (spTo s NLB s.size).2 s.size = z ∧ lstSplitAny s NLB = P ++ [z] ∧ P.length ≤ s.size ∧ Lib.countB s NLB = P.length ∧ z.size ≤ s.size := by
  refine ⟨_, _, rfl, rfl, rfl, spTo_len _ _ _, ?_, ext_ok _ _ _⟩
  have h1 := Lib.splitB_all NLB (by decide) 0 _ s rfl
  have h2 := split_same s 10
  rw [show (⟨#[10]⟩ : ByteArray) = NLB from rfl] at h2
  rw [h2] at h1
  unfold lstSplitAny at h1
  simp at h1
  omega
theorem splitC (s : ByteArray) (hs : s.size ≤ 1048576) (w : World) (hM : ML w) {P : List ByteArray} {z : ByteArray} (hL : lstSplitAny s NLB = P ++ [z]) (hc : Lib.countB s NLB = P.length) (hP : P.length ≤ s.size) :
    Calls Tryd.prog 34 #[.string s, .string NLB] w fun e w' => e = .returned (.slice (some ⟨w.heap.size, 0, none⟩) (P.length + 1) (P.length + 1)) ∧ OwnS w' w.heap.size (.slice (some ⟨w.heap.size, 0, none⟩) (P.length + 1) (P.length + 1)) (P ++ [z]) ∧ Below w.heap.size w w' := by
  obtain ⟨m, hm⟩ := hM
  refine (Tryd.strings_Split s NLB m w (by omega) hm (by decide)).mono fun e w' ⟨he, hw⟩ => ?_
  have h2 := split_same s 10
  rw [show (⟨#[10]⟩ : ByteArray) = NLB from rfl] at h2
  rw [h2, hL] at hw
  rw [hc] at he
  subst hw
  have := OwnS.litL w (P ++ [z]) (by simp [maxLen]; omega)
  rw [List.length_append, List.length_singleton] at this
  exact ⟨he, this, (Below.refl _ _).alloc (Nat.le_refl _) _⟩

set_option maxRecDepth 20000 in
set_option maxHeartbeats 800000 in
theorem implSplitLinesC (s : ByteArray) (hs : s.size ≤ 1048576) (w : World) (hM : ML w) :
    Calls Tryd.prog 12 #[.string s] w (RetOwnX w (lstSplitLines s)) := by
  obtain ⟨P, z, hP, hz, hL, hPl, hc, hzs⟩ := parts s
  have HC := Lib.hid (splitC s hs w hM hL hc hPl)
  clear hM hL hc
  by_cases he : z = ⟨#[]⟩
  · rw [splitL_yes hP hz he]
    clear hP hz
    subst he
    go_enter Tryd.func12, Tryd.ntmps12
    go_wp2_with (first
      | (go_at_call 34; refine HC.out.mono ?_; rintro e w1 ⟨rfl, o1, b1⟩; have HO := Lib.hid o1; have HB := Lib.hid b1; have hcl := o1.cell (k := P.length) (by simp); have hg : w.heap.size < w1.heap.size := (o1.lt _ rfl).2; clear o1 b1)
      | (go_at_call 35; refine (clipS _ _ _ (by omega) (by omega) _).mono ?_; rintro e w2 ⟨rfl, rfl⟩))
    go_ret
    exact ⟨_, _, rfl, ⟨_, _, _, rfl, Nat.le_refl _, by unfold maxLen; omega, HO.out.less rfl⟩, HB.out⟩
  · rw [splitL_no hP hz he]
    obtain ⟨n1, n2⟩ := str_empty he
    clear hP hz he
    go_enter Tryd.func12, Tryd.ntmps12
    go_wp2_with (first
      | (go_at_call 34; refine HC.out.mono ?_; rintro e w1 ⟨rfl, o1, b1⟩; have HO := Lib.hid o1; have HB := Lib.hid b1; have hcl := o1.cell (k := P.length) (by simp); have hg : w.heap.size < w1.heap.size := (o1.lt _ rfl).2; clear o1 b1)
      | (go_at_call 35; refine (clipS _ _ _ (by omega) (by omega) _).mono ?_; rintro e w2 ⟨rfl, rfl⟩))
    go_ret
    have e : (P ++ [z]).length = P.length + 1 := by simp
    exact ⟨some ⟨w.heap.size, 0, none⟩, P.length + 1, by rw [e]; rfl, ⟨w.heap.size, P.length + 1, P.length + 1, by rw [e], by rw [e]; exact Nat.le_refl _, by unfold maxLen; omega, by rw [e]; exact HO.out⟩, HB.out⟩

theorem specSplitC (s : ByteArray) (hs : s.size ≤ 1048576) (w : World) {P : List ByteArray} {z : ByteArray} (hL : lstSplitAny s NLB = P ++ [z]) :
    Calls Tryd.prog 33 #[.string s, .string NLB] w fun e w' => ∃ g c, e = .returned (.slice (some ⟨g, 0, none⟩) (P.length + 1) c) ∧ P.length + 1 ≤ c ∧ OwnS w' w.heap.size (.slice (some ⟨g, 0, none⟩) (P.length + 1) c) (P ++ [z]) ∧ Below w.heap.size w w' := by
  refine (specSplitAnyC s hs NLB (by decide) w).mono fun e w' ⟨a, c, he, ho, hb⟩ => ?_
  rw [hL, List.length_append, List.length_singleton] at he
  rw [hL, List.length_append, List.length_singleton] at ho
  rcases ho.2 with ⟨e1, h0⟩ | ⟨g, cap, cur, e1, h1, h2, h3, h4, h5, h6⟩
  · injection e1 with q1 q2 q3
    omega
  · injection e1 with q1 q2 q3
    subst q1 q3
    exact ⟨g, c, he, by simpa using h3, ho, hb⟩

set_option maxRecDepth 20000 in
set_option maxHeartbeats 800000 in
theorem specSplitLinesC (s : ByteArray) (hs : s.size ≤ 1048576) (w : World) :
    Calls Tryd.prog 11 #[.string s] w (RetOwnS w (lstSplitLines s)) := by
  obtain ⟨P, z, hP, hz, hL, hPl, hc, hzs⟩ := parts s
  have HC := Lib.hid (specSplitC s hs w hL)
  clear hL hc
  by_cases he : z = ⟨#[]⟩
  · rw [splitL_yes hP hz he]
    clear hP hz
    subst he
    go_enter Tryd.func11, Tryd.ntmps11
    go_wp2_with (go_at_call 33; refine HC.out.mono ?_; rintro e w1 ⟨g, c, rfl, hcap, o1, b1⟩; have HO := Lib.hid o1; have HB := Lib.hid b1; have hcl := o1.cell (k := P.length) (by simp); have hg : g < w1.heap.size := (o1.lt _ rfl).2; clear o1 b1)
    go_ret
    exact ⟨_, _, rfl, HO.out.less rfl, HB.out⟩
  · rw [splitL_no hP hz he]
    obtain ⟨n1, n2⟩ := str_empty he
    clear hP hz he
    go_enter Tryd.func11, Tryd.ntmps11
    go_wp2_with (go_at_call 33; refine HC.out.mono ?_; rintro e w1 ⟨g, c, rfl, hcap, o1, b1⟩; have HO := Lib.hid o1; have HB := Lib.hid b1; have hcl := o1.cell (k := P.length) (by simp); have hg : g < w1.heap.size := (o1.lt _ rfl).2; clear o1 b1)
    go_ret
    have e : (P ++ [z]).length = P.length + 1 := by simp
    exact ⟨some ⟨g, 0, none⟩, c, by rw [e]; rfl, by rw [e]; exact HO.out, HB.out⟩
end Go.Proofs.YtcgpmdfcdngnlaaDoor
