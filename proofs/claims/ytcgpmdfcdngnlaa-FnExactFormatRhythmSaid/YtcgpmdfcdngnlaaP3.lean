/-
  Contracts of FormatRhythm and of a rhythm's text.
  Conditions: the beats lie in memory.
-/
import Derived.Test.YtcgpmdfcdngnlaaP2
import Derived.Test.YtcgpmdfcdngnlaaE1
import Derived.Lib.SmallJoins
set_option linter.unusedVariables false
set_option linter.unusedSimpArgs false
namespace Go.Proofs.Ytcgpmdfcdngnlaa
open Go.RowKit

/-- The byte that stands for pulse j. -/
def dB (x : List Int) (j : Nat) : UInt8 := if hasL x (j : Int) then 120 else 46
def txL (x : List Int) : Nat → List UInt8
  | 0 => []
  | p + 1 => txL x p ++ [dB x p]
def tx (x : List Int) (p : Nat) : ByteArray := ⟨(txL x p).toArray⟩
def fmtR (n : Int) (x : List Int) : ByteArray := if rok n x then tx x n.toNat else ⟨#[]⟩
theorem txL_len (x : List Int) (p : Nat) : (txL x p).length = p := by
  induction p with
  | zero => rfl
  | succ p ih => simp [txL, ih]
theorem tx_size (x : List Int) (p : Nat) : (tx x p).size = p := by
  show (txL x p).toArray.size = p
  simp [txL_len]
theorem tx_yes {x : List Int} {p : Nat} (h : hasL x (p : Int) = true) : tx x (p + 1) = tx x p ++ (⟨#[120]⟩ : ByteArray) := by
  apply ByteArray.ext
  simp [tx, txL, dB, h]
theorem tx_no {x : List Int} {p : Nat} (h : hasL x (p : Int) = false) : tx x (p + 1) = tx x p ++ (⟨#[46]⟩ : ByteArray) := by
  apply ByteArray.ext
  simp [tx, txL, dB, h]
theorem txL_get (x : List Int) (p j : Nat) (hj : j < p) : (txL x p)[j]? = some (dB x j) := by
  induction p with
  | zero => omega
  | succ p ih =>
    rw [txL]
    by_cases h : j < p
    · rw [List.getElem?_append_left (by rw [txL_len]; exact h)]; exact ih h
    · have : j = p := by omega
      subst this
      rw [List.getElem?_append_right (by rw [txL_len]; omega), txL_len]; simp
theorem dB_nat (x : List Int) (j : Nat) : ((dB x j).toNat : Int) = if hasL x (j : Int) then 120 else 46 := by
  unfold dB; split <;> rfl
theorem ret_txt {a b : ByteArray} (h : a = b) : Ending.returned (.string a) = Ending.returned (.string b) := by rw [h]

/-- The first n cells of a row hold the text of the first k beats. -/
def Marks (w : World) (g c n : Nat) (x : List Int) (k : Nat) : Prop := ∃ cur : List Value, cur.length = c ∧ n ≤ c ∧ w.heap[g]? = some (.cells cur.toArray 5 (0, 0)) ∧ ∀ j, j < n → cur[j]? = some (.int .u8 (if hasL (x.take k) (j : Int) then 120 else 46))
theorem Marks.zero {w : World} {g c n : Nat} {x : List Int} (h : Dots w g c n) (hn : n ≤ c) : Marks w g c n x 0 := by
  obtain ⟨cur, h1, h2, h3⟩ := h
  refine ⟨cur, h1, hn, h2, fun j hj => ?_⟩
  rw [h3 j hj]; simp [hasL]
theorem Marks.cell {w : World} {g c n k : Nat} {x : List Int} (h : Marks w g c n x k) {j : Nat} (hj : j < n) : w.cell? ⟨g, j, none⟩ = some (.int .u8 (if hasL (x.take k) (j : Int) then 120 else 46)) := by
  obtain ⟨cur, h1, hn, h2, h3⟩ := h
  rw [cell_of_row w g j _ _ (0, 0) h2]
  simpa using h3 j hj
theorem Marks.free {w : World} {g c n k : Nat} {x : List Int} (h : Marks w g c n x k) (j : Nat) : w.frozen? ⟨g, j, none⟩ = false := by
  obtain ⟨cur, h1, hn, h2, h3⟩ := h
  exact frozen_of_row w g j _ _ h2
theorem hasL_take {x : List Int} {k : Nat} (hk : k < x.length) (y : Int) : hasL (x.take (k + 1)) y = (hasL (x.take k) y || (x[k] == y)) := by
  rw [Bool.eq_iff_iff]
  unfold hasL
  rw [List.take_succ_eq_append_getElem hk]
  simp only [decide_eq_true_eq, Bool.or_eq_true, beq_iff_eq, List.mem_append, List.mem_singleton]
  exact or_congr Iff.rfl eq_comm
theorem Marks.store {w : World} {g c n k P : Nat} {x : List Int} (h : Marks w g c n x k) (hk : k < x.length) (hP : x[k] = (P : Int)) (hPn : P < n) : Marks (w.setCell ⟨g, P, none⟩ (.int .u8 120)) g c n x (k + 1) := by
  obtain ⟨cur, h1, hn, h2, h3⟩ := h
  refine ⟨cur.set P (.int .u8 120), by simpa using h1, hn, ?_, fun j hj => ?_⟩
  · have := heap_setCell_same w g P _ _ (.int .u8 120) h2
    simpa using this
  · rw [hasL_take hk, hP, List.getElem?_set]
    by_cases e : P = j
    · subst e; rw [if_pos rfl, if_pos (by omega)]; simp
    · rw [if_neg e, h3 j hj]
      have : ((P : Int) == (j : Int)) = false := by simp; omega
      rw [this, Bool.or_false]
theorem convMarks {w : World} {g c n : Nat} {x : List Int} (h : Marks w g c n x x.length) : (convert 49 9 (.slice (some ⟨g, 0, none⟩) n n)).run Try.prog w = .ok (.string (tx x n)) w := by
  have := run_convert_bytes_back (P := Try.prog) w 49 9 5 ⟨g, 0, none⟩ n (txL x n) Try.underlying49 Try.underlying5 Try.underlying9 (by
    intro j hj
    have hj' : j < n := by rw [txL_len] at hj; exact hj
    have hc := h.cell hj'
    rw [List.take_length] at hc
    have hg : (txL x n)[j] = dB x j := by
      have := txL_get x n j hj'
      rw [List.getElem?_eq_getElem hj] at this
      exact Option.some.inj this
    rw [show ((⟨g, 0, none⟩ : Addr).add j) = ⟨g, j, none⟩ from by simp [Addr.add]; exact fun h => h.symm, hc, hg, dB_nat])
  rw [txL_len] at this
  exact this

set_option maxRecDepth 20000 in
set_option maxHeartbeats 1000000 in
theorem specFormatRhythmC (n : Int) (v : Value) (x : List Int) (c : I64 n) (w : World) (h : Ints w w.heap.size v x) :
    Calls Try.prog 19 #[.agg #[.int .i64 n, v]] w fun e w' => e = .returned (.string (fmtR n x)) ∧ Below w.heap.size w w' := by
  have h' := h
  obtain ⟨a, cap, rfl, -⟩ := h'
  cases hr : rok n x with
  | false =>
    have Hr := Lib.hid hr
    have Hs : Hid ((⟨#[]⟩ : ByteArray) = fmtR n x) := by unfold Hid fmtR; rw [hr]; rfl
    clear hr
    go_enter Try.func19, Try.ntmps19
    go_wp2_with (go_at_call 28; refine (specRhythmOk _ _ x _ _ c.1 c.2 (h.alloc (Nat.le_refl _) _)).mono ?_; rintro e w' ⟨rfl, rfl⟩; rw [Hr.out])
    go_ret
    exact ⟨ret_txt Hs.out, by (repeat (first | (with_reducible exact (Below.refl _ _)) | (with_reducible refine bel_alloc ?_ _) | (with_reducible refine Below.drew ?_) | (with_reducible refine bel_drewN ?_ _) | (with_reducible refine Below.setCell ?_ (by simp) _)))⟩
  | true =>
    have Hr := Lib.hid hr
    have hR := (rok_iff n x).1 hr
    have hlo := hR.lo
    have hhi := hR.hi
    have Hs : Hid (tx x n.toNat = fmtR n x) := by unfold Hid fmtR; rw [hr]; rfl
    clear hr
    go_enter Try.func19, Try.ntmps19
    go_wp2_with (go_at_call 28; refine (specRhythmOk _ _ x _ _ c.1 c.2 (h.alloc (Nat.le_refl _) _)).mono ?_; rintro e w' ⟨rfl, rfl⟩; rw [Hr.out])
    go_loopw [3, 4] (fun s i wr => ∃ k : Nat, (k : Int) ≤ n ∧ i = .int .i64 k ∧ s = .string (tx x k) ∧ Bx wr w.heap.size (.int .i64 n) (.slice a x.length cap) 37 ∧ Below w.heap.size w wr) (fun _ i _ => (n - intOf i).toNat)
    case atStart => exact ⟨0, by omega, rfl, rfl, by (repeat (first | (with_reducible refine Bx.newAt _ _ _ _ ?_; simp; done) | (with_reducible refine Bx.alloc ?_ _) | (with_reducible refine Bx.drew ?_) | (with_reducible refine Bx.drewN ?_ _))), by (repeat (first | (with_reducible exact (Below.refl _ _)) | (with_reducible refine bel_alloc ?_ _) | (with_reducible refine Below.drew ?_) | (with_reducible refine bel_drewN ?_ _) | (with_reducible refine Below.setCell ?_ (by simp) _)))⟩
    case round =>
      obtain ⟨k, hk, rfl, rfl, hbx, hbel⟩ := hrel
      have q0 := hbx.c0
      have q1 := hbx.c1
      have HH := Lib.hid (Ints.ofBelow h hbel)
      have HX := Lib.hid hbx
      have HB := Lib.hid hbel
      by_cases hlt : (k : Int) < n
      · cases hh : hasL x (k : Int) with
        | false =>
          have Hh := Lib.hid hh
          have Hn := Lib.hid (tx_no hh)
          have hsz := tx_size x k
          generalize tx x k = T at *
          clear hbx hbel hh
          go_wp2_with (go_at_call 29; refine (specL02Has _ x _ _ _ HH.out).mono ?_; rintro e w' ⟨rfl, rfl⟩; rw [Hh.out])
          go_roundw
          case rel => exact ⟨k + 1, by omega, by go_num, by rw [Hn.out], HX.out, HB.out⟩
          case measure => simp [intOf]; omega
        | true =>
          have Hh := Lib.hid hh
          have Hn := Lib.hid (tx_yes hh)
          have hsz := tx_size x k
          generalize tx x k = T at *
          clear hbx hbel hh
          go_wp2_with (go_at_call 29; refine (specL02Has _ x _ _ _ HH.out).mono ?_; rintro e w' ⟨rfl, rfl⟩; rw [Hh.out])
          go_roundw
          case rel => exact ⟨k + 1, by omega, by go_num, by rw [Hn.out], HX.out, HB.out⟩
          case measure => simp [intOf]; omega
      · have e : n = (k : Int) := by omega
        subst e
        clear hbx hbel
        have Hs2 : Hid (tx x k = fmtR (k : Int) x) := Hs.out
        go_wp2
        go_ret
        exact ⟨ret_txt Hs2.out, HB.out⟩

set_option maxRecDepth 20000 in
set_option maxHeartbeats 1000000 in
theorem implText (n : Int) (v : Value) (x : List Int) (w : World) (hR : Rok n x) (h : Ints w w.heap.size v x) :
    Calls Try.prog 32 #[.agg #[.int .i64 n, v]] w fun e w' => e = .returned (.string (tx x n.toNat)) ∧ Below w.heap.size w w' := by
  have hlo := hR.lo
  have hhi := hR.hi
  obtain ⟨N, rfl⟩ : ∃ N : Nat, n = (N : Int) := ⟨n.toNat, by omega⟩
  have HR := Lib.hid hR
  have hcap := h.cap
  unfold maxLen at hcap
  clear hR
  rcases h.open with ⟨rfl, a, cap, rfl⟩ | ⟨b, o, cap, rfl, hm, hpos, hB, hb, hc⟩
  · have hcv := Joins.run_convert_bytes_const_at (P := Try.prog) (w.alloc (.cells #[.int .i64 (N : Int), .slice a 0 cap] 37)) 49 5 #[.int .u8 46] 1 1 (w.heap.size + 1) (by simp) Try.underlying49 Try.underlying5
    have hbx : Bx ((w.alloc (.cells #[.int .i64 (N : Int), .slice a 0 cap] 37)).alloc (.cells #[.int .u8 46] 5 (1, 2))) w.heap.size (.int .i64 (N : Int)) (.slice a 0 cap) 37 := (Bx.new _ _ _ _).alloc _
    have hbe : Below w.heap.size w ((w.alloc (.cells #[.int .i64 (N : Int), .slice a 0 cap] 37)).alloc (.cells #[.int .u8 46] 5 (1, 2))) := ((Below.refl _ _).alloc (Nat.le_refl _) _).alloc (by simp) _
    have HBX := Lib.hid hbx
    have HBE := Lib.hid hbe
    clear hbx hbe
    go_enter Try.func32, Try.ntmps32
    go_wp2_with fail
    refine (implRepeat1 (w.heap.size + 1) N 1 _ (by omega) (by omega) (by exact (Joins.cell_alloc_mark_at _ _ _ _ _ 0 (by simp)).trans rfl)).mono ?_
    rintro e w3 ⟨C, rfl, hC, hd, hb3⟩
    have HD0 := Lib.hid (Marks.zero (x := []) hd hC)
    have HB3 := Lib.hid (HBE.out.trans (hb3.mono HBE.out.size))
    have hbx := HBX.out.below hb3 HBX.out.lt
    have q0 := hbx.c0
    have q1 := hbx.c1
    have HD : Hid (Marks w3 (w.heap.size + 1 + 1) C N [] 0) := (by have := HD0.out; simp at this; exact this)
    clear hd hb3 HD0 hbx
    have hcv2 := convMarks HD.out
    go_wp2
    refine wp_loop_rounds 1 ?_; rw [rounds_succ]
    go_wp2
    go_ret
    exact ⟨rfl, HB3.out⟩
  · have hcv := Joins.run_convert_bytes_const_at (P := Try.prog) (w.alloc (.cells #[.int .i64 (N : Int), .slice (some ⟨b, o, none⟩) x.length cap] 37)) 49 5 #[.int .u8 46] 1 1 (w.heap.size + 1) (by simp) Try.underlying49 Try.underlying5
    have hbx : Bx ((w.alloc (.cells #[.int .i64 (N : Int), .slice (some ⟨b, o, none⟩) x.length cap] 37)).alloc (.cells #[.int .u8 46] 5 (1, 2))) w.heap.size (.int .i64 (N : Int)) (.slice (some ⟨b, o, none⟩) x.length cap) 37 := (Bx.new _ _ _ _).alloc _
    have hbe : Below w.heap.size w ((w.alloc (.cells #[.int .i64 (N : Int), .slice (some ⟨b, o, none⟩) x.length cap] 37)).alloc (.cells #[.int .u8 46] 5 (1, 2))) := ((Below.refl _ _).alloc (Nat.le_refl _) _).alloc (by simp) _
    have HBX := Lib.hid hbx
    have HBE := Lib.hid hbe
    clear hbx hbe
    go_enter Try.func32, Try.ntmps32
    go_wp2_with fail
    refine (implRepeat1 (w.heap.size + 1) N 1 _ (by omega) (by omega) (by exact (Joins.cell_alloc_mark_at _ _ _ _ _ 0 (by simp)).trans rfl)).mono ?_
    rintro e w3 ⟨C, rfl, hC, hd, hb3⟩
    have HD0 := Lib.hid (Marks.zero (x := x) hd hC)
    have HB3 := Lib.hid (HBE.out.trans (hb3.mono HBE.out.size))
    have hbx := HBX.out.below hb3 HBX.out.lt
    have q0 := hbx.c0
    have q1 := hbx.c1
    have HD : Hid (Marks w3 (w.heap.size + 1 + 1) C N x 0) := (by have := HD0.out; simp at this; exact this)
    clear hd hb3 HD0 hbx
    go_wp2
    clear hcv HBE HBX
    have hq := HB3.out.size
    go_loopw [5, 14] (fun _ i wr => ∃ k : Nat, k ≤ x.length ∧ i = .int .i64 k ∧ Marks wr (w.heap.size + 1 + 1) C N x k ∧ Below w.heap.size w wr) (fun _ i _ => x.length - (intOf i).toNat)
    case atStart => exact ⟨0, Nat.zero_le _, rfl, HD.out, HB3.out⟩
    case round =>
      obtain ⟨k, hk, rfl, hmk, hbel⟩ := hrel
      have HM := Lib.hid hmk
      have HB := Lib.hid hbel
      by_cases hlt : k < x.length
      · have hmem := List.getElem_mem hlt
        have p0 := HR.out.ge _ hmem
        have p1 := HR.out.lt _ hmem
        obtain ⟨P, hP⟩ : ∃ P : Nat, x[k] = (P : Int) := ⟨x[k].toNat, by omega⟩
        have e1 : x.getD k 0 = x[k] := by simp [List.getD_eq_getElem?_getD, List.getElem?_eq_getElem hlt]
        have hc1 : wr.cell? ⟨b, o + k, none⟩ = some (.int .i64 (P : Int)) := by
          rw [(bcell hbel).1 b (o + k) hb, hc k hlt, e1, hP]
        have hPN : P < N := by omega
        have y0 := hmk.cell hPN
        have y1 := hmk.free P
        have HS := Lib.hid (hmk.store hlt hP hPN)
        clear hmk hbel hmem p0 p1 e1 hP
        go_wp2
        go_roundw
        case rel => exact ⟨k + 1, by omega, by go_num, HS.out, HB.out.setCell (by simp; omega) _⟩
        case measure => simp [intOf]; omega
      · have e : k = x.length := by omega
        subst e
        have hcv2 := convMarks hmk
        clear hmk hbel
        go_wp2
        go_ret
        exact ⟨rfl, HB.out⟩

set_option maxRecDepth 20000 in
set_option maxHeartbeats 1000000 in
theorem implFormatRhythmC (n : Int) (v : Value) (x : List Int) (c : I64 n) (w : World) (h : Ints w w.heap.size v x) :
    Calls Try.prog 21 #[.agg #[.int .i64 n, v]] w fun e w' => e = .returned (.string (fmtR n x)) ∧ Below w.heap.size w w' := by
  have h' := h
  obtain ⟨a, cap, rfl, -⟩ := h'
  cases hr : rok n x with
  | false =>
    have Hr := Lib.hid hr
    have Hs : Hid ((⟨#[]⟩ : ByteArray) = fmtR n x) := by unfold Hid fmtR; rw [hr]; rfl
    clear hr
    go_enter Try.func21, Try.ntmps21
    go_wp2_with (go_at_call 31; refine (implRhythmOkC _ _ x c _ ((h.alloc (Nat.le_refl _) _).mono (by simp))).mono ?_; rintro e w2 ⟨rfl, hb2⟩; rw [Hr.out]; have HB2 := Lib.hid hb2; clear hb2)
    go_ret
    exact ⟨ret_txt Hs.out, ((Below.refl _ _).alloc (Nat.le_refl _) _).trans (HB2.out.mono (by simp))⟩
  | true =>
    have Hr := Lib.hid hr
    have HRk := Lib.hid ((rok_iff n x).1 hr)
    have Hs : Hid (tx x n.toNat = fmtR n x) := by unfold Hid fmtR; rw [hr]; rfl
    clear hr
    have hbx : Bx (w.alloc (.cells #[.int .i64 n, .slice a x.length cap] 37)) w.heap.size (.int .i64 n) (.slice a x.length cap) 37 := Bx.new _ _ _ _
    have HBX := Lib.hid hbx
    clear hbx
    go_enter Try.func21, Try.ntmps21
    go_wp2_with (first
      | (go_at_call 31; refine (implRhythmOkC _ _ x c _ ((h.alloc (Nat.le_refl _) _).mono (by simp))).mono ?_; rintro e w2 ⟨rfl, hb2⟩; rw [Hr.out]; have hbx := HBX.out.below hb2 (by simp); have q0 := hbx.c0; have q1 := hbx.c1; have HB2 := Lib.hid (((Below.refl _ _).alloc (Nat.le_refl _) _).trans (hb2.mono (by simp))); clear hb2 hbx)
      | (go_at_call 32; refine (implText _ _ x _ HRk.out ((h.below HB2.out).mono HB2.out.size)).mono ?_; rintro e w3 ⟨rfl, hb3⟩; have HB3 := Lib.hid (HB2.out.trans (hb3.mono HB2.out.size)); clear hb3))
    go_ret
    exact ⟨ret_txt Hs.out, HB3.out⟩
end Go.Proofs.Ytcgpmdfcdngnlaa
