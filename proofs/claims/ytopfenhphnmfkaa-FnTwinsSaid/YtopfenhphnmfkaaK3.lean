/-
  Contracts of texts of rhythms, their order, and what is true of each twin of a rhythm. Conditions: rhythms are valid, their beats lie in memory.
-/
import Derived.Shelf.Sort.Plain
import Derived.Shelf.Bits.Mul64
import Derived.Ground.Names2Prog
import Derived.Shelf.Slices.Clone
import Derived.Shelf.Slices.CompactI
import Derived.Shelf.Slices.Cells
import Derived.Shelf.Slices.In.SortNone
import Derived.Test.YtopfenhphnmfkaaProg
import Derived.Test.YtopfenhphnmfkaaB0
import Derived.Lib.MakeNoZero
import Derived.Laws.CopyOwn
import Derived.Deep.RegionLaw
import Derived.Test.YtopfenhphnmfkaaE1
import Derived.Lib.SmallJoins
import Derived.Test.YtopfenhphnmfkaaM13
import Derived.Test.YtopfenhphnmfkaaK2
import Derived.Test.YtopfenhphnmfkaaK0
import Derived.Test.YtopfenhphnmfkaaK1
set_option linter.unusedVariables false
set_option linter.unusedSimpArgs false
namespace Go.Proofs.Ytopfenhphnmfkaa
open Go.Shelf
def Try.lays212_ren : Go.Shelf.Ren := ⟨fun | 212 => 129 | 263 => 133 | 264 => 134 | n => n, fun | 46 => 79 | 51 => 90 | 146 => 97 | 53 => 92 | 148 => 99 | n => n, fun | n => n⟩
theorem Try.lays212 : Go.Proofs.Lays.n212 Try.prog Try.lays212_ren := {
  mixed := by kernel_rfl
  f212 := Try.func129.trans (congrArg some (by kernel_rfl))
  f263 := Try.func133.trans (congrArg some (by kernel_rfl))
  f264 := Try.func134.trans (congrArg some (by kernel_rfl))
  t46 := Try.underlying79
  a46 := Try.isAgg79
  z46 := Try.sizeOf79
  v46 := Try.zeroValue79
  t51 := Try.underlying90
  a51 := Try.isAgg90
  z51 := Try.sizeOf90
  v51 := Try.zeroValue90
  t53 := Try.underlying92
  a53 := Try.isAgg92
  z53 := Try.sizeOf92
  v53 := Try.zeroValue92
  t146 := Try.underlying97
  a146 := Try.isAgg97
  z146 := Try.sizeOf97
  v146 := Try.zeroValue97
  t148 := Try.underlying99
  a148 := Try.isAgg99
  z148 := Try.sizeOf99
  v148 := Try.zeroValue99 }
open Go.RowKit Go.Lib in
theorem Try.bits_Mul (x y : Nat) (hx : x < 18446744073709551616) (hy : y < 18446744073709551616) (w : World) :
    Calls Try.prog 129 #[.int .u64 x, .int .u64 y] w fun e w' => e = .returned (.tuple #[.int .u64 ((x * y / 18446744073709551616 : Nat) : Int), .int .u64 ((x * y % 18446744073709551616 : Nat) : Int)]) ∧ w' = w := Any.bits_Mul Try.lays212 x y hx hy w
end Go.Proofs.Ytopfenhphnmfkaa

namespace Go.Proofs.Ytopfenhphnmfkaa
open Go.RowKit Go.Shelf

/-- A slice of bytes of the call's own. -/
def OwnB (w : World) (B : Nat) (v : Value) (xs : List Int) : Prop := w.ownsRow B 5 1 v xs.length (xs.map (Value.int .u8))
/-- The first k cells of a row are the byte 46. -/
def Dots (w : World) (g c k : Nat) : Prop := ∃ cur : List Value, cur.length = c ∧ w.heap[g]? = some (.cells cur.toArray 5 (0, 0)) ∧ ∀ j, j < k → cur[j]? = some (.int .u8 46)

theorem infoByte : (Try.prog.info? 5).map (·.size) = some 1 := by kernel_rfl
theorem splice_get {L : List Value} {k m : Nat} {v : Value} (h : k + m ≤ L.length) (hd : ∀ j, j < k → L[j]? = some v) : ∀ j, j < k + m → (splice L k (List.replicate m v))[j]? = some v := by
  intro j hj
  unfold splice
  have ht : (L.take k).length = k := by rw [List.length_take]; omega
  by_cases h1 : j < k
  · rw [List.getElem?_append_left (by omega), List.getElem?_take, if_pos h1]; exact hd j h1
  · rw [List.getElem?_append_right (by omega), ht, List.getElem?_append_left (by simp; omega), List.getElem?_replicate, if_pos (by omega)]
theorem dots_splice {w' : World} {g c k m : Nat} {L : List Value} (hl : L.length = c) (h : k + m ≤ c) (hd : ∀ j, j < k → L[j]? = some (.int .u8 46)) (hg : w'.heap[g]? = some (.cells (splice L k (List.replicate m (.int .u8 46))).toArray 5 (0, 0))) : Dots w' g c (k + m) :=
  ⟨_, by rw [length_splice _ _ _ (by simp; omega)]; exact hl, hg, splice_get (by omega) hd⟩
theorem dot_cell {w : World} {g c k : Nat} (h : Dots w g c k) {j : Nat} (hj : j < k) : w.cell? ⟨g, j, none⟩ = some (.int .u8 46) := by
  obtain ⟨cur, hl, hg, hd⟩ := h
  rw [cell_of_row w g j _ _ (0, 0) hg]
  simpa using hd j hj
theorem mulOne (n : Nat) (hn : n ≤ 24) (w : World) : Calls Try.prog 129 #[.int .u64 1, .int .u64 (n : Int)] w fun e w' => e = .returned (.tuple #[.int .u64 0, .int .u64 (n : Int)]) ∧ w' = w := by
  have h := Try.bits_Mul 1 n (by decide) (by omega) w
  have e1 : 1 * n / 18446744073709551616 = 0 := by omega
  have e2 : 1 * n % 18446744073709551616 = n := by omega
  rw [e1, e2] at h
  exact h
set_option maxRecDepth 20000 in
set_option maxHeartbeats 1000000 in
theorem implRepeat1 (q n : Nat) (cq : Nat) (w : World) (hn : 1 ≤ n) (hn' : n ≤ 24) (hq : w.cell? ⟨q, 0, none⟩ = some (.int .u8 46)) :
    Calls Try.prog 118 #[.slice (some ⟨q, 0, none⟩) 1 cq, .int .i64 (n : Int)] w fun e w' => ∃ c, e = .returned (.slice (some ⟨w.heap.size, 0, none⟩) n n) ∧ n ≤ c ∧ Dots w' w.heap.size c n ∧ Below w.heap.size w w' := by
  have hq1 := World.block_lt_of_cell? _ _ hq
  have h1 : ¬ (n : Int) = 0 := by omega
  have h2 : ¬ (n : Int) < 0 := by omega
  have h1b : ((n : Int) == 0) = false := by simp; omega
  go_enter Try.func118, Try.ntmps118
  obtain ⟨cs, hrun, hle, hmax⟩ := Lib.run_makeNoZero (P := Try.prog) w #[3] 22 5 Try.underlying22 n (by omega)
  have hcall : (callFunc 130 #[.int .i64 (n : Int)]).run Try.prog w = .ok (.value (.slice (some ⟨w.heap.size, 0, none⟩) n cs.size)) ((w.alloc (.cells cs 5)).drewN 2) := by
    rw [run_callFunc_extern Try.func130 (by kernel_rfl) (by kernel_rfl) (by kernel_rfl) (e := Extern.BytealgMakeNoZero.makeNoZero #[3] #[22]) (by kernel_rfl), hrun]
    rfl
  clear hrun
  have hcm := hmax (by unfold maxLen; omega)
  unfold maxLen at hcm
  clear hmax
  have hcl : cs.toList.length = cs.size := by simp
  have HG : Hid (((w.alloc (.cells cs 5)).drewN 2).heap[w.heap.size]? = some (.cells cs.toList.toArray 5 (0, 0))) := by
    unfold Hid
    have := heap_alloc_new w (.cells cs 5)
    simpa using this
  have HQ : Hid (((w.alloc (.cells cs 5)).drewN 2).cell? ⟨q, 0, none⟩ = some (.int .u8 46)) := by unfold Hid; exact cellDrewN (cellAlloc _ hq)
  have hn1 : (List.replicate 1 (Value.int .u8 46)).length = Nat.min 1 n := by
    rw [List.length_replicate]; exact (Nat.min_eq_left hn).symm
  have hsrc : ∀ (W : World), W.cell? ⟨q, 0, none⟩ = some (.int .u8 46) → ∀ (j : Nat) (v : Value), (List.replicate 1 (Value.int .u8 46))[j]? = some v → W.cell? ((⟨q, 0, none⟩ : Addr).add j) = some v := fun W h j v hj => by
    rw [List.getElem?_replicate] at hj
    split at hj
    · have : j = 0 := by omega
      subst this
      cases hj
      simpa [Addr.add] using h
    · cases hj
  have hone : ∀ (m : Nat), ∀ v ∈ List.replicate m (Value.int .u8 46), v.oneCell' = true := fun m v hv => by
    rw [List.mem_replicate] at hv; rw [hv.2]; rfl
  have HN1 := Lib.hid hn1
  have HSRC := Lib.hid hsrc
  have HONE := Lib.hid hone
  clear hn1 hsrc hone
  go_wp2_with (first
    | (go_at_call 129; refine (mulOne n (by omega) _).mono ?_; rintro e w1 ⟨rfl, hw1⟩; rw [hw1]; clear hw1 w1)
    | (refine wpList_copy_splice rfl _ _ 22 22 rfl 5 Try.underlying22 infoByte _ _ n n 1 cq rfl rfl w.heap.size 0 cs.toList 5 HG.out (List.replicate 1 (.int .u8 46)) HN1.out (fun _ => ⟨rfl, _, rfl, HSRC.out _ HQ.out⟩) (by rw [List.length_replicate]; omega) (HONE.out 1) w.heap.size w (bel_drewN ((Below.refl _ _).alloc (Nat.le_refl _) _) 2) (Nat.le_refl _) ?_; intro w2 hrow hbel; have HROW := Lib.hid hrow.out; have HBEL := Lib.hid hbel; clear hrow hbel))
  have HD2 : Hid (Dots w2 w.heap.size cs.size 1) := by
    have := dots_splice (k := 0) (m := 1) hcl (by omega) (fun j hj => absurd hj (Nat.not_lt_zero _)) HROW.out
    exact this
  clear HROW HG HQ
  generalize hC : cs.size = C at *
  clear hC hcall hcl
  go_loopw [10] (fun i wr => ∃ k : Nat, 1 ≤ k ∧ k ≤ n ∧ i = .int .i64 (k : Int) ∧ Dots wr w.heap.size C k ∧ Below w.heap.size w wr) (fun i _ => n - (intOf i).toNat)
  case atStart => exact ⟨1, Nat.le_refl _, hn, rfl, HD2.out, HBEL.out⟩
  case round =>
    obtain ⟨k, hk1, hk, rfl, hdots, hb⟩ := hrel
    have HB := Lib.hid hb
    by_cases hlt : k < n
    · obtain ⟨cur, hcl, hg, hdd⟩ := hdots
      obtain ⟨m, hm⟩ : ∃ m : Nat, m = Nat.min k (n - k) := ⟨_, rfl⟩
      have hm1 : 1 ≤ m := by rw [hm]; exact (Nat.le_min.2 ⟨hk1, by omega⟩)
      have hm2 : m ≤ n - k := by rw [hm]; exact Nat.min_le_right _ _
      have HM : Hid ((List.replicate m (Value.int .u8 46)).length = Nat.min k (n - k)) := by unfold Hid; rw [List.length_replicate, hm]
      have HD := Lib.hid hdd
      have HG := Lib.hid hg
      have HL := Lib.hid hcl
      have HMK : Hid (m ≤ k) := by unfold Hid; rw [hm]; exact Nat.min_le_left _ _
      have hmin : ¬ (n : Int) < (k : Int) := by omega
      clear hdd hg hcl hm hb
      have hmn : min (k : Int) (n : Int) = (k : Int) := Int.min_eq_left (by omega)
      have HSD : Hid (∀ (j : Nat) (v : Value), (List.replicate m (Value.int .u8 46))[j]? = some v → wr.drew.cell? ((⟨w.heap.size, 0, none⟩ : Addr).add j) = some v) := fun j v hj => by
        rw [List.getElem?_replicate] at hj
        split at hj
        · cases hj
          have := dot_cell (j := j) ⟨cur, HL.out, HG.out, HD.out⟩ (by have := HMK.out; omega)
          rw [show ((⟨w.heap.size, 0, none⟩ : Addr).add j) = ⟨w.heap.size, j, none⟩ from by simp [Addr.add]; exact fun h => h.symm]; exact this
        · cases hj
      have hne : ¬ n = k := by omega
      go_wp2_with fail
      try rw [hmn]
      clear hmn
      go_region_law (refine step_copy_splice rfl (.tmp 70) (.tmp 73) 22 22 rfl 5 Try.underlying22 infoByte (some ⟨w.heap.size, k, none⟩) (some ⟨w.heap.size, 0, none⟩) (n - k) (n - k) k n (by simp [Act.eval, Act.put]) (by simp [Act.eval, Act.put]) w.heap.size k cur 5 HG.out (List.replicate m (.int .u8 46)) HM.out (fun _ => ⟨rfl, _, rfl, HSD.out⟩) (by rw [List.length_replicate]; have := HL.out; omega) (HONE.out m) w.heap.size w (Below.drew HB.out) (Nat.le_refl _) ?_; intro w3 hrow hbel; have HROW := Lib.hid hrow.out; have HBEL2 := Lib.hid hbel; clear hrow hbel; rw [List.length_replicate])
      all_goals
        have hwr : IntKind.i64.wrap ((k : Int) + (m : Int)) = ((k + m : Nat) : Int) := by rw [IntWalk.i64_in _ (by omega)]; omega
        go_simp
        go_wp2
        try rw [hwr]
        go_roundw
        case rel => exact ⟨k + m, by omega, by omega, rfl, dots_splice HL.out (by omega) HD.out HROW.out, HBEL2.out⟩
        case measure => simp [intOf]; omega
    · have e : k = n := by omega
      subst e
      have HD := Lib.hid hdots
      clear hdots hb
      go_wp2
      go_ret
      exact ⟨C, rfl, hle, HD.out, HB.out⟩
end Go.Proofs.Ytopfenhphnmfkaa

namespace Go.Proofs.Ytopfenhphnmfkaa
open Go.RowKit

/-- The byte that stands for pulse j. -/
def dB (x : List Int) (j : Nat) : UInt8 := if hasL x (j : Int) then 120 else 46
def txL (x : List Int) : Nat → List UInt8
  | 0 => []
  | p + 1 => txL x p ++ [dB x p]
def tx (x : List Int) (p : Nat) : ByteArray := ⟨(txL x p).toArray⟩
def fmtR (n : Int) (x : List Int) : ByteArray := if rok n x then tx x n.toNat else ⟨#[]⟩
theorem txL_len (x : List Int) (p : Nat) : (txL x p).length = p := by
  induction p with
  | zero => rfl
  | succ p ih => simp [txL, ih]
theorem tx_size (x : List Int) (p : Nat) : (tx x p).size = p := by
  show (txL x p).toArray.size = p
  simp [txL_len]
theorem tx_yes {x : List Int} {p : Nat} (h : hasL x (p : Int) = true) : tx x (p + 1) = tx x p ++ (⟨#[120]⟩ : ByteArray) := by
  apply ByteArray.ext
  simp [tx, txL, dB, h]
theorem tx_no {x : List Int} {p : Nat} (h : hasL x (p : Int) = false) : tx x (p + 1) = tx x p ++ (⟨#[46]⟩ : ByteArray) := by
  apply ByteArray.ext
  simp [tx, txL, dB, h]
theorem txL_get (x : List Int) (p j : Nat) (hj : j < p) : (txL x p)[j]? = some (dB x j) := by
  induction p with
  | zero => omega
  | succ p ih =>
    rw [txL]
    by_cases h : j < p
    · rw [List.getElem?_append_left (by rw [txL_len]; exact h)]; exact ih h
    · have : j = p := by omega
      subst this
      rw [List.getElem?_append_right (by rw [txL_len]; omega), txL_len]; simp
theorem dB_nat (x : List Int) (j : Nat) : ((dB x j).toNat : Int) = if hasL x (j : Int) then 120 else 46 := by
  unfold dB; split <;> rfl
theorem ret_txt {a b : ByteArray} (h : a = b) : Ending.returned (.string a) = Ending.returned (.string b) := by rw [h]

/-- The first n cells of a row hold the text of the first k beats. -/
def Marks (w : World) (g c n : Nat) (x : List Int) (k : Nat) : Prop := ∃ cur : List Value, cur.length = c ∧ n ≤ c ∧ w.heap[g]? = some (.cells cur.toArray 5 (0, 0)) ∧ ∀ j, j < n → cur[j]? = some (.int .u8 (if hasL (x.take k) (j : Int) then 120 else 46))
theorem Marks.zero {w : World} {g c n : Nat} {x : List Int} (h : Dots w g c n) (hn : n ≤ c) : Marks w g c n x 0 := by
  obtain ⟨cur, h1, h2, h3⟩ := h
  refine ⟨cur, h1, hn, h2, fun j hj => ?_⟩
  rw [h3 j hj]; simp [hasL]
theorem Marks.cell {w : World} {g c n k : Nat} {x : List Int} (h : Marks w g c n x k) {j : Nat} (hj : j < n) : w.cell? ⟨g, j, none⟩ = some (.int .u8 (if hasL (x.take k) (j : Int) then 120 else 46)) := by
  obtain ⟨cur, h1, hn, h2, h3⟩ := h
  rw [cell_of_row w g j _ _ (0, 0) h2]
  simpa using h3 j hj
theorem Marks.free {w : World} {g c n k : Nat} {x : List Int} (h : Marks w g c n x k) (j : Nat) : w.frozen? ⟨g, j, none⟩ = false := by
  obtain ⟨cur, h1, hn, h2, h3⟩ := h
  exact frozen_of_row w g j _ _ h2
theorem hasL_take {x : List Int} {k : Nat} (hk : k < x.length) (y : Int) : hasL (x.take (k + 1)) y = (hasL (x.take k) y || (x[k] == y)) := by
  rw [Bool.eq_iff_iff]
  unfold hasL
  rw [List.take_succ_eq_append_getElem hk]
  simp only [decide_eq_true_eq, Bool.or_eq_true, beq_iff_eq, List.mem_append, List.mem_singleton]
  exact or_congr Iff.rfl eq_comm
theorem Marks.store {w : World} {g c n k P : Nat} {x : List Int} (h : Marks w g c n x k) (hk : k < x.length) (hP : x[k] = (P : Int)) (hPn : P < n) : Marks (w.setCell ⟨g, P, none⟩ (.int .u8 120)) g c n x (k + 1) := by
  obtain ⟨cur, h1, hn, h2, h3⟩ := h
  refine ⟨cur.set P (.int .u8 120), by simpa using h1, hn, ?_, fun j hj => ?_⟩
  · have := heap_setCell_same w g P _ _ (.int .u8 120) h2
    simpa using this
  · rw [hasL_take hk, hP, List.getElem?_set]
    by_cases e : P = j
    · subst e; rw [if_pos rfl, if_pos (by omega)]; simp
    · rw [if_neg e, h3 j hj]
      have : ((P : Int) == (j : Int)) = false := by simp; omega
      rw [this, Bool.or_false]
theorem convMarks {w : World} {g c n : Nat} {x : List Int} (h : Marks w g c n x x.length) : (convert 22 9 (.slice (some ⟨g, 0, none⟩) n n)).run Try.prog w = .ok (.string (tx x n)) w := by
  have := run_convert_bytes_back (P := Try.prog) w 22 9 5 ⟨g, 0, none⟩ n (txL x n) Try.underlying22 Try.underlying5 Try.underlying9 (by
    intro j hj
    have hj' : j < n := by rw [txL_len] at hj; exact hj
    have hc := h.cell hj'
    rw [List.take_length] at hc
    have hg : (txL x n)[j] = dB x j := by
      have := txL_get x n j hj'
      rw [List.getElem?_eq_getElem hj] at this
      exact Option.some.inj this
    rw [show ((⟨g, 0, none⟩ : Addr).add j) = ⟨g, j, none⟩ from by simp [Addr.add]; exact fun h => h.symm, hc, hg, dB_nat])
  rw [txL_len] at this
  exact this

set_option maxRecDepth 20000 in
set_option maxHeartbeats 1000000 in
theorem implText (n : Int) (v : Value) (x : List Int) (w : World) (hR : Rok n x) (h : Ints w w.heap.size v x) :
    Calls Try.prog 89 #[.agg #[.int .i64 n, v]] w fun e w' => e = .returned (.string (tx x n.toNat)) ∧ Below w.heap.size w w' := by
  have hlo := hR.lo
  have hhi := hR.hi
  obtain ⟨N, rfl⟩ : ∃ N : Nat, n = (N : Int) := ⟨n.toNat, by omega⟩
  have HR := Lib.hid hR
  have hcap := h.cap
  unfold maxLen at hcap
  clear hR
  rcases h.open with ⟨rfl, a, cap, rfl⟩ | ⟨b, o, cap, rfl, hm, hpos, hB, hb, hc⟩
  · have hcv := Joins.run_convert_bytes_const_at (P := Try.prog) (w.alloc (.cells #[.int .i64 (N : Int), .slice a 0 cap] 25)) 22 5 #[.int .u8 46] 1 1 (w.heap.size + 1) (by simp) Try.underlying22 Try.underlying5
    have hbx : Bx ((w.alloc (.cells #[.int .i64 (N : Int), .slice a 0 cap] 25)).alloc (.cells #[.int .u8 46] 5 (1, 2))) w.heap.size (.int .i64 (N : Int)) (.slice a 0 cap) 25 := (Bx.new _ _ _ _).alloc _
    have hbe : Below w.heap.size w ((w.alloc (.cells #[.int .i64 (N : Int), .slice a 0 cap] 25)).alloc (.cells #[.int .u8 46] 5 (1, 2))) := ((Below.refl _ _).alloc (Nat.le_refl _) _).alloc (by simp) _
    have HBX := Lib.hid hbx
    have HBE := Lib.hid hbe
    clear hbx hbe
    go_enter Try.func89, Try.ntmps89
    go_wp2_with fail
    refine (implRepeat1 (w.heap.size + 1) N 1 _ (by omega) (by omega) (by exact (Joins.cell_alloc_mark_at _ _ _ _ _ 0 (by simp)).trans rfl)).mono ?_
    rintro e w3 ⟨C, rfl, hC, hd, hb3⟩
    have HD0 := Lib.hid (Marks.zero (x := []) hd hC)
    have HB3 := Lib.hid (HBE.out.trans (hb3.mono HBE.out.size))
    have hbx := HBX.out.below hb3 HBX.out.lt
    have q0 := hbx.c0
    have q1 := hbx.c1
    have HD : Hid (Marks w3 (w.heap.size + 1 + 1) C N [] 0) := (by have := HD0.out; simp at this; exact this)
    clear hd hb3 HD0 hbx
    have hcv2 := convMarks HD.out
    go_wp2
    refine wp_loop_rounds 1 ?_; rw [rounds_succ]
    go_wp2
    go_ret
    exact ⟨rfl, HB3.out⟩
  · have hcv := Joins.run_convert_bytes_const_at (P := Try.prog) (w.alloc (.cells #[.int .i64 (N : Int), .slice (some ⟨b, o, none⟩) x.length cap] 25)) 22 5 #[.int .u8 46] 1 1 (w.heap.size + 1) (by simp) Try.underlying22 Try.underlying5
    have hbx : Bx ((w.alloc (.cells #[.int .i64 (N : Int), .slice (some ⟨b, o, none⟩) x.length cap] 25)).alloc (.cells #[.int .u8 46] 5 (1, 2))) w.heap.size (.int .i64 (N : Int)) (.slice (some ⟨b, o, none⟩) x.length cap) 25 := (Bx.new _ _ _ _).alloc _
    have hbe : Below w.heap.size w ((w.alloc (.cells #[.int .i64 (N : Int), .slice (some ⟨b, o, none⟩) x.length cap] 25)).alloc (.cells #[.int .u8 46] 5 (1, 2))) := ((Below.refl _ _).alloc (Nat.le_refl _) _).alloc (by simp) _
    have HBX := Lib.hid hbx
    have HBE := Lib.hid hbe
    clear hbx hbe
    go_enter Try.func89, Try.ntmps89
    go_wp2_with fail
    refine (implRepeat1 (w.heap.size + 1) N 1 _ (by omega) (by omega) (by exact (Joins.cell_alloc_mark_at _ _ _ _ _ 0 (by simp)).trans rfl)).mono ?_
    rintro e w3 ⟨C, rfl, hC, hd, hb3⟩
    have HD0 := Lib.hid (Marks.zero (x := x) hd hC)
    have HB3 := Lib.hid (HBE.out.trans (hb3.mono HBE.out.size))
    have hbx := HBX.out.below hb3 HBX.out.lt
    have q0 := hbx.c0
    have q1 := hbx.c1
    have HD : Hid (Marks w3 (w.heap.size + 1 + 1) C N x 0) := (by have := HD0.out; simp at this; exact this)
    clear hd hb3 HD0 hbx
    go_wp2
    clear hcv HBE HBX
    have hq := HB3.out.size
    go_loopw [5, 14] (fun _ i wr => ∃ k : Nat, k ≤ x.length ∧ i = .int .i64 k ∧ Marks wr (w.heap.size + 1 + 1) C N x k ∧ Below w.heap.size w wr) (fun _ i _ => x.length - (intOf i).toNat)
    case atStart => exact ⟨0, Nat.zero_le _, rfl, HD.out, HB3.out⟩
    case round =>
      obtain ⟨k, hk, rfl, hmk, hbel⟩ := hrel
      have HM := Lib.hid hmk
      have HB := Lib.hid hbel
      by_cases hlt : k < x.length
      · have hmem := List.getElem_mem hlt
        have p0 := HR.out.ge _ hmem
        have p1 := HR.out.lt _ hmem
        obtain ⟨P, hP⟩ : ∃ P : Nat, x[k] = (P : Int) := ⟨x[k].toNat, by omega⟩
        have e1 : x.getD k 0 = x[k] := by simp [List.getD_eq_getElem?_getD, List.getElem?_eq_getElem hlt]
        have hc1 : wr.cell? ⟨b, o + k, none⟩ = some (.int .i64 (P : Int)) := by
          rw [(bcell hbel).1 b (o + k) hb, hc k hlt, e1, hP]
        have hPN : P < N := by omega
        have y0 := hmk.cell hPN
        have y1 := hmk.free P
        have HS := Lib.hid (hmk.store hlt hP hPN)
        clear hmk hbel hmem p0 p1 e1 hP
        go_wp2
        go_roundw
        case rel => exact ⟨k + 1, by omega, by go_num, HS.out, HB.out.setCell (by simp; omega) _⟩
        case measure => simp [intOf]; omega
      · have e : k = x.length := by omega
        subst e
        have hcv2 := convMarks hmk
        clear hmk hbel
        go_wp2
        go_ret
        exact ⟨rfl, HB.out⟩

set_option maxRecDepth 20000 in
set_option maxHeartbeats 1000000 in
theorem implFormatRhythmC (n : Int) (v : Value) (x : List Int) (c : I64 n) (w : World) (h : Ints w w.heap.size v x) :
    Calls Try.prog 51 #[.agg #[.int .i64 n, v]] w fun e w' => e = .returned (.string (fmtR n x)) ∧ Below w.heap.size w w' := by
  have h' := h
  obtain ⟨a, cap, rfl, -⟩ := h'
  cases hr : rok n x with
  | false =>
    have Hr := Lib.hid hr
    have Hs : Hid ((⟨#[]⟩ : ByteArray) = fmtR n x) := by unfold Hid fmtR; rw [hr]; rfl
    clear hr
    go_enter Try.func51, Try.ntmps51
    go_wp2_with (go_at_call 49; refine (implRhythmOkC _ _ x c _ ((h.alloc (Nat.le_refl _) _).mono (by simp))).mono ?_; rintro e w2 ⟨rfl, hb2⟩; rw [Hr.out]; have HB2 := Lib.hid hb2; clear hb2)
    go_ret
    exact ⟨ret_txt Hs.out, ((Below.refl _ _).alloc (Nat.le_refl _) _).trans (HB2.out.mono (by simp))⟩
  | true =>
    have Hr := Lib.hid hr
    have HRk := Lib.hid ((rok_iff n x).1 hr)
    have Hs : Hid (tx x n.toNat = fmtR n x) := by unfold Hid fmtR; rw [hr]; rfl
    clear hr
    have hbx : Bx (w.alloc (.cells #[.int .i64 n, .slice a x.length cap] 25)) w.heap.size (.int .i64 n) (.slice a x.length cap) 25 := Bx.new _ _ _ _
    have HBX := Lib.hid hbx
    clear hbx
    go_enter Try.func51, Try.ntmps51
    go_wp2_with (first
      | (go_at_call 49; refine (implRhythmOkC _ _ x c _ ((h.alloc (Nat.le_refl _) _).mono (by simp))).mono ?_; rintro e w2 ⟨rfl, hb2⟩; rw [Hr.out]; have hbx := HBX.out.below hb2 (by simp); have q0 := hbx.c0; have q1 := hbx.c1; have HB2 := Lib.hid (((Below.refl _ _).alloc (Nat.le_refl _) _).trans (hb2.mono (by simp))); clear hb2 hbx)
      | (go_at_call 89; refine (implText _ _ x _ HRk.out ((h.below HB2.out).mono HB2.out.size)).mono ?_; rintro e w3 ⟨rfl, hb3⟩; have HB3 := Lib.hid (HB2.out.trans (hb3.mono HB2.out.size)); clear hb3))
    go_ret
    exact ⟨ret_txt Hs.out, HB3.out⟩
end Go.Proofs.Ytopfenhphnmfkaa

namespace Go.Proofs.Ytopfenhphnmfkaa
open Go.RowKit

def tl (f : Nat → Bool) : Nat → Nat → List UInt8
  | _, 0 => []
  | j, m + 1 => (if f j then 120 else 46) :: tl f (j + 1) m
def cv (f : Nat → Bool) : Nat → Nat → Nat
  | _, 0 => 0
  | j, m + 1 => (if f j then 2 ^ m else 0) + cv f (j + 1) m
theorem cv_lt (f : Nat → Bool) (m : Nat) : ∀ j, cv f j m < 2 ^ m := by
  induction m with
  | zero => intro j; simp [cv]
  | succ m ih =>
    intro j
    have := ih (j + 1)
    rw [cv, Nat.pow_succ]
    split <;> omega
theorem tl_cmp (f g : Nat → Bool) (m : Nat) : ∀ j, cv g j m < cv f j m → (Op.bytesLess (tl f j m) (tl g j m) || (tl f j m == tl g j m)) = false := by
  induction m with
  | zero => intro j h; simp [cv] at h
  | succ m ih =>
    intro j h
    have hf := cv_lt f m (j + 1)
    have hg := cv_lt g m (j + 1)
    rw [cv, cv] at h
    rw [tl, tl]
    cases h1 : f j <;> cases h2 : g j <;> rw [h1, h2] at h <;> simp only [if_true, Bool.false_eq_true, if_false] at h ⊢
    · have := ih (j + 1) (by omega)
      simpa [Op.bytesLess] using this
    · omega
    · rfl
    · have := ih (j + 1) (by omega)
      simpa [Op.bytesLess] using this
theorem cv_bit (f : Nat → Bool) (m : Nat) : ∀ j i, i < m → (cv f j m).testBit i = f (j + (m - 1 - i)) := by
  induction m with
  | zero => intro j i h; omega
  | succ m ih =>
    intro j i h
    have hl := cv_lt f m (j + 1)
    rw [cv]
    by_cases e : i = m
    · subst e
      have hz : (cv f (j + 1) i).testBit i = false := Nat.testBit_lt_two_pow hl
      rw [show j + (i + 1 - 1 - i) = j by omega]
      cases h1 : f j
      · simpa using hz
      · rw [if_pos rfl, Nat.testBit_two_pow_add_eq, hz]; rfl
    · have hi : i < m := by omega
      have := ih (j + 1) i hi
      rw [show j + (m + 1 - 1 - i) = j + 1 + (m - 1 - i) by omega, ← this]
      split
      · exact Nat.testBit_two_pow_add_gt hi _
      · rw [Nat.zero_add]
theorem tl_snoc (f : Nat → Bool) (m : Nat) : ∀ j, tl f j (m + 1) = tl f j m ++ [if f (j + m) then 120 else 46] := by
  induction m with
  | zero => intro j; simp [tl]
  | succ m ih =>
    intro j
    rw [tl, ih (j + 1), tl]
    simp [Nat.add_comm, Nat.add_left_comm]
theorem txL_tl (x : List Int) (p : Nat) : txL x p = tl (fun j => hasL x (j : Int)) 0 p := by
  induction p with
  | zero => rfl
  | succ p ih => rw [txL, tl_snoc, ih, Nat.zero_add]; rfl
theorem codeN_cv {N : Nat} {x : List Int} (hx : ∀ p ∈ x, 0 ≤ p ∧ p < (N : Int)) : codeN (N : Int) x = cv (fun j => hasL x (j : Int)) 0 N := by
  apply Nat.eq_of_testBit_eq
  intro i
  by_cases h : i < N
  · rw [codeN_pulse hx (by omega), cv_bit _ _ _ _ h]
    congr 1
    omega
  · rw [codeN_high hx (by omega), Nat.testBit_lt_two_pow (Nat.lt_of_lt_of_le (cv_lt _ _ _) (Nat.pow_le_pow_right (by omega) (by omega)))]
theorem tx_gt {N : Nat} {x y : List Int} (hx : ∀ p ∈ x, 0 ≤ p ∧ p < (N : Int)) (hy : ∀ p ∈ y, 0 ≤ p ∧ p < (N : Int)) (h : codeN (N : Int) y < codeN (N : Int) x) :
    (Op.bytesLess (txL x N) (txL y N) || (txL x N == txL y N)) = false := by
  rw [txL_tl, txL_tl]
  exact tl_cmp _ _ N 0 (by rw [← codeN_cv hx, ← codeN_cv hy]; exact h)
end Go.Proofs.Ytopfenhphnmfkaa

namespace Go.Proofs.Ytopfenhphnmfkaa
open Go.RowKit

theorem twTo_mem {n : Int} {x : List Int} {M : Nat} {r : Rh} (h : r ∈ twTo n x M M) : ∃ c, c < M ∧ okT n x c = true ∧ r = (n, ofCode n c) := by
  unfold twTo at h
  obtain ⟨j, hj, rfl⟩ := List.mem_map.1 h
  obtain ⟨h1, h2⟩ := List.mem_filter.1 hj
  have := List.mem_range.1 h1
  exact ⟨M - 1 - j, by omega, h2, rfl⟩
theorem twTo_desc {n : Int} {x : List Int} {M : Nat} : (twTo n x M M).Pairwise fun r s => ∃ c d, d < c ∧ c < M ∧ r = (n, ofCode n c) ∧ s = (n, ofCode n d) := by
  unfold twTo
  rw [List.pairwise_map]
  have h0 : (List.range M).Pairwise (fun a b => a < b ∧ b < M) := by
    rw [List.pairwise_iff_getElem]
    intro i j hi hj hij
    simp at hi hj ⊢
    omega
  exact (h0.filter _).imp fun {a b} ⟨h1, h2⟩ => ⟨M - 1 - a, M - 1 - b, by omega, by omega, rfl, rfl⟩
theorem twTo_next {n : Int} {x : List Int} {M i : Nat} (h : i + 1 < (twTo n x M M).length) : ∃ c d, d < c ∧ c < M ∧ (twTo n x M M)[i] = (n, ofCode n c) ∧ (twTo n x M M)[i + 1] = (n, ofCode n d) :=
  (List.pairwise_iff_getElem.1 twTo_desc) i (i + 1) (by omega) h (by omega)
end Go.Proofs.Ytopfenhphnmfkaa

namespace Go.Proofs.Ytopfenhphnmfkaa
open Go.RowKit

structure Tw (n : Int) (x y : List Int) : Prop where
  rok : Rok n y
  t1 : valAreTwins n x n y = true
  t2 : valAreTwins n y n x = true
  form : formV n y = y
  nf : valAreForms n x n y = false
  t3 : valAreTwins n (othTo x n.toNat) n (othTo y n.toNat) = true
theorem tw_of {n : Int} {x : List Int} {c : Nat} (hx : Rok n x) (hc : c < 2 ^ n.toNat) (h : okT n x c = true) : Tw n x (ofCode n c) := by
  have hy := ofCode_rok hx.lo hx.hi c
  have h' := h
  unfold okT okW at h'
  simp only [Bool.and_eq_true, decide_eq_true_eq] at h'
  obtain ⟨hl, hf, ht⟩ := h'
  rw [pop_ofCode hx.lo hx.hi hc] at hl
  have ht' := ht
  rw [twins_iff hx hy] at ht'
  simp only [Bool.and_eq_true, Bool.not_eq_true', eqL, decide_eq_true_eq] at ht'
  obtain ⟨hv, hn⟩ := ht'
  have hox := oth_rok hx.lo hx.hi x
  have hoy := oth_rok hx.lo hx.hi (ofCode n c)
  refine ⟨hy, ht, ?_, by simpa [eqL] using hf, hn, ?_⟩
  · rw [twins_iff hy hx, form_sym hy hx, hn, hv]; simp [eqL]
  · rw [twins_iff hox hoy, form_oth hx hy, hn, vec_oth hx hy hl.symm hv]; simp [eqL]
theorem twins12 {n : Int} {x : List Int} (hx : Rok n x) (h12 : n ≤ 12) : lstTwinsOf n x = twTo n x (2 ^ n.toNat) (2 ^ n.toNat) :=
  twinsOf_yes (by unfold okTw; rw [(rok_iff n x).2 hx, decide_eq_true h12]; rfl)
theorem rh_get {rs : List Rh} {i : Nat} (hi : i < rs.length) : (rhN rs i, rhX rs i) = rs[i] := by
  have : rs.getD i (0, []) = rs[i] := by simp [List.getD_eq_getElem?_getD, List.getElem?_eq_getElem hi]
  unfold rhN rhX
  rw [this]
theorem tw_at {n : Int} {x : List Int} {L : List Rh} (hx : Rok n x) (hL : L = twTo n x (2 ^ n.toNat) (2 ^ n.toNat)) {i : Nat} (hi : i < L.length) : rhN L i = n ∧ Tw n x (rhX L i) := by
  have h1 := rh_get hi
  have hm : L[i] ∈ L := List.getElem_mem hi
  rw [← h1] at hm
  obtain ⟨r, hr⟩ : ∃ r, (rhN L i, rhX L i) = r := ⟨_, rfl⟩
  rw [hr] at hm
  have hm2 : r ∈ twTo n x (2 ^ n.toNat) (2 ^ n.toNat) := by rw [← hL]; exact hm
  obtain ⟨c, hc, hok, hrc⟩ := twTo_mem hm2
  rw [hrc] at hr
  have e1 := congrArg Prod.fst hr
  have e2 := congrArg Prod.snd hr
  simp only at e1 e2
  rw [e1, e2]
  exact ⟨rfl, tw_of hx hc hok⟩
theorem tw_gt {n : Int} {x : List Int} {L : List Rh} (hx : Rok n x) (hL : L = twTo n x (2 ^ n.toNat) (2 ^ n.toNat)) {i : Nat} (hi : i + 1 < L.length) :
    (Op.bytesLess (txL (rhX L i) n.toNat) (txL (rhX L (i + 1)) n.toNat) || (txL (rhX L i) n.toNat == txL (rhX L (i + 1)) n.toNat)) = false := by
  subst hL
  have h1 := rh_get (show i < (twTo n x (2 ^ n.toNat) (2 ^ n.toNat)).length by omega)
  have h2 := rh_get hi
  obtain ⟨c, d, hdc, hc, e1, e2⟩ := twTo_next hi
  rw [e1] at h1
  rw [e2] at h2
  have k1 := congrArg Prod.snd h1
  have k2 := congrArg Prod.snd h2
  simp only at k1 k2
  rw [k1, k2]
  have hlo := hx.lo
  have en : ((n.toNat : Nat) : Int) = n := by omega
  have hyc := ofCode_rok hx.lo hx.hi c
  have hyd := ofCode_rok hx.lo hx.hi d
  refine tx_gt (fun p hp => ⟨hyc.ge p hp, by rw [en]; exact hyc.lt p hp⟩) (fun p hp => ⟨hyd.ge p hp, by rw [en]; exact hyd.lt p hp⟩) ?_
  rw [en, codeN_ofCode hx.lo hx.hi hc, codeN_ofCode hx.lo hx.hi (by omega)]
  exact hdc

/-! ### contracts -/
theorem twinsY (n : Int) (v : Value) (x : List Int) (L : List Rh) (w : World) (hR : Rok n x) (h12 : n ≤ 12) (hL : L = twTo n x (2 ^ n.toNat) (2 ^ n.toNat)) (h : Ints w w.heap.size v x) :
    Calls Try.prog 50 #[.agg #[.int .i64 n, v]] w (RetSegR w L) := by
  have hlo := hR.lo
  have := implTwinsOfC n v x ⟨by omega, by omega⟩ w h
  rw [twins12 hR h12, ← hL] at this
  exact this
theorem areTwinsY (n : Int) (u v : Value) (x y : List Int) (b : Bool) (w : World) (hx : Rok n x) (hy : Rok n y) (hb : valAreTwins n x n y = b) (hu : Ints w w.heap.size u x) (hv : Ints w w.heap.size v y) :
    Calls Try.prog 37 #[.agg #[.int .i64 n, u], .agg #[.int .i64 n, v]] w fun e w' => e = .returned (.bool b) ∧ Below w.heap.size w w' := by
  have hlo := hx.lo
  have hhi := hx.hi
  have := implAreTwinsC n u x ⟨by omega, by omega⟩ n v y ⟨by omega, by omega⟩ w hu hv
  rw [hb] at this
  exact this
theorem textY (n : Int) (v : Value) (x : List Int) (t : ByteArray) (w : World) (hR : Rok n x) (ht : tx x n.toNat = t) (h : Ints w w.heap.size v x) :
    Calls Try.prog 51 #[.agg #[.int .i64 n, v]] w fun e w' => e = .returned (.string t) ∧ Below w.heap.size w w' := by
  have hlo := hR.lo
  have hhi := hR.hi
  have := implFormatRhythmC n v x ⟨by omega, by omega⟩ w h
  have e : fmtR n x = t := by unfold fmtR; rw [if_pos ((rok_iff n x).2 hR)]; exact ht
  rw [e] at this
  exact this
theorem betweenY (n : Int) (v : Value) (x : List Int) (p q d : Int) (w : World) (hR : Rok n x) (cp : I64 p) (cq : I64 q) (hd : valIntervalBetween n x p q = d) (h : Ints w w.heap.size v x) :
    Calls Try.prog 52 #[.agg #[.int .i64 n, v], .int .i64 p, .int .i64 q] w fun e w' => e = .returned (.int .i64 d) ∧ Below w.heap.size w w' := by
  have hlo := hR.lo
  have hhi := hR.hi
  have := implIntervalBetweenC n v x ⟨by omega, by omega⟩ p cp q cq w h
  rw [hd] at this
  exact this
theorem deepY (n : Int) (v : Value) (x : List Int) (b : Bool) (w : World) (cn : I64 n) (hb : valIsDeep n x = b) (h : Ints w w.heap.size v x) :
    Calls Try.prog 53 #[.agg #[.int .i64 n, v]] w fun e w' => e = .returned (.bool b) ∧ Below w.heap.size w w' := by
  have := implIsDeepC n v x cn w h
  rw [hb] at this
  exact this
theorem flatY (n : Int) (v : Value) (x : List Int) (b : Bool) (w : World) (cn : I64 n) (hb : valIsFlat n x = b) (h : Ints w w.heap.size v x) :
    Calls Try.prog 54 #[.agg #[.int .i64 n, v]] w fun e w' => e = .returned (.bool b) ∧ Below w.heap.size w w' := by
  have := implIsFlatC n v x cn w h
  rw [hb] at this
  exact this

/-! ### the known rhythms -/
theorem known_twins : valAreTwins 8 [0, 1, 2, 5] 8 [0, 1, 3, 4] = true := by decide +kernel
theorem known_deep : valIsDeep 12 [0, 2, 4, 5, 7, 9, 11] = true := by
  have e1 : rok 12 [0, 2, 4, 5, 7, 9, 11] = true := by decide +kernel
  have e2 : vecOut 12 [0, 2, 4, 5, 7, 9, 11] ([0, 2, 4, 5, 7, 9, 11] : List Int).length = [2, 5, 4, 3, 6, 1] := by decide +kernel
  rw [isDeep_yes e1, e2]
  have h : DeepTo [2, 5, 4, 3, 6, 1] 6 :=
    DeepTo.new (by decide) (DeepTo.new (by decide) (DeepTo.new (by decide) (DeepTo.new (by decide) (DeepTo.new (by decide) (DeepTo.new (by decide) (DeepTo.zero _) (by decide) (by decide)) (by decide) (by decide)) (by decide) (by decide)) (by decide) (by decide)) (by decide) (by decide)) (by decide) (by decide)
  exact deepB_yes h rfl
theorem known_flat : valIsFlat 7 [0, 1, 3] = true := by
  have e1 : rok 7 [0, 1, 3] = true := by decide +kernel
  have e2 : difOut 7 [0, 1, 3] ([0, 1, 3] : List Int).length = [3, 1, 1, 1, 1, 1, 1] := by decide +kernel
  rw [isFlat_yes e1, e2]
  have h : flatTo [3, 1, 1, 1, 1, 1, 1] 7 :=
    flatTo.succ (flatTo.succ (flatTo.succ (flatTo.succ (flatTo.succ (flatTo.two _) rfl) rfl) rfl) rfl) rfl
  exact flatB_yes h (Nat.le_refl _)
theorem rokA : Rok 8 [0, 1, 2, 5] := (rok_iff _ _).1 (by decide +kernel)
theorem rokB : Rok 8 [0, 1, 3, 4] := (rok_iff _ _).1 (by decide +kernel)

/-! ### the interval between two pulses -/
theorem ivl_comm (n p q : Int) : ivl n p q = ivl n q p := by unfold ivl; omega
theorem ivl_bd {n p q : Int} (h : 1 ≤ n) : 0 ≤ ivl n p q ∧ 2 * ivl n p q ≤ n := by
  unfold ivl mo
  have h1 := Int.emod_nonneg (q - p) (show n ≠ 0 by omega)
  have h2 := Int.emod_nonneg (p - q) (show n ≠ 0 by omega)
  have h3 := Int.emod_lt_of_pos (q - p) (show 0 < n by omega)
  have h4 := Int.emod_lt_of_pos (p - q) (show 0 < n by omega)
  have h5 : (q - p) % n + (p - q) % n = 0 ∨ (q - p) % n + (p - q) % n = n := by
    have e : ((q - p) % n + (p - q) % n) % n = 0 := by
      rw [← Int.add_emod, show q - p + (p - q) = 0 by omega, Int.zero_emod]
    obtain ⟨k, hk⟩ := Int.dvd_of_emod_eq_zero e
    have h6 : n * k < n * 2 := by omega
    have h7 : n * (-1) < n * k := by omega
    have k1 : k < 2 := Int.lt_of_mul_lt_mul_left h6 (by omega)
    have k2 : -1 < k := Int.lt_of_mul_lt_mul_left h7 (by omega)
    rcases (show k = 0 ∨ k = 1 by omega) with rfl | rfl
    · left; omega
    · right; omega
  rcases h5 with h | h
  · omega
  · omega

/-! ### a literal slice -/
theorem Own.litL (w : World) (xs : List Int) (h : xs.length ≤ 1000) : Own (w.alloc (.cells (xs.map (Value.int .i64)).toArray 3)) w.heap.size (.slice (some ⟨w.heap.size, 0, none⟩) xs.length xs.length) xs := by
  have := World.ownsRow_lit (base := w.heap.size) (e := 3) (size := 1) w (xs.map (Value.int .i64)).toArray xs.length (Nat.le_refl _) (by unfold maxLen; omega) (by simp)
  simpa [Own] using this
end Go.Proofs.Ytopfenhphnmfkaa
