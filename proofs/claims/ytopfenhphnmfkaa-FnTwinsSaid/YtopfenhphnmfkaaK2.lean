/-
  Contracts of twins, of flat and deep rhythms, and plain facts on codes. Conditions: the beats lie in memory.
-/
import Derived.Test.YtopfenhphnmfkaaR1
import Derived.Test.YtopfenhphnmfkaaG2
import Derived.Test.YtopfenhphnmfkaaM13
import Derived.Test.YtopfenhphnmfkaaB0
import Derived.Laws.BitsLemmas
import Derived.Laws.Bits64
import Derived.Test.YtopfenhphnmfkaaN5
import Derived.Test.YtopfenhphnmfkaaK1
import Derived.Test.YtopfenhphnmfkaaR2
import Derived.Test.YtopfenhphnmfkaaN11
import Derived.Test.YtopfenhphnmfkaaV3
import Derived.Test.YtopfenhphnmfkaaB3
import Derived.Test.YtopfenhphnmfkaaN1
import Derived.Test.YtopfenhphnmfkaaG1
import Derived.Test.YtopfenhphnmfkaaM15
set_option linter.unusedVariables false
set_option linter.unusedSimpArgs false
namespace Go.Proofs.Ytopfenhphnmfkaa
open Go.RowKit

/-- Is there a beat on pulse k of the rhythm with code c? -/
def bitC (n : Int) (c : Nat) (k : Nat) : Bool := c.testBit (n - 1 - (k : Int)).toNat
def ocTo (n : Int) (c : Nat) (k : Nat) : List Int := ((List.range k).filter (bitC n c)).map fun (p : Nat) => (p : Int)
theorem ocTo_yes {n : Int} {c k : Nat} (h : bitC n c k = true) : ocTo n c (k + 1) = ocTo n c k ++ [(k : Int)] := by
  simp [ocTo, List.range_succ, List.filter_append, h]
theorem ocTo_no {n : Int} {c k : Nat} (h : bitC n c k = false) : ocTo n c (k + 1) = ocTo n c k := by
  simp [ocTo, List.range_succ, List.filter_append, h]
theorem ocTo_len (n : Int) (c k : Nat) : (ocTo n c k).length ≤ k := by
  simp only [ocTo, List.length_map]
  exact Nat.le_trans (List.length_filter_le _ _) (by simp)
def ofCode (n : Int) (c : Nat) : List Int := ocTo n c n.toNat
theorem mem_ocTo {n : Int} {c k : Nat} {z : Int} : z ∈ ocTo n c k ↔ (0 ≤ z ∧ z < k) ∧ c.testBit (n - 1 - z).toNat = true := by
  unfold ocTo
  rw [List.mem_map]
  constructor
  · rintro ⟨p, hp, rfl⟩
    rw [List.mem_filter, List.mem_range] at hp
    exact ⟨⟨by omega, by omega⟩, hp.2⟩
  · rintro ⟨⟨h1, h2⟩, h⟩
    refine ⟨z.toNat, ?_, by omega⟩
    rw [List.mem_filter, List.mem_range]
    refine ⟨by omega, ?_⟩
    unfold bitC
    rw [show ((z.toNat : Nat) : Int) = z by omega]; exact h
theorem ofCode_rok {n : Int} (h1 : 1 ≤ n) (h2 : n ≤ 24) (c : Nat) : Rok n (ofCode n c) where
  lo := h1
  hi := h2
  ge := fun z hz => (mem_ocTo.1 hz).1.1
  lt := fun z hz => by have := (mem_ocTo.1 hz).1.2; omega
  inc := by
    unfold ofCode ocTo
    rw [List.pairwise_map]
    exact (List.Pairwise.filter _ List.pairwise_lt_range).imp fun h => by omega
theorem code_andR {a b : Nat} (ha : a < 16777216) (hb : b < 16777216) : bits .and .i64 (a : Int) (b : Int) = ((a &&& b : Nat) : Int) :=
  (bits_nat .i64 24 (by decide) (fun n h0 h1 => by rw [IntKind.wrap_i64]; omega) a b ha hb).1
theorem shr_bit (c s : Nat) : c / 2 ^ s % 2 = if c.testBit s = true then 1 else 0 := by
  rw [Nat.testBit_eq_decide_div_mod_eq]
  by_cases h : c / 2 ^ s % 2 = 1
  · simp [h]
  · have : c / 2 ^ s % 2 = 0 := by omega
    simp [this]

theorem bitI (n : Int) (c k s : Nat) (hs : n - 1 - (k : Int) = (s : Int)) (hc : c < 16777216) : bits .and .i64 ((c : Int) / 2 ^ s) 1 = if bitC n c k = true then 1 else 0 := by
  have e1 : ((c : Int) / 2 ^ s) = ((c / 2 ^ s : Nat) : Int) := by rw [Int.natCast_ediv, Int.natCast_pow]; rfl
  have h1 : c / 2 ^ s ≤ c := Nat.div_le_self _ _
  have e2 : bits .and .i64 ((c / 2 ^ s : Nat) : Int) ((1 : Nat) : Int) = ((c / 2 ^ s &&& 1 : Nat) : Int) := by rw [← code_andR (by omega) (by decide)]
  rw [e1]
  refine e2.trans ?_
  rw [Nat.and_one_is_mod, shr_bit]
  unfold bitC
  rw [hs]
  have e3 : ((s : Int)).toNat = s := by omega
  rw [e3]
  split <;> rfl

set_option maxRecDepth 20000 in
set_option maxHeartbeats 1600000 in
theorem implRhythmAt (n : Int) (c : Nat) (w : World) (hlo : 1 ≤ n) (hhi : n ≤ 24) (hc : c < 16777216) :
    Calls Try.prog 117 #[.int .i64 n, .int .i64 (c : Int)] w (RetRhythm w n (ofCode n c)) := by
  go_enter Try.func117, Try.ntmps117
  go_wp2_with fail
  go_loopw [10] (fun i wr => ∃ k : Nat, (k : Int) ≤ n ∧ i = .int .i64 k ∧ ∃ a' m' c', (ocTo n c k).length = m' ∧ Own wr (w.heap.size + 2) (.slice a' m' c') (ocTo n c k) ∧ Bx wr (w.heap.size + 1) (.int .i64 n) (.slice a' m' c') 25 ∧ Bx wr w.heap.size (.int .i64 0) (.slice none 0 0) 25 ∧ Below w.heap.size w wr) (fun i _ => (n - intOf i).toNat)
  case atStart => exact ⟨0, by omega, rfl, none, 0, 0, rfl, Own.nil _ _, by (repeat (first | (with_reducible refine Bx.newAt _ _ _ _ ?_; simp; done) | (with_reducible refine Bx.alloc ?_ _) | (with_reducible refine Bx.drew ?_) | (with_reducible refine Bx.drewN ?_ _))), by (repeat (first | (with_reducible refine Bx.newAt _ _ _ _ ?_; simp; done) | (with_reducible refine Bx.alloc ?_ _) | (with_reducible refine Bx.drew ?_) | (with_reducible refine Bx.drewN ?_ _))), by (repeat (first | (with_reducible exact (Below.refl _ _)) | (with_reducible refine bel_alloc ?_ _) | (with_reducible refine Below.drew ?_) | (with_reducible refine bel_drewN ?_ _) | (with_reducible refine Below.setCell ?_ (by simp) _)))⟩
  case round =>
    obtain ⟨k, hk, rfl, a', m', c', hm', hown, hout, hres, hbel⟩ := hrel
    have hsz := hout.lt
    have hml := ocTo_len n c k
    have hm2 : m' ≤ 1048576 := by omega
    have HM := Lib.hid hm'
    by_cases hlt : (k : Int) < n
    · have HY := Lib.hid hout
      have HO := Lib.hid hown
      have HR := Lib.hid hres
      have HB := Lib.hid hbel
      have y1 := hout.c1
      have g1 := hout.f 1
      obtain ⟨s, hs⟩ : ∃ s : Nat, n - 1 - (k : Int) = (s : Int) := ⟨(n - 1 - (k : Int)).toNat, by omega⟩
      have hb := bitI n c k s hs hc
      cases hh : bitC n c k with
      | true =>
        have Hn := Lib.hid (ocTo_yes hh)
        rw [hh, if_pos rfl] at hb
        have hb2 : (bits BinOp.and IntKind.i64 ((c : Int) / 2 ^ s) 1 == 1) = true := by rw [hb]; rfl
        clear hres hbel hout hm' hown hh
        go_wp2_with (at_builtin; refine wpAppInt rfl _ _ rfl (w.heap.size + 2) a' m' c' (ocTo n c k) _ rfl rfl HO.out HM.out (by omega) (by omega) ?_; intro a1 c1 w3 ho1 hb1; have hy1 := HY.out.below hb1 (by omega); have p1 := hy1.c1; have gg1 := hy1.f 1)
        have HY3 : Hid (Bx (w3.setCell ⟨w.heap.size + 1, 1, none⟩ (.slice a1 (m' + 1) c1)) (w.heap.size + 1) _ (.slice a1 (m' + 1) c1) _) := hy1.set1 _
        have HO3 : Hid (Own (w3.setCell ⟨w.heap.size + 1, 1, none⟩ (.slice a1 (m' + 1) c1)) (w.heap.size + 2) (.slice a1 (m' + 1) c1) (ocTo n c (k + 1))) := by unfold Hid; rw [Hn.out]; exact ho1.setc (by simp) _
        have HR3 : Hid (Bx (w3.setCell ⟨w.heap.size + 1, 1, none⟩ (.slice a1 (m' + 1) c1)) w.heap.size _ _ _) := (HR.out.below hb1 (by omega)).set_other (by simp) _
        have HB3 : Hid (Below w.heap.size w (w3.setCell ⟨w.heap.size + 1, 1, none⟩ (.slice a1 (m' + 1) c1))) := (HB.out.trans (hb1.mono (by omega))).setCell (by simp) _
        have HM3 : Hid ((ocTo n c (k + 1)).length = m' + 1) := by unfold Hid; rw [Hn.out, List.length_append, HM.out]; rfl
        clear ho1 hb1 hy1 p1 gg1
        go_roundw
        case rel => exact ⟨k + 1, by omega, by go_num, a1, m' + 1, c1, HM3.out, HO3.out, HY3.out, HR3.out, HB3.out⟩
        case measure => simp [intOf]; omega
      | false =>
        have Hn := Lib.hid (ocTo_no hh)
        rw [hh, if_neg (by simp)] at hb
        have hb2 : (bits BinOp.and IntKind.i64 ((c : Int) / 2 ^ s) 1 == 1) = false := by rw [hb]; rfl
        clear hres hbel hout hm' hown hh
        go_wp2_with fail
        go_roundw
        case rel => exact ⟨k + 1, by omega, by go_num, a', m', c', by rw [Hn.out]; exact HM.out, by rw [Hn.out]; exact HO.out, HY.out, HR.out, HB.out⟩
        case measure => simp [intOf]; omega
    · have e : n = (k : Int) := by omega
      have hk2 : n.toNat = k := by omega
      have Hk2 := Lib.hid hk2
      clear hk2
      subst e
      have HO := Lib.hid hown
      have HR := Lib.hid hres
      have HB := Lib.hid hbel
      have y0 := hout.c0
      have y1 := hout.c1
      have p0 := hres.c0
      have p1 := hres.c1
      have f0 := hres.f 0
      have f1 := hres.f 1
      clear hown hres hbel hout hm'
      go_wp2
      have hfin := (HR.out.set0 (.int .i64 (k : Int))).set1 (.slice a' m' c')
      have r0 := hfin.c0
      have r1 := hfin.c1
      refine bodyPost_ret (v := .agg #[.int .i64 (k : Int), .slice a' m' c']) ?_ rfl ?_
      · simp [results, Try.results117, go_sem, r0, r1]
      · have hm := HM.out
        subst hm
        have e2 : ofCode (k : Int) c = ocTo (k : Int) c k := by unfold ofCode; rw [Hk2.out]
        rw [e2]
        exact ⟨a', c', rfl, ((HO.out.setc (by simp) _).setc (by simp) _).mono (by omega), (HB.out.setCell (by simp) _).setCell (by simp) _⟩

set_option maxRecDepth 20000 in
set_option maxHeartbeats 1600000 in
theorem specL05Of (n : Int) (c : Nat) (w : World) (hlo : 1 ≤ n) (hhi : n ≤ 24) (hc : c < 16777216) :
    Calls Try.prog 95 #[.int .i64 n, .int .i64 (c : Int)] w (RetRhythm w n (ofCode n c)) := by
  go_enter Try.func95, Try.ntmps95
  go_wp2_with fail
  go_loopw [6] (fun i wr => ∃ k : Nat, (k : Int) ≤ n ∧ i = .int .i64 k ∧ ∃ a' m' c', (ocTo n c k).length = m' ∧ Own wr (w.heap.size + 2) (.slice a' m' c') (ocTo n c k) ∧ Bx wr (w.heap.size + 1) (.int .i64 n) (.slice a' m' c') 25 ∧ Bx wr w.heap.size (.int .i64 0) (.slice none 0 0) 25 ∧ Below w.heap.size w wr) (fun i _ => (n - intOf i).toNat)
  case atStart => exact ⟨0, by omega, rfl, none, 0, 0, rfl, Own.nil _ _, by (repeat (first | (with_reducible refine Bx.newAt _ _ _ _ ?_; simp; done) | (with_reducible refine Bx.alloc ?_ _) | (with_reducible refine Bx.drew ?_) | (with_reducible refine Bx.drewN ?_ _))), by (repeat (first | (with_reducible refine Bx.newAt _ _ _ _ ?_; simp; done) | (with_reducible refine Bx.alloc ?_ _) | (with_reducible refine Bx.drew ?_) | (with_reducible refine Bx.drewN ?_ _))), by (repeat (first | (with_reducible exact (Below.refl _ _)) | (with_reducible refine bel_alloc ?_ _) | (with_reducible refine Below.drew ?_) | (with_reducible refine bel_drewN ?_ _) | (with_reducible refine Below.setCell ?_ (by simp) _)))⟩
  case round =>
    obtain ⟨k, hk, rfl, a', m', c', hm', hown, hout, hres, hbel⟩ := hrel
    have hsz := hout.lt
    have hml := ocTo_len n c k
    have hm2 : m' ≤ 1048576 := by omega
    have HM := Lib.hid hm'
    by_cases hlt : (k : Int) < n
    · have HY := Lib.hid hout
      have HO := Lib.hid hown
      have HR := Lib.hid hres
      have HB := Lib.hid hbel
      have y1 := hout.c1
      have g1 := hout.f 1
      obtain ⟨s, hs⟩ : ∃ s : Nat, n - 1 - (k : Int) = (s : Int) := ⟨(n - 1 - (k : Int)).toNat, by omega⟩
      have hb := bitI n c k s hs hc
      cases hh : bitC n c k with
      | true =>
        have Hn := Lib.hid (ocTo_yes hh)
        rw [hh, if_pos rfl] at hb
        have hb2 : (bits BinOp.and IntKind.i64 ((c : Int) / 2 ^ s) 1 == 1) = true := by rw [hb]; rfl
        clear hres hbel hout hm' hown hh
        go_wp2_with (at_builtin; refine wpAppInt rfl _ _ rfl (w.heap.size + 2) a' m' c' (ocTo n c k) _ rfl rfl HO.out HM.out (by omega) (by omega) ?_; intro a1 c1 w3 ho1 hb1; have hy1 := HY.out.below hb1 (by omega); have p1 := hy1.c1; have gg1 := hy1.f 1)
        have HY3 : Hid (Bx (w3.setCell ⟨w.heap.size + 1, 1, none⟩ (.slice a1 (m' + 1) c1)) (w.heap.size + 1) _ (.slice a1 (m' + 1) c1) _) := hy1.set1 _
        have HO3 : Hid (Own (w3.setCell ⟨w.heap.size + 1, 1, none⟩ (.slice a1 (m' + 1) c1)) (w.heap.size + 2) (.slice a1 (m' + 1) c1) (ocTo n c (k + 1))) := by unfold Hid; rw [Hn.out]; exact ho1.setc (by simp) _
        have HR3 : Hid (Bx (w3.setCell ⟨w.heap.size + 1, 1, none⟩ (.slice a1 (m' + 1) c1)) w.heap.size _ _ _) := (HR.out.below hb1 (by omega)).set_other (by simp) _
        have HB3 : Hid (Below w.heap.size w (w3.setCell ⟨w.heap.size + 1, 1, none⟩ (.slice a1 (m' + 1) c1))) := (HB.out.trans (hb1.mono (by omega))).setCell (by simp) _
        have HM3 : Hid ((ocTo n c (k + 1)).length = m' + 1) := by unfold Hid; rw [Hn.out, List.length_append, HM.out]; rfl
        clear ho1 hb1 hy1 p1 gg1
        go_roundw
        case rel => exact ⟨k + 1, by omega, by go_num, a1, m' + 1, c1, HM3.out, HO3.out, HY3.out, HR3.out, HB3.out⟩
        case measure => simp [intOf]; omega
      | false =>
        have Hn := Lib.hid (ocTo_no hh)
        rw [hh, if_neg (by simp)] at hb
        have hb2 : (bits BinOp.and IntKind.i64 ((c : Int) / 2 ^ s) 1 == 1) = false := by rw [hb]; rfl
        clear hres hbel hout hm' hown hh
        go_wp2_with fail
        go_roundw
        case rel => exact ⟨k + 1, by omega, by go_num, a', m', c', by rw [Hn.out]; exact HM.out, by rw [Hn.out]; exact HO.out, HY.out, HR.out, HB.out⟩
        case measure => simp [intOf]; omega
    · have e : n = (k : Int) := by omega
      have hk2 : n.toNat = k := by omega
      have Hk2 := Lib.hid hk2
      clear hk2
      subst e
      have HO := Lib.hid hown
      have HR := Lib.hid hres
      have HB := Lib.hid hbel
      have y0 := hout.c0
      have y1 := hout.c1
      have p0 := hres.c0
      have p1 := hres.c1
      have f0 := hres.f 0
      have f1 := hres.f 1
      clear hown hres hbel hout hm'
      go_wp2
      have hfin := (HR.out.set0 (.int .i64 (k : Int))).set1 (.slice a' m' c')
      have r0 := hfin.c0
      have r1 := hfin.c1
      refine bodyPost_ret (v := .agg #[.int .i64 (k : Int), .slice a' m' c']) ?_ rfl ?_
      · simp [results, Try.results95, go_sem, r0, r1]
      · have hm := HM.out
        subst hm
        have e2 : ofCode (k : Int) c = ocTo (k : Int) c k := by unfold ofCode; rw [Hk2.out]
        rw [e2]
        exact ⟨a', c', rfl, ((HO.out.setc (by simp) _).setc (by simp) _).mono (by omega), (HB.out.setCell (by simp) _).setCell (by simp) _⟩
end Go.Proofs.Ytopfenhphnmfkaa

namespace Go.Proofs.Ytopfenhphnmfkaa
set_option maxRecDepth 100000

def q1 (a : Nat) : Nat := (a / 2 &&& 6148914691236517205) + (a &&& 6148914691236517205)
def q2 (a : Nat) : Nat := (a / 4 &&& 3689348814741910323) + (a &&& 3689348814741910323)
def q3 (a : Nat) : Nat := (a / 16 + a) &&& 1085102592571150095
def t1 (x : Nat) : Nat := (x / 2 &&& 85) + (x &&& 85)
def t2 (x : Nat) : Nat := (x / 4 &&& 51) + (x &&& 51)
def t3 (x : Nat) : Nat := (x / 16 + x) % 16
theorem k85 : ∀ z, z < 256 → z &&& 85 = z % 128 &&& 85 := by decide
theorem k51 : ∀ z, z < 256 → z &&& 51 = z % 64 &&& 51 := by decide
theorem k15 : ∀ z, z < 256 → z &&& 15 = z % 16 := by decide
theorem t1_lt : ∀ x, x < 256 → t1 x < 256 := by decide
theorem t2_le : ∀ x, x < 256 → t2 (t1 x) % 16 ≤ 4 ∧ t2 (t1 x) / 16 ≤ 4 := by decide
theorem t3_pop : ∀ x, x < 256 → t3 (t2 (t1 x)) = pop 8 x := by decide
theorem and3 (a m : Nat) (h : a < 16777216) : a &&& m = (a % 256 &&& m % 256) + 256 * (a / 256 % 256 &&& m / 256 % 256) + 65536 * (a / 65536 &&& m / 65536 % 256) := by
  rw [and_split a m, and_split (a / 256) (m / 256), and_split (a / 256 / 256) (m / 256 / 256)]
  have e0 : a / 256 / 256 / 256 = 0 := by omega
  have e1 : a / 256 / 256 % 256 = a / 65536 := by omega
  have e2 : m / 256 / 256 % 256 = m / 65536 % 256 := by omega
  rw [e0, Nat.zero_and, e1, e2]
  omega
theorem q1_split (a : Nat) (h : a < 16777216) : q1 a = t1 (a % 256) + 256 * t1 (a / 256 % 256) + 65536 * t1 (a / 65536) := by
  unfold q1 t1
  rw [and3 (a / 2) _ (by omega), and3 a _ h]
  have h0 := k85 (a / 2 % 256) (by omega)
  have h1 := k85 (a / 2 / 256 % 256) (by omega)
  have h2 : a / 2 / 65536 = a / 65536 / 2 := by omega
  have e0 : a / 2 % 256 % 128 = a % 256 / 2 := by omega
  have e1 : a / 2 / 256 % 256 % 128 = a / 256 % 256 / 2 := by omega
  rw [e0] at h0
  rw [e1] at h1
  rw [show 6148914691236517205 % 256 = 85 from rfl, h0, h1, h2]
  omega
theorem q2_split (a : Nat) (h : a < 16777216) : q2 a = t2 (a % 256) + 256 * t2 (a / 256 % 256) + 65536 * t2 (a / 65536) := by
  unfold q2 t2
  rw [and3 (a / 4) _ (by omega), and3 a _ h]
  have h0 := k51 (a / 4 % 256) (by omega)
  have h1 := k51 (a / 4 / 256 % 256) (by omega)
  have h2 : a / 4 / 65536 = a / 65536 / 4 := by omega
  have e0 : a / 4 % 256 % 64 = a % 256 / 4 := by omega
  have e1 : a / 4 / 256 % 256 % 64 = a / 256 % 256 / 4 := by omega
  rw [e0] at h0
  rw [e1] at h1
  rw [show 3689348814741910323 % 256 = 51 from rfl, h0, h1, h2]
  omega
theorem q3_split (x y z : Nat) (hx : x % 16 ≤ 4 ∧ x / 16 ≤ 4) (hy : y % 16 ≤ 4 ∧ y / 16 ≤ 4) (hz : z % 16 ≤ 4 ∧ z / 16 ≤ 4) : q3 (x + 256 * y + 65536 * z) = t3 x + 256 * t3 y + 65536 * t3 z := by
  unfold q3
  have h16 : (x + 256 * y + 65536 * z) / 16 = x / 16 + 16 * y + 4096 * z := by omega
  rw [h16]
  rw [and3 _ _ (by omega)]
  rw [show 1085102592571150095 % 256 = 15 from rfl]
  rw [k15 _ (by omega), k15 _ (by omega), k15 _ (by omega)]
  generalize hs : x / 16 + 16 * y + 4096 * z + (x + 256 * y + 65536 * z) = S
  have f0 : S % 256 = x / 16 + x + 16 * (y % 16) := by omega
  have f1 : S / 256 = y / 16 + y + 16 * z + 256 * z := by omega
  have f2 : S / 65536 = z / 16 + z := by omega
  have e0 : S % 256 % 16 = t3 x := by rw [f0]; unfold t3; omega
  have e1 : S / 256 % 256 % 16 = t3 y := by rw [f1]; unfold t3; omega
  have e2 : S / 65536 % 16 = t3 z := by rw [f2]; rfl
  rw [e0, e1, e2]
/-- The three bytes. -/
theorem q_bytes (a : Nat) (h : a < 16777216) : q1 a < 16777216 ∧ q2 (q1 a) < 16777216 ∧ ∃ x y z, x ≤ 8 ∧ y ≤ 8 ∧ z ≤ 8 ∧ q3 (q2 (q1 a)) = x + 256 * y + 65536 * z ∧ pop 24 a = x + y + z := by
  have b0 : a % 256 < 256 := by omega
  have b1 : a / 256 % 256 < 256 := by omega
  have b2 : a / 65536 < 256 := by omega
  have e1 := q1_split a h
  have u0 := t1_lt _ b0
  have u1 := t1_lt _ b1
  have u2 := t1_lt _ b2
  have l1 : q1 a < 16777216 := by omega
  have e2 := q2_split (q1 a) l1
  rw [show q1 a % 256 = t1 (a % 256) by omega, show q1 a / 256 % 256 = t1 (a / 256 % 256) by omega, show q1 a / 65536 = t1 (a / 65536) by omega] at e2
  have v0 := t2_le _ b0
  have v1 := t2_le _ b1
  have v2 := t2_le _ b2
  have e3 := q3_split _ _ _ v0 v1 v2
  rw [← e2] at e3
  have w0 := t3_pop _ b0
  have w1 := t3_pop _ b1
  have w2 := t3_pop _ b2
  have hp : pop 24 a = pop 8 (a % 256) + pop 8 (a / 256 % 256) + pop 8 (a / 65536) := by
    have p1 : pop 24 a = pop 8 (a % 256) + pop 16 (a / 256) := pop_split 16 a
    have p2 : pop 16 (a / 256) = pop 8 (a / 256 % 256) + pop 8 (a / 256 / 256) := pop_split 8 (a / 256)
    have p3 : a / 256 / 256 = a / 65536 := by omega
    rw [p1, p2, p3]; omega
  have c8 : ∀ x, pop 8 x ≤ 8 := by
    intro x
    rw [pop_bits]
    exact Nat.le_trans (List.length_filter_le _ _) (by simp)
  refine ⟨l1, by omega, _, _, _, c8 (a % 256), c8 (a / 256 % 256), c8 (a / 65536), ?_, hp⟩
  rw [e3, w0, w1, w2]
end Go.Proofs.Ytopfenhphnmfkaa

namespace Go.Proofs.Ytopfenhphnmfkaa
open Go.RowKit

theorem band (x m : Nat) (hx : x < 2 ^ 64) (hm : m < 2 ^ 64) : bits .and .u64 (x : Int) (m : Int) = ((x &&& m : Nat) : Int) :=
  (bits_nat .u64 64 (by decide) (fun n h0 h1 => by rw [IntKind.wrap_u64]; omega) x m hx hm).1
theorem wrapNat (x : Nat) (hx : x < 18446744073709551616) : IntKind.u64.wrap (x : Int) = (x : Int) := by rw [IntKind.wrap_u64]; omega
def I1 (a : Int) : Int := IntKind.u64.wrap (bits BinOp.and IntKind.u64 (a / 2) 6148914691236517205 + bits BinOp.and IntKind.u64 a 6148914691236517205)
def I2 (a : Int) : Int := IntKind.u64.wrap (bits BinOp.and IntKind.u64 (a / 4) 3689348814741910323 + bits BinOp.and IntKind.u64 a 3689348814741910323)
def I3 (a : Int) : Int := bits BinOp.and IntKind.u64 (IntKind.u64.wrap (a / 16 + a)) 1085102592571150095
def I4 (a : Int) : Int := IntKind.u64.wrap (a + a / 256)
def I5 (a : Int) : Int := IntKind.u64.wrap (a + a / 65536)
def I6 (a : Int) : Int := IntKind.u64.wrap (a + a / 4294967296)
theorem I1_nat {a : Nat} (h : a < 16777216) (h' : q1 a < 16777216) : I1 a = (q1 a : Nat) := by
  unfold I1
  have e : (a : Int) / 2 = ((a / 2 : Nat) : Int) := by omega
  rw [e]
  have b1 := band (a / 2) 6148914691236517205 (by omega) (by decide)
  have b2 := band a 6148914691236517205 (by omega) (by decide)
  have c : ((6148914691236517205 : Nat) : Int) = 6148914691236517205 := rfl
  rw [c] at b1 b2
  rw [b1, b2, ← Int.natCast_add]
  exact wrapNat _ (by unfold q1 at h'; omega)
theorem I2_nat {a : Nat} (h : a < 16777216) (h' : q2 a < 16777216) : I2 a = (q2 a : Nat) := by
  unfold I2
  have e : (a : Int) / 4 = ((a / 4 : Nat) : Int) := by omega
  rw [e]
  have b1 := band (a / 4) 3689348814741910323 (by omega) (by decide)
  have b2 := band a 3689348814741910323 (by omega) (by decide)
  have c : ((3689348814741910323 : Nat) : Int) = 3689348814741910323 := rfl
  rw [c] at b1 b2
  rw [b1, b2, ← Int.natCast_add]
  exact wrapNat _ (by unfold q2 at h'; omega)
theorem I3_nat {a : Nat} (h : a < 16777216) : I3 a = (q3 a : Nat) := by
  unfold I3
  have e : (a : Int) / 16 + a = ((a / 16 + a : Nat) : Int) := by omega
  rw [e, wrapNat _ (by omega)]
  exact band (a / 16 + a) 1085102592571150095 (by omega) (by decide)
theorem band127 (x : Nat) (hx : x < 16777216) : bits .and .i64 (x : Int) 127 = ((x % 128 : Nat) : Int) := by
  have h := (bits_nat .i64 24 (by decide) (fun n h0 h1 => by rw [IntKind.wrap_i64]; omega) x 127 hx (by decide)).1
  have e : x &&& 127 = x % 128 := Nat.and_two_pow_sub_one_eq_mod x 7
  rw [e] at h
  exact h

set_option maxHeartbeats 1000000 in
theorem implOnes64 (a : Nat) (w : World) (ha : a < 16777216) :
    Calls Try.prog 127 #[.int .u64 (a : Int)] w fun e w' => e = .returned (.int .i64 (pop 24 a : Nat)) ∧ w = w' := by
  obtain ⟨l1, l2, x, y, z, hx, hy, hz, h3, hp⟩ := q_bytes a ha
  have r1 := I1_nat ha l1
  have r2 := I2_nat l1 l2
  have r3 := I3_nat l2
  have hd : (q3 (q2 (q1 a)) : Nat) < 16777216 := by omega
  have Hp := Lib.hid hp
  generalize hD : q3 (q2 (q1 a)) = D at *
  go_enter Try.func127, Try.ntmps127
  go_wp2
  go_ret
  refine ⟨ret_int ?_, rfl⟩
  show bits BinOp.and IntKind.i64 (wrap64 (I6 (I5 (I4 (I3 (I2 (I1 (a : Int)))))))) 127 = _
  rw [r1, r2, r3]
  have e4 : I4 (D : Int) = ((D + D / 256 : Nat) : Int) := by
    unfold I4
    rw [← wrapNat (D + D / 256) (by omega)]; rfl
  have e5 : I5 ((D + D / 256 : Nat) : Int) = ((D + D / 256 + (D + D / 256) / 65536 : Nat) : Int) := by
    unfold I5
    rw [← wrapNat (D + D / 256 + (D + D / 256) / 65536) (by omega)]; rfl
  generalize hE : D + D / 256 + (D + D / 256) / 65536 = E at *
  have hE1 : E < 17000000 := by omega
  have e6 : I6 (E : Int) = (E : Int) := by
    unfold I6
    have e : (E : Int) + (E : Int) / 4294967296 = (E : Int) := by omega
    rw [e, wrapNat _ (by omega)]
  rw [e4, e5, e6, IntWalk.wrap64_in _ ⟨by omega, by omega⟩, band127 E (by omega), Hp.out]
  have g1 : D / 256 = y + 256 * z := by omega
  have g2 : (D + D / 256) / 65536 = z := by rw [g1]; omega
  have g3 : E = x + y + z + 256 * (y + z) + 65536 * z := by rw [← hE, g2, g1]; omega
  have h8 : E % 128 = x + y + z := by omega
  rw [h8]

theorem implOnes (a : Nat) (w : World) (ha : a < 16777216) :
    Calls Try.prog 110 #[.int .u64 (a : Int)] w fun e w' => e = .returned (.int .i64 (pop 24 a : Nat)) ∧ w = w' := by
  have Ha := Lib.hid ha
  clear ha
  go_enter Try.func110, Try.ntmps110
  go_wp2_with (first | (go_at_call 127; refine (implOnes64 a _ Ha.out).mono ?_; rintro e w1 ⟨rfl, rfl⟩))
  go_ret
  exact ⟨rfl, rfl⟩
end Go.Proofs.Ytopfenhphnmfkaa

namespace Go.Proofs.Ytopfenhphnmfkaa
open Go.RowKit

def valAreTwins (n : Int) (x : List Int) (m : Int) (y : List Int) : Bool := valSameVector n x m y && !valAreForms n x m y
theorem twins_no {n : Int} {x : List Int} {m : Int} {y : List Int} (h : valSameVector n x m y = false) : valAreTwins n x m y = false := by simp [valAreTwins, h]
theorem twins_yes {n : Int} {x : List Int} {m : Int} {y : List Int} (h : valSameVector n x m y = true) : valAreTwins n x m y = !valAreForms n x m y := by simp [valAreTwins, h]

theorem implAreTwinsC (n : Int) (u : Value) (x : List Int) (c : I64 n) (m : Int) (v : Value) (y : List Int) (d : I64 m) (w : World) (hu : Ints w w.heap.size u x) (hv : Ints w w.heap.size v y) :
    Calls Try.prog 37 #[.agg #[.int .i64 n, u], .agg #[.int .i64 m, v]] w fun e w' => e = .returned (.bool (valAreTwins n x m y)) ∧ Below w.heap.size w w' := by
  have hu' := hu
  have hv' := hv
  obtain ⟨a, cap, rfl, -⟩ := hu
  obtain ⟨a', cap', rfl, -⟩ := hv
  have hh := Held2.new w (.int .i64 n) (.slice a x.length cap) (.int .i64 m) (.slice a' y.length cap') 25 25
  have H0 := Lib.hid hh
  clear hh
  cases hs : valSameVector n x m y with
  | false =>
    have Hs := Lib.hid hs
    have Hf := Lib.hid (twins_no hs)
    clear hs
    go_enter Try.func37, Try.ntmps37
    go_wp2_with fail
    refine withWorld fun X hX => ?_
    have hH : Held2 w _ _ _ _ X := hX ▸ H0.out
    clear hX
    refine (implSameVectorC _ _ x c _ _ y d _ (Ints.ofBelow hu' hH.1) (Ints.ofBelow hv' hH.1)).mono ?_
    rintro e w1 ⟨rfl, b1⟩
    rw [Hs.out]
    have H1 := Lib.hid (hH.after b1)
    clear b1 hH X H0
    go_wp2
    go_ret
    exact ⟨ret_bool Hf.out.symm, H1.out.1⟩
  | true =>
    have Hs := Lib.hid hs
    have Hf := Lib.hid (twins_yes hs)
    clear hs
    go_enter Try.func37, Try.ntmps37
    go_wp2_with fail
    refine withWorld fun X hX => ?_
    have hH : Held2 w _ _ _ _ X := hX ▸ H0.out
    clear hX
    refine (implSameVectorC _ _ x c _ _ y d _ (Ints.ofBelow hu' hH.1) (Ints.ofBelow hv' hH.1)).mono ?_
    rintro e w1 ⟨rfl, b1⟩
    rw [Hs.out]
    have H1 := Lib.hid (hH.after b1)
    clear b1 hH X H0
    obtain ⟨q0, q1⟩ := H1.out.2.1
    obtain ⟨q2, q3⟩ := H1.out.2.2
    go_wp2_with fail
    refine (implAreFormsC _ _ x c _ _ y d _ (Ints.ofBelow hu' H1.out.1) (Ints.ofBelow hv' H1.out.1)).mono ?_
    rintro e w2 ⟨rfl, b2⟩
    have H2 := Lib.hid (H1.out.after b2).1
    clear b2 H1 q0 q1 q2 q3
    go_wp2
    go_ret
    exact ⟨ret_bool (by rw [Hf.out]), H2.out⟩

theorem specAreTwinsC (n : Int) (u : Value) (x : List Int) (c : I64 n) (m : Int) (v : Value) (y : List Int) (d : I64 m) (w : World) (hu : Ints w w.heap.size u x) (hv : Ints w w.heap.size v y) :
    Calls Try.prog 36 #[.agg #[.int .i64 n, u], .agg #[.int .i64 m, v]] w fun e w' => e = .returned (.bool (valAreTwins n x m y)) ∧ Below w.heap.size w w' := by
  have hu' := hu
  have hv' := hv
  obtain ⟨a, cap, rfl, -⟩ := hu
  obtain ⟨a', cap', rfl, -⟩ := hv
  have hh := Held2.new w (.int .i64 n) (.slice a x.length cap) (.int .i64 m) (.slice a' y.length cap') 25 25
  have H0 := Lib.hid hh
  clear hh
  cases hs : valSameVector n x m y with
  | false =>
    have Hs := Lib.hid hs
    have Hf := Lib.hid (twins_no hs)
    clear hs
    go_enter Try.func36, Try.ntmps36
    go_wp2_with fail
    refine withWorld fun X hX => ?_
    have hH : Held2 w _ _ _ _ X := hX ▸ H0.out
    clear hX
    refine (specSameVectorC _ _ x c _ _ y d _ (Ints.ofBelow hu' hH.1) (Ints.ofBelow hv' hH.1)).mono ?_
    rintro e w1 ⟨rfl, b1⟩
    rw [Hs.out]
    have H1 := Lib.hid (hH.after b1)
    clear b1 hH X H0
    go_wp2
    go_ret
    exact ⟨ret_bool Hf.out.symm, H1.out.1⟩
  | true =>
    have Hs := Lib.hid hs
    have Hf := Lib.hid (twins_yes hs)
    clear hs
    go_enter Try.func36, Try.ntmps36
    go_wp2_with fail
    refine withWorld fun X hX => ?_
    have hH : Held2 w _ _ _ _ X := hX ▸ H0.out
    clear hX
    refine (specSameVectorC _ _ x c _ _ y d _ (Ints.ofBelow hu' hH.1) (Ints.ofBelow hv' hH.1)).mono ?_
    rintro e w1 ⟨rfl, b1⟩
    rw [Hs.out]
    have H1 := Lib.hid (hH.after b1)
    clear b1 hH X H0
    obtain ⟨q0, q1⟩ := H1.out.2.1
    obtain ⟨q2, q3⟩ := H1.out.2.2
    go_wp2_with fail
    refine (specAreFormsC _ _ x c _ _ y d _ (Ints.ofBelow hu' H1.out.1) (Ints.ofBelow hv' H1.out.1)).mono ?_
    rintro e w2 ⟨rfl, b2⟩
    have H2 := Lib.hid (H1.out.after b2).1
    clear b2 H1 q0 q1 q2 q3
    go_wp2
    go_ret
    exact ⟨ret_bool (by rw [Hf.out]), H2.out⟩
end Go.Proofs.Ytopfenhphnmfkaa

namespace Go.Proofs.Ytopfenhphnmfkaa
open Go.RowKit

def okW (n : Int) (x y : List Int) : Bool := eqL (formV n y) y && valAreTwins n x n y
def okT (n : Int) (x : List Int) (c : Nat) : Bool := decide (pop 24 c = x.length) && okW n x (ofCode n c)
def twTo (n : Int) (x : List Int) (M i : Nat) : List Rh := ((List.range i).filter fun j => okT n x (M - 1 - j)).map fun j => (n, ofCode n (M - 1 - j))
theorem twTo_yes {n : Int} {x : List Int} {M i c : Nat} (hc : M - 1 - i = c) (h : okT n x c = true) : twTo n x M (i + 1) = twTo n x M i ++ [(n, ofCode n c)] := by
  subst hc; simp [twTo, List.range_succ, List.filter_append, h]
theorem twTo_no {n : Int} {x : List Int} {M i c : Nat} (hc : M - 1 - i = c) (h : okT n x c = false) : twTo n x M (i + 1) = twTo n x M i := by
  subst hc; simp [twTo, List.range_succ, List.filter_append, h]
theorem twTo_len (n : Int) (x : List Int) (M i : Nat) : (twTo n x M i).length ≤ i := by
  simp only [twTo, List.length_map]
  exact Nat.le_trans (List.length_filter_le _ _) (by simp)
def okTw (n : Int) (x : List Int) : Bool := rok n x && decide (n ≤ 12)
def lstTwinsOf (n : Int) (x : List Int) : List Rh := if okTw n x = true then twTo n x (2 ^ n.toNat) (2 ^ n.toNat) else []
theorem twinsOf_no {n : Int} {x : List Int} (h : okTw n x = false) : lstTwinsOf n x = [] := by simp [lstTwinsOf, h]
theorem twinsOf_yes {n : Int} {x : List Int} (h : okTw n x = true) : lstTwinsOf n x = twTo n x (2 ^ n.toNat) (2 ^ n.toNat) := by simp [lstTwinsOf, h]
theorem pow12 {n : Int} (h : n ≤ 12) : 2 ^ n.toNat ≤ 4096 := Nat.le_trans (Nat.pow_le_pow_right (by decide) (show n.toNat ≤ 12 by omega)) (by decide)
theorem pow_pos2 (n : Int) : 1 ≤ 2 ^ n.toNat := Nat.one_le_two_pow
theorem lenTwinsOf (n : Int) (x : List Int) : (lstTwinsOf n x).length ≤ 4096 ∧ ∀ i, i < (lstTwinsOf n x).length → (rhX (lstTwinsOf n x) i).length ≤ 24 := by
  cases h : okTw n x with
  | false => rw [twinsOf_no h]; exact ⟨by simp, fun i hi => by simp at hi⟩
  | true =>
    rw [twinsOf_yes h]
    have h' := h
    simp only [okTw, Bool.and_eq_true, decide_eq_true_eq] at h'
    have hR := (rok_iff n x).1 h'.1
    refine ⟨Nat.le_trans (twTo_len _ _ _ _) (pow12 h'.2), fun i hi => ?_⟩
    have hm : ∀ p ∈ twTo n x (2 ^ n.toNat) (2 ^ n.toNat), p.2.length ≤ 24 := fun p hp => by
      simp only [twTo, List.mem_map] at hp
      obtain ⟨j, _, rfl⟩ := hp
      have h1 := ocTo_len n (2 ^ n.toNat - 1 - j) n.toNat
      have := hR.hi
      simp only [ofCode]; omega
    have he : (twTo n x (2 ^ n.toNat) (2 ^ n.toNat)).getD i (0, []) = (twTo n x (2 ^ n.toNat) (2 ^ n.toNat))[i] := by
      simp [List.getD_eq_getElem?_getD, List.getElem?_eq_getElem hi]
    unfold rhX
    rw [he]
    exact hm _ (List.getElem_mem hi)

set_option maxRecDepth 20000 in
set_option maxHeartbeats 2000000 in
theorem implTwin1 (n : Int) (u v : Value) (x y : List Int) (q : Nat) (w : World) (hR : Rok n x) (hS : Rok n y) (hq : q < w.heap.size) (hq0 : w.cell? ⟨q, 0, none⟩ = some (.int .i64 n)) (hq1 : w.cell? ⟨q, 1, none⟩ = some u)
    (hu : Ints w w.heap.size u x) (hv : Ints w w.heap.size v y) :
    Calls Try.prog 88 #[.agg #[.int .i64 n, v], .pointer (some ⟨q, 0, none⟩)] w fun e w' => e = .returned (.bool (okW n x y)) ∧ Below w.heap.size w w' := by
  have hu' := hu
  have hv' := hv
  obtain ⟨a, cap, rfl, -⟩ := hu'
  obtain ⟨a', cap', rfl, -⟩ := hv'
  have hlo := hR.lo
  have hhi := hR.hi
  have cI : I64 n := ⟨by omega, by omega⟩
  have HB0 : Hid (Below w.heap.size w (w.alloc (.cells #[.int .i64 n, .slice a' y.length cap'] 25)).drew) := by unfold Hid; (repeat (first | (with_reducible exact (Below.refl _ _)) | (with_reducible refine bel_alloc ?_ _) | (with_reducible refine Below.drew ?_) | (with_reducible refine bel_drewN ?_ _) | (with_reducible refine Below.setCell ?_ (by simp) _)))
  have HX0 : Hid (Bx (w.alloc (.cells #[.int .i64 n, .slice a' y.length cap'] 25)).drew w.heap.size (.int .i64 n) (.slice a' y.length cap') 25) := by unfold Hid; (repeat (first | (with_reducible refine Bx.newAt _ _ _ _ ?_; simp; done) | (with_reducible refine Bx.alloc ?_ _) | (with_reducible refine Bx.drew ?_) | (with_reducible refine Bx.drewN ?_ _)))
  have HQ0 := Lib.hid hq0
  have HQ1 := Lib.hid hq1
  cases he : eqL (formV n y) y with
  | false =>
    have Hf : Hid (okW n x y = false) := by unfold Hid okW; rw [he]; rfl
    have He : Hid (eqR n n (formV n y) y = false) := by unfold Hid; rw [eqR_same]; exact he
    clear he
    go_enter Try.func88, Try.ntmps88
    go_wp2_with fail
    go_region_with (first
      | (go_at_call 66; refine (implForm _ _ y _ hS (Ints.ofBelow hv HB0.out)).mono ?_; rintro e w1 ⟨a1, c1, rfl, o1, b1⟩; have HB1 := Lib.hid (bel_step HB0.out b1 HB0.out.size); have hbx1 := HX0.out.below b1 HX0.out.lt; have HX1 := Lib.hid hbx1; have p0 := hbx1.c0; have p1 := hbx1.c1; have s0 := ((bcell HB1.out).1 _ _ hq).trans HQ0.out; have s1 := ((bcell HB1.out).1 _ _ hq).trans HQ1.out)
      | (go_at_call 64; refine (implEqualsC _ _ _ _ (formV n y) y _ o1.ints (Ints.ofBelow hv HB1.out)).mono ?_; rintro e w2 ⟨rfl, b2⟩; rw [He.out]; have HB2 := Lib.hid (bel_step HB1.out b2 HB1.out.size); have hbx2 := HX1.out.below b2 HX1.out.lt; have r0 := hbx2.c0; have r1 := hbx2.c1; have k0 := ((bcell HB2.out).1 _ _ hq).trans HQ0.out; have k1 := ((bcell HB2.out).1 _ _ hq).trans HQ1.out))
    all_goals
      go_wp2
      go_ret
      exact ⟨ret_bool Hf.out.symm, HB2.out⟩
  | true =>
    have Hf : Hid (okW n x y = valAreTwins n x n y) := by unfold Hid okW; rw [he]; rfl
    have He : Hid (eqR n n (formV n y) y = true) := by unfold Hid; rw [eqR_same]; exact he
    clear he
    go_enter Try.func88, Try.ntmps88
    go_wp2_with fail
    go_region_with (first
      | (go_at_call 66; refine (implForm _ _ y _ hS (Ints.ofBelow hv HB0.out)).mono ?_; rintro e w1 ⟨a1, c1, rfl, o1, b1⟩; have HB1 := Lib.hid (bel_step HB0.out b1 HB0.out.size); have hbx1 := HX0.out.below b1 HX0.out.lt; have HX1 := Lib.hid hbx1; have p0 := hbx1.c0; have p1 := hbx1.c1; have s0 := ((bcell HB1.out).1 _ _ hq).trans HQ0.out; have s1 := ((bcell HB1.out).1 _ _ hq).trans HQ1.out)
      | (go_at_call 64; refine (implEqualsC _ _ _ _ (formV n y) y _ o1.ints (Ints.ofBelow hv HB1.out)).mono ?_; rintro e w2 ⟨rfl, b2⟩; rw [He.out]; have HB2 := Lib.hid (bel_step HB1.out b2 HB1.out.size); have hbx2 := HX1.out.below b2 HX1.out.lt; have r0 := hbx2.c0; have r1 := hbx2.c1; have k0 := ((bcell HB2.out).1 _ _ hq).trans HQ0.out; have k1 := ((bcell HB2.out).1 _ _ hq).trans HQ1.out)
      | (go_at_call 37; refine (implAreTwinsC _ _ x cI _ _ y cI _ (Ints.ofBelow hu HB2.out) (Ints.ofBelow hv HB2.out)).mono ?_; rintro e w3 ⟨rfl, b3⟩; have HB3 := Lib.hid (bel_step HB2.out b3 HB2.out.size)))
    all_goals
      go_wp2
      go_ret
      exact ⟨ret_bool Hf.out.symm, HB3.out⟩
end Go.Proofs.Ytopfenhphnmfkaa

namespace Go.Proofs.Ytopfenhphnmfkaa

def comm (x y : List Int) : Nat := (x.filter (hasL y)).length
theorem comm_le (x y : List Int) : comm x y ≤ x.length := List.length_filter_le _ _
theorem comm_nil (y : List Int) : comm [] y = 0 := rfl
theorem comm_yes {x y : List Int} {k : Nat} (hk : k < x.length) (h : hasL y x[k] = true) : comm (x.take (k + 1)) y = comm (x.take k) y + 1 := by
  unfold comm; rw [List.take_succ_eq_append_getElem hk, List.filter_append, List.length_append]; simp [h]
theorem comm_no {x y : List Int} {k : Nat} (hk : k < x.length) (h : hasL y x[k] = false) : comm (x.take (k + 1)) y = comm (x.take k) y := by
  unfold comm; rw [List.take_succ_eq_append_getElem hk, List.filter_append, List.length_append]; simp [h]
theorem comm_pop {n : Int} {x y : List Int} (hx : Rok n x) (hy : Rok n y) : pop 24 (codeN n x &&& codeN n y) = comm x y := by
  have h1 := hx.lo
  have h2 := hx.hi
  have bx : ∀ p ∈ x, 0 ≤ p ∧ p < n := fun p hp => ⟨hx.ge p hp, hx.lt p hp⟩
  have bY : ∀ p ∈ y, 0 ≤ p ∧ p < n := fun p hp => ⟨hy.ge p hp, hy.lt p hp⟩
  rw [pop_bits]
  have hP : ∀ i : Nat, ((codeN n x &&& codeN n y).testBit i) = true ↔ ((i : Int) < n ∧ hasL x (n - 1 - i) = true ∧ hasL y (n - 1 - i) = true) := by
    intro i
    rw [Nat.testBit_and, Bool.and_eq_true]
    by_cases hi : (i : Int) < n
    · rw [codeN_pulse bx hi, codeN_pulse bY hi]; simp [hi]
    · rw [codeN_high bx hi]; simp [hi]
  have key : ((((List.range 24).filter fun i => (codeN n x &&& codeN n y).testBit i).map fun (i : Nat) => n - 1 - (i : Int)).reverse) = x.filter (hasL y) := by
    refine sorted_ext ?_ (hx.inc.filter _) ?_
    · rw [List.pairwise_reverse, List.pairwise_map]
      refine List.Pairwise.imp ?_ (List.pairwise_lt_range.filter _)
      intro a b hab
      omega
    · intro z
      rw [List.mem_reverse, List.mem_map, List.mem_filter]
      constructor
      · rintro ⟨i, hi, rfl⟩
        have := (hP i).1 (List.mem_filter.1 hi).2
        exact ⟨by simpa [hasL] using this.2.1, this.2.2⟩
      · rintro ⟨hz, hh⟩
        have hb := bx z hz
        refine ⟨(n - 1 - z).toNat, List.mem_filter.2 ⟨List.mem_range.2 (by omega), (hP _).2 ⟨by omega, ?_, ?_⟩⟩, by omega⟩
        · rw [show n - 1 - ((n - 1 - z).toNat : Int) = z by omega]; simpa [hasL] using hz
        · rw [show n - 1 - ((n - 1 - z).toNat : Int) = z by omega]; exact hh
  have := congrArg List.length key
  rw [List.length_reverse, List.length_map] at this
  exact this
end Go.Proofs.Ytopfenhphnmfkaa

namespace Go.Proofs.Ytopfenhphnmfkaa

theorem codeN_ofCode {n : Int} (h1 : 1 ≤ n) (h2 : n ≤ 24) {c : Nat} (hc : c < 2 ^ n.toNat) : codeN n (ofCode n c) = c := by
  have hY := ofCode_rok h1 h2 c
  have hx : ∀ p ∈ ofCode n c, 0 ≤ p ∧ p < n := fun p hp => ⟨hY.ge p hp, hY.lt p hp⟩
  refine Nat.eq_of_testBit_eq fun i => ?_
  by_cases hi : (i : Int) < n
  · rw [codeN_pulse hx hi]
    have h3 : (n - 1 - (i : Int)) ∈ ofCode n c ↔ c.testBit i = true := by
      unfold ofCode
      rw [mem_ocTo, show n - 1 - (n - 1 - (i : Int)) = (i : Int) by omega]
      have : ((i : Nat) : Int).toNat = i := by omega
      rw [this]
      exact ⟨fun h => h.2, fun h => ⟨by omega, h⟩⟩
    by_cases h4 : c.testBit i = true
    · rw [h4]; simp [hasL, h3.2 h4]
    · have h5 : ¬ (n - 1 - (i : Int)) ∈ ofCode n c := fun h => h4 (h3.1 h)
      have h6 : c.testBit i = false := by simpa using h4
      rw [h6]; simp [hasL, h5]
  · rw [codeN_high hx hi]
    symm
    exact Nat.testBit_lt_two_pow (Nat.lt_of_lt_of_le hc (Nat.pow_le_pow_right (by decide) (by omega)))
theorem pop_ofCode {n : Int} (h1 : 1 ≤ n) (h2 : n ≤ 24) {c : Nat} (hc : c < 2 ^ n.toNat) : pop 24 c = (ofCode n c).length := by
  have hY := ofCode_rok h1 h2 c
  have h := comm_pop hY hY
  rw [codeN_ofCode h1 h2 hc, Nat.and_self] at h
  rw [h]
  have e : (ofCode n c).filter (hasL (ofCode n c)) = ofCode n c := by
    rw [List.filter_eq_self]
    intro a ha
    unfold hasL
    exact decide_eq_true ha
  unfold comm
  rw [e]
theorem twins_iff {n : Int} {x y : List Int} (hx : Rok n x) (hy : Rok n y) : valAreTwins n x n y = (eqL (vecOut n x x.length) (vecOut n y y.length) && !valAreForms n x n y) := by
  have hs : sameSz n n x y = true := sameSz_iff.2 ⟨hx, hy, rfl⟩
  unfold valAreTwins
  rw [valSameVector_yes hs]
/-- The reference's test. -/
theorem okT_spec {n : Int} {x : List Int} (hx : Rok n x) {c : Nat} (hc : c < 2 ^ n.toNat) :
    okT n x c = (decide ((ofCode n c).length = x.length) && (eqL (veTo (difOut n (ofCode n c) (ofCode n c).length) n (n / 2).toNat) (veTo (difOut n x x.length) n (n / 2).toNat) && (eqL (formV n (ofCode n c)) (ofCode n c) && !valAreForms n x n (ofCode n c)))) := by
  have hY := ofCode_rok hx.lo hx.hi c
  unfold okT okW
  rw [twins_iff hx hY, pop_ofCode hx.lo hx.hi hc, vec_same hx, vec_same hY]
  have e : ∀ a b : List Int, eqL a b = eqL b a := fun a b => by simp [eqL, eq_comm]
  rw [e (veTo (difOut n x x.length) n (n / 2).toNat)]
  generalize decide ((ofCode n c).length = x.length) = A
  generalize eqL (veTo (difOut n (ofCode n c) (ofCode n c).length) n (n / 2).toNat) (veTo (difOut n x x.length) n (n / 2).toNat) = B
  generalize eqL (formV n (ofCode n c)) (ofCode n c) = C
  generalize valAreForms n x n (ofCode n c) = D
  cases A <;> cases B <;> cases C <;> cases D <;> rfl
end Go.Proofs.Ytopfenhphnmfkaa

namespace Go.Proofs.Ytopfenhphnmfkaa
open Go.RowKit

set_option maxRecDepth 20000 in
set_option maxHeartbeats 4000000 in
theorem implFromTwins (n : Int) (u : Value) (x : List Int) (q : Nat) (w : World) (hR : Rok n x) (h12 : n ≤ 12) (hq : q < w.heap.size) (hq0 : w.cell? ⟨q, 0, none⟩ = some (.int .i64 n)) (hq1 : w.cell? ⟨q, 1, none⟩ = some u)
    (hu : Ints w w.heap.size u x) :
    Calls Try.prog 87 #[.int .i64 n, .int .i64 (x.length : Nat), .func (.func 88) #[] #[.pointer (some ⟨q, 0, none⟩)]] w (RetSegR w (twTo n x (2 ^ n.toNat) (2 ^ n.toNat))) := by
  have hlo := hR.lo
  have hhi := hR.hi
  have hlen := hR.len24
  have hM1 := pow12 h12
  have hM0 := pow_pos2 n
  have hpw : (2 : Int) ^ n.toNat = ((2 ^ n.toNat : Nat) : Int) := by simp
  generalize hM : 2 ^ n.toNat = M at *
  clear hM
  have HQ0 := Lib.hid hq0
  have HQ1 := Lib.hid hq1
  go_enter Try.func87, Try.ntmps87
  go_wp2_with fail
  go_loopw [7, 8] (fun u' i wr => ∃ j : Nat, j ≤ M ∧ i = .int .i64 ((M : Int) - 1 - (j : Int)) ∧ (∃ a' m' c', u' = .slice a' m' c' ∧ (twTo n x M j).length = m' ∧ SegR wr w.heap.size wr.heap.size (.slice a' m' c') (twTo n x M j)) ∧ Below w.heap.size w wr) (fun _ i _ => (intOf i + 1).toNat)
  case atStart => exact ⟨0, Nat.zero_le _, by simp, ⟨none, 0, 0, rfl, rfl, SegR.nil _ _ _⟩, Below.refl _ _⟩
  case round =>
    obtain ⟨j, hj, rfl, ⟨a', m', c', rfl, hm', hseg⟩, hbel⟩ := hrel
    have hml := twTo_len n x M j
    rw [hm'] at hml
    have HM := Lib.hid hm'
    have HS := Lib.hid hseg
    have HB := Lib.hid hbel
    have hszr := hbel.size
    clear hm' hseg hbel
    by_cases hlt : j < M
    · obtain ⟨c, hc⟩ : ∃ c : Nat, (M : Int) - 1 - (j : Int) = (c : Int) := ⟨M - 1 - j, by omega⟩
      have hcM : M - 1 - j = c := by omega
      have hcl : c < 16777216 := by omega
      have HC := Lib.hid hcM
      rw [hc]
      have HC2 := Lib.hid hc
      clear hcM hc
      by_cases hp : pop 24 c = x.length
      · have hpI : (((pop 24 c : Nat) : Int) != ((x.length : Nat) : Int)) = false := by rw [hp]; simp
        have HP := Lib.hid hp
        have hpb := hp
        clear hp
        have hY := ofCode_rok hlo hhi c
        cases hw : okW n x (ofCode n c) with
        | false =>
          have Hw := Lib.hid hw
          have Hn : Hid (twTo n x M (j + 1) = twTo n x M j) := twTo_no HC.out (by unfold okT; rw [hw, Bool.and_false])
          clear hw
          generalize hPP : pop 24 c = PP at *
          have HPP := Lib.hid hPP
          clear hPP
          go_wp2_with (first
            | (go_at_call 110; refine (implOnes c _ hcl).mono ?_; rintro e w0 ⟨rfl, rfl⟩; rw [HPP.out])
            | (go_at_call 117; refine (implRhythmAt n c _ hlo hhi hcl).mono ?_; rintro e w1 ⟨a1, c1, rfl, o1, b1⟩; have HB1 := Lib.hid (bel_step HB.out b1 HB.out.size); have HS1 := Lib.hid (HS.out.after b1); have HO1 := Lib.hid o1; have hz1 := b1.size; clear b1 o1)
            | (go_at_call 88; refine withWorld fun X hX => ?_; have gB : Below w1.heap.size w1 X := (by rw [hX]; (repeat (first | (with_reducible exact (Below.refl _ _)) | (with_reducible refine bel_alloc ?_ _) | (with_reducible refine Below.drew ?_) | (with_reducible refine bel_drewN ?_ _) | (with_reducible refine Below.setCell ?_ (by simp) _)))); have bx0 : Bx X w1.heap.size (.int .i64 n) (.slice a1 (ofCode n c).length c1) 25 := (by rw [hX]; (repeat (first | (with_reducible refine Bx.newAt _ _ _ _ ?_; simp; done) | (with_reducible refine Bx.alloc ?_ _) | (with_reducible refine Bx.drew ?_) | (with_reducible refine Bx.drewN ?_ _)))); have hgz : w1.heap.size + 1 ≤ X.heap.size := (by rw [hX]; simp); clear hX; have HBX := Lib.hid (bel_step HB1.out gB HB1.out.size); refine (implTwin1 n _ _ x (ofCode n c) q _ hR hY (by have := HBX.out.size; omega) (((bcell HBX.out).1 _ _ hq).trans HQ0.out) (((bcell HBX.out).1 _ _ hq).trans HQ1.out) (Ints.ofBelow hu HBX.out) ((HO1.out.below gB).ints)).mono ?_; rintro e w2 ⟨rfl, b2⟩; rw [Hw.out]; have HB2 := Lib.hid (bel_step HBX.out b2 HBX.out.size); have HS2 := Lib.hid ((HS1.out.after gB).after b2); have hz2 := b2.size; clear gB b2 bx0))
          go_roundw
          case rel => exact ⟨j + 1, by omega, by have := HC2.out; go_num, ⟨a', m', c', rfl, by rw [Hn.out]; exact HM.out, by rw [Hn.out]; exact HS2.out.low (Nat.le_refl _) (by omega)⟩, HB2.out⟩
          case measure => have := HC2.out; simp [intOf]; try omega
        | true =>
          have Hw := Lib.hid hw
          have Hn : Hid (twTo n x M (j + 1) = twTo n x M j ++ [(n, ofCode n c)]) := twTo_yes HC.out (by unfold okT; rw [hw, hpb]; simp)
          clear hw
          generalize hPP : pop 24 c = PP at *
          have HPP := Lib.hid hPP
          clear hPP
          go_wp2_with (first
            | (go_at_call 110; refine (implOnes c _ hcl).mono ?_; rintro e w0 ⟨rfl, rfl⟩; rw [HPP.out])
            | (go_at_call 117; refine (implRhythmAt n c _ hlo hhi hcl).mono ?_; rintro e w1 ⟨a1, c1, rfl, o1, b1⟩; have HB1 := Lib.hid (bel_step HB.out b1 HB.out.size); have HS1 := Lib.hid (HS.out.after b1); have HO1 := Lib.hid o1; have hz1 := b1.size; clear b1 o1)
            | (go_at_call 88; refine withWorld fun X hX => ?_; have gB : Below w1.heap.size w1 X := (by rw [hX]; (repeat (first | (with_reducible exact (Below.refl _ _)) | (with_reducible refine bel_alloc ?_ _) | (with_reducible refine Below.drew ?_) | (with_reducible refine bel_drewN ?_ _) | (with_reducible refine Below.setCell ?_ (by simp) _)))); have bx0 : Bx X w1.heap.size (.int .i64 n) (.slice a1 (ofCode n c).length c1) 25 := (by rw [hX]; (repeat (first | (with_reducible refine Bx.newAt _ _ _ _ ?_; simp; done) | (with_reducible refine Bx.alloc ?_ _) | (with_reducible refine Bx.drew ?_) | (with_reducible refine Bx.drewN ?_ _)))); have hgz : w1.heap.size + 1 ≤ X.heap.size := (by rw [hX]; simp); clear hX; have HBX := Lib.hid (bel_step HB1.out gB HB1.out.size); refine (implTwin1 n _ _ x (ofCode n c) q _ hR hY (by have := HBX.out.size; omega) (((bcell HBX.out).1 _ _ hq).trans HQ0.out) (((bcell HBX.out).1 _ _ hq).trans HQ1.out) (Ints.ofBelow hu HBX.out) ((HO1.out.below gB).ints)).mono ?_; rintro e w2 ⟨rfl, b2⟩; rw [Hw.out]; have HB2 := Lib.hid (bel_step HBX.out b2 HBX.out.size); have HS2 := Lib.hid ((HS1.out.after gB).after b2); have hz2 := b2.size; have hbx2 := bx0.below b2 bx0.lt; have r0 := hbx2.c0; have r1 := hbx2.c1; have HU := Lib.hid ((Seg.mk' HO1.out).after gB); have HU2 := Lib.hid (HU.out.after b2); clear gB b2 bx0 hbx2)
            | (at_builtin; refine wpAppRh rfl _ _ rfl w.heap.size wr.heap.size a' m' c' (twTo n x M j) n _ (ofCode n c) rfl rfl HS2.out (HU2.out.low (Nat.le_refl _) (by omega)) rfl HM.out (by omega) (by omega) (by omega) ?_; intro a4 c4 w4 ho4 hb4; have HO4 := Lib.hid ho4; have HB4 := Lib.hid (HB2.out.trans hb4); clear ho4 hb4))
          go_roundw
          case rel => exact ⟨j + 1, by omega, by have := HC2.out; go_num, ⟨a4, m' + 1, c4, rfl, by rw [Hn.out, List.length_append, HM.out]; rfl, by rw [Hn.out]; exact HO4.out⟩, HB4.out⟩
          case measure => have := HC2.out; simp [intOf]; try omega
      · have hpI : (((pop 24 c : Nat) : Int) != ((x.length : Nat) : Int)) = true := by simp; omega
        have Hn : Hid (twTo n x M (j + 1) = twTo n x M j) := twTo_no HC.out (by unfold okT; rw [decide_eq_false hp]; rfl)
        clear hp
        generalize hPP : pop 24 c = PP at *
        have HPP := Lib.hid hPP
        clear hPP
        go_wp2_with (go_at_call 110; refine (implOnes c _ hcl).mono ?_; rintro e w0 ⟨rfl, rfl⟩; rw [HPP.out])
        go_roundw
        case rel => exact ⟨j + 1, by omega, by have := HC2.out; go_num, ⟨a', m', c', rfl, by rw [Hn.out]; exact HM.out, by rw [Hn.out]; exact HS.out⟩, HB.out⟩
        case measure => have := HC2.out; simp [intOf]; try omega
    · have e : j = M := by omega
      subst e
      go_wp2
      go_ret
      have hm := HM.out
      exact .mk rfl HS.out HB.out

set_option maxRecDepth 20000 in
set_option maxHeartbeats 2000000 in
theorem implTwinsOfC (n : Int) (v : Value) (x : List Int) (c : I64 n) (w : World) (h : Ints w w.heap.size v x) :
    Calls Try.prog 50 #[.agg #[.int .i64 n, v]] w (RetSegR w (lstTwinsOf n x)) := by
  have h' := h
  obtain ⟨a, cap, rfl, -⟩ := h'
  have hmf : ∀ (fn : Fn) (first cap : Array Value) (w : World), (Instr.makeFunc fn first cap).run Try.prog w = .ok (.func fn first cap) w := fun _ _ _ _ => rfl
  cases hr : rok n x with
  | false =>
    have Hr := Lib.hid hr
    rw [twinsOf_no (by unfold okTw; rw [hr]; rfl)]
    clear hr
    go_enter Try.func50, Try.ntmps50
    go_wp2_with (go_at_call 49; refine (implRhythmOk _ _ x _ _ c.1 c.2 (h.alloc (Nat.le_refl _) _)).mono ?_; rintro e w' ⟨rfl, rfl⟩; rw [Hr.out])
    go_ret
    exact .mk rfl (SegR.nil _ _ _) (by (repeat (first | (with_reducible exact (Below.refl _ _)) | (with_reducible refine bel_alloc ?_ _) | (with_reducible refine Below.drew ?_) | (with_reducible refine bel_drewN ?_ _) | (with_reducible refine Below.setCell ?_ (by simp) _))))
  | true =>
    have Hr := Lib.hid hr
    have hR := (rok_iff n x).1 hr
    by_cases h12 : n ≤ 12
    · rw [twinsOf_yes (by unfold okTw; rw [hr, decide_eq_true h12]; rfl)]
      clear hr
      have hn12 : ¬ 12 < n := by omega
      go_enter Try.func50, Try.ntmps50
      go_wp2_with (first
        | (go_at_call 49; refine (implRhythmOk _ _ x _ _ c.1 c.2 (h.alloc (Nat.le_refl _) _)).mono ?_; rintro e w' ⟨rfl, rfl⟩; rw [Hr.out])
        | (go_at_call 87; refine withWorld fun X hX => ?_; have gB : Below w.heap.size w X := (by rw [hX]; (repeat (first | (with_reducible exact (Below.refl _ _)) | (with_reducible refine bel_alloc ?_ _) | (with_reducible refine Below.drew ?_) | (with_reducible refine bel_drewN ?_ _) | (with_reducible refine Below.setCell ?_ (by simp) _)))); have bx0 : Bx X w.heap.size (.int .i64 n) (.slice a x.length cap) 25 := (by rw [hX]; (repeat (first | (with_reducible refine Bx.newAt _ _ _ _ ?_; simp; done) | (with_reducible refine Bx.alloc ?_ _) | (with_reducible refine Bx.drew ?_) | (with_reducible refine Bx.drewN ?_ _)))); clear hX; refine (implFromTwins n _ x w.heap.size _ hR h12 bx0.lt bx0.c0 bx0.c1 (Ints.ofBelow h gB)).mono ?_; rintro e w1 ⟨a1, c1, rfl, o1, b1⟩; have HO1 := Lib.hid (o1.low gB.size (Nat.le_refl _)); have HB1 := Lib.hid (bel_step gB b1 gB.size); clear gB bx0 o1 b1))
      go_ret
      exact .mk rfl HO1.out HB1.out
    · rw [twinsOf_no (by unfold okTw; rw [decide_eq_false h12, Bool.and_false])]
      clear hr
      have hn12 : 12 < n := by omega
      go_enter Try.func50, Try.ntmps50
      go_wp2_with (go_at_call 49; refine (implRhythmOk _ _ x _ _ c.1 c.2 (h.alloc (Nat.le_refl _) _)).mono ?_; rintro e w' ⟨rfl, rfl⟩; rw [Hr.out])
      go_ret
      exact .mk rfl (SegR.nil _ _ _) (by (repeat (first | (with_reducible exact (Below.refl _ _)) | (with_reducible refine bel_alloc ?_ _) | (with_reducible refine Below.drew ?_) | (with_reducible refine bel_drewN ?_ _) | (with_reducible refine Below.setCell ?_ (by simp) _))))
end Go.Proofs.Ytopfenhphnmfkaa

namespace Go.Proofs.Ytopfenhphnmfkaa
open Go.RowKit

theorem Ints.full {W : World} {C : Nat} {v : Value} {xs : List Int} (h : Ints W C v xs) : Ints W W.heap.size v xs := by
  rcases h.open with ⟨rfl, a, cap, rfl⟩ | ⟨b, o, cap, rfl, hm, hpos, hB, hlt, hc⟩
  · obtain ⟨a', cap', hv, h1, h2, -⟩ := h
    cases hv
    exact ⟨_, _, rfl, h1, h2, .inl rfl⟩
  · obtain ⟨a', cap', hv, h1, h2, -⟩ := h
    cases hv
    exact ⟨_, _, rfl, h1, h2, .inr ⟨b, o, rfl, hlt, hc⟩⟩

set_option maxHeartbeats 800000 in
theorem implIsFlatC (n : Int) (v : Value) (x : List Int) (c : I64 n) (w : World) (h : Ints w w.heap.size v x) :
    Calls Try.prog 54 #[.agg #[.int .i64 n, v]] w fun e w' => e = .returned (.bool (valIsFlat n x)) ∧ Below w.heap.size w w' := by
  have h' := h
  obtain ⟨a, cap, rfl, -⟩ := h'
  cases hr : rok n x with
  | false =>
    have Hr := Lib.hid hr
    have Hf := Lib.hid (isFlat_no hr)
    clear hr
    go_enter Try.func54, Try.ntmps54
    go_wp2_with (go_at_call 49; refine (implRhythmOk _ _ x _ _ c.1 c.2 (h.alloc (Nat.le_refl _) _)).mono ?_; rintro e w' ⟨rfl, rfl⟩; rw [Hr.out])
    go_ret
    exact ⟨ret_bool Hf.out.symm, by (repeat (first | (with_reducible exact (Below.refl _ _)) | (with_reducible refine bel_alloc ?_ _) | (with_reducible refine Below.drew ?_) | (with_reducible refine bel_drewN ?_ _) | (with_reducible refine Below.setCell ?_ (by simp) _)))⟩
  | true =>
    have Hr := Lib.hid hr
    have Hf := Lib.hid (isFlat_yes hr)
    have hR := (rok_iff n x).1 hr
    have hlo := hR.lo
    have hhi := hR.hi
    have hlen := hR.len24
    clear hr
    go_enter Try.func54, Try.ntmps54
    go_wp2_with (go_at_call 49; refine (implRhythmOk _ _ x _ _ c.1 c.2 (h.alloc (Nat.le_refl _) _)).mono ?_; rintro e w' ⟨rfl, rfl⟩; rw [Hr.out])
    refine withWorld fun X hX => ?_
    have hB : Below w.heap.size w X := by rw [hX]; (repeat (first | (with_reducible exact (Below.refl _ _)) | (with_reducible refine bel_alloc ?_ _) | (with_reducible refine Below.drew ?_) | (with_reducible refine bel_drewN ?_ _) | (with_reducible refine Below.setCell ?_ (by simp) _)))
    clear hX
    refine (implDifferences _ _ x _ hR (Ints.ofBelow h hB)).mono ?_
    rintro e w1 ⟨a1, c1, rfl, o1, b1⟩
    have HB1 := Lib.hid (bel_step hB b1 hB.size)
    clear b1 hB
    generalize hD : difOut n x x.length = D at o1 ⊢
    have hdl : D.length = n.toNat := by rw [← hD, difOut_len]
    have HD := Lib.hid hD
    obtain ⟨g, c', hv, -, -, -, hlc, hcc⟩ := o1.head (by intro e; rw [e] at hdl; simp at hdl; omega)
    cases hv
    have hd1 : 1 ≤ D.length := by omega
    have hd24 : D.length ≤ 24 := by omega
    clear hD
    by_cases hc1 : c1 = 1
    · have hl1 : D.length = 1 := by omega
      subst hc1
      have HI : Hid (Ints w1 w1.heap.size (.slice (some ⟨g, 0, none⟩) 0 0) (D.drop 1)) := by
        unfold Hid
        rw [List.drop_eq_nil_of_le (by omega)]
        exact ⟨_, 0, rfl, Nat.le_refl _, Nat.zero_le _, .inl rfl⟩
      rw [hl1]
      clear o1 hdl
      go_wp2_with fail
      refine (implCollected _ (D.drop 1) _ (by simp; omega) HI.out).mono ?_
      rintro e w2 ⟨a2, c2, rfl, o2, b2⟩
      have HB2 := Lib.hid (bel_step HB1.out b2 HB1.out.size)
      clear o2 b2
      go_wp2
      go_ret
      exact ⟨ret_bool (by rw [Hf.out]; unfold flatB; rw [HD.out]; rw [Bool.eq_iff_iff]; simp; omega), HB2.out⟩
    · have hc1' : ¬ 1 = c1 := fun h => hc1 h.symm
      by_cases hl1 : D.length = 1
      · have HI : Hid (Ints w1 w1.heap.size (.slice (some ⟨g, 1, none⟩) 0 (c1 - 1)) (D.drop 1)) := by
          unfold Hid
          rw [List.drop_eq_nil_of_le (by omega)]
          exact ⟨_, _, rfl, Nat.zero_le _, by unfold maxLen; omega, .inl rfl⟩
        rw [hl1]
        clear o1 hdl
        go_wp2_with fail
        refine (implCollected _ (D.drop 1) _ (by simp; omega) HI.out).mono ?_
        rintro e w2 ⟨a2, c2, rfl, o2, b2⟩
        have HB2 := Lib.hid (bel_step HB1.out b2 HB1.out.size)
        clear o2 b2
        go_wp2
        go_ret
        exact ⟨ret_bool (by rw [Hf.out]; unfold flatB; rw [HD.out]; rw [Bool.eq_iff_iff]; simp; omega), HB2.out⟩
      · obtain ⟨C, hI⟩ := o1.suf (k := 1) (by omega)
        have HI := Lib.hid hI.full
        clear o1 hdl hI
        go_wp2_with fail
        refine (implCollected _ (D.drop 1) _ (by simp; omega) HI.out).mono ?_
        rintro e w2 ⟨a2, c2, rfl, o2, b2⟩
        have HB2 := Lib.hid (bel_step HB1.out b2 HB1.out.size)
        clear o2 b2
        go_wp2
        go_ret
        exact ⟨ret_bool (by rw [Hf.out]; unfold flatB; rw [HD.out]; rw [Bool.eq_iff_iff]; simp; omega), HB2.out⟩


set_option maxHeartbeats 800000 in
theorem implIsDeepC (n : Int) (v : Value) (x : List Int) (c : I64 n) (w : World) (h : Ints w w.heap.size v x) :
    Calls Try.prog 53 #[.agg #[.int .i64 n, v]] w fun e w' => e = .returned (.bool (valIsDeep n x)) ∧ Below w.heap.size w w' := by
  have h' := h
  obtain ⟨a, cap, rfl, -⟩ := h'
  cases hr : rok n x with
  | false =>
    have Hr := Lib.hid hr
    have Hf := Lib.hid (isDeep_no hr)
    clear hr
    go_enter Try.func53, Try.ntmps53
    go_wp2_with (go_at_call 49; refine (implRhythmOk _ _ x _ _ c.1 c.2 (h.alloc (Nat.le_refl _) _)).mono ?_; rintro e w' ⟨rfl, rfl⟩; rw [Hr.out])
    go_ret
    exact ⟨ret_bool Hf.out.symm, by (repeat (first | (with_reducible exact (Below.refl _ _)) | (with_reducible refine bel_alloc ?_ _) | (with_reducible refine Below.drew ?_) | (with_reducible refine bel_drewN ?_ _) | (with_reducible refine Below.setCell ?_ (by simp) _)))⟩
  | true =>
    have Hr := Lib.hid hr
    have Hf := Lib.hid (isDeep_yes hr)
    have hR := (rok_iff n x).1 hr
    have hlo := hR.lo
    have hhi := hR.hi
    have hlen := hR.len24
    clear hr
    go_enter Try.func53, Try.ntmps53
    go_wp2_with (go_at_call 49; refine (implRhythmOk _ _ x _ _ c.1 c.2 (h.alloc (Nat.le_refl _) _)).mono ?_; rintro e w' ⟨rfl, rfl⟩; rw [Hr.out])
    refine withWorld fun X hX => ?_
    have hB : Below w.heap.size w X := by rw [hX]; (repeat (first | (with_reducible exact (Below.refl _ _)) | (with_reducible refine bel_alloc ?_ _) | (with_reducible refine Below.drew ?_) | (with_reducible refine bel_drewN ?_ _) | (with_reducible refine Below.setCell ?_ (by simp) _)))
    clear hX
    refine (implVector _ _ x _ hR (Ints.ofBelow h hB)).mono ?_
    rintro e w1 ⟨a1, c1, rfl, o1, b1⟩
    have HB1 := Lib.hid (bel_step hB b1 hB.size)
    have hz1 := HB1.out.size
    clear b1 hB
    have hvl : (vecOut n x x.length).length ≤ 24 := (by rw [vecOut_len]; omega)
    generalize hD : vecOut n x x.length = D at o1 hvl ⊢
    have HF : Hid (valIsDeep n x = deepB D) := by unfold Hid; rw [Hf.out, hD]
    clear hD Hf
    rcases o1.ints.open with ⟨rfl, a2, cap2, hv⟩ | ⟨b, o, cap2, hv, hm, hpos, hBb, hlt0, hcell⟩
    · cases hv
      clear o1
      go_wp2
      refine wp_loop_rounds 1 ?_; rw [rounds_succ]
      go_wp2_with fail
      refine (implCollected _ [] _ (by simp) (Own.nil _ 0).ints).mono ?_
      rintro e w2 ⟨a2, c2, rfl, o2, b2⟩
      have HB2 := Lib.hid (bel_step HB1.out b2 hz1)
      clear o2 b2
      rw [srt_nil]
      go_wp2
      go_ret
      exact ⟨ret_bool (by rw [HF.out]; unfold deepB posTo; simp [srt_nil]), HB2.out⟩
    cases hv
    clear o1 hBb
    go_wp2
    go_loopw [3, 12] (fun u i wr => ∃ k : Nat, k ≤ D.length ∧ i = .int .i64 k ∧ (∃ a' m' c', u = .slice a' m' c' ∧ (posTo D k).length = m' ∧ Own wr w1.heap.size (.slice a' m' c') (posTo D k)) ∧ Below w1.heap.size w1 wr) (fun _ i _ => D.length - (intOf i).toNat)
    case atStart => exact ⟨0, Nat.zero_le _, rfl, ⟨none, 0, 0, rfl, rfl, Own.nil _ _⟩, Below.refl _ _⟩
    case round =>
      obtain ⟨k, hk, rfl, ⟨a', m', c', rfl, hm', hown⟩, hbel⟩ := hrel
      have hpl := posTo_len D k
      have HM := Lib.hid hm'
      have hm2 : m' ≤ 1048576 := by omega
      have HO := Lib.hid hown
      have HB := Lib.hid hbel
      have hsz := hbel.size
      by_cases hlt : k < D.length
      · have hc1 : wr.cell? ⟨b, o + k, none⟩ = some (.int .i64 D[k]) := by
          have := ((bcell hbel).1 _ _ hlt0).trans (hcell k hlt)
          rwa [getD_get hlt] at this
        by_cases hx : 0 < D[k]
        · have Hn := Lib.hid (posTo_yes hlt hx)
          have hxb : decide (0 < D[k]) = true := by simpa using hx
          clear hown hbel hm'
          go_wp2_with (at_builtin; refine wpAppInt rfl _ _ rfl w1.heap.size a' m' c' (posTo D k) _ rfl rfl HO.out HM.out (by omega) (by omega) ?_; intro a4 c4 w4 ho4 hb4)
          have HO4 : Hid (Own w4 w1.heap.size (.slice a4 (m' + 1) c4) (posTo D (k + 1))) := by unfold Hid; rw [Hn.out]; exact ho4
          have HM4 : Hid ((posTo D (k + 1)).length = m' + 1) := by unfold Hid; rw [Hn.out, List.length_append, HM.out]; rfl
          have HB4 := Lib.hid (HB.out.trans hb4)
          clear ho4 hb4
          go_roundw
          case rel => exact ⟨k + 1, by omega, by go_num, ⟨a4, m' + 1, c4, rfl, HM4.out, HO4.out⟩, HB4.out⟩
          case measure => simp [intOf]; omega
        · have Hn := Lib.hid (posTo_no hlt hx)
          have hxb : decide (0 < D[k]) = false := by simpa using hx
          clear hown hbel hm'
          go_wp2
          go_roundw
          case rel => exact ⟨k + 1, by omega, by go_num, ⟨a', m', c', rfl, by rw [Hn.out]; exact HM.out, by rw [Hn.out]; exact HO.out⟩, HB.out⟩
          case measure => simp [intOf]; omega
      · have e : k = D.length := by omega
        subst e
        have HI := Lib.hid hown.ints
        have hm3 : m' = (posTo D D.length).length := hm'.symm
        subst hm3
        clear hown hbel hm'
        go_wp2_with fail
        refine (implCollected _ (posTo D D.length) _ (by omega) HI.out).mono ?_
        rintro e w2 ⟨a2, c2, rfl, o2, b2⟩
        have HB2 := Lib.hid (HB1.out.trans ((HB.out.mono hz1).trans (b2.mono (by omega))))
        clear o2 b2
        go_wp2
        go_ret
        exact ⟨ret_bool (by rw [HF.out]; unfold deepB; rw [Bool.eq_iff_iff]; simp; omega), HB2.out⟩




end Go.Proofs.Ytopfenhphnmfkaa
