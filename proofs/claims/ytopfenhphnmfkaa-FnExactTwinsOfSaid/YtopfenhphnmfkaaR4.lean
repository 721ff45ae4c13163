/-
  Contracts of the rhythm with a code, in the program and in the reference.
  Conditions: at most 24 pulses, the code below two to their number.
-/
import Derived.Test.YtopfenhphnmfkaaR1
import Derived.Test.YtopfenhphnmfkaaG2
import Derived.Test.YtopfenhphnmfkaaM13
set_option linter.unusedVariables false
set_option linter.unusedSimpArgs false
namespace Go.Proofs.Ytopfenhphnmfkaa
open Go.RowKit

/-- Is there a beat on pulse k of the rhythm with code c? -/
def bitC (n : Int) (c : Nat) (k : Nat) : Bool := c.testBit (n - 1 - (k : Int)).toNat
def ocTo (n : Int) (c : Nat) (k : Nat) : List Int := ((List.range k).filter (bitC n c)).map fun (p : Nat) => (p : Int)
theorem ocTo_yes {n : Int} {c k : Nat} (h : bitC n c k = true) : ocTo n c (k + 1) = ocTo n c k ++ [(k : Int)] := by
  simp [ocTo, List.range_succ, List.filter_append, h]
theorem ocTo_no {n : Int} {c k : Nat} (h : bitC n c k = false) : ocTo n c (k + 1) = ocTo n c k := by
  simp [ocTo, List.range_succ, List.filter_append, h]
theorem ocTo_len (n : Int) (c k : Nat) : (ocTo n c k).length ≤ k := by
  simp only [ocTo, List.length_map]
  exact Nat.le_trans (List.length_filter_le _ _) (by simp)
def ofCode (n : Int) (c : Nat) : List Int := ocTo n c n.toNat
theorem mem_ocTo {n : Int} {c k : Nat} {z : Int} : z ∈ ocTo n c k ↔ (0 ≤ z ∧ z < k) ∧ c.testBit (n - 1 - z).toNat = true := by
  unfold ocTo
  rw [List.mem_map]
  constructor
  · rintro ⟨p, hp, rfl⟩
    rw [List.mem_filter, List.mem_range] at hp
    exact ⟨⟨by omega, by omega⟩, hp.2⟩
  · rintro ⟨⟨h1, h2⟩, h⟩
    refine ⟨z.toNat, ?_, by omega⟩
    rw [List.mem_filter, List.mem_range]
    refine ⟨by omega, ?_⟩
    unfold bitC
    rw [show ((z.toNat : Nat) : Int) = z by omega]; exact h
theorem ofCode_rok {n : Int} (h1 : 1 ≤ n) (h2 : n ≤ 24) (c : Nat) : Rok n (ofCode n c) where
  lo := h1
  hi := h2
  ge := fun z hz => (mem_ocTo.1 hz).1.1
  lt := fun z hz => by have := (mem_ocTo.1 hz).1.2; omega
  inc := by
    unfold ofCode ocTo
    rw [List.pairwise_map]
    exact (List.Pairwise.filter _ List.pairwise_lt_range).imp fun h => by omega
theorem code_andR {a b : Nat} (ha : a < 16777216) (hb : b < 16777216) : bits .and .i64 (a : Int) (b : Int) = ((a &&& b : Nat) : Int) :=
  (bits_nat .i64 24 (by decide) (fun n h0 h1 => by rw [IntKind.wrap_i64]; omega) a b ha hb).1
theorem shr_bit (c s : Nat) : c / 2 ^ s % 2 = if c.testBit s = true then 1 else 0 := by
  rw [Nat.testBit_eq_decide_div_mod_eq]
  by_cases h : c / 2 ^ s % 2 = 1
  · simp [h]
  · have : c / 2 ^ s % 2 = 0 := by omega
    simp [this]

theorem bitI (n : Int) (c k s : Nat) (hs : n - 1 - (k : Int) = (s : Int)) (hc : c < 16777216) : bits .and .i64 ((c : Int) / 2 ^ s) 1 = if bitC n c k = true then 1 else 0 := by
  have e1 : ((c : Int) / 2 ^ s) = ((c / 2 ^ s : Nat) : Int) := by rw [Int.natCast_ediv, Int.natCast_pow]; rfl
  have h1 : c / 2 ^ s ≤ c := Nat.div_le_self _ _
  have e2 : bits .and .i64 ((c / 2 ^ s : Nat) : Int) ((1 : Nat) : Int) = ((c / 2 ^ s &&& 1 : Nat) : Int) := by rw [← code_andR (by omega) (by decide)]
  rw [e1]
  refine e2.trans ?_
  rw [Nat.and_one_is_mod, shr_bit]
  unfold bitC
  rw [hs]
  have e3 : ((s : Int)).toNat = s := by omega
  rw [e3]
  split <;> rfl

set_option maxRecDepth 20000 in
set_option maxHeartbeats 1600000 in
theorem implRhythmAt (n : Int) (c : Nat) (w : World) (hlo : 1 ≤ n) (hhi : n ≤ 24) (hc : c < 16777216) :
    Calls Try.prog 117 #[.int .i64 n, .int .i64 (c : Int)] w (RetRhythm w n (ofCode n c)) := by
  go_enter Try.func117, Try.ntmps117
  go_wp2_with fail
  go_loopw [10] (fun i wr => ∃ k : Nat, (k : Int) ≤ n ∧ i = .int .i64 k ∧ ∃ a' m' c', (ocTo n c k).length = m' ∧ Own wr (w.heap.size + 2) (.slice a' m' c') (ocTo n c k) ∧ Bx wr (w.heap.size + 1) (.int .i64 n) (.slice a' m' c') 25 ∧ Bx wr w.heap.size (.int .i64 0) (.slice none 0 0) 25 ∧ Below w.heap.size w wr) (fun i _ => (n - intOf i).toNat)
  case atStart => exact ⟨0, by omega, rfl, none, 0, 0, rfl, Own.nil _ _, by (repeat (first | (with_reducible refine Bx.newAt _ _ _ _ ?_; simp; done) | (with_reducible refine Bx.alloc ?_ _) | (with_reducible refine Bx.drew ?_) | (with_reducible refine Bx.drewN ?_ _))), by (repeat (first | (with_reducible refine Bx.newAt _ _ _ _ ?_; simp; done) | (with_reducible refine Bx.alloc ?_ _) | (with_reducible refine Bx.drew ?_) | (with_reducible refine Bx.drewN ?_ _))), by (repeat (first | (with_reducible exact (Below.refl _ _)) | (with_reducible refine bel_alloc ?_ _) | (with_reducible refine Below.drew ?_) | (with_reducible refine bel_drewN ?_ _) | (with_reducible refine Below.setCell ?_ (by simp) _)))⟩
  case round =>
    obtain ⟨k, hk, rfl, a', m', c', hm', hown, hout, hres, hbel⟩ := hrel
    have hsz := hout.lt
    have hml := ocTo_len n c k
    have hm2 : m' ≤ 1048576 := by omega
    have HM := Lib.hid hm'
    by_cases hlt : (k : Int) < n
    · have HY := Lib.hid hout
      have HO := Lib.hid hown
      have HR := Lib.hid hres
      have HB := Lib.hid hbel
      have y1 := hout.c1
      have g1 := hout.f 1
      obtain ⟨s, hs⟩ : ∃ s : Nat, n - 1 - (k : Int) = (s : Int) := ⟨(n - 1 - (k : Int)).toNat, by omega⟩
      have hb := bitI n c k s hs hc
      cases hh : bitC n c k with
      | true =>
        have Hn := Lib.hid (ocTo_yes hh)
        rw [hh, if_pos rfl] at hb
        have hb2 : (bits BinOp.and IntKind.i64 ((c : Int) / 2 ^ s) 1 == 1) = true := by rw [hb]; rfl
        clear hres hbel hout hm' hown hh
        go_wp2_with (at_builtin; refine wpAppInt rfl _ _ rfl (w.heap.size + 2) a' m' c' (ocTo n c k) _ rfl rfl HO.out HM.out (by omega) (by omega) ?_; intro a1 c1 w3 ho1 hb1; have hy1 := HY.out.below hb1 (by omega); have p1 := hy1.c1; have gg1 := hy1.f 1)
        have HY3 : Hid (Bx (w3.setCell ⟨w.heap.size + 1, 1, none⟩ (.slice a1 (m' + 1) c1)) (w.heap.size + 1) _ (.slice a1 (m' + 1) c1) _) := hy1.set1 _
        have HO3 : Hid (Own (w3.setCell ⟨w.heap.size + 1, 1, none⟩ (.slice a1 (m' + 1) c1)) (w.heap.size + 2) (.slice a1 (m' + 1) c1) (ocTo n c (k + 1))) := by unfold Hid; rw [Hn.out]; exact ho1.setc (by simp) _
        have HR3 : Hid (Bx (w3.setCell ⟨w.heap.size + 1, 1, none⟩ (.slice a1 (m' + 1) c1)) w.heap.size _ _ _) := (HR.out.below hb1 (by omega)).set_other (by simp) _
        have HB3 : Hid (Below w.heap.size w (w3.setCell ⟨w.heap.size + 1, 1, none⟩ (.slice a1 (m' + 1) c1))) := (HB.out.trans (hb1.mono (by omega))).setCell (by simp) _
        have HM3 : Hid ((ocTo n c (k + 1)).length = m' + 1) := by unfold Hid; rw [Hn.out, List.length_append, HM.out]; rfl
        clear ho1 hb1 hy1 p1 gg1
        go_roundw
        case rel => exact ⟨k + 1, by omega, by go_num, a1, m' + 1, c1, HM3.out, HO3.out, HY3.out, HR3.out, HB3.out⟩
        case measure => simp [intOf]; omega
      | false =>
        have Hn := Lib.hid (ocTo_no hh)
        rw [hh, if_neg (by simp)] at hb
        have hb2 : (bits BinOp.and IntKind.i64 ((c : Int) / 2 ^ s) 1 == 1) = false := by rw [hb]; rfl
        clear hres hbel hout hm' hown hh
        go_wp2_with fail
        go_roundw
        case rel => exact ⟨k + 1, by omega, by go_num, a', m', c', by rw [Hn.out]; exact HM.out, by rw [Hn.out]; exact HO.out, HY.out, HR.out, HB.out⟩
        case measure => simp [intOf]; omega
    · have e : n = (k : Int) := by omega
      have hk2 : n.toNat = k := by omega
      have Hk2 := Lib.hid hk2
      clear hk2
      subst e
      have HO := Lib.hid hown
      have HR := Lib.hid hres
      have HB := Lib.hid hbel
      have y0 := hout.c0
      have y1 := hout.c1
      have p0 := hres.c0
      have p1 := hres.c1
      have f0 := hres.f 0
      have f1 := hres.f 1
      clear hown hres hbel hout hm'
      go_wp2
      have hfin := (HR.out.set0 (.int .i64 (k : Int))).set1 (.slice a' m' c')
      have r0 := hfin.c0
      have r1 := hfin.c1
      refine bodyPost_ret (v := .agg #[.int .i64 (k : Int), .slice a' m' c']) ?_ rfl ?_
      · simp [results, Try.results117, go_sem, r0, r1]
      · have hm := HM.out
        subst hm
        have e2 : ofCode (k : Int) c = ocTo (k : Int) c k := by unfold ofCode; rw [Hk2.out]
        rw [e2]
        exact ⟨a', c', rfl, ((HO.out.setc (by simp) _).setc (by simp) _).mono (by omega), (HB.out.setCell (by simp) _).setCell (by simp) _⟩

set_option maxRecDepth 20000 in
set_option maxHeartbeats 1600000 in
theorem specL05Of (n : Int) (c : Nat) (w : World) (hlo : 1 ≤ n) (hhi : n ≤ 24) (hc : c < 16777216) :
    Calls Try.prog 95 #[.int .i64 n, .int .i64 (c : Int)] w (RetRhythm w n (ofCode n c)) := by
  go_enter Try.func95, Try.ntmps95
  go_wp2_with fail
  go_loopw [6] (fun i wr => ∃ k : Nat, (k : Int) ≤ n ∧ i = .int .i64 k ∧ ∃ a' m' c', (ocTo n c k).length = m' ∧ Own wr (w.heap.size + 2) (.slice a' m' c') (ocTo n c k) ∧ Bx wr (w.heap.size + 1) (.int .i64 n) (.slice a' m' c') 25 ∧ Bx wr w.heap.size (.int .i64 0) (.slice none 0 0) 25 ∧ Below w.heap.size w wr) (fun i _ => (n - intOf i).toNat)
  case atStart => exact ⟨0, by omega, rfl, none, 0, 0, rfl, Own.nil _ _, by (repeat (first | (with_reducible refine Bx.newAt _ _ _ _ ?_; simp; done) | (with_reducible refine Bx.alloc ?_ _) | (with_reducible refine Bx.drew ?_) | (with_reducible refine Bx.drewN ?_ _))), by (repeat (first | (with_reducible refine Bx.newAt _ _ _ _ ?_; simp; done) | (with_reducible refine Bx.alloc ?_ _) | (with_reducible refine Bx.drew ?_) | (with_reducible refine Bx.drewN ?_ _))), by (repeat (first | (with_reducible exact (Below.refl _ _)) | (with_reducible refine bel_alloc ?_ _) | (with_reducible refine Below.drew ?_) | (with_reducible refine bel_drewN ?_ _) | (with_reducible refine Below.setCell ?_ (by simp) _)))⟩
  case round =>
    obtain ⟨k, hk, rfl, a', m', c', hm', hown, hout, hres, hbel⟩ := hrel
    have hsz := hout.lt
    have hml := ocTo_len n c k
    have hm2 : m' ≤ 1048576 := by omega
    have HM := Lib.hid hm'
    by_cases hlt : (k : Int) < n
    · have HY := Lib.hid hout
      have HO := Lib.hid hown
      have HR := Lib.hid hres
      have HB := Lib.hid hbel
      have y1 := hout.c1
      have g1 := hout.f 1
      obtain ⟨s, hs⟩ : ∃ s : Nat, n - 1 - (k : Int) = (s : Int) := ⟨(n - 1 - (k : Int)).toNat, by omega⟩
      have hb := bitI n c k s hs hc
      cases hh : bitC n c k with
      | true =>
        have Hn := Lib.hid (ocTo_yes hh)
        rw [hh, if_pos rfl] at hb
        have hb2 : (bits BinOp.and IntKind.i64 ((c : Int) / 2 ^ s) 1 == 1) = true := by rw [hb]; rfl
        clear hres hbel hout hm' hown hh
        go_wp2_with (at_builtin; refine wpAppInt rfl _ _ rfl (w.heap.size + 2) a' m' c' (ocTo n c k) _ rfl rfl HO.out HM.out (by omega) (by omega) ?_; intro a1 c1 w3 ho1 hb1; have hy1 := HY.out.below hb1 (by omega); have p1 := hy1.c1; have gg1 := hy1.f 1)
        have HY3 : Hid (Bx (w3.setCell ⟨w.heap.size + 1, 1, none⟩ (.slice a1 (m' + 1) c1)) (w.heap.size + 1) _ (.slice a1 (m' + 1) c1) _) := hy1.set1 _
        have HO3 : Hid (Own (w3.setCell ⟨w.heap.size + 1, 1, none⟩ (.slice a1 (m' + 1) c1)) (w.heap.size + 2) (.slice a1 (m' + 1) c1) (ocTo n c (k + 1))) := by unfold Hid; rw [Hn.out]; exact ho1.setc (by simp) _
        have HR3 : Hid (Bx (w3.setCell ⟨w.heap.size + 1, 1, none⟩ (.slice a1 (m' + 1) c1)) w.heap.size _ _ _) := (HR.out.below hb1 (by omega)).set_other (by simp) _
        have HB3 : Hid (Below w.heap.size w (w3.setCell ⟨w.heap.size + 1, 1, none⟩ (.slice a1 (m' + 1) c1))) := (HB.out.trans (hb1.mono (by omega))).setCell (by simp) _
        have HM3 : Hid ((ocTo n c (k + 1)).length = m' + 1) := by unfold Hid; rw [Hn.out, List.length_append, HM.out]; rfl
        clear ho1 hb1 hy1 p1 gg1
        go_roundw
        case rel => exact ⟨k + 1, by omega, by go_num, a1, m' + 1, c1, HM3.out, HO3.out, HY3.out, HR3.out, HB3.out⟩
        case measure => simp [intOf]; omega
      | false =>
        have Hn := Lib.hid (ocTo_no hh)
        rw [hh, if_neg (by simp)] at hb
        have hb2 : (bits BinOp.and IntKind.i64 ((c : Int) / 2 ^ s) 1 == 1) = false := by rw [hb]; rfl
        clear hres hbel hout hm' hown hh
        go_wp2_with fail
        go_roundw
        case rel => exact ⟨k + 1, by omega, by go_num, a', m', c', by rw [Hn.out]; exact HM.out, by rw [Hn.out]; exact HO.out, HY.out, HR.out, HB.out⟩
        case measure => simp [intOf]; omega
    · have e : n = (k : Int) := by omega
      have hk2 : n.toNat = k := by omega
      have Hk2 := Lib.hid hk2
      clear hk2
      subst e
      have HO := Lib.hid hown
      have HR := Lib.hid hres
      have HB := Lib.hid hbel
      have y0 := hout.c0
      have y1 := hout.c1
      have p0 := hres.c0
      have p1 := hres.c1
      have f0 := hres.f 0
      have f1 := hres.f 1
      clear hown hres hbel hout hm'
      go_wp2
      have hfin := (HR.out.set0 (.int .i64 (k : Int))).set1 (.slice a' m' c')
      have r0 := hfin.c0
      have r1 := hfin.c1
      refine bodyPost_ret (v := .agg #[.int .i64 (k : Int), .slice a' m' c']) ?_ rfl ?_
      · simp [results, Try.results95, go_sem, r0, r1]
      · have hm := HM.out
        subst hm
        have e2 : ofCode (k : Int) c = ocTo (k : Int) c k := by unfold ofCode; rw [Hk2.out]
        rw [e2]
        exact ⟨a', c', rfl, ((HO.out.setc (by simp) _).setc (by simp) _).mono (by omega), (HB.out.setCell (by simp) _).setCell (by simp) _⟩
end Go.Proofs.Ytopfenhphnmfkaa
