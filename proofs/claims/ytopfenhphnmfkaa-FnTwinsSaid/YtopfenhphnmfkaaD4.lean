/-
  Contracts of MakeNum and MakeRhythm: a number and a valid rhythm out of a code.
  Conditions: the code's bytes lie in memory, at most two to the twentieth.
-/
import Derived.Test.YtopfenhphnmfkaaD3
set_option linter.unusedVariables false
set_option linter.unusedSimpArgs false
namespace Go.Proofs.Ytopfenhphnmfkaa
open Go.RowKit

theorem Bytes.mono {w : World} {B B' : Nat} {v : Value} {m : Nat} (h : Bytes w B v m) (hB : B ≤ B') : Bytes w B' v m := by
  obtain ⟨a, cap, rfl, hl, hm, h⟩ := h
  refine ⟨a, cap, rfl, hl, hm, ?_⟩
  rcases h with h | ⟨b, o, rfl, hlt, h⟩
  · exact .inl h
  · exact .inr ⟨b, o, rfl, by omega, h⟩
theorem Bytes.cur {w X : World} {p : Nat} {v : Value} {m : Nat} (h : Bytes w w.heap.size v m) (b : Below w.heap.size w X) (hp : w.heap.size ≤ p) : Bytes X p v m := (h.below b).mono hp
theorem bel_out {B p : Nat} {w X w1 : World} (h : Below B w X) (b : Outside p (p + 1) X w1) (hp : B ≤ p) (hX : B ≤ X.heap.size) : Below B w w1 := bel_outside h b hp hX

theorem Cur.setc {w : World} {p : Nat} {v : Value} {m : Nat} (h : Cur w p v m) {a : Addr} (ha : p ≠ a.block) (u : Value) : Cur (w.setCell a u) p v m := by
  obtain ⟨i, h, hx, hi, hh⟩ := h
  exact ⟨i, h, (Below.heap_setCell w a u p ha).trans hx, hi, hh⟩
theorem Out.setNew {lo hi : Nat} {w X : World} (h : Outside lo hi w X) {a : Addr} (ha : w.heap.size ≤ a.block) (u : Value) : Outside lo hi w (X.setCell a u) :=
  ⟨h.os, h.tape, h.output, by simpa [World.setCell] using h.size, fun b hb1 hb2 => by rw [Below.heap_setCell _ _ _ _ (show b ≠ a.block by omega)]; exact h.block b hb1 hb2⟩
set_option maxRecDepth 20000 in
set_option maxHeartbeats 2000000 in
theorem specL31New (v : Value) (m : Nat) (n : Nat) (w : World) (hm : m ≤ 1048576) (hn : n ≤ 1000) (hB : Bytes w w.heap.size v m) :
    Calls Try.prog 57 #[v, .int .i64 (n : Int)] w fun e w' => (∃ p, w.heap.size ≤ p ∧ p < w'.heap.size ∧ e = .returned (.pointer (some ⟨p, 0, none⟩)) ∧ Cur w' p v m) ∧ Below w.heap.size w w' := by
  have hB0 := hB
  obtain ⟨a, cap, rfl, -⟩ := hB
  go_enter Try.func57, Try.ntmps57
  go_wp2_with (go_at_call 101; refine (specL01New _ m _ hm hB0).mono ?_; rintro e w1 ⟨⟨p, hp0, hp1, rfl, hC1⟩, hb1⟩; have HC1 := Lib.hid hC1; have HB1 := Lib.hid hb1; clear hC1 hb1)
  go_loopw [6] (fun i wr => ∃ k : Nat, k ≤ n ∧ i = .int .i64 (k : Int) ∧ Cur wr p (.slice a m cap) m ∧ Below w.heap.size w wr) (fun i _ => n - (intOf i).toNat)
  case atStart => exact ⟨0, Nat.zero_le _, rfl, HC1.out, HB1.out⟩
  case round =>
    obtain ⟨k, hk, rfl, hC, hb⟩ := hrel
    have HC := Lib.hid hC
    have HB := Lib.hid hb
    clear hC hb
    by_cases hlt : k < n
    · go_wp2_with (go_at_call 58; refine (specL01Byte p _ m _ hm HC.out (hB0.cur HB.out hp0)).mono ?_; rintro e w2 ⟨⟨r, hr0, hr1, rfl⟩, hC2, hO2⟩; have HC2 := Lib.hid hC2; have HB2 := Lib.hid (bel_out HB.out hO2 hp0 HB.out.size); clear hC2 hO2)
      go_roundw
      case rel => exact ⟨k + 1, by omega, by go_num, HC2.out, HB2.out⟩
      case measure => simp [intOf]; omega
    · go_wp2
      go_ret
      exact ⟨⟨p, hp0, HC.out.lt, rfl, HC.out⟩, HB.out⟩

set_option maxRecDepth 20000 in
set_option maxHeartbeats 2000000 in
theorem specMakeNum (v : Value) (m : Nat) (n : Nat) (w : World) (hm : m ≤ 1048576) (hn : n ≤ 1000) (hB : Bytes w w.heap.size v m) :
    Calls Try.prog 11 #[v, .int .i64 (n : Int)] w fun e w' => (∃ r : Int, 0 ≤ r ∧ r ≤ 65535 ∧ e = .returned (.int .i64 r)) ∧ Below w.heap.size w w' := by
  have hB0 := hB
  obtain ⟨a, cap, rfl, -⟩ := hB
  go_enter Try.func11, Try.ntmps11
  go_wp2_with (first
    | (go_at_call 57; refine (specL31New _ m n _ hm hn hB0).mono ?_; rintro e w1 ⟨⟨p, hp0, hp1, rfl, hC1⟩, hb1⟩; have HC1 := Lib.hid hC1; have HB1 := Lib.hid hb1; clear hC1 hb1)
    | (go_at_call 58; first
        | (have hfresh := HB2.out; refine (specL01Byte p _ m _ hm HC2.out (hB0.cur HB2.out hp0)).mono ?_; rintro e w3 ⟨⟨q, hq0, hq1, rfl⟩, hC3, hO3⟩; have HB3 := Lib.hid (bel_out HB2.out hO3 hp0 HB2.out.size); clear hC3 hO3)
        | (refine (specL01Byte p _ m _ hm HC1.out (hB0.cur HB1.out hp0)).mono ?_; rintro e w2 ⟨⟨r, hr0, hr1, rfl⟩, hC2, hO2⟩; have HC2 := Lib.hid hC2; have HB2 := Lib.hid (bel_out HB1.out hO2 hp0 HB1.out.size); clear hC2 hO2)))
  go_ret
  exact ⟨⟨r * 256 + q, by omega, by omega, rfl⟩, HB3.out⟩

set_option maxRecDepth 20000 in
set_option maxHeartbeats 4000000 in
theorem specL02Draw (p : Nat) (v : Value) (m : Nat) (t : Int) (w : World) (hm : m ≤ 1048576) (ht : 1 ≤ t) (ht' : t ≤ 24) (hC : Cur w p v m) (hB : Bytes w p v m) :
    Calls Try.prog 56 #[.pointer (some ⟨p, 0, none⟩), .int .i64 t] w fun e w' => ∃ (n : Int) (x : List Int) (a : Option Addr) (c : Nat), e = .returned (.agg #[.int .i64 n, .slice a x.length c]) ∧ n ≤ t ∧ Rok n x ∧ Own w' w.heap.size (.slice a x.length c) x ∧ Outside p (p + 1) w w' := by
  have hpl := hC.lt
  go_enter Try.func56, Try.ntmps56
  go_wp2_with (go_at_call 99; refine withWorld fun X hX => ?_; have gB : Below w.heap.size w X := (by rw [hX]; (repeat (first | (with_reducible exact (Below.refl _ _)) | (with_reducible refine bel_alloc ?_ _) | (with_reducible refine Below.drew ?_) | (with_reducible refine bel_drewN ?_ _) | (with_reducible refine Below.setCell ?_ (by simp) _)))); have bx0 : Bx X w.heap.size (.int .i64 0) (.slice none 0 0) 25 := (by rw [hX]; (repeat (first | (with_reducible refine Bx.newAt _ _ _ _ ?_; simp; done) | (with_reducible refine Bx.alloc ?_ _) | (with_reducible refine Bx.drew ?_) | (with_reducible refine Bx.drewN ?_ _)))); have gsz : X.heap.size = w.heap.size + 1 := (by rw [hX]; simp); clear hX; refine (specL01Below p v m t _ hm ht (by omega) (hC.below gB hpl) ((hB.below (gB.mono (by omega)))) ).mono ?_; rintro e w1 ⟨⟨r, hr0, hr1, rfl⟩, hC1, hO1⟩; have HC1 := Lib.hid hC1; have HX1 := Lib.hid (bx0.outside hO1 (by omega)); have HO1 := Lib.hid (Out.trans (Out.below (Out.refl p (p + 1) w) gB (Nat.le_refl _) (Nat.le_refl _)) hO1); have hz1 := hO1.size; clear hC1 hO1 gB bx0)
  generalize hN : 1 + r = N at *
  have hn1 : 1 ≤ N := by omega
  have hn2 : N ≤ 24 := by omega
  have hnt : N ≤ t := by omega
  clear hN hr0 hr1
  have hQ : w.heap.size + 1 ≤ w1.heap.size := by omega
  have HZ1 : Hid (Bx (w1.alloc (.cells #[.int .i64 N, .slice none 0 0] 25)) w1.heap.size (.int .i64 N) (.slice none 0 0) 25) := Bx.new _ _ _ _
  have HX2 : Hid (Bx (w1.alloc (.cells #[.int .i64 N, .slice none 0 0] 25)) w.heap.size (.int .i64 0) (.slice none 0 0) 25) := HX1.out.alloc _
  have HC2 : Hid (Cur (w1.alloc (.cells #[.int .i64 N, .slice none 0 0] 25)) p v m) := HC1.out.below (Below.alloc (Below.refl w1.heap.size w1) (Nat.le_refl _) _) (by omega)
  have HO2 : Hid (Outside p (p + 1) w (w1.alloc (.cells #[.int .i64 N, .slice none 0 0] 25))) := Out.below HO1.out (Below.alloc (Below.refl w1.heap.size w1) (Nat.le_refl _) _) (by omega) (by omega)
  clear gsz hz1
  generalize hQe : w1.heap.size = Q at *
  generalize w1.alloc (.cells #[.int .i64 N, .slice none 0 0] 25) = W0 at *
  clear hQe HC1 HX1 HO1
  go_loopw [7] (fun i wr => ∃ k : Nat, (k : Int) ≤ N ∧ i = .int .i64 k ∧ ∃ (xs : List Int) (a' : Option Addr) (m' c' : Nat), xs.length = m' ∧ m' ≤ k ∧ (∀ z ∈ xs, 0 ≤ z ∧ z < k) ∧ xs.Pairwise (· < ·) ∧ Own wr (Q + 1) (.slice a' m' c') xs ∧ Bx wr Q (.int .i64 N) (.slice a' m' c') 25 ∧ Bx wr w.heap.size (.int .i64 0) (.slice none 0 0) 25 ∧ Cur wr p v m ∧ Outside p (p + 1) w wr) (fun i _ => (N - intOf i).toNat)
  case atStart => exact ⟨0, by omega, rfl, [], none, 0, 0, rfl, Nat.le_refl _, fun z hz => (by cases hz), List.Pairwise.nil, Own.nil _ _, HZ1.out, HX2.out, HC2.out, HO2.out⟩
  case round =>
    obtain ⟨k, hk, rfl, xs, a', m', c', hm', hmk, hz, hpw, hown, hout, hres, hC, hO⟩ := hrel
    have hsz := hout.lt
    have HM := Lib.hid hm'
    have HY := Lib.hid hout
    have HO := Lib.hid hown
    have HR := Lib.hid hres
    have HC := Lib.hid hC
    have HU := Lib.hid hO
    have HZ := Lib.hid hz
    have HP := Lib.hid hpw
    have hBr := Lib.hid (hB.outside hO (Nat.le_refl p) (by omega))
    by_cases hlt : (k : Int) < N
    · clear hm' hout hown hres hC hO hz hpw
      go_wp2_with fail
      refine (specL01Once p v m _ hm HC.out hBr.out).mono ?_
      rintro e w2 ⟨⟨b, rfl⟩, hC2, hO2⟩
      have HC2 := Lib.hid hC2
      have HU2 := Lib.hid (Out.trans HU.out hO2)
      have HY2 := Lib.hid (HY.out.outside hO2 (by omega))
      have HR2 := Lib.hid (HR.out.outside hO2 (by omega))
      have HO2 := Lib.hid (HO.out.outside hO2 (by omega))
      have hsz2 := HY2.out.lt
      clear hC2 hO2
      cases b with
      | true =>
        have y1 := HY2.out.c1
        have g1 := HY2.out.f 1
        go_wp2_with (at_builtin; refine wpAppInt rfl _ _ rfl (Q + 1) a' m' c' xs _ rfl rfl HO2.out HM.out (by omega) (by omega) ?_; intro a1 c1 w3 ho1 hb1; have hy1 := HY2.out.below hb1 (by omega); have p1 := hy1.c1; have gg1 := hy1.f 1)
        have HY3 : Hid (Bx (w3.setCell ⟨Q, 1, none⟩ (.slice a1 (m' + 1) c1)) Q _ (.slice a1 (m' + 1) c1) _) := hy1.set1 _
        have HO3 : Hid (Own (w3.setCell ⟨Q, 1, none⟩ (.slice a1 (m' + 1) c1)) (Q + 1) (.slice a1 (m' + 1) c1) (xs ++ [(k : Int)])) := ho1.setc (by simp) _
        have HR3 : Hid (Bx (w3.setCell ⟨Q, 1, none⟩ (.slice a1 (m' + 1) c1)) w.heap.size _ _ _) := (HR2.out.below hb1 (by omega)).set_other (by simp; omega) _
        have HC3 : Hid (Cur (w3.setCell ⟨Q, 1, none⟩ (.slice a1 (m' + 1) c1)) p v m) := (HC2.out.below hb1 (by omega)).setc (by simp; omega) _
        have HU3 : Hid (Outside p (p + 1) w (w3.setCell ⟨Q, 1, none⟩ (.slice a1 (m' + 1) c1))) := Out.setNew (Out.below HU2.out hb1 (by omega) (by omega)) (by simp; omega) _
        have HM3 : Hid ((xs ++ [(k : Int)]).length = m' + 1) := by unfold Hid; rw [List.length_append, HM.out]; rfl
        clear ho1 hb1 hy1 p1 gg1
        go_roundw
        case rel =>
          refine ⟨k + 1, by omega, by go_num, xs ++ [(k : Int)], a1, m' + 1, c1, HM3.out, by omega, ?_, ?_, HO3.out, HY3.out, HR3.out, HC3.out, HU3.out⟩
          · intro z hz
            rcases List.mem_append.1 hz with h | h
            · have := HZ.out z h; omega
            · have : z = (k : Int) := by simpa using h
              omega
          · rw [List.pairwise_append]
            refine ⟨HP.out, List.pairwise_singleton _ _, fun x hx y hy => ?_⟩
            have h1 := HZ.out x hx
            have : y = (k : Int) := by simpa using hy
            omega
        case measure => simp [intOf]; omega
      | false =>
        go_wp2
        go_roundw
        case rel => exact ⟨k + 1, by omega, by go_num, xs, a', m', c', HM.out, by omega, fun z hz => by have := HZ.out z hz; omega, HP.out, HO2.out, HY2.out, HR2.out, HC2.out, HU2.out⟩
        case measure => simp [intOf]; omega
    · have e : N = (k : Int) := by omega
      have HE := Lib.hid e
      have y0 := hout.c0
      have y1 := hout.c1
      have p0 := hres.c0
      have p1 := hres.c1
      have f0 := hres.f 0
      have f1 := hres.f 1
      clear hm' hout hown hres hC hO hz hpw e
      go_wp2
      have hfin := (HR.out.set0 (.int .i64 N)).set1 (.slice a' m' c')
      have r0 := hfin.c0
      have r1 := hfin.c1
      refine bodyPost_ret (v := .agg #[.int .i64 N, .slice a' m' c']) ?_ rfl ?_
      · simp [results, Try.results56, go_sem, r0, r1]
      · have hm := HM.out
        subst hm
        refine ⟨N, xs, a', c', rfl, hnt, ⟨hn1, hn2, fun z hz => (HZ.out z hz).1, fun z hz => by have := (HZ.out z hz).2; have := HE.out; omega, HP.out⟩, ((HO.out.setc (by simp; omega) _).setc (by simp; omega) _).mono (by omega), Out.setNew (Out.setNew HU.out (by simp) _) (by simp) _⟩

end Go.Proofs.Ytopfenhphnmfkaa
