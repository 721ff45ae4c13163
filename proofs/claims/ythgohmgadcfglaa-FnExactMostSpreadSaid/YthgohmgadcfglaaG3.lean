/-
  Contracts of EvenRhythm and MostSpread, in the program and in the reference.
  Conditions: none beyond the integers' width.
-/
import Derived.Test.YthgohmgadcfglaaG2
import Derived.Test.YthgohmgadcfglaaF1
namespace Go.Proofs.Ythgohmgadcfglaa
open Go.RowKit

def okEvenRhythm (k n : Int) : Bool := okShiftedEven k n 0
def numEvenRhythm (k n : Int) : Int := numShiftedEven k n 0
def lstEvenRhythm (k n : Int) : List Int := lstShiftedEven k n 0
theorem lenEvenRhythm (k n : Int) : (lstEvenRhythm k n).length ≤ 24 := lenShiftedEven k n 0
theorem numEvenRhythm_bd (k n : Int) : I64 (numEvenRhythm k n) := by
  unfold I64 numEvenRhythm numShiftedEven
  split
  · rename_i h
    simp only [okShiftedEven, Bool.and_eq_true, decide_eq_true_eq] at h
    omega
  · omega

theorem implEvenRhythmC (k : Int) (ck : I64 k) (n : Int) (cn : I64 n) (w : World) :
    Calls Try.prog 21 #[.int .i64 k, .int .i64 n] w (RetRhythm2 w (numEvenRhythm k n) (lstEvenRhythm k n) (okEvenRhythm k n)) := by
  go_enter Try.func21, Try.ntmps21
  go_wp2_with fail
  refine withWorld fun X hX => ?_
  have hB : Below w.heap.size w X := by rw [hX]; exact (Below.refl _ _).alloc (Nat.le_refl _) _
  have hx : Bx X w.heap.size (.int .i64 0) (.slice none 0 0) 27 := by rw [hX]; exact Bx.new w _ _ _
  clear hX
  refine (implShiftedEvenC _ ck _ cn _ ⟨by omega, by omega⟩ _).mono ?_
  rintro e w1 ⟨b1, c1, rfl, ho1, hb1⟩
  have hx1 := hx.below hb1 hx.lt
  have p0 := hx1.c0
  have p1 := hx1.c1
  have f0 := hx1.f 0
  have f1 := hx1.f 1
  have hfin := (hx1.set0 (.int .i64 (numShiftedEven k n 0))).set1 (.slice b1 (lstShiftedEven k n 0).length c1)
  have r0 := hfin.c0
  have r1 := hfin.c1
  have HO1 := Lib.hid (ho1.mono (show w.heap.size + 1 ≤ X.heap.size from hx.lt))
  have HB1 := Lib.hid (bel_step hB hb1 hB.size)
  clear ho1 hb1 hx hx1 hfin hB
  go_wp2
  refine bodyPost_ret (v := .tuple #[.agg #[.int .i64 (numShiftedEven k n 0), .slice b1 (lstShiftedEven k n 0).length c1], .bool (okShiftedEven k n 0)]) ?_ rfl ?_
  · simp [results, Try.results21, go_sem, r0, r1]
  · exact ⟨b1, c1, rfl, ((HO1.out.setc (by simp) _).setc (by simp) _).mono (by omega), (HB1.out.setCell (by simp) _).setCell (by simp) _⟩

theorem specEvenRhythmC (k : Int) (_ck : I64 k) (n : Int) (_cn : I64 n) (w : World) :
    Calls Try.prog 20 #[.int .i64 k, .int .i64 n] w (RetRhythm2 w (numEvenRhythm k n) (lstEvenRhythm k n) (okEvenRhythm k n)) := by
  by_cases h1 : 1 ≤ n ∧ n ≤ 24 ∧ 0 ≤ k ∧ k ≤ n
  · obtain ⟨a1, a2, a3, a4⟩ := h1
    have H1 := Lib.hid (show l06ok k n = true by simp [l06ok, a1, a2, a3, a4])
    have ho : okShiftedEven k n 0 = true := okShiftedEven_yes a1 a2 a3 a4 (by omega) (by omega) (by omega)
    have hs := shifted_yes ho
    have Ho := Lib.hid ho
    have Hs := Lib.hid hs
    clear ho hs
    go_enter Try.func20, Try.ntmps20
    go_wp2_with (go_at_call 54; refine (specL06Ok _ _ _).mono ?_; rintro e w' ⟨rfl, rfl⟩; rw [H1.out])
    refine withWorld fun X hX => ?_
    have hB : Below w.heap.size w X := by rw [hX]; exact (Below.refl _ _).alloc (Nat.le_refl _) _
    have hx : Bx X w.heap.size (.int .i64 0) (.slice none 0 0) 27 := by rw [hX]; exact Bx.new w _ _ _
    clear hX
    refine (specL06Even _ _ _ _ a2 a3 a4 (by omega) (by omega)).mono ?_
    rintro e w1 ⟨b1, c1, rfl, ho1, hb1⟩
    have hx1 := hx.below hb1 hx.lt
    have p0 := hx1.c0
    have p1 := hx1.c1
    have f0 := hx1.f 0
    have f1 := hx1.f 1
    have hfin := (hx1.set0 (.int .i64 n)).set1 (.slice b1 (evTo k n 0 k.toNat).length c1)
    have r0 := hfin.c0
    have r1 := hfin.c1
    have HO1 := Lib.hid (ho1.mono (show w.heap.size + 1 ≤ X.heap.size from hx.lt))
    have HB1 := Lib.hid (bel_step hB hb1 hB.size)
    clear ho1 hb1 hx hx1 hfin hB
    go_wp2
    refine bodyPost_ret (v := .tuple #[.agg #[.int .i64 n, .slice b1 (evTo k n 0 k.toNat).length c1], .bool true]) ?_ rfl ?_
    · simp [results, Try.results20, go_sem, r0, r1]
    · exact .one rfl (((HO1.out.setc (by simp) _).setc (by simp) _).mono (by omega)) rfl ((HB1.out.setCell (by simp) _).setCell (by simp) _) Hs.out.1 Hs.out.2 Ho.out
  · have ho : okShiftedEven k n 0 = false := okShiftedEven_no (by omega)
    have hs := shifted_no ho
    have Ho := Lib.hid ho
    have Hs := Lib.hid hs
    have H1 : Hid (l06ok k n = false) := by
      unfold Hid l06ok
      rw [← Bool.not_eq_true]; intro h; apply h1; simpa [and_assoc] using h
    clear ho hs h1
    go_enter Try.func20, Try.ntmps20
    go_wp2_with (go_at_call 54; refine (specL06Ok _ _ _).mono ?_; rintro e w' ⟨rfl, rfl⟩; rw [H1.out])
    refine bodyPost_ret (v := .tuple #[.agg #[.int .i64 0, .slice none 0 0], .bool false]) ?_ rfl ?_
    · simp [results, Try.results20, go_sem]
    · exact .zero rfl ((Below.refl _ _).alloc (Nat.le_refl _) _) Hs.out.1 Hs.out.2 Ho.out

def valMostSpread (k n : Int) : Int := if okEvenRhythm k n = true then valSpreadOf (numEvenRhythm k n) (lstEvenRhythm k n) else -1

theorem implMostSpreadC (k : Int) (ck : I64 k) (n : Int) (cn : I64 n) (w : World) :
    Calls Try.prog 29 #[.int .i64 k, .int .i64 n] w fun e w' => e = .returned (.int .i64 (valMostSpread k n)) ∧ Below w.heap.size w w' := by
  cases ho : okEvenRhythm k n with
  | false =>
    have Ho := Lib.hid ho
    have Hf := Lib.hid (show valMostSpread k n = -1 by simp [valMostSpread, ho])
    clear ho
    go_enter Try.func29, Try.ntmps29
    go_wp2_with fail
    refine (implEvenRhythmC _ ck _ cn _).mono ?_
    rw [Ho.out]
    rintro e w1 ⟨b1, c1, rfl, ho1, hb1⟩
    have HB1 := Lib.hid hb1
    clear ho1 hb1
    go_wp2
    go_ret
    exact ⟨ret_int Hf.out.symm, HB1.out.alloc HB1.out.size _⟩
  | true =>
    have Ho := Lib.hid ho
    have Hf := Lib.hid (show valMostSpread k n = valSpreadOf (numEvenRhythm k n) (lstEvenRhythm k n) by simp [valMostSpread, ho])
    clear ho
    go_enter Try.func29, Try.ntmps29
    go_wp2_with fail
    refine (implEvenRhythmC _ ck _ cn _).mono ?_
    rw [Ho.out]
    rintro e w1 ⟨b1, c1, rfl, ho1, hb1⟩
    have HO1 := Lib.hid ho1
    have HB1 := Lib.hid hb1
    clear ho1 hb1
    go_wp2_with fail
    refine withWorld fun X hX => ?_
    have hB : Below w.heap.size w X := by rw [hX]; exact HB1.out.alloc HB1.out.size _
    have hI := (show Own X w.heap.size (.slice b1 (lstEvenRhythm k n).length c1) (lstEvenRhythm k n) by rw [hX]; exact HO1.out.alloc _).ints
    clear hX
    refine (implSpreadOfC _ _ (lstEvenRhythm k n) (numEvenRhythm_bd k n) _ hI).mono ?_
    rintro e w2 ⟨rfl, hb2⟩
    have HB2 := Lib.hid (bel_step hB hb2 hB.size)
    clear hb2 hB hI
    go_wp2
    go_ret
    exact ⟨ret_int Hf.out.symm, HB2.out⟩

theorem specMostSpreadC (k : Int) (ck : I64 k) (n : Int) (cn : I64 n) (w : World) :
    Calls Try.prog 28 #[.int .i64 k, .int .i64 n] w fun e w' => e = .returned (.int .i64 (valMostSpread k n)) ∧ Below w.heap.size w w' := by
  cases ho : okEvenRhythm k n with
  | false =>
    have Ho := Lib.hid ho
    have Hf := Lib.hid (show valMostSpread k n = -1 by simp [valMostSpread, ho])
    clear ho
    go_enter Try.func28, Try.ntmps28
    go_wp2_with fail
    refine (specEvenRhythmC _ ck _ cn _).mono ?_
    rw [Ho.out]
    rintro e w1 ⟨b1, c1, rfl, ho1, hb1⟩
    have HB1 := Lib.hid hb1
    clear ho1 hb1
    go_wp2
    go_ret
    exact ⟨ret_int Hf.out.symm, HB1.out.alloc HB1.out.size _⟩
  | true =>
    have Ho := Lib.hid ho
    have Hf := Lib.hid (show valMostSpread k n = valSpreadOf (numEvenRhythm k n) (lstEvenRhythm k n) by simp [valMostSpread, ho])
    clear ho
    go_enter Try.func28, Try.ntmps28
    go_wp2_with fail
    refine (specEvenRhythmC _ ck _ cn _).mono ?_
    rw [Ho.out]
    rintro e w1 ⟨b1, c1, rfl, ho1, hb1⟩
    have HO1 := Lib.hid ho1
    have HB1 := Lib.hid hb1
    clear ho1 hb1
    go_wp2_with fail
    refine withWorld fun X hX => ?_
    have hB : Below w.heap.size w X := by rw [hX]; exact HB1.out.alloc HB1.out.size _
    have hI := (show Own X w.heap.size (.slice b1 (lstEvenRhythm k n).length c1) (lstEvenRhythm k n) by rw [hX]; exact HO1.out.alloc _).ints
    clear hX
    refine (specSpreadOfC _ _ (lstEvenRhythm k n) (numEvenRhythm_bd k n) _ hI).mono ?_
    rintro e w2 ⟨rfl, hb2⟩
    have HB2 := Lib.hid (bel_step hB hb2 hB.size)
    clear hb2 hB hI
    go_wp2
    go_ret
    exact ⟨ret_int Hf.out.symm, HB2.out⟩
end Go.Proofs.Ythgohmgadcfglaa
