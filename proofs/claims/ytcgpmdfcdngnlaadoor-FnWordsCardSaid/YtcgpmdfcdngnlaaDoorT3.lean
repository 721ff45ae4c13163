/-
  Contracts of ParseInt, in the program and in the reference.
  Conditions: the text is no longer than two to the twentieth; for the program the library's table and its two errors are there.
-/
import Derived.Test.YtcgpmdfcdngnlaaDoorT2
import Derived.Test.YtcgpmdfcdngnlaaDoorShA
set_option linter.unusedVariables false
set_option linter.unusedSimpArgs false
namespace Go.Proofs.YtcgpmdfcdngnlaaDoor
open Go.RowKit

/-- The variable holds some error. -/
def ErrIs (n : String) (w : World) : Prop := ∃ tp p, w.var? Tryd.prog n = some #[.iface tp p]
theorem globSyn : Tryd.prog.globalNamed "strconv.ErrSyntax" = some 0 := by kernel_rfl
theorem globRan : Tryd.prog.globalNamed "strconv.ErrRange" = some 1 := by kernel_rfl
theorem ErrIs.below {n : String} {g : Nat} (hg : Tryd.prog.globalNamed n = some g) {w w' : World} (h : ErrIs n w) (hb : Below w.heap.size w w') : ErrIs n w' := by
  obtain ⟨tp, p, h⟩ := h
  exact ⟨tp, p, Joins.var_stays hg h hb (Nat.le_refl _)⟩
/-- What ParseInt of the program wants of the library's variables. -/
def PG (w : World) : Prop := Tab10 w ∧ ErrIs "strconv.ErrSyntax" w ∧ ErrIs "strconv.ErrRange" w
theorem PG.below {w w' : World} (h : PG w) (hb : Below w.heap.size w w') : PG w' := ⟨h.1.below hb, h.2.1.below globSyn hb, h.2.2.below globRan hb⟩
theorem atoiOkC (s : ByteArray) (hs : s.size ≤ 1048576) (v : Int) (h : Lib.atoiAll s.data.toList = .ok v) (w : World) :
    Calls Tryd.prog 44 #[.string s] w fun e w' => e = .returned (.tuple #[.int .i64 v, .nilIface]) ∧ Below w.heap.size w w' := by
  refine (Tryd.strconv_Atoi_ok s (by omega) v h w).mono fun e w' ⟨he, hw⟩ => ⟨he, ?_⟩
  rcases hw with rfl | ⟨t, rfl⟩
  · exact Below.refl _ _
  · exact Lib.bytesWorld_below _ _ _
theorem atoiNoC (s : ByteArray) (hs : s.size ≤ 1048576) (h : okP s = false) (hn : ∀ v, Lib.atoiAll s.data.toList ≠ .ok v) (w : World) (hG : PG w) :
    Calls Tryd.prog 44 #[.string s] w fun e w' => ∃ (v : Int) (N : Nat) (t : TypeId), e = .returned (.tuple #[.int .i64 v, .iface t (.pointer (some ⟨N, 0, none⟩))]) ∧ Below w.heap.size w w' := by
  obtain ⟨-, ⟨tp, p, h1⟩, ⟨tp2, p2, h2⟩⟩ := hG
  rcases atoi_end (Lib.atoiAll s.data.toList) with ⟨v, ha⟩ | ha | ha
  · exact absurd ha (hn v)
  · exact (Tryd.strconv_Atoi_syntax_var s (by omega) ha tp p w h1).mono fun e w' ⟨N, he, _, _, hb⟩ => ⟨_, N, _, he, hb⟩
  · exact (Tryd.strconv_Atoi_range_var s (by omega) ha tp2 p2 w h2).mono fun e w' ⟨N, he, _, _, hb⟩ => ⟨_, N, _, he, hb⟩
theorem list_ne {a b : ByteArray} (h : ¬ a = b) : (a.toList == b.toList) = false := by
  rw [beq_eq_false_iff_ne]
  intro e
  apply h
  rw [ByteArray.toList_eq, ByteArray.toList_eq] at e
  exact ByteArray.ext (Array.toList_inj.1 e)
theorem ret_num2 {n m : Int} {a b : Bool} (h : n = m) (h2 : a = b) : Ending.returned (.tuple #[.int .i64 n, .bool a]) = Ending.returned (.tuple #[.int .i64 m, .bool b]) := by rw [h, h2]

set_option maxRecDepth 20000 in
set_option maxHeartbeats 800000 in
theorem implParseIntC (s : ByteArray) (hs : s.size ≤ 1048576) (w : World) (hG : PG w) :
    Calls Tryd.prog 22 #[.string s] w fun e w' => e = .returned (.tuple #[.int .i64 (numP s), .bool (okP s)]) ∧ Below w.heap.size w w' := by
  by_cases hv : ∃ v, Lib.atoiAll s.data.toList = .ok v
  · obtain ⟨v, hv⟩ := hv
    have HV := Lib.hid hv
    have cv : I64 v := Lib.atoiAll_bounds hv
    have HC := Lib.hid cv
    have HG := Lib.hid hG
    have hz := itB_size v cv
    clear hv hG cv
    by_cases he : itB v = s
    · have HN := Lib.hid (okP_ok HV.out he)
      have HE := Lib.hid he
      clear he hz
      go_enter Tryd.func22, Tryd.ntmps22
      go_wp2_with (first
        | (go_at_call 44; refine (atoiOkC s hs v HV.out _).mono ?_; rintro e w1 ⟨rfl, b1⟩; have HG1 := Lib.hid (HG.out.below b1))
        | (go_at_call 10; refine (implFormatIntC v HC.out _ HG1.out.1).mono ?_; rintro e w2 ⟨rfl, b2⟩; rw [HE.out]))
      refine bodyPost_ret (v := .tuple #[.int .i64 v, .bool true]) ?_ rfl ?_
      · simp [results, Tryd.results22, go_sem]
      · exact ⟨ret_num2 HN.out.2.symm HN.out.1.symm, bel_step b1 b2 b1.size⟩
    · have HN := Lib.hid (okP_ok2 HV.out he)
      have hne := list_ne he
      clear he
      go_enter Tryd.func22, Tryd.ntmps22
      go_wp2_with (first
        | (go_at_call 44; refine (atoiOkC s hs v HV.out _).mono ?_; rintro e w1 ⟨rfl, b1⟩; have HG1 := Lib.hid (HG.out.below b1))
        | (go_at_call 10; refine (implFormatIntC v HC.out _ HG1.out.1).mono ?_; rintro e w2 ⟨rfl, b2⟩; generalize itB v = T at *))
      refine bodyPost_ret (v := .tuple #[.int .i64 0, .bool false]) ?_ rfl ?_
      · simp [results, Tryd.results22, go_sem]
      · exact ⟨ret_num2 (numP_no HN.out).symm HN.out.symm, bel_step b1 b2 b1.size⟩
  · have ho : okP s = false := by
      rcases atoi_end (Lib.atoiAll s.data.toList) with ⟨v, ha⟩ | ha | ha
      · exact absurd ⟨v, ha⟩ hv
      · exact okP_syn ha
      · exact okP_ran ha
    have HO := Lib.hid ho
    have HV := Lib.hid (fun v h => hv ⟨v, h⟩ : ∀ v, Lib.atoiAll s.data.toList ≠ .ok v)
    have HG := Lib.hid hG
    clear ho hv hG
    go_enter Tryd.func22, Tryd.ntmps22
    go_wp2_with (go_at_call 44; refine (atoiNoC s hs HO.out HV.out _ HG.out).mono ?_; rintro e w1 ⟨v, N, t, rfl, b1⟩)
    refine bodyPost_ret (v := .tuple #[.int .i64 0, .bool false]) ?_ rfl ?_
    · simp [results, Tryd.results22, go_sem]
    · exact ⟨ret_num2 (numP_no HO.out).symm HO.out.symm, b1⟩

end Go.Proofs.YtcgpmdfcdngnlaaDoor
