/-
  For every code, the number made of it is recovered from its text, the text made of it from its parts, x1 is a name, and two lines are two.
  Condition: none beyond the given statement: the tied card (the listed variables are tied to the program's text).
-/
import Derived.Test.YtcgpmdfcdngnlaaDoorRows
import Derived.Test.YtcgpmdfcdngnlaaDoorTie
import Derived.Test.YtcgpmdfcdngnlaaDoorCards
import Derived.Test.YtcgpmdfcdngnlaaDoorWFnWords
import Derived.Test.YtcgpmdfcdngnlaaDoorT0
import Derived.Test.YtcgpmdfcdngnlaaDoorS1
import Derived.Test.YtcgpmdfcdngnlaaDoorS2
import Derived.Lib.LaidTab
set_option linter.unusedVariables false
set_option linter.unusedSimpArgs false
namespace Go.Proofs.YtcgpmdfcdngnlaaDoor.fnWords
open Go.ChangeShapes Go.WideShapes Go.ChangeAt Go.RowKit
open Go.ChangeMaps (open_string shut_string)
set_option linter.unusedVariables false

theorem own : ownKnob Tryd.prog.godebug = none := by kernel_rfl
theorem laidOut : laidOutB Tryd.prog = true := by kernel_rfl
theorem plainH : ((Rows.fnWordsRow.laid).all fun x => x.2.handleName?.isNone) = true := by kernel_rfl
theorem rowErr (u : TypeId) (h : Tryd.prog.typeName? 3 u = some "*errors.errorString") : u = 133 :=
  typeName_ptr_named (nm := "errors.errorString") (by kernel_rfl) (by kernel_rfl) (by decide) u h
theorem facts {W : World} (hL : laidMetH Tryd.prog Rows.fnWordsRow.laid W) (hS : W.ShapedOpen Tryd.prog) : G W := by
  rw [MakeChecks.laidMetH_plain _ _ _ plainH] at hL
  have e : (Rows.laid_internal_strconv_uint64pow10 : DataW Unit) = Lib.tabData .u64 Lib.pow10Tab := by kernel_rfl
  have h := laidMet.tail (laidMet.tail hL)
  have h2 := laidMet.tail (laidMet.tail h)
  have h3 := laidMet.tail h2
  obtain ⟨a0, s0, hv0, -⟩ := laid_sentinel h2 globRan (by kernel_rfl) Tryd.underlying55 rowErr Tryd.underlying133 Tryd.underlying135 rfl rfl Tryd.underlying9 (by kernel_rfl) (by kernel_rfl)
  obtain ⟨a1, s1, hv1, -⟩ := laid_sentinel h3 globSyn (by kernel_rfl) Tryd.underlying55 rowErr Tryd.underlying133 Tryd.underlying135 rfl rfl Tryd.underlying9 (by kernel_rfl) (by kernel_rfl)
  rw [e] at h
  exact ⟨⟨Lib.tabIs_of_head globTab (by kernel_rfl) Tryd.underlying123 Tryd.underlying105 (by kernel_rfl) (by kernel_rfl) h, ⟨_, _, hv1⟩, ⟨_, _, hv0⟩⟩,
    cell_of_shapedOpen_int (zero := #[.int .i64 0]) (t := 3) hS (of_decide_eq_true (by kernel_rfl)) (by kernel_rfl) rfl (by kernel_rfl) (by kernel_rfl) Tryd.underlying3⟩

set_option maxRecDepth 100000 in
theorem lifted (os : Os) (started : os.Started) (H : Type) (enc : TypeId × Value → H) :
    ReturnsInHanded {} Tryd.checked os 8 .any (fun w args => (Rows.fnWordsSpec.pre enc Tryd.prog Tryd.f8 Rows.fnWordsRow.domain false w args ∧ laidMetH Tryd.prog Rows.fnWordsRow.laid w) ∧ sizedMet enc Tryd.prog Tryd.f8 (OpenSpec.ofChange Rows.fnWordsSpec) false w args)
      (Rows.fnWordsSpec.post enc Tryd.prog Tryd.f8 false true false false) := by
  refine returnsInHanded_laid (C := Tryd.checked) own started (by kernel_rfl) Tryd.func8
    (ChangeSpec.witness_shaped (enc := enc) (C := Tryd.checked) (os := os) (X := fun w _ => laidMetH Tryd.prog Rows.fnWordsRow.laid w) false (World.laidAll Tryd.prog os Rows.fnWordsRow.laid) #[.slice none 0 0] 8 (World.laidAll_os _ _ _)
      (World.shaped_of_ZipB (by kernel_rfl) (by kernel_rfl)) (by kernel_rfl) (by kernel_rfl) (by kernel_rfl)
      (by rw [MakeChecks.laidMetH_plain _ _ _ plainH]; exact laidMet_laidAll _ (by kernel_rfl) (by kernel_rfl))) ?_
  intro W base args ds gs before hval0 hW hL hS
  have hG := facts hL hS
  have hval : ∀ (j : Nat) t v, Tryd.f8.params[j]? = some t → args[j]? = some v → Value.okWide Tryd.prog W .any base t v := hval0
  have hW' := hW
  obtain ⟨p, q, hA0, hV, rfl, hfz, hnd⟩ := hW
  have hA : DataW.TrodAll enc Tryd.prog W 0 (fun _ => true) true Tryd.f8.params.toList args.toList ds p := hA0
  rw [Tryd.params8] at hA hval
  obtain ⟨v0, vs0, d0, ds0, p0, q0, hargs, rfl, rfl, h0, r0⟩ := trodAll_cons hA
  obtain ⟨rfl, rfl, rfl⟩ := trodAll_nil r0
  obtain rfl : args = #[v0] := by cases args; simp_all
  obtain ⟨rfl, rfl⟩ := trodVars_none hV
  have k0 := h0
  have lt0 : ∀ x ∈ p0, x.block < W.heap.size := by obtain ⟨m, hm⟩ := k0; exact DataW.trod_lt m _ _ _ hm
  obtain ⟨z0, i0⟩ := openBytes (hval 0 43 v0 rfl rfl) h0
  clear hA0 hval0
  refine (walk W hG v0 z0 i0).mono fun e W' ⟨he, bel⟩ => ?_
  subst he
  exact ⟨_, rfl, _, _, _, [], _, [], hW', trodAll_mk1 (shut_bool Tryd.underlying4 _), (trodAll_cons_mk (Below.trod laidOut (by kernel_rfl) (of_decide_eq_true (by kernel_rfl)) k0 bel lt0) trodAll_mk0), rfl, bel.frame _, fun h => by cases h⟩

theorem over : Rows.fnWordsRow.holds Tryd.pinned (OpenSpec.ofChange Rows.fnWordsSpec) :=
  OpenClaim.holds_of_wide 8 Tryd.f8 rfl rfl rfl rfl rfl rfl rfl ⟨rfl, rfl, rfl, rfl, rfl⟩ rfl rfl rfl rfl rfl (by kernel_rfl) Tryd.func8 (by kernel_rfl)
    (of_decide_eq_true (by kernel_rfl)) (by unfold Func.isWrapper; first | (rw [if_pos (by decide +kernel)]; kernel_rfl) | (rw [if_neg (by decide +kernel)]; exact ⟨rfl, rfl⟩))
    (fun os started H enc _ => lifted os started H enc)

theorem proved : Rows.FnWordsCardSaid :=
  Claim7.holds_tied_plain_at .later [] [.data, .data, .data, .data, .sentinel, .sentinel, .pinned] true (true, "0716a3418bea4d0f3669146f53538722f61eeb90123b0e64f0fa5188293723b3") true over (fun _ h => by cases h) (by kernel_rfl) (fun _ h => by cases h) fnWords_row_tie rfl ⟨rfl, rfl⟩ (by kernel_rfl) rfl
    (fun f fn hf hfn => by
      obtain rfl : f = 8 := Option.some.inj ((show Tryd.prog.funcNamed "loop.example/g03204/laws.FnWords" = some 8 by kernel_rfl).symm.trans hf) |>.symm
      obtain rfl : fn = Tryd.f8 := (Option.some.inj (Tryd.func8.symm.trans hfn)).symm
      exact ⟨by kernel_rfl, fun j t ht => by
        rw [Tryd.params8] at ht
        have hm : t ∈ [43] := by simpa using Array.mem_of_getElem? ht
        have hall : ([43].all fun u => !Tryd.prog.wantsStandIn u) = true := by kernel_rfl
        exact (show Tryd.prog.wantsStandIn t = false by simpa using List.all_eq_true.1 hall t hm)⟩)
    (by kernel_rfl)
#print axioms proved
end Go.Proofs.YtcgpmdfcdngnlaaDoor.fnWords
