/-
  No cell of these rows narrows 'for every input' (looked for: loops, veiled, ifaces, maps, wideKeys, modest, calm, conditions, laid).
  DERIVED. THE GIVEN ROWS OF THIS SEAT. 12 by the template 'for every input the law returns true; each argument reads behind the call as it read before'; 0 by the template 'total and deterministic' (their statements: YtoedmdefjibaoaaTotals.lean).
  GIVEN WITH THE SEED: the statements are not yours to turn. If you find one false, say at which input.
  Laid BY PROGRAM, IN A SANDBOX (cutbox-rows.mjs): the forced cells as the released guide's own fill.sh prints them over the translation 1adefddf5f38a967… (all of the seat's roots in one cut). By AI agents, Wed Nov 11 2026. No macro, syntax, notation, axiom, sorry.
-/
import Derived.Test.YtoedmdefjibaoaaChecked
import GoSem.Claim
import GoSem.ClaimJoined
import GoSem.ClaimMapViews
import Derived.JoinedTies
import Derived.KernelRfl
namespace Go.Proofs.Ytoedmdefjibaoaa
/- THE CELL 'sum', in the pinned program and in every row, IS THE sha256 OF THE DUMP (.gsa) THAT YtoedmdefjibaoaaProg.lean LOADS. Nothing in Lean hashes anything: it is a label: what it is worth is what the hold of that sum in a sandbox is worth. -/
noncomputable def Try.pinned : Pinned := { name := "ytoedmdefjibaoaa", sum := "1adefddf5f38a96760673ac144a1784d5674e158ebdf5e6bb091e49f2258efb6", checked := Try.checked }
namespace Rows
def none {H : Type} : Left H := { results := [], args := [] }

/-- 'laws.FnExactFromSteps': WHATEVER THE INPUT: true; the input reads as it did. -/
def fnExactFromStepsSpec : ChangeSpec := { name := "fnExactFromSteps", fn := fun _ => fun
  | [d1, d2] => { results := [.lit (.bool true)], args := [d1, d2] }
  | _ => none }
def fnExactFromStepsRow : OpenClaim := { program := "ytoedmdefjibaoaa", sum := "1adefddf5f38a96760673ac144a1784d5674e158ebdf5e6bb091e49f2258efb6", func := "loop.example/g03204/laws.FnExactFromSteps", spec := "fnExactFromSteps", unfollowed := true, recurses := true, apart := false }
def FnExactFromStepsSaid : Prop := fnExactFromStepsRow.holds Try.pinned (OpenSpec.ofChange fnExactFromStepsSpec)

/-- ITS FALSE NEIGHBOUR: 'it returns false'. Refute it at one input. -/
def fnExactFromStepsWrong : ChangeSpec := { name := "fnExactFromSteps", fn := fun _ => fun
  | [d1, d2] => { results := [.lit (.bool false)], args := [d1, d2] }
  | _ => none }
def FnExactFromStepsWrongFalsely : Prop := fnExactFromStepsRow.holds Try.pinned (OpenSpec.ofChange fnExactFromStepsWrong)

/-- 'laws.FnExactRepeatRhythm': WHATEVER THE INPUT: true; the input reads as it did. -/
def fnExactRepeatRhythmSpec : ChangeSpec := { name := "fnExactRepeatRhythm", fn := fun _ => fun
  | [d1, d2] => { results := [.lit (.bool true)], args := [d1, d2] }
  | _ => none }
def fnExactRepeatRhythmRow : OpenClaim := { program := "ytoedmdefjibaoaa", sum := "1adefddf5f38a96760673ac144a1784d5674e158ebdf5e6bb091e49f2258efb6", func := "loop.example/g03204/laws.FnExactRepeatRhythm", spec := "fnExactRepeatRhythm", apart := false }
def FnExactRepeatRhythmSaid : Prop := fnExactRepeatRhythmRow.holds Try.pinned (OpenSpec.ofChange fnExactRepeatRhythmSpec)

/-- ITS FALSE NEIGHBOUR: 'it returns false'. Refute it at one input. -/
def fnExactRepeatRhythmWrong : ChangeSpec := { name := "fnExactRepeatRhythm", fn := fun _ => fun
  | [d1, d2] => { results := [.lit (.bool false)], args := [d1, d2] }
  | _ => none }
def FnExactRepeatRhythmWrongFalsely : Prop := fnExactRepeatRhythmRow.holds Try.pinned (OpenSpec.ofChange fnExactRepeatRhythmWrong)

/-- 'laws.FnExactIsFlat': WHATEVER THE INPUT: true; the input reads as it did. -/
def fnExactIsFlatSpec : ChangeSpec := { name := "fnExactIsFlat", fn := fun _ => fun
  | [d] => { results := [.lit (.bool true)], args := [d] }
  | _ => none }
def fnExactIsFlatRow : OpenClaim := { program := "ytoedmdefjibaoaa", sum := "1adefddf5f38a96760673ac144a1784d5674e158ebdf5e6bb091e49f2258efb6", func := "loop.example/g03204/laws.FnExactIsFlat", spec := "fnExactIsFlat", recurses := true, apart := false }
def FnExactIsFlatSaid : Prop := fnExactIsFlatRow.holds Try.pinned (OpenSpec.ofChange fnExactIsFlatSpec)

/-- ITS FALSE NEIGHBOUR: 'it returns false'. Refute it at one input. -/
def fnExactIsFlatWrong : ChangeSpec := { name := "fnExactIsFlat", fn := fun _ => fun
  | [d] => { results := [.lit (.bool false)], args := [d] }
  | _ => none }
def FnExactIsFlatWrongFalsely : Prop := fnExactIsFlatRow.holds Try.pinned (OpenSpec.ofChange fnExactIsFlatWrong)

/-- 'laws.FnExactLongestStep': WHATEVER THE INPUT: true; the input reads as it did. -/
def fnExactLongestStepSpec : ChangeSpec := { name := "fnExactLongestStep", fn := fun _ => fun
  | [d] => { results := [.lit (.bool true)], args := [d] }
  | _ => none }
def fnExactLongestStepRow : OpenClaim := { program := "ytoedmdefjibaoaa", sum := "1adefddf5f38a96760673ac144a1784d5674e158ebdf5e6bb091e49f2258efb6", func := "loop.example/g03204/laws.FnExactLongestStep", spec := "fnExactLongestStep", recurses := true, apart := false }
def FnExactLongestStepSaid : Prop := fnExactLongestStepRow.holds Try.pinned (OpenSpec.ofChange fnExactLongestStepSpec)

/-- ITS FALSE NEIGHBOUR: 'it returns false'. Refute it at one input. -/
def fnExactLongestStepWrong : ChangeSpec := { name := "fnExactLongestStep", fn := fun _ => fun
  | [d] => { results := [.lit (.bool false)], args := [d] }
  | _ => none }
def FnExactLongestStepWrongFalsely : Prop := fnExactLongestStepRow.holds Try.pinned (OpenSpec.ofChange fnExactLongestStepWrong)

/-- 'laws.FnExactShortestStep': WHATEVER THE INPUT: true; the input reads as it did. -/
def fnExactShortestStepSpec : ChangeSpec := { name := "fnExactShortestStep", fn := fun _ => fun
  | [d] => { results := [.lit (.bool true)], args := [d] }
  | _ => none }
def fnExactShortestStepRow : OpenClaim := { program := "ytoedmdefjibaoaa", sum := "1adefddf5f38a96760673ac144a1784d5674e158ebdf5e6bb091e49f2258efb6", func := "loop.example/g03204/laws.FnExactShortestStep", spec := "fnExactShortestStep", recurses := true, apart := false }
def FnExactShortestStepSaid : Prop := fnExactShortestStepRow.holds Try.pinned (OpenSpec.ofChange fnExactShortestStepSpec)

/-- ITS FALSE NEIGHBOUR: 'it returns false'. Refute it at one input. -/
def fnExactShortestStepWrong : ChangeSpec := { name := "fnExactShortestStep", fn := fun _ => fun
  | [d] => { results := [.lit (.bool false)], args := [d] }
  | _ => none }
def FnExactShortestStepWrongFalsely : Prop := fnExactShortestStepRow.holds Try.pinned (OpenSpec.ofChange fnExactShortestStepWrong)

/-- 'laws.FnExactIsDeep': WHATEVER THE INPUT: true; the input reads as it did. -/
def fnExactIsDeepSpec : ChangeSpec := { name := "fnExactIsDeep", fn := fun _ => fun
  | [d] => { results := [.lit (.bool true)], args := [d] }
  | _ => none }
def fnExactIsDeepRow : OpenClaim := { program := "ytoedmdefjibaoaa", sum := "1adefddf5f38a96760673ac144a1784d5674e158ebdf5e6bb091e49f2258efb6", func := "loop.example/g03204/laws.FnExactIsDeep", spec := "fnExactIsDeep", recurses := true, apart := false }
def FnExactIsDeepSaid : Prop := fnExactIsDeepRow.holds Try.pinned (OpenSpec.ofChange fnExactIsDeepSpec)

/-- ITS FALSE NEIGHBOUR: 'it returns false'. Refute it at one input. -/
def fnExactIsDeepWrong : ChangeSpec := { name := "fnExactIsDeep", fn := fun _ => fun
  | [d] => { results := [.lit (.bool false)], args := [d] }
  | _ => none }
def FnExactIsDeepWrongFalsely : Prop := fnExactIsDeepRow.holds Try.pinned (OpenSpec.ofChange fnExactIsDeepWrong)

/-- 'laws.FnExactStepSizes': WHATEVER THE INPUT: true; the input reads as it did. -/
def fnExactStepSizesSpec : ChangeSpec := { name := "fnExactStepSizes", fn := fun _ => fun
  | [d] => { results := [.lit (.bool true)], args := [d] }
  | _ => none }
def fnExactStepSizesRow : OpenClaim := { program := "ytoedmdefjibaoaa", sum := "1adefddf5f38a96760673ac144a1784d5674e158ebdf5e6bb091e49f2258efb6", func := "loop.example/g03204/laws.FnExactStepSizes", spec := "fnExactStepSizes", recurses := true, apart := false }
def FnExactStepSizesSaid : Prop := fnExactStepSizesRow.holds Try.pinned (OpenSpec.ofChange fnExactStepSizesSpec)

/-- ITS FALSE NEIGHBOUR: 'it returns false'. Refute it at one input. -/
def fnExactStepSizesWrong : ChangeSpec := { name := "fnExactStepSizes", fn := fun _ => fun
  | [d] => { results := [.lit (.bool false)], args := [d] }
  | _ => none }
def FnExactStepSizesWrongFalsely : Prop := fnExactStepSizesRow.holds Try.pinned (OpenSpec.ofChange fnExactStepSizesWrong)

/-- 'laws.FnExactSpanSizes': WHATEVER THE INPUT: true; the input reads as it did. -/
def fnExactSpanSizesSpec : ChangeSpec := { name := "fnExactSpanSizes", fn := fun _ => fun
  | [d1, d2] => { results := [.lit (.bool true)], args := [d1, d2] }
  | _ => none }
def fnExactSpanSizesRow : OpenClaim := { program := "ytoedmdefjibaoaa", sum := "1adefddf5f38a96760673ac144a1784d5674e158ebdf5e6bb091e49f2258efb6", func := "loop.example/g03204/laws.FnExactSpanSizes", spec := "fnExactSpanSizes", recurses := true, apart := false }
def FnExactSpanSizesSaid : Prop := fnExactSpanSizesRow.holds Try.pinned (OpenSpec.ofChange fnExactSpanSizesSpec)

/-- ITS FALSE NEIGHBOUR: 'it returns false'. Refute it at one input. -/
def fnExactSpanSizesWrong : ChangeSpec := { name := "fnExactSpanSizes", fn := fun _ => fun
  | [d1, d2] => { results := [.lit (.bool false)], args := [d1, d2] }
  | _ => none }
def FnExactSpanSizesWrongFalsely : Prop := fnExactSpanSizesRow.holds Try.pinned (OpenSpec.ofChange fnExactSpanSizesWrong)

/-- 'laws.FnExactIsLeastRotation': WHATEVER THE INPUT: true; the input reads as it did. -/
def fnExactIsLeastRotationSpec : ChangeSpec := { name := "fnExactIsLeastRotation", fn := fun _ => fun
  | [d] => { results := [.lit (.bool true)], args := [d] }
  | _ => none }
def fnExactIsLeastRotationRow : OpenClaim := { program := "ytoedmdefjibaoaa", sum := "1adefddf5f38a96760673ac144a1784d5674e158ebdf5e6bb091e49f2258efb6", func := "loop.example/g03204/laws.FnExactIsLeastRotation", spec := "fnExactIsLeastRotation", unfollowed := true, recurses := true, apart := false }
def FnExactIsLeastRotationSaid : Prop := fnExactIsLeastRotationRow.holds Try.pinned (OpenSpec.ofChange fnExactIsLeastRotationSpec)

/-- ITS FALSE NEIGHBOUR: 'it returns false'. Refute it at one input. -/
def fnExactIsLeastRotationWrong : ChangeSpec := { name := "fnExactIsLeastRotation", fn := fun _ => fun
  | [d] => { results := [.lit (.bool false)], args := [d] }
  | _ => none }
def FnExactIsLeastRotationWrongFalsely : Prop := fnExactIsLeastRotationRow.holds Try.pinned (OpenSpec.ofChange fnExactIsLeastRotationWrong)

/-- 'laws.FnExactTurnSteps': WHATEVER THE INPUT: true; the input reads as it did. -/
def fnExactTurnStepsSpec : ChangeSpec := { name := "fnExactTurnSteps", fn := fun _ => fun
  | [d] => { results := [.lit (.bool true)], args := [d] }
  | _ => none }
def fnExactTurnStepsRow : OpenClaim := { program := "ytoedmdefjibaoaa", sum := "1adefddf5f38a96760673ac144a1784d5674e158ebdf5e6bb091e49f2258efb6", func := "loop.example/g03204/laws.FnExactTurnSteps", spec := "fnExactTurnSteps", recurses := true, apart := false }
def FnExactTurnStepsSaid : Prop := fnExactTurnStepsRow.holds Try.pinned (OpenSpec.ofChange fnExactTurnStepsSpec)

/-- ITS FALSE NEIGHBOUR: 'it returns false'. Refute it at one input. -/
def fnExactTurnStepsWrong : ChangeSpec := { name := "fnExactTurnSteps", fn := fun _ => fun
  | [d] => { results := [.lit (.bool false)], args := [d] }
  | _ => none }
def FnExactTurnStepsWrongFalsely : Prop := fnExactTurnStepsRow.holds Try.pinned (OpenSpec.ofChange fnExactTurnStepsWrong)

/-- 'laws.FnExactLeastRotation': WHATEVER THE INPUT: true; the input reads as it did. -/
def fnExactLeastRotationSpec : ChangeSpec := { name := "fnExactLeastRotation", fn := fun _ => fun
  | [d] => { results := [.lit (.bool true)], args := [d] }
  | _ => none }
def fnExactLeastRotationRow : OpenClaim := { program := "ytoedmdefjibaoaa", sum := "1adefddf5f38a96760673ac144a1784d5674e158ebdf5e6bb091e49f2258efb6", func := "loop.example/g03204/laws.FnExactLeastRotation", spec := "fnExactLeastRotation", unfollowed := true, recurses := true, apart := false }
def FnExactLeastRotationSaid : Prop := fnExactLeastRotationRow.holds Try.pinned (OpenSpec.ofChange fnExactLeastRotationSpec)

/-- ITS FALSE NEIGHBOUR: 'it returns false'. Refute it at one input. -/
def fnExactLeastRotationWrong : ChangeSpec := { name := "fnExactLeastRotation", fn := fun _ => fun
  | [d] => { results := [.lit (.bool false)], args := [d] }
  | _ => none }
def FnExactLeastRotationWrongFalsely : Prop := fnExactLeastRotationRow.holds Try.pinned (OpenSpec.ofChange fnExactLeastRotationWrong)

/-- 'laws.FnExactLeastForm': WHATEVER THE INPUT: true; the input reads as it did. -/
def fnExactLeastFormSpec : ChangeSpec := { name := "fnExactLeastForm", fn := fun _ => fun
  | [d] => { results := [.lit (.bool true)], args := [d] }
  | _ => none }
def fnExactLeastFormRow : OpenClaim := { program := "ytoedmdefjibaoaa", sum := "1adefddf5f38a96760673ac144a1784d5674e158ebdf5e6bb091e49f2258efb6", func := "loop.example/g03204/laws.FnExactLeastForm", spec := "fnExactLeastForm", unfollowed := true, recurses := true, apart := false }
def FnExactLeastFormSaid : Prop := fnExactLeastFormRow.holds Try.pinned (OpenSpec.ofChange fnExactLeastFormSpec)

/-- ITS FALSE NEIGHBOUR: 'it returns false'. Refute it at one input. -/
def fnExactLeastFormWrong : ChangeSpec := { name := "fnExactLeastForm", fn := fun _ => fun
  | [d] => { results := [.lit (.bool false)], args := [d] }
  | _ => none }
def FnExactLeastFormWrongFalsely : Prop := fnExactLeastFormRow.holds Try.pinned (OpenSpec.ofChange fnExactLeastFormWrong)

/- THE SECOND FORM. 'bulk': how many values and letters a reading holds, each counted each time it is reached (what is shared counts as often as it is met; a slice's spare places count too). A statement '..UptoSaid' is the law's where the arguments, and the package variables that the reading takes, are together of bulk at most 1048576: NARROWER than '..Said'. Prove '..Said' where nothing that the law and all that it calls make is longer than what came in: it says more and counts as full. Else prove '..UptoSaid'. A law counts once. -/
mutual
def uptoBulk {H : Type} : DataW H → Nat
  | .lit (.string bytes) => bytes.length + 1
  | .lit _ => 1
  | .nil => 1
  | .ptr d => uptoBulk d + 1
  | .slice elems spare => uptoBulkAll elems + uptoBulkAll spare + 1
  | .agg parts => uptoBulkAll parts + 1
  | .iface _ d => uptoBulk d + 1
  | .map entries => uptoBulkEntries entries + 1
  | .held _ => 1
def uptoBulkAll {H : Type} : List (DataW H) → Nat
  | [] => 0
  | d :: r => uptoBulk d + uptoBulkAll r
def uptoBulkEntries {H : Type} : List (Lit × DataW H) → Nat
  | [] => 0
  | x :: r => uptoBulkEntry x + uptoBulkEntries r
def uptoBulkEntry {H : Type} : Lit × DataW H → Nat
  | (.string bytes, d) => bytes.length + uptoBulk d + 1
  | (_, d) => uptoBulk d + 1
 end
def uptoSmall : (H : Type) → List (DataW H) → Bool := fun _ ds => decide (uptoBulkAll ds ≤ 1048576)
def OpenSpec.upto (s : _root_.Go.ChangeSpec) : _root_.Go.OpenSpec := { _root_.Go.OpenSpec.ofChange s with cond := some uptoSmall }

/-- 'laws.FnExactFromSteps', WHERE WHAT IT READS IS OF BULK AT MOST 1048576: true; the input reads as it did. -/
def fnExactFromStepsUptoRow : OpenClaim := { program := "ytoedmdefjibaoaa", sum := "1adefddf5f38a96760673ac144a1784d5674e158ebdf5e6bb091e49f2258efb6", func := "loop.example/g03204/laws.FnExactFromSteps", spec := "fnExactFromSteps", unfollowed := true, recurses := true, apart := false, narrowed := true }
def FnExactFromStepsUptoSaid : Prop := fnExactFromStepsUptoRow.holds Try.pinned (OpenSpec.upto fnExactFromStepsSpec)

/-- 'laws.FnExactRepeatRhythm', WHERE WHAT IT READS IS OF BULK AT MOST 1048576: true; the input reads as it did. -/
def fnExactRepeatRhythmUptoRow : OpenClaim := { program := "ytoedmdefjibaoaa", sum := "1adefddf5f38a96760673ac144a1784d5674e158ebdf5e6bb091e49f2258efb6", func := "loop.example/g03204/laws.FnExactRepeatRhythm", spec := "fnExactRepeatRhythm", apart := false, narrowed := true }
def FnExactRepeatRhythmUptoSaid : Prop := fnExactRepeatRhythmUptoRow.holds Try.pinned (OpenSpec.upto fnExactRepeatRhythmSpec)

/-- 'laws.FnExactIsFlat', WHERE WHAT IT READS IS OF BULK AT MOST 1048576: true; the input reads as it did. -/
def fnExactIsFlatUptoRow : OpenClaim := { program := "ytoedmdefjibaoaa", sum := "1adefddf5f38a96760673ac144a1784d5674e158ebdf5e6bb091e49f2258efb6", func := "loop.example/g03204/laws.FnExactIsFlat", spec := "fnExactIsFlat", recurses := true, apart := false, narrowed := true }
def FnExactIsFlatUptoSaid : Prop := fnExactIsFlatUptoRow.holds Try.pinned (OpenSpec.upto fnExactIsFlatSpec)

/-- 'laws.FnExactLongestStep', WHERE WHAT IT READS IS OF BULK AT MOST 1048576: true; the input reads as it did. -/
def fnExactLongestStepUptoRow : OpenClaim := { program := "ytoedmdefjibaoaa", sum := "1adefddf5f38a96760673ac144a1784d5674e158ebdf5e6bb091e49f2258efb6", func := "loop.example/g03204/laws.FnExactLongestStep", spec := "fnExactLongestStep", recurses := true, apart := false, narrowed := true }
def FnExactLongestStepUptoSaid : Prop := fnExactLongestStepUptoRow.holds Try.pinned (OpenSpec.upto fnExactLongestStepSpec)

/-- 'laws.FnExactShortestStep', WHERE WHAT IT READS IS OF BULK AT MOST 1048576: true; the input reads as it did. -/
def fnExactShortestStepUptoRow : OpenClaim := { program := "ytoedmdefjibaoaa", sum := "1adefddf5f38a96760673ac144a1784d5674e158ebdf5e6bb091e49f2258efb6", func := "loop.example/g03204/laws.FnExactShortestStep", spec := "fnExactShortestStep", recurses := true, apart := false, narrowed := true }
def FnExactShortestStepUptoSaid : Prop := fnExactShortestStepUptoRow.holds Try.pinned (OpenSpec.upto fnExactShortestStepSpec)

/-- 'laws.FnExactIsDeep', WHERE WHAT IT READS IS OF BULK AT MOST 1048576: true; the input reads as it did. -/
def fnExactIsDeepUptoRow : OpenClaim := { program := "ytoedmdefjibaoaa", sum := "1adefddf5f38a96760673ac144a1784d5674e158ebdf5e6bb091e49f2258efb6", func := "loop.example/g03204/laws.FnExactIsDeep", spec := "fnExactIsDeep", recurses := true, apart := false, narrowed := true }
def FnExactIsDeepUptoSaid : Prop := fnExactIsDeepUptoRow.holds Try.pinned (OpenSpec.upto fnExactIsDeepSpec)

/-- 'laws.FnExactStepSizes', WHERE WHAT IT READS IS OF BULK AT MOST 1048576: true; the input reads as it did. -/
def fnExactStepSizesUptoRow : OpenClaim := { program := "ytoedmdefjibaoaa", sum := "1adefddf5f38a96760673ac144a1784d5674e158ebdf5e6bb091e49f2258efb6", func := "loop.example/g03204/laws.FnExactStepSizes", spec := "fnExactStepSizes", recurses := true, apart := false, narrowed := true }
def FnExactStepSizesUptoSaid : Prop := fnExactStepSizesUptoRow.holds Try.pinned (OpenSpec.upto fnExactStepSizesSpec)

/-- 'laws.FnExactSpanSizes', WHERE WHAT IT READS IS OF BULK AT MOST 1048576: true; the input reads as it did. -/
def fnExactSpanSizesUptoRow : OpenClaim := { program := "ytoedmdefjibaoaa", sum := "1adefddf5f38a96760673ac144a1784d5674e158ebdf5e6bb091e49f2258efb6", func := "loop.example/g03204/laws.FnExactSpanSizes", spec := "fnExactSpanSizes", recurses := true, apart := false, narrowed := true }
def FnExactSpanSizesUptoSaid : Prop := fnExactSpanSizesUptoRow.holds Try.pinned (OpenSpec.upto fnExactSpanSizesSpec)

/-- 'laws.FnExactIsLeastRotation', WHERE WHAT IT READS IS OF BULK AT MOST 1048576: true; the input reads as it did. -/
def fnExactIsLeastRotationUptoRow : OpenClaim := { program := "ytoedmdefjibaoaa", sum := "1adefddf5f38a96760673ac144a1784d5674e158ebdf5e6bb091e49f2258efb6", func := "loop.example/g03204/laws.FnExactIsLeastRotation", spec := "fnExactIsLeastRotation", unfollowed := true, recurses := true, apart := false, narrowed := true }
def FnExactIsLeastRotationUptoSaid : Prop := fnExactIsLeastRotationUptoRow.holds Try.pinned (OpenSpec.upto fnExactIsLeastRotationSpec)

/-- 'laws.FnExactTurnSteps', WHERE WHAT IT READS IS OF BULK AT MOST 1048576: true; the input reads as it did. -/
def fnExactTurnStepsUptoRow : OpenClaim := { program := "ytoedmdefjibaoaa", sum := "1adefddf5f38a96760673ac144a1784d5674e158ebdf5e6bb091e49f2258efb6", func := "loop.example/g03204/laws.FnExactTurnSteps", spec := "fnExactTurnSteps", recurses := true, apart := false, narrowed := true }
def FnExactTurnStepsUptoSaid : Prop := fnExactTurnStepsUptoRow.holds Try.pinned (OpenSpec.upto fnExactTurnStepsSpec)

/-- 'laws.FnExactLeastRotation', WHERE WHAT IT READS IS OF BULK AT MOST 1048576: true; the input reads as it did. -/
def fnExactLeastRotationUptoRow : OpenClaim := { program := "ytoedmdefjibaoaa", sum := "1adefddf5f38a96760673ac144a1784d5674e158ebdf5e6bb091e49f2258efb6", func := "loop.example/g03204/laws.FnExactLeastRotation", spec := "fnExactLeastRotation", unfollowed := true, recurses := true, apart := false, narrowed := true }
def FnExactLeastRotationUptoSaid : Prop := fnExactLeastRotationUptoRow.holds Try.pinned (OpenSpec.upto fnExactLeastRotationSpec)

/-- 'laws.FnExactLeastForm', WHERE WHAT IT READS IS OF BULK AT MOST 1048576: true; the input reads as it did. -/
def fnExactLeastFormUptoRow : OpenClaim := { program := "ytoedmdefjibaoaa", sum := "1adefddf5f38a96760673ac144a1784d5674e158ebdf5e6bb091e49f2258efb6", func := "loop.example/g03204/laws.FnExactLeastForm", spec := "fnExactLeastForm", unfollowed := true, recurses := true, apart := false, narrowed := true }
def FnExactLeastFormUptoSaid : Prop := fnExactLeastFormUptoRow.holds Try.pinned (OpenSpec.upto fnExactLeastFormSpec)

end Rows
end Go.Proofs.Ytoedmdefjibaoaa
