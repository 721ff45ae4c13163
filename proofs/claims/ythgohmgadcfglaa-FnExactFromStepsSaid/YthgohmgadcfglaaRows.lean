/-
  No cell of these rows narrows 'for every input' (looked for: loops, veiled, ifaces, maps, wideKeys, modest, calm, conditions, laid).
  DERIVED. THE GIVEN ROWS OF THIS SEAT. 12 by the template 'for every input the law returns true; each argument reads behind the call as it read before'; 0 by the template 'total and deterministic' (their statements: YthgohmgadcfglaaTotals.lean).
  GIVEN WITH THE SEED: the statements are not yours to turn. If you find one false, say at which input.
  Laid BY PROGRAM, IN A SANDBOX (cutbox-rows.mjs): the forced cells as the released guide's own fill.sh prints them over the translation 595309bd61745ee2… (all of the seat's roots in one cut). By AI agents, Wed Nov 11 2026. No macro, syntax, notation, axiom, sorry.
-/
import Derived.Test.YthgohmgadcfglaaChecked
import GoSem.Claim
import GoSem.ClaimJoined
import GoSem.ClaimMapViews
import Derived.JoinedTies
import Derived.KernelRfl
namespace Go.Proofs.Ythgohmgadcfglaa
/- THE CELL 'sum', in the pinned program and in every row, IS THE sha256 OF THE DUMP (.gsa) THAT YthgohmgadcfglaaProg.lean LOADS. Nothing in Lean hashes anything: it is a label: what it is worth is what the hold of that sum in a sandbox is worth. -/
noncomputable def Try.pinned : Pinned := { name := "ythgohmgadcfglaa", sum := "595309bd61745ee2a579cf48627244a2bf0db925786eeee9e153df5426dcbbbc", checked := Try.checked }
namespace Rows
def none {H : Type} : Left H := { results := [], args := [] }

/-- 'laws.FnExactSpreadOf': WHATEVER THE INPUT: true; the input reads as it did. -/
def fnExactSpreadOfSpec : ChangeSpec := { name := "fnExactSpreadOf", fn := fun _ => fun
  | [d] => { results := [.lit (.bool true)], args := [d] }
  | _ => none }
def fnExactSpreadOfRow : OpenClaim := { program := "ythgohmgadcfglaa", sum := "595309bd61745ee2a579cf48627244a2bf0db925786eeee9e153df5426dcbbbc", func := "loop.example/g03204/laws.FnExactSpreadOf", spec := "fnExactSpreadOf", apart := false }
def FnExactSpreadOfSaid : Prop := fnExactSpreadOfRow.holds Try.pinned (OpenSpec.ofChange fnExactSpreadOfSpec)

/-- ITS FALSE NEIGHBOUR: 'it returns false'. Refute it at one input. -/
def fnExactSpreadOfWrong : ChangeSpec := { name := "fnExactSpreadOf", fn := fun _ => fun
  | [d] => { results := [.lit (.bool false)], args := [d] }
  | _ => none }
def FnExactSpreadOfWrongFalsely : Prop := fnExactSpreadOfRow.holds Try.pinned (OpenSpec.ofChange fnExactSpreadOfWrong)

/-- 'laws.FnExactEvenRhythm': WHATEVER THE INPUT: true; the input reads as it did. -/
def fnExactEvenRhythmSpec : ChangeSpec := { name := "fnExactEvenRhythm", fn := fun _ => fun
  | [d1, d2] => { results := [.lit (.bool true)], args := [d1, d2] }
  | _ => none }
def fnExactEvenRhythmRow : OpenClaim := { program := "ythgohmgadcfglaa", sum := "595309bd61745ee2a579cf48627244a2bf0db925786eeee9e153df5426dcbbbc", func := "loop.example/g03204/laws.FnExactEvenRhythm", spec := "fnExactEvenRhythm", apart := false }
def FnExactEvenRhythmSaid : Prop := fnExactEvenRhythmRow.holds Try.pinned (OpenSpec.ofChange fnExactEvenRhythmSpec)

/-- ITS FALSE NEIGHBOUR: 'it returns false'. Refute it at one input. -/
def fnExactEvenRhythmWrong : ChangeSpec := { name := "fnExactEvenRhythm", fn := fun _ => fun
  | [d1, d2] => { results := [.lit (.bool false)], args := [d1, d2] }
  | _ => none }
def FnExactEvenRhythmWrongFalsely : Prop := fnExactEvenRhythmRow.holds Try.pinned (OpenSpec.ofChange fnExactEvenRhythmWrong)

/-- 'laws.FnExactHasBeat': WHATEVER THE INPUT: true; the input reads as it did. -/
def fnExactHasBeatSpec : ChangeSpec := { name := "fnExactHasBeat", fn := fun _ => fun
  | [d1, d2] => { results := [.lit (.bool true)], args := [d1, d2] }
  | _ => none }
def fnExactHasBeatRow : OpenClaim := { program := "ythgohmgadcfglaa", sum := "595309bd61745ee2a579cf48627244a2bf0db925786eeee9e153df5426dcbbbc", func := "loop.example/g03204/laws.FnExactHasBeat", spec := "fnExactHasBeat", apart := false }
def FnExactHasBeatSaid : Prop := fnExactHasBeatRow.holds Try.pinned (OpenSpec.ofChange fnExactHasBeatSpec)

/-- ITS FALSE NEIGHBOUR: 'it returns false'. Refute it at one input. -/
def fnExactHasBeatWrong : ChangeSpec := { name := "fnExactHasBeat", fn := fun _ => fun
  | [d1, d2] => { results := [.lit (.bool false)], args := [d1, d2] }
  | _ => none }
def FnExactHasBeatWrongFalsely : Prop := fnExactHasBeatRow.holds Try.pinned (OpenSpec.ofChange fnExactHasBeatWrong)

/-- 'laws.FnExactSameRhythm': WHATEVER THE INPUT: true; the input reads as it did. -/
def fnExactSameRhythmSpec : ChangeSpec := { name := "fnExactSameRhythm", fn := fun _ => fun
  | [d1, d2] => { results := [.lit (.bool true)], args := [d1, d2] }
  | _ => none }
def fnExactSameRhythmRow : OpenClaim := { program := "ythgohmgadcfglaa", sum := "595309bd61745ee2a579cf48627244a2bf0db925786eeee9e153df5426dcbbbc", func := "loop.example/g03204/laws.FnExactSameRhythm", spec := "fnExactSameRhythm", apart := false }
def FnExactSameRhythmSaid : Prop := fnExactSameRhythmRow.holds Try.pinned (OpenSpec.ofChange fnExactSameRhythmSpec)

/-- ITS FALSE NEIGHBOUR: 'it returns false'. Refute it at one input. -/
def fnExactSameRhythmWrong : ChangeSpec := { name := "fnExactSameRhythm", fn := fun _ => fun
  | [d1, d2] => { results := [.lit (.bool false)], args := [d1, d2] }
  | _ => none }
def FnExactSameRhythmWrongFalsely : Prop := fnExactSameRhythmRow.holds Try.pinned (OpenSpec.ofChange fnExactSameRhythmWrong)

/-- 'laws.FnExactMostSpread': WHATEVER THE INPUT: true; the input reads as it did. -/
def fnExactMostSpreadSpec : ChangeSpec := { name := "fnExactMostSpread", fn := fun _ => fun
  | [d1, d2] => { results := [.lit (.bool true)], args := [d1, d2] }
  | _ => none }
def fnExactMostSpreadRow : OpenClaim := { program := "ythgohmgadcfglaa", sum := "595309bd61745ee2a579cf48627244a2bf0db925786eeee9e153df5426dcbbbc", func := "loop.example/g03204/laws.FnExactMostSpread", spec := "fnExactMostSpread", apart := false }
def FnExactMostSpreadSaid : Prop := fnExactMostSpreadRow.holds Try.pinned (OpenSpec.ofChange fnExactMostSpreadSpec)

/-- ITS FALSE NEIGHBOUR: 'it returns false'. Refute it at one input. -/
def fnExactMostSpreadWrong : ChangeSpec := { name := "fnExactMostSpread", fn := fun _ => fun
  | [d1, d2] => { results := [.lit (.bool false)], args := [d1, d2] }
  | _ => none }
def FnExactMostSpreadWrongFalsely : Prop := fnExactMostSpreadRow.holds Try.pinned (OpenSpec.ofChange fnExactMostSpreadWrong)

/-- 'laws.FnExactIntervalBetween': WHATEVER THE INPUT: true; the input reads as it did. -/
def fnExactIntervalBetweenSpec : ChangeSpec := { name := "fnExactIntervalBetween", fn := fun _ => fun
  | [d1, d2, d3] => { results := [.lit (.bool true)], args := [d1, d2, d3] }
  | _ => none }
def fnExactIntervalBetweenRow : OpenClaim := { program := "ythgohmgadcfglaa", sum := "595309bd61745ee2a579cf48627244a2bf0db925786eeee9e153df5426dcbbbc", func := "loop.example/g03204/laws.FnExactIntervalBetween", spec := "fnExactIntervalBetween", apart := false }
def FnExactIntervalBetweenSaid : Prop := fnExactIntervalBetweenRow.holds Try.pinned (OpenSpec.ofChange fnExactIntervalBetweenSpec)

/-- ITS FALSE NEIGHBOUR: 'it returns false'. Refute it at one input. -/
def fnExactIntervalBetweenWrong : ChangeSpec := { name := "fnExactIntervalBetween", fn := fun _ => fun
  | [d1, d2, d3] => { results := [.lit (.bool false)], args := [d1, d2, d3] }
  | _ => none }
def FnExactIntervalBetweenWrongFalsely : Prop := fnExactIntervalBetweenRow.holds Try.pinned (OpenSpec.ofChange fnExactIntervalBetweenWrong)

/-- 'laws.FnExactJoin': WHATEVER THE INPUT: true; the input reads as it did. -/
def fnExactJoinSpec : ChangeSpec := { name := "fnExactJoin", fn := fun _ => fun
  | [d1, d2] => { results := [.lit (.bool true)], args := [d1, d2] }
  | _ => none }
def fnExactJoinRow : OpenClaim := { program := "ythgohmgadcfglaa", sum := "595309bd61745ee2a579cf48627244a2bf0db925786eeee9e153df5426dcbbbc", func := "loop.example/g03204/laws.FnExactJoin", spec := "fnExactJoin", inPlace := ["internal/abi.NoEscape", "internal/bytealg.MakeNoZero"], apart := false }
def FnExactJoinSaid : Prop := fnExactJoinRow.holds Try.pinned (OpenSpec.ofChange fnExactJoinSpec)

/-- ITS FALSE NEIGHBOUR: 'it returns false'. Refute it at one input. -/
def fnExactJoinWrong : ChangeSpec := { name := "fnExactJoin", fn := fun _ => fun
  | [d1, d2] => { results := [.lit (.bool false)], args := [d1, d2] }
  | _ => none }
def FnExactJoinWrongFalsely : Prop := fnExactJoinRow.holds Try.pinned (OpenSpec.ofChange fnExactJoinWrong)

/-- 'laws.FnExactFromSteps': WHATEVER THE INPUT: true; the input reads as it did. -/
def fnExactFromStepsSpec : ChangeSpec := { name := "fnExactFromSteps", fn := fun _ => fun
  | [d1, d2] => { results := [.lit (.bool true)], args := [d1, d2] }
  | _ => none }
def fnExactFromStepsRow : OpenClaim := { program := "ythgohmgadcfglaa", sum := "595309bd61745ee2a579cf48627244a2bf0db925786eeee9e153df5426dcbbbc", func := "loop.example/g03204/laws.FnExactFromSteps", spec := "fnExactFromSteps", unfollowed := true, recurses := true, apart := false }
def FnExactFromStepsSaid : Prop := fnExactFromStepsRow.holds Try.pinned (OpenSpec.ofChange fnExactFromStepsSpec)

/-- ITS FALSE NEIGHBOUR: 'it returns false'. Refute it at one input. -/
def fnExactFromStepsWrong : ChangeSpec := { name := "fnExactFromSteps", fn := fun _ => fun
  | [d1, d2] => { results := [.lit (.bool false)], args := [d1, d2] }
  | _ => none }
def FnExactFromStepsWrongFalsely : Prop := fnExactFromStepsRow.holds Try.pinned (OpenSpec.ofChange fnExactFromStepsWrong)

/-- 'laws.FnExactRepeatRhythm': WHATEVER THE INPUT: true; the input reads as it did. -/
def fnExactRepeatRhythmSpec : ChangeSpec := { name := "fnExactRepeatRhythm", fn := fun _ => fun
  | [d1, d2] => { results := [.lit (.bool true)], args := [d1, d2] }
  | _ => none }
def fnExactRepeatRhythmRow : OpenClaim := { program := "ythgohmgadcfglaa", sum := "595309bd61745ee2a579cf48627244a2bf0db925786eeee9e153df5426dcbbbc", func := "loop.example/g03204/laws.FnExactRepeatRhythm", spec := "fnExactRepeatRhythm", apart := false }
def FnExactRepeatRhythmSaid : Prop := fnExactRepeatRhythmRow.holds Try.pinned (OpenSpec.ofChange fnExactRepeatRhythmSpec)

/-- ITS FALSE NEIGHBOUR: 'it returns false'. Refute it at one input. -/
def fnExactRepeatRhythmWrong : ChangeSpec := { name := "fnExactRepeatRhythm", fn := fun _ => fun
  | [d1, d2] => { results := [.lit (.bool false)], args := [d1, d2] }
  | _ => none }
def FnExactRepeatRhythmWrongFalsely : Prop := fnExactRepeatRhythmRow.holds Try.pinned (OpenSpec.ofChange fnExactRepeatRhythmWrong)

/-- 'laws.FnExactRestsOf': WHATEVER THE INPUT: true; the input reads as it did. -/
def fnExactRestsOfSpec : ChangeSpec := { name := "fnExactRestsOf", fn := fun _ => fun
  | [d] => { results := [.lit (.bool true)], args := [d] }
  | _ => none }
def fnExactRestsOfRow : OpenClaim := { program := "ythgohmgadcfglaa", sum := "595309bd61745ee2a579cf48627244a2bf0db925786eeee9e153df5426dcbbbc", func := "loop.example/g03204/laws.FnExactRestsOf", spec := "fnExactRestsOf", apart := false }
def FnExactRestsOfSaid : Prop := fnExactRestsOfRow.holds Try.pinned (OpenSpec.ofChange fnExactRestsOfSpec)

/-- ITS FALSE NEIGHBOUR: 'it returns false'. Refute it at one input. -/
def fnExactRestsOfWrong : ChangeSpec := { name := "fnExactRestsOf", fn := fun _ => fun
  | [d] => { results := [.lit (.bool false)], args := [d] }
  | _ => none }
def FnExactRestsOfWrongFalsely : Prop := fnExactRestsOfRow.holds Try.pinned (OpenSpec.ofChange fnExactRestsOfWrong)

/-- 'laws.FnExactStepsOf': WHATEVER THE INPUT: true; the input reads as it did. -/
def fnExactStepsOfSpec : ChangeSpec := { name := "fnExactStepsOf", fn := fun _ => fun
  | [d] => { results := [.lit (.bool true)], args := [d] }
  | _ => none }
def fnExactStepsOfRow : OpenClaim := { program := "ythgohmgadcfglaa", sum := "595309bd61745ee2a579cf48627244a2bf0db925786eeee9e153df5426dcbbbc", func := "loop.example/g03204/laws.FnExactStepsOf", spec := "fnExactStepsOf", apart := false }
def FnExactStepsOfSaid : Prop := fnExactStepsOfRow.holds Try.pinned (OpenSpec.ofChange fnExactStepsOfSpec)

/-- ITS FALSE NEIGHBOUR: 'it returns false'. Refute it at one input. -/
def fnExactStepsOfWrong : ChangeSpec := { name := "fnExactStepsOf", fn := fun _ => fun
  | [d] => { results := [.lit (.bool false)], args := [d] }
  | _ => none }
def FnExactStepsOfWrongFalsely : Prop := fnExactStepsOfRow.holds Try.pinned (OpenSpec.ofChange fnExactStepsOfWrong)

/-- 'laws.FnExactDifferencesOf': WHATEVER THE INPUT: true; the input reads as it did. -/
def fnExactDifferencesOfSpec : ChangeSpec := { name := "fnExactDifferencesOf", fn := fun _ => fun
  | [d] => { results := [.lit (.bool true)], args := [d] }
  | _ => none }
def fnExactDifferencesOfRow : OpenClaim := { program := "ythgohmgadcfglaa", sum := "595309bd61745ee2a579cf48627244a2bf0db925786eeee9e153df5426dcbbbc", func := "loop.example/g03204/laws.FnExactDifferencesOf", spec := "fnExactDifferencesOf", apart := false }
def FnExactDifferencesOfSaid : Prop := fnExactDifferencesOfRow.holds Try.pinned (OpenSpec.ofChange fnExactDifferencesOfSpec)

/-- ITS FALSE NEIGHBOUR: 'it returns false'. Refute it at one input. -/
def fnExactDifferencesOfWrong : ChangeSpec := { name := "fnExactDifferencesOf", fn := fun _ => fun
  | [d] => { results := [.lit (.bool false)], args := [d] }
  | _ => none }
def FnExactDifferencesOfWrongFalsely : Prop := fnExactDifferencesOfRow.holds Try.pinned (OpenSpec.ofChange fnExactDifferencesOfWrong)

/- THE SECOND FORM. 'bulk': how many values and letters a reading holds, each counted each time it is reached (what is shared counts as often as it is met; a slice's spare places count too). A statement '..UptoSaid' is the law's where the arguments, and the package variables that the reading takes, are together of bulk at most 1048576: NARROWER than '..Said'. Prove '..Said' where nothing that the law and all that it calls make is longer than what came in: it says more and counts as full. Else prove '..UptoSaid'. A law counts once. -/
mutual
def uptoBulk {H : Type} : DataW H → Nat
  | .lit (.string bytes) => bytes.length + 1
  | .lit _ => 1
  | .nil => 1
  | .ptr d => uptoBulk d + 1
  | .slice elems spare => uptoBulkAll elems + uptoBulkAll spare + 1
  | .agg parts => uptoBulkAll parts + 1
  | .iface _ d => uptoBulk d + 1
  | .map entries => uptoBulkEntries entries + 1
  | .held _ => 1
def uptoBulkAll {H : Type} : List (DataW H) → Nat
  | [] => 0
  | d :: r => uptoBulk d + uptoBulkAll r
def uptoBulkEntries {H : Type} : List (Lit × DataW H) → Nat
  | [] => 0
  | x :: r => uptoBulkEntry x + uptoBulkEntries r
def uptoBulkEntry {H : Type} : Lit × DataW H → Nat
  | (.string bytes, d) => bytes.length + uptoBulk d + 1
  | (_, d) => uptoBulk d + 1
 end
def uptoSmall : (H : Type) → List (DataW H) → Bool := fun _ ds => decide (uptoBulkAll ds ≤ 1048576)
def OpenSpec.upto (s : _root_.Go.ChangeSpec) : _root_.Go.OpenSpec := { _root_.Go.OpenSpec.ofChange s with cond := some uptoSmall }

/-- 'laws.FnExactSpreadOf', WHERE WHAT IT READS IS OF BULK AT MOST 1048576: true; the input reads as it did. -/
def fnExactSpreadOfUptoRow : OpenClaim := { program := "ythgohmgadcfglaa", sum := "595309bd61745ee2a579cf48627244a2bf0db925786eeee9e153df5426dcbbbc", func := "loop.example/g03204/laws.FnExactSpreadOf", spec := "fnExactSpreadOf", apart := false, narrowed := true }
def FnExactSpreadOfUptoSaid : Prop := fnExactSpreadOfUptoRow.holds Try.pinned (OpenSpec.upto fnExactSpreadOfSpec)

/-- 'laws.FnExactEvenRhythm', WHERE WHAT IT READS IS OF BULK AT MOST 1048576: true; the input reads as it did. -/
def fnExactEvenRhythmUptoRow : OpenClaim := { program := "ythgohmgadcfglaa", sum := "595309bd61745ee2a579cf48627244a2bf0db925786eeee9e153df5426dcbbbc", func := "loop.example/g03204/laws.FnExactEvenRhythm", spec := "fnExactEvenRhythm", apart := false, narrowed := true }
def FnExactEvenRhythmUptoSaid : Prop := fnExactEvenRhythmUptoRow.holds Try.pinned (OpenSpec.upto fnExactEvenRhythmSpec)

/-- 'laws.FnExactHasBeat', WHERE WHAT IT READS IS OF BULK AT MOST 1048576: true; the input reads as it did. -/
def fnExactHasBeatUptoRow : OpenClaim := { program := "ythgohmgadcfglaa", sum := "595309bd61745ee2a579cf48627244a2bf0db925786eeee9e153df5426dcbbbc", func := "loop.example/g03204/laws.FnExactHasBeat", spec := "fnExactHasBeat", apart := false, narrowed := true }
def FnExactHasBeatUptoSaid : Prop := fnExactHasBeatUptoRow.holds Try.pinned (OpenSpec.upto fnExactHasBeatSpec)

/-- 'laws.FnExactSameRhythm', WHERE WHAT IT READS IS OF BULK AT MOST 1048576: true; the input reads as it did. -/
def fnExactSameRhythmUptoRow : OpenClaim := { program := "ythgohmgadcfglaa", sum := "595309bd61745ee2a579cf48627244a2bf0db925786eeee9e153df5426dcbbbc", func := "loop.example/g03204/laws.FnExactSameRhythm", spec := "fnExactSameRhythm", apart := false, narrowed := true }
def FnExactSameRhythmUptoSaid : Prop := fnExactSameRhythmUptoRow.holds Try.pinned (OpenSpec.upto fnExactSameRhythmSpec)

/-- 'laws.FnExactMostSpread', WHERE WHAT IT READS IS OF BULK AT MOST 1048576: true; the input reads as it did. -/
def fnExactMostSpreadUptoRow : OpenClaim := { program := "ythgohmgadcfglaa", sum := "595309bd61745ee2a579cf48627244a2bf0db925786eeee9e153df5426dcbbbc", func := "loop.example/g03204/laws.FnExactMostSpread", spec := "fnExactMostSpread", apart := false, narrowed := true }
def FnExactMostSpreadUptoSaid : Prop := fnExactMostSpreadUptoRow.holds Try.pinned (OpenSpec.upto fnExactMostSpreadSpec)

/-- 'laws.FnExactIntervalBetween', WHERE WHAT IT READS IS OF BULK AT MOST 1048576: true; the input reads as it did. -/
def fnExactIntervalBetweenUptoRow : OpenClaim := { program := "ythgohmgadcfglaa", sum := "595309bd61745ee2a579cf48627244a2bf0db925786eeee9e153df5426dcbbbc", func := "loop.example/g03204/laws.FnExactIntervalBetween", spec := "fnExactIntervalBetween", apart := false, narrowed := true }
def FnExactIntervalBetweenUptoSaid : Prop := fnExactIntervalBetweenUptoRow.holds Try.pinned (OpenSpec.upto fnExactIntervalBetweenSpec)

/-- 'laws.FnExactJoin', WHERE WHAT IT READS IS OF BULK AT MOST 1048576: true; the input reads as it did. -/
def fnExactJoinUptoRow : OpenClaim := { program := "ythgohmgadcfglaa", sum := "595309bd61745ee2a579cf48627244a2bf0db925786eeee9e153df5426dcbbbc", func := "loop.example/g03204/laws.FnExactJoin", spec := "fnExactJoin", inPlace := ["internal/abi.NoEscape", "internal/bytealg.MakeNoZero"], apart := false, narrowed := true }
def FnExactJoinUptoSaid : Prop := fnExactJoinUptoRow.holds Try.pinned (OpenSpec.upto fnExactJoinSpec)

/-- 'laws.FnExactFromSteps', WHERE WHAT IT READS IS OF BULK AT MOST 1048576: true; the input reads as it did. -/
def fnExactFromStepsUptoRow : OpenClaim := { program := "ythgohmgadcfglaa", sum := "595309bd61745ee2a579cf48627244a2bf0db925786eeee9e153df5426dcbbbc", func := "loop.example/g03204/laws.FnExactFromSteps", spec := "fnExactFromSteps", unfollowed := true, recurses := true, apart := false, narrowed := true }
def FnExactFromStepsUptoSaid : Prop := fnExactFromStepsUptoRow.holds Try.pinned (OpenSpec.upto fnExactFromStepsSpec)

/-- 'laws.FnExactRepeatRhythm', WHERE WHAT IT READS IS OF BULK AT MOST 1048576: true; the input reads as it did. -/
def fnExactRepeatRhythmUptoRow : OpenClaim := { program := "ythgohmgadcfglaa", sum := "595309bd61745ee2a579cf48627244a2bf0db925786eeee9e153df5426dcbbbc", func := "loop.example/g03204/laws.FnExactRepeatRhythm", spec := "fnExactRepeatRhythm", apart := false, narrowed := true }
def FnExactRepeatRhythmUptoSaid : Prop := fnExactRepeatRhythmUptoRow.holds Try.pinned (OpenSpec.upto fnExactRepeatRhythmSpec)

/-- 'laws.FnExactRestsOf', WHERE WHAT IT READS IS OF BULK AT MOST 1048576: true; the input reads as it did. -/
def fnExactRestsOfUptoRow : OpenClaim := { program := "ythgohmgadcfglaa", sum := "595309bd61745ee2a579cf48627244a2bf0db925786eeee9e153df5426dcbbbc", func := "loop.example/g03204/laws.FnExactRestsOf", spec := "fnExactRestsOf", apart := false, narrowed := true }
def FnExactRestsOfUptoSaid : Prop := fnExactRestsOfUptoRow.holds Try.pinned (OpenSpec.upto fnExactRestsOfSpec)

/-- 'laws.FnExactStepsOf', WHERE WHAT IT READS IS OF BULK AT MOST 1048576: true; the input reads as it did. -/
def fnExactStepsOfUptoRow : OpenClaim := { program := "ythgohmgadcfglaa", sum := "595309bd61745ee2a579cf48627244a2bf0db925786eeee9e153df5426dcbbbc", func := "loop.example/g03204/laws.FnExactStepsOf", spec := "fnExactStepsOf", apart := false, narrowed := true }
def FnExactStepsOfUptoSaid : Prop := fnExactStepsOfUptoRow.holds Try.pinned (OpenSpec.upto fnExactStepsOfSpec)

/-- 'laws.FnExactDifferencesOf', WHERE WHAT IT READS IS OF BULK AT MOST 1048576: true; the input reads as it did. -/
def fnExactDifferencesOfUptoRow : OpenClaim := { program := "ythgohmgadcfglaa", sum := "595309bd61745ee2a579cf48627244a2bf0db925786eeee9e153df5426dcbbbc", func := "loop.example/g03204/laws.FnExactDifferencesOf", spec := "fnExactDifferencesOf", apart := false, narrowed := true }
def FnExactDifferencesOfUptoSaid : Prop := fnExactDifferencesOfUptoRow.holds Try.pinned (OpenSpec.upto fnExactDifferencesOfSpec)

end Rows
end Go.Proofs.Ythgohmgadcfglaa
