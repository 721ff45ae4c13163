/-
  No cell of these rows narrows 'for every input' (looked for: loops, veiled, ifaces, maps, wideKeys, modest, calm, conditions, laid).
  DERIVED. THE GIVEN ROWS OF THIS SEAT. 12 by the template 'for every input the law returns true; each argument reads behind the call as it read before'; 0 by the template 'total and deterministic' (their statements: YtbnccedfmmfkgaaTotals.lean).
  GIVEN WITH THE SEED: the statements are not yours to turn. If you find one false, say at which input.
  Laid BY PROGRAM, IN A SANDBOX (cutbox-rows.mjs): the forced cells as the released guide's own fill.sh prints them over the translation aeaad45c3aba8545… (all of the seat's roots in one cut). By AI agents, Wed Nov 11 2026. No macro, syntax, notation, axiom, sorry.
-/
import Derived.Test.YtbnccedfmmfkgaaChecked
import GoSem.Claim
import GoSem.ClaimJoined
import GoSem.ClaimMapViews
import Derived.JoinedTies
import Derived.KernelRfl
namespace Go.Proofs.Ytbnccedfmmfkgaa
/- THE CELL 'sum', in the pinned program and in every row, IS THE sha256 OF THE DUMP (.gsa) THAT YtbnccedfmmfkgaaProg.lean LOADS. Nothing in Lean hashes anything: it is a label: what it is worth is what the hold of that sum in a sandbox is worth. -/
noncomputable def Try.pinned : Pinned := { name := "ytbnccedfmmfkgaa", sum := "aeaad45c3aba854548f1cc47c66d65572f81fb62324641e0dfae8bda36c16d7f", checked := Try.checked }
namespace Rows
def none {H : Type} : Left H := { results := [], args := [] }

/-- 'laws.FnExactCommonBeats': WHATEVER THE INPUT: true; the input reads as it did. -/
def fnExactCommonBeatsSpec : ChangeSpec := { name := "fnExactCommonBeats", fn := fun _ => fun
  | [d1, d2] => { results := [.lit (.bool true)], args := [d1, d2] }
  | _ => none }
def fnExactCommonBeatsRow : OpenClaim := { program := "ytbnccedfmmfkgaa", sum := "aeaad45c3aba854548f1cc47c66d65572f81fb62324641e0dfae8bda36c16d7f", func := "loop.example/g03204/laws.FnExactCommonBeats", spec := "fnExactCommonBeats", apart := false }
def FnExactCommonBeatsSaid : Prop := fnExactCommonBeatsRow.holds Try.pinned (OpenSpec.ofChange fnExactCommonBeatsSpec)

/-- ITS FALSE NEIGHBOUR: 'it returns false'. Refute it at one input. -/
def fnExactCommonBeatsWrong : ChangeSpec := { name := "fnExactCommonBeats", fn := fun _ => fun
  | [d1, d2] => { results := [.lit (.bool false)], args := [d1, d2] }
  | _ => none }
def FnExactCommonBeatsWrongFalsely : Prop := fnExactCommonBeatsRow.holds Try.pinned (OpenSpec.ofChange fnExactCommonBeatsWrong)

/-- 'laws.FnExactMirrorRhythm': WHATEVER THE INPUT: true; the input reads as it did. -/
def fnExactMirrorRhythmSpec : ChangeSpec := { name := "fnExactMirrorRhythm", fn := fun _ => fun
  | [d] => { results := [.lit (.bool true)], args := [d] }
  | _ => none }
def fnExactMirrorRhythmRow : OpenClaim := { program := "ytbnccedfmmfkgaa", sum := "aeaad45c3aba854548f1cc47c66d65572f81fb62324641e0dfae8bda36c16d7f", func := "loop.example/g03204/laws.FnExactMirrorRhythm", spec := "fnExactMirrorRhythm", unfollowed := true, recurses := true, apart := false }
def FnExactMirrorRhythmSaid : Prop := fnExactMirrorRhythmRow.holds Try.pinned (OpenSpec.ofChange fnExactMirrorRhythmSpec)

/-- ITS FALSE NEIGHBOUR: 'it returns false'. Refute it at one input. -/
def fnExactMirrorRhythmWrong : ChangeSpec := { name := "fnExactMirrorRhythm", fn := fun _ => fun
  | [d] => { results := [.lit (.bool false)], args := [d] }
  | _ => none }
def FnExactMirrorRhythmWrongFalsely : Prop := fnExactMirrorRhythmRow.holds Try.pinned (OpenSpec.ofChange fnExactMirrorRhythmWrong)

/-- 'laws.FnExactRotateRhythm': WHATEVER THE INPUT: true; the input reads as it did. -/
def fnExactRotateRhythmSpec : ChangeSpec := { name := "fnExactRotateRhythm", fn := fun _ => fun
  | [d1, d2] => { results := [.lit (.bool true)], args := [d1, d2] }
  | _ => none }
def fnExactRotateRhythmRow : OpenClaim := { program := "ytbnccedfmmfkgaa", sum := "aeaad45c3aba854548f1cc47c66d65572f81fb62324641e0dfae8bda36c16d7f", func := "loop.example/g03204/laws.FnExactRotateRhythm", spec := "fnExactRotateRhythm", unfollowed := true, recurses := true, apart := false }
def FnExactRotateRhythmSaid : Prop := fnExactRotateRhythmRow.holds Try.pinned (OpenSpec.ofChange fnExactRotateRhythmSpec)

/-- ITS FALSE NEIGHBOUR: 'it returns false'. Refute it at one input. -/
def fnExactRotateRhythmWrong : ChangeSpec := { name := "fnExactRotateRhythm", fn := fun _ => fun
  | [d1, d2] => { results := [.lit (.bool false)], args := [d1, d2] }
  | _ => none }
def FnExactRotateRhythmWrongFalsely : Prop := fnExactRotateRhythmRow.holds Try.pinned (OpenSpec.ofChange fnExactRotateRhythmWrong)

/-- 'laws.FnExactIsPeriodic': WHATEVER THE INPUT: true; the input reads as it did. -/
def fnExactIsPeriodicSpec : ChangeSpec := { name := "fnExactIsPeriodic", fn := fun _ => fun
  | [d] => { results := [.lit (.bool true)], args := [d] }
  | _ => none }
def fnExactIsPeriodicRow : OpenClaim := { program := "ytbnccedfmmfkgaa", sum := "aeaad45c3aba854548f1cc47c66d65572f81fb62324641e0dfae8bda36c16d7f", func := "loop.example/g03204/laws.FnExactIsPeriodic", spec := "fnExactIsPeriodic", unfollowed := true, recurses := true, apart := false }
def FnExactIsPeriodicSaid : Prop := fnExactIsPeriodicRow.holds Try.pinned (OpenSpec.ofChange fnExactIsPeriodicSpec)

/-- ITS FALSE NEIGHBOUR: 'it returns false'. Refute it at one input. -/
def fnExactIsPeriodicWrong : ChangeSpec := { name := "fnExactIsPeriodic", fn := fun _ => fun
  | [d] => { results := [.lit (.bool false)], args := [d] }
  | _ => none }
def FnExactIsPeriodicWrongFalsely : Prop := fnExactIsPeriodicRow.holds Try.pinned (OpenSpec.ofChange fnExactIsPeriodicWrong)

/-- 'laws.FnExactJoinRhythms': WHATEVER THE INPUT: true; the input reads as it did. -/
def fnExactJoinRhythmsSpec : ChangeSpec := { name := "fnExactJoinRhythms", fn := fun _ => fun
  | [d1, d2] => { results := [.lit (.bool true)], args := [d1, d2] }
  | _ => none }
def fnExactJoinRhythmsRow : OpenClaim := { program := "ytbnccedfmmfkgaa", sum := "aeaad45c3aba854548f1cc47c66d65572f81fb62324641e0dfae8bda36c16d7f", func := "loop.example/g03204/laws.FnExactJoinRhythms", spec := "fnExactJoinRhythms", recurses := true, apart := false }
def FnExactJoinRhythmsSaid : Prop := fnExactJoinRhythmsRow.holds Try.pinned (OpenSpec.ofChange fnExactJoinRhythmsSpec)

/-- ITS FALSE NEIGHBOUR: 'it returns false'. Refute it at one input. -/
def fnExactJoinRhythmsWrong : ChangeSpec := { name := "fnExactJoinRhythms", fn := fun _ => fun
  | [d1, d2] => { results := [.lit (.bool false)], args := [d1, d2] }
  | _ => none }
def FnExactJoinRhythmsWrongFalsely : Prop := fnExactJoinRhythmsRow.holds Try.pinned (OpenSpec.ofChange fnExactJoinRhythmsWrong)

/-- 'laws.FnExactPeriodOf': WHATEVER THE INPUT: true; the input reads as it did. -/
def fnExactPeriodOfSpec : ChangeSpec := { name := "fnExactPeriodOf", fn := fun _ => fun
  | [d] => { results := [.lit (.bool true)], args := [d] }
  | _ => none }
def fnExactPeriodOfRow : OpenClaim := { program := "ytbnccedfmmfkgaa", sum := "aeaad45c3aba854548f1cc47c66d65572f81fb62324641e0dfae8bda36c16d7f", func := "loop.example/g03204/laws.FnExactPeriodOf", spec := "fnExactPeriodOf", unfollowed := true, recurses := true, apart := false }
def FnExactPeriodOfSaid : Prop := fnExactPeriodOfRow.holds Try.pinned (OpenSpec.ofChange fnExactPeriodOfSpec)

/-- ITS FALSE NEIGHBOUR: 'it returns false'. Refute it at one input. -/
def fnExactPeriodOfWrong : ChangeSpec := { name := "fnExactPeriodOf", fn := fun _ => fun
  | [d] => { results := [.lit (.bool false)], args := [d] }
  | _ => none }
def FnExactPeriodOfWrongFalsely : Prop := fnExactPeriodOfRow.holds Try.pinned (OpenSpec.ofChange fnExactPeriodOfWrong)

/-- 'laws.FnExactRotationTo': WHATEVER THE INPUT: true; the input reads as it did. -/
def fnExactRotationToSpec : ChangeSpec := { name := "fnExactRotationTo", fn := fun _ => fun
  | [d1, d2] => { results := [.lit (.bool true)], args := [d1, d2] }
  | _ => none }
def fnExactRotationToRow : OpenClaim := { program := "ytbnccedfmmfkgaa", sum := "aeaad45c3aba854548f1cc47c66d65572f81fb62324641e0dfae8bda36c16d7f", func := "loop.example/g03204/laws.FnExactRotationTo", spec := "fnExactRotationTo", unfollowed := true, recurses := true, apart := false }
def FnExactRotationToSaid : Prop := fnExactRotationToRow.holds Try.pinned (OpenSpec.ofChange fnExactRotationToSpec)

/-- ITS FALSE NEIGHBOUR: 'it returns false'. Refute it at one input. -/
def fnExactRotationToWrong : ChangeSpec := { name := "fnExactRotationTo", fn := fun _ => fun
  | [d1, d2] => { results := [.lit (.bool false)], args := [d1, d2] }
  | _ => none }
def FnExactRotationToWrongFalsely : Prop := fnExactRotationToRow.holds Try.pinned (OpenSpec.ofChange fnExactRotationToWrong)

/-- 'laws.FnExactIsMirrored': WHATEVER THE INPUT: true; the input reads as it did. -/
def fnExactIsMirroredSpec : ChangeSpec := { name := "fnExactIsMirrored", fn := fun _ => fun
  | [d] => { results := [.lit (.bool true)], args := [d] }
  | _ => none }
def fnExactIsMirroredRow : OpenClaim := { program := "ytbnccedfmmfkgaa", sum := "aeaad45c3aba854548f1cc47c66d65572f81fb62324641e0dfae8bda36c16d7f", func := "loop.example/g03204/laws.FnExactIsMirrored", spec := "fnExactIsMirrored", unfollowed := true, recurses := true, apart := false }
def FnExactIsMirroredSaid : Prop := fnExactIsMirroredRow.holds Try.pinned (OpenSpec.ofChange fnExactIsMirroredSpec)

/-- ITS FALSE NEIGHBOUR: 'it returns false'. Refute it at one input. -/
def fnExactIsMirroredWrong : ChangeSpec := { name := "fnExactIsMirrored", fn := fun _ => fun
  | [d] => { results := [.lit (.bool false)], args := [d] }
  | _ => none }
def FnExactIsMirroredWrongFalsely : Prop := fnExactIsMirroredRow.holds Try.pinned (OpenSpec.ofChange fnExactIsMirroredWrong)

/-- 'laws.FnExactStretchRhythm': WHATEVER THE INPUT: true; the input reads as it did. -/
def fnExactStretchRhythmSpec : ChangeSpec := { name := "fnExactStretchRhythm", fn := fun _ => fun
  | [d1, d2] => { results := [.lit (.bool true)], args := [d1, d2] }
  | _ => none }
def fnExactStretchRhythmRow : OpenClaim := { program := "ytbnccedfmmfkgaa", sum := "aeaad45c3aba854548f1cc47c66d65572f81fb62324641e0dfae8bda36c16d7f", func := "loop.example/g03204/laws.FnExactStretchRhythm", spec := "fnExactStretchRhythm", unfollowed := true, recurses := true, apart := false }
def FnExactStretchRhythmSaid : Prop := fnExactStretchRhythmRow.holds Try.pinned (OpenSpec.ofChange fnExactStretchRhythmSpec)

/-- ITS FALSE NEIGHBOUR: 'it returns false'. Refute it at one input. -/
def fnExactStretchRhythmWrong : ChangeSpec := { name := "fnExactStretchRhythm", fn := fun _ => fun
  | [d1, d2] => { results := [.lit (.bool false)], args := [d1, d2] }
  | _ => none }
def FnExactStretchRhythmWrongFalsely : Prop := fnExactStretchRhythmRow.holds Try.pinned (OpenSpec.ofChange fnExactStretchRhythmWrong)

/-- 'laws.FnExactAreRotations': WHATEVER THE INPUT: true; the input reads as it did. -/
def fnExactAreRotationsSpec : ChangeSpec := { name := "fnExactAreRotations", fn := fun _ => fun
  | [d1, d2] => { results := [.lit (.bool true)], args := [d1, d2] }
  | _ => none }
def fnExactAreRotationsRow : OpenClaim := { program := "ytbnccedfmmfkgaa", sum := "aeaad45c3aba854548f1cc47c66d65572f81fb62324641e0dfae8bda36c16d7f", func := "loop.example/g03204/laws.FnExactAreRotations", spec := "fnExactAreRotations", unfollowed := true, recurses := true, apart := false }
def FnExactAreRotationsSaid : Prop := fnExactAreRotationsRow.holds Try.pinned (OpenSpec.ofChange fnExactAreRotationsSpec)

/-- ITS FALSE NEIGHBOUR: 'it returns false'. Refute it at one input. -/
def fnExactAreRotationsWrong : ChangeSpec := { name := "fnExactAreRotations", fn := fun _ => fun
  | [d1, d2] => { results := [.lit (.bool false)], args := [d1, d2] }
  | _ => none }
def FnExactAreRotationsWrongFalsely : Prop := fnExactAreRotationsRow.holds Try.pinned (OpenSpec.ofChange fnExactAreRotationsWrong)

/-- 'laws.FnExactAreForms': WHATEVER THE INPUT: true; the input reads as it did. -/
def fnExactAreFormsSpec : ChangeSpec := { name := "fnExactAreForms", fn := fun _ => fun
  | [d1, d2] => { results := [.lit (.bool true)], args := [d1, d2] }
  | _ => none }
def fnExactAreFormsRow : OpenClaim := { program := "ytbnccedfmmfkgaa", sum := "aeaad45c3aba854548f1cc47c66d65572f81fb62324641e0dfae8bda36c16d7f", func := "loop.example/g03204/laws.FnExactAreForms", spec := "fnExactAreForms", unfollowed := true, recurses := true, apart := false }
def FnExactAreFormsSaid : Prop := fnExactAreFormsRow.holds Try.pinned (OpenSpec.ofChange fnExactAreFormsSpec)

/-- ITS FALSE NEIGHBOUR: 'it returns false'. Refute it at one input. -/
def fnExactAreFormsWrong : ChangeSpec := { name := "fnExactAreForms", fn := fun _ => fun
  | [d1, d2] => { results := [.lit (.bool false)], args := [d1, d2] }
  | _ => none }
def FnExactAreFormsWrongFalsely : Prop := fnExactAreFormsRow.holds Try.pinned (OpenSpec.ofChange fnExactAreFormsWrong)

/-- 'laws.FnExactAxesOf': WHATEVER THE INPUT: true; the input reads as it did. -/
def fnExactAxesOfSpec : ChangeSpec := { name := "fnExactAxesOf", fn := fun _ => fun
  | [d] => { results := [.lit (.bool true)], args := [d] }
  | _ => none }
def fnExactAxesOfRow : OpenClaim := { program := "ytbnccedfmmfkgaa", sum := "aeaad45c3aba854548f1cc47c66d65572f81fb62324641e0dfae8bda36c16d7f", func := "loop.example/g03204/laws.FnExactAxesOf", spec := "fnExactAxesOf", unfollowed := true, recurses := true, apart := false }
def FnExactAxesOfSaid : Prop := fnExactAxesOfRow.holds Try.pinned (OpenSpec.ofChange fnExactAxesOfSpec)

/-- ITS FALSE NEIGHBOUR: 'it returns false'. Refute it at one input. -/
def fnExactAxesOfWrong : ChangeSpec := { name := "fnExactAxesOf", fn := fun _ => fun
  | [d] => { results := [.lit (.bool false)], args := [d] }
  | _ => none }
def FnExactAxesOfWrongFalsely : Prop := fnExactAxesOfRow.holds Try.pinned (OpenSpec.ofChange fnExactAxesOfWrong)

/- THE SECOND FORM. 'bulk': how many values and letters a reading holds, each counted each time it is reached (what is shared counts as often as it is met; a slice's spare places count too). A statement '..UptoSaid' is the law's where the arguments, and the package variables that the reading takes, are together of bulk at most 1048576: NARROWER than '..Said'. Prove '..Said' where nothing that the law and all that it calls make is longer than what came in: it says more and counts as full. Else prove '..UptoSaid'. A law counts once. -/
mutual
def uptoBulk {H : Type} : DataW H → Nat
  | .lit (.string bytes) => bytes.length + 1
  | .lit _ => 1
  | .nil => 1
  | .ptr d => uptoBulk d + 1
  | .slice elems spare => uptoBulkAll elems + uptoBulkAll spare + 1
  | .agg parts => uptoBulkAll parts + 1
  | .iface _ d => uptoBulk d + 1
  | .map entries => uptoBulkEntries entries + 1
  | .held _ => 1
def uptoBulkAll {H : Type} : List (DataW H) → Nat
  | [] => 0
  | d :: r => uptoBulk d + uptoBulkAll r
def uptoBulkEntries {H : Type} : List (Lit × DataW H) → Nat
  | [] => 0
  | x :: r => uptoBulkEntry x + uptoBulkEntries r
def uptoBulkEntry {H : Type} : Lit × DataW H → Nat
  | (.string bytes, d) => bytes.length + uptoBulk d + 1
  | (_, d) => uptoBulk d + 1
 end
def uptoSmall : (H : Type) → List (DataW H) → Bool := fun _ ds => decide (uptoBulkAll ds ≤ 1048576)
def OpenSpec.upto (s : _root_.Go.ChangeSpec) : _root_.Go.OpenSpec := { _root_.Go.OpenSpec.ofChange s with cond := some uptoSmall }

/-- 'laws.FnExactCommonBeats', WHERE WHAT IT READS IS OF BULK AT MOST 1048576: true; the input reads as it did. -/
def fnExactCommonBeatsUptoRow : OpenClaim := { program := "ytbnccedfmmfkgaa", sum := "aeaad45c3aba854548f1cc47c66d65572f81fb62324641e0dfae8bda36c16d7f", func := "loop.example/g03204/laws.FnExactCommonBeats", spec := "fnExactCommonBeats", apart := false, narrowed := true }
def FnExactCommonBeatsUptoSaid : Prop := fnExactCommonBeatsUptoRow.holds Try.pinned (OpenSpec.upto fnExactCommonBeatsSpec)

/-- 'laws.FnExactMirrorRhythm', WHERE WHAT IT READS IS OF BULK AT MOST 1048576: true; the input reads as it did. -/
def fnExactMirrorRhythmUptoRow : OpenClaim := { program := "ytbnccedfmmfkgaa", sum := "aeaad45c3aba854548f1cc47c66d65572f81fb62324641e0dfae8bda36c16d7f", func := "loop.example/g03204/laws.FnExactMirrorRhythm", spec := "fnExactMirrorRhythm", unfollowed := true, recurses := true, apart := false, narrowed := true }
def FnExactMirrorRhythmUptoSaid : Prop := fnExactMirrorRhythmUptoRow.holds Try.pinned (OpenSpec.upto fnExactMirrorRhythmSpec)

/-- 'laws.FnExactRotateRhythm', WHERE WHAT IT READS IS OF BULK AT MOST 1048576: true; the input reads as it did. -/
def fnExactRotateRhythmUptoRow : OpenClaim := { program := "ytbnccedfmmfkgaa", sum := "aeaad45c3aba854548f1cc47c66d65572f81fb62324641e0dfae8bda36c16d7f", func := "loop.example/g03204/laws.FnExactRotateRhythm", spec := "fnExactRotateRhythm", unfollowed := true, recurses := true, apart := false, narrowed := true }
def FnExactRotateRhythmUptoSaid : Prop := fnExactRotateRhythmUptoRow.holds Try.pinned (OpenSpec.upto fnExactRotateRhythmSpec)

/-- 'laws.FnExactIsPeriodic', WHERE WHAT IT READS IS OF BULK AT MOST 1048576: true; the input reads as it did. -/
def fnExactIsPeriodicUptoRow : OpenClaim := { program := "ytbnccedfmmfkgaa", sum := "aeaad45c3aba854548f1cc47c66d65572f81fb62324641e0dfae8bda36c16d7f", func := "loop.example/g03204/laws.FnExactIsPeriodic", spec := "fnExactIsPeriodic", unfollowed := true, recurses := true, apart := false, narrowed := true }
def FnExactIsPeriodicUptoSaid : Prop := fnExactIsPeriodicUptoRow.holds Try.pinned (OpenSpec.upto fnExactIsPeriodicSpec)

/-- 'laws.FnExactJoinRhythms', WHERE WHAT IT READS IS OF BULK AT MOST 1048576: true; the input reads as it did. -/
def fnExactJoinRhythmsUptoRow : OpenClaim := { program := "ytbnccedfmmfkgaa", sum := "aeaad45c3aba854548f1cc47c66d65572f81fb62324641e0dfae8bda36c16d7f", func := "loop.example/g03204/laws.FnExactJoinRhythms", spec := "fnExactJoinRhythms", recurses := true, apart := false, narrowed := true }
def FnExactJoinRhythmsUptoSaid : Prop := fnExactJoinRhythmsUptoRow.holds Try.pinned (OpenSpec.upto fnExactJoinRhythmsSpec)

/-- 'laws.FnExactPeriodOf', WHERE WHAT IT READS IS OF BULK AT MOST 1048576: true; the input reads as it did. -/
def fnExactPeriodOfUptoRow : OpenClaim := { program := "ytbnccedfmmfkgaa", sum := "aeaad45c3aba854548f1cc47c66d65572f81fb62324641e0dfae8bda36c16d7f", func := "loop.example/g03204/laws.FnExactPeriodOf", spec := "fnExactPeriodOf", unfollowed := true, recurses := true, apart := false, narrowed := true }
def FnExactPeriodOfUptoSaid : Prop := fnExactPeriodOfUptoRow.holds Try.pinned (OpenSpec.upto fnExactPeriodOfSpec)

/-- 'laws.FnExactRotationTo', WHERE WHAT IT READS IS OF BULK AT MOST 1048576: true; the input reads as it did. -/
def fnExactRotationToUptoRow : OpenClaim := { program := "ytbnccedfmmfkgaa", sum := "aeaad45c3aba854548f1cc47c66d65572f81fb62324641e0dfae8bda36c16d7f", func := "loop.example/g03204/laws.FnExactRotationTo", spec := "fnExactRotationTo", unfollowed := true, recurses := true, apart := false, narrowed := true }
def FnExactRotationToUptoSaid : Prop := fnExactRotationToUptoRow.holds Try.pinned (OpenSpec.upto fnExactRotationToSpec)

/-- 'laws.FnExactIsMirrored', WHERE WHAT IT READS IS OF BULK AT MOST 1048576: true; the input reads as it did. -/
def fnExactIsMirroredUptoRow : OpenClaim := { program := "ytbnccedfmmfkgaa", sum := "aeaad45c3aba854548f1cc47c66d65572f81fb62324641e0dfae8bda36c16d7f", func := "loop.example/g03204/laws.FnExactIsMirrored", spec := "fnExactIsMirrored", unfollowed := true, recurses := true, apart := false, narrowed := true }
def FnExactIsMirroredUptoSaid : Prop := fnExactIsMirroredUptoRow.holds Try.pinned (OpenSpec.upto fnExactIsMirroredSpec)

/-- 'laws.FnExactStretchRhythm', WHERE WHAT IT READS IS OF BULK AT MOST 1048576: true; the input reads as it did. -/
def fnExactStretchRhythmUptoRow : OpenClaim := { program := "ytbnccedfmmfkgaa", sum := "aeaad45c3aba854548f1cc47c66d65572f81fb62324641e0dfae8bda36c16d7f", func := "loop.example/g03204/laws.FnExactStretchRhythm", spec := "fnExactStretchRhythm", unfollowed := true, recurses := true, apart := false, narrowed := true }
def FnExactStretchRhythmUptoSaid : Prop := fnExactStretchRhythmUptoRow.holds Try.pinned (OpenSpec.upto fnExactStretchRhythmSpec)

/-- 'laws.FnExactAreRotations', WHERE WHAT IT READS IS OF BULK AT MOST 1048576: true; the input reads as it did. -/
def fnExactAreRotationsUptoRow : OpenClaim := { program := "ytbnccedfmmfkgaa", sum := "aeaad45c3aba854548f1cc47c66d65572f81fb62324641e0dfae8bda36c16d7f", func := "loop.example/g03204/laws.FnExactAreRotations", spec := "fnExactAreRotations", unfollowed := true, recurses := true, apart := false, narrowed := true }
def FnExactAreRotationsUptoSaid : Prop := fnExactAreRotationsUptoRow.holds Try.pinned (OpenSpec.upto fnExactAreRotationsSpec)

/-- 'laws.FnExactAreForms', WHERE WHAT IT READS IS OF BULK AT MOST 1048576: true; the input reads as it did. -/
def fnExactAreFormsUptoRow : OpenClaim := { program := "ytbnccedfmmfkgaa", sum := "aeaad45c3aba854548f1cc47c66d65572f81fb62324641e0dfae8bda36c16d7f", func := "loop.example/g03204/laws.FnExactAreForms", spec := "fnExactAreForms", unfollowed := true, recurses := true, apart := false, narrowed := true }
def FnExactAreFormsUptoSaid : Prop := fnExactAreFormsUptoRow.holds Try.pinned (OpenSpec.upto fnExactAreFormsSpec)

/-- 'laws.FnExactAxesOf', WHERE WHAT IT READS IS OF BULK AT MOST 1048576: true; the input reads as it did. -/
def fnExactAxesOfUptoRow : OpenClaim := { program := "ytbnccedfmmfkgaa", sum := "aeaad45c3aba854548f1cc47c66d65572f81fb62324641e0dfae8bda36c16d7f", func := "loop.example/g03204/laws.FnExactAxesOf", spec := "fnExactAxesOf", unfollowed := true, recurses := true, apart := false, narrowed := true }
def FnExactAxesOfUptoSaid : Prop := fnExactAxesOfUptoRow.holds Try.pinned (OpenSpec.upto fnExactAxesOfSpec)

end Rows
end Go.Proofs.Ytbnccedfmmfkgaa
