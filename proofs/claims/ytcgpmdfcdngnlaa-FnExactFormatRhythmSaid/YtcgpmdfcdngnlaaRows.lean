/-
  No cell of these rows narrows 'for every input' (looked for: loops, veiled, ifaces, maps, wideKeys, modest, calm, conditions, laid).
  DERIVED. THE GIVEN ROWS OF THIS SEAT. 4 by the template 'for every input the law returns true; each argument reads behind the call as it read before'; 0 by the template 'total and deterministic' (their statements: YtcgpmdfcdngnlaaTotals.lean).
  GIVEN WITH THE SEED: the statements are not yours to turn. If you find one false, say at which input.
  Laid BY PROGRAM, IN A SANDBOX (cutbox-rows.mjs): the forced cells as the released guide's own fill.sh prints them over the translation af2b7f1b3ae3617a… (all of the seat's roots in one cut). By AI agents, Wed Nov 11 2026. No macro, syntax, notation, axiom, sorry.
-/
import Derived.Test.YtcgpmdfcdngnlaaChecked
import GoSem.Claim
import GoSem.ClaimJoined
import GoSem.ClaimMapViews
import Derived.JoinedTies
import Derived.KernelRfl
namespace Go.Proofs.Ytcgpmdfcdngnlaa
/- THE CELL 'sum', in the pinned program and in every row, IS THE sha256 OF THE DUMP (.gsa) THAT YtcgpmdfcdngnlaaProg.lean LOADS. Nothing in Lean hashes anything: it is a label: what it is worth is what the hold of that sum in a sandbox is worth. -/
noncomputable def Try.pinned : Pinned := { name := "ytcgpmdfcdngnlaa", sum := "af2b7f1b3ae3617a5c0e4e863d765c342de49f9baca19287ea6f8e80d3d117c4", checked := Try.checked }
namespace Rows
def none {H : Type} : Left H := { results := [], args := [] }

/-- 'laws.FnExactSplitAny': WHATEVER THE INPUT: true; the input reads as it did. -/
def fnExactSplitAnySpec : ChangeSpec := { name := "fnExactSplitAny", fn := fun _ => fun
  | [d1, d2] => { results := [.lit (.bool true)], args := [d1, d2] }
  | _ => none }
def fnExactSplitAnyRow : OpenClaim := { program := "ytcgpmdfcdngnlaa", sum := "af2b7f1b3ae3617a5c0e4e863d765c342de49f9baca19287ea6f8e80d3d117c4", func := "loop.example/g03204/laws.FnExactSplitAny", spec := "fnExactSplitAny", inPlace := ["internal/bytealg.IndexByteString"], apart := false }
def FnExactSplitAnySaid : Prop := fnExactSplitAnyRow.holds Try.pinned (OpenSpec.ofChange fnExactSplitAnySpec)

/-- ITS FALSE NEIGHBOUR: 'it returns false'. Refute it at one input. -/
def fnExactSplitAnyWrong : ChangeSpec := { name := "fnExactSplitAny", fn := fun _ => fun
  | [d1, d2] => { results := [.lit (.bool false)], args := [d1, d2] }
  | _ => none }
def FnExactSplitAnyWrongFalsely : Prop := fnExactSplitAnyRow.holds Try.pinned (OpenSpec.ofChange fnExactSplitAnyWrong)

/-- 'laws.FnExactJoin': WHATEVER THE INPUT: true; the input reads as it did. -/
def fnExactJoinSpec : ChangeSpec := { name := "fnExactJoin", fn := fun _ => fun
  | [d1, d2] => { results := [.lit (.bool true)], args := [d1, d2] }
  | _ => none }
def fnExactJoinRow : OpenClaim := { program := "ytcgpmdfcdngnlaa", sum := "af2b7f1b3ae3617a5c0e4e863d765c342de49f9baca19287ea6f8e80d3d117c4", func := "loop.example/g03204/laws.FnExactJoin", spec := "fnExactJoin", inPlace := ["internal/abi.NoEscape", "internal/bytealg.MakeNoZero"], apart := false }
def FnExactJoinSaid : Prop := fnExactJoinRow.holds Try.pinned (OpenSpec.ofChange fnExactJoinSpec)

/-- ITS FALSE NEIGHBOUR: 'it returns false'. Refute it at one input. -/
def fnExactJoinWrong : ChangeSpec := { name := "fnExactJoin", fn := fun _ => fun
  | [d1, d2] => { results := [.lit (.bool false)], args := [d1, d2] }
  | _ => none }
def FnExactJoinWrongFalsely : Prop := fnExactJoinRow.holds Try.pinned (OpenSpec.ofChange fnExactJoinWrong)

/-- 'laws.FnExactPadZeros': WHATEVER THE INPUT: true; the input reads as it did. -/
def fnExactPadZerosSpec : ChangeSpec := { name := "fnExactPadZeros", fn := fun _ => fun
  | [d1, d2] => { results := [.lit (.bool true)], args := [d1, d2] }
  | _ => none }
def fnExactPadZerosRow : OpenClaim := { program := "ytcgpmdfcdngnlaa", sum := "af2b7f1b3ae3617a5c0e4e863d765c342de49f9baca19287ea6f8e80d3d117c4", func := "loop.example/g03204/laws.FnExactPadZeros", spec := "fnExactPadZeros", inPlace := ["internal/abi.NoEscape", "internal/bytealg.MakeNoZero"], apart := false }
def FnExactPadZerosSaid : Prop := fnExactPadZerosRow.holds Try.pinned (OpenSpec.ofChange fnExactPadZerosSpec)

/-- ITS FALSE NEIGHBOUR: 'it returns false'. Refute it at one input. -/
def fnExactPadZerosWrong : ChangeSpec := { name := "fnExactPadZeros", fn := fun _ => fun
  | [d1, d2] => { results := [.lit (.bool false)], args := [d1, d2] }
  | _ => none }
def FnExactPadZerosWrongFalsely : Prop := fnExactPadZerosRow.holds Try.pinned (OpenSpec.ofChange fnExactPadZerosWrong)

/-- 'laws.FnExactFormatRhythm': WHATEVER THE INPUT: true; the input reads as it did. -/
def fnExactFormatRhythmSpec : ChangeSpec := { name := "fnExactFormatRhythm", fn := fun _ => fun
  | [d] => { results := [.lit (.bool true)], args := [d] }
  | _ => none }
def fnExactFormatRhythmRow : OpenClaim := { program := "ytcgpmdfcdngnlaa", sum := "af2b7f1b3ae3617a5c0e4e863d765c342de49f9baca19287ea6f8e80d3d117c4", func := "loop.example/g03204/laws.FnExactFormatRhythm", spec := "fnExactFormatRhythm", inPlace := ["internal/bytealg.MakeNoZero"], apart := false }
def FnExactFormatRhythmSaid : Prop := fnExactFormatRhythmRow.holds Try.pinned (OpenSpec.ofChange fnExactFormatRhythmSpec)

/-- ITS FALSE NEIGHBOUR: 'it returns false'. Refute it at one input. -/
def fnExactFormatRhythmWrong : ChangeSpec := { name := "fnExactFormatRhythm", fn := fun _ => fun
  | [d] => { results := [.lit (.bool false)], args := [d] }
  | _ => none }
def FnExactFormatRhythmWrongFalsely : Prop := fnExactFormatRhythmRow.holds Try.pinned (OpenSpec.ofChange fnExactFormatRhythmWrong)

/- THE SECOND FORM. 'bulk': how many values and letters a reading holds, each counted each time it is reached (what is shared counts as often as it is met; a slice's spare places count too). A statement '..UptoSaid' is the law's where the arguments, and the package variables that the reading takes, are together of bulk at most 1048576: NARROWER than '..Said'. Prove '..Said' where nothing that the law and all that it calls make is longer than what came in: it says more and counts as full. Else prove '..UptoSaid'. A law counts once. -/
mutual
def uptoBulk {H : Type} : DataW H → Nat
  | .lit (.string bytes) => bytes.length + 1
  | .lit _ => 1
  | .nil => 1
  | .ptr d => uptoBulk d + 1
  | .slice elems spare => uptoBulkAll elems + uptoBulkAll spare + 1
  | .agg parts => uptoBulkAll parts + 1
  | .iface _ d => uptoBulk d + 1
  | .map entries => uptoBulkEntries entries + 1
  | .held _ => 1
def uptoBulkAll {H : Type} : List (DataW H) → Nat
  | [] => 0
  | d :: r => uptoBulk d + uptoBulkAll r
def uptoBulkEntries {H : Type} : List (Lit × DataW H) → Nat
  | [] => 0
  | x :: r => uptoBulkEntry x + uptoBulkEntries r
def uptoBulkEntry {H : Type} : Lit × DataW H → Nat
  | (.string bytes, d) => bytes.length + uptoBulk d + 1
  | (_, d) => uptoBulk d + 1
 end
def uptoSmall : (H : Type) → List (DataW H) → Bool := fun _ ds => decide (uptoBulkAll ds ≤ 1048576)
def OpenSpec.upto (s : _root_.Go.ChangeSpec) : _root_.Go.OpenSpec := { _root_.Go.OpenSpec.ofChange s with cond := some uptoSmall }

/-- 'laws.FnExactSplitAny', WHERE WHAT IT READS IS OF BULK AT MOST 1048576: true; the input reads as it did. -/
def fnExactSplitAnyUptoRow : OpenClaim := { program := "ytcgpmdfcdngnlaa", sum := "af2b7f1b3ae3617a5c0e4e863d765c342de49f9baca19287ea6f8e80d3d117c4", func := "loop.example/g03204/laws.FnExactSplitAny", spec := "fnExactSplitAny", inPlace := ["internal/bytealg.IndexByteString"], apart := false, narrowed := true }
def FnExactSplitAnyUptoSaid : Prop := fnExactSplitAnyUptoRow.holds Try.pinned (OpenSpec.upto fnExactSplitAnySpec)

/-- 'laws.FnExactJoin', WHERE WHAT IT READS IS OF BULK AT MOST 1048576: true; the input reads as it did. -/
def fnExactJoinUptoRow : OpenClaim := { program := "ytcgpmdfcdngnlaa", sum := "af2b7f1b3ae3617a5c0e4e863d765c342de49f9baca19287ea6f8e80d3d117c4", func := "loop.example/g03204/laws.FnExactJoin", spec := "fnExactJoin", inPlace := ["internal/abi.NoEscape", "internal/bytealg.MakeNoZero"], apart := false, narrowed := true }
def FnExactJoinUptoSaid : Prop := fnExactJoinUptoRow.holds Try.pinned (OpenSpec.upto fnExactJoinSpec)

/-- 'laws.FnExactPadZeros', WHERE WHAT IT READS IS OF BULK AT MOST 1048576: true; the input reads as it did. -/
def fnExactPadZerosUptoRow : OpenClaim := { program := "ytcgpmdfcdngnlaa", sum := "af2b7f1b3ae3617a5c0e4e863d765c342de49f9baca19287ea6f8e80d3d117c4", func := "loop.example/g03204/laws.FnExactPadZeros", spec := "fnExactPadZeros", inPlace := ["internal/abi.NoEscape", "internal/bytealg.MakeNoZero"], apart := false, narrowed := true }
def FnExactPadZerosUptoSaid : Prop := fnExactPadZerosUptoRow.holds Try.pinned (OpenSpec.upto fnExactPadZerosSpec)

/-- 'laws.FnExactFormatRhythm', WHERE WHAT IT READS IS OF BULK AT MOST 1048576: true; the input reads as it did. -/
def fnExactFormatRhythmUptoRow : OpenClaim := { program := "ytcgpmdfcdngnlaa", sum := "af2b7f1b3ae3617a5c0e4e863d765c342de49f9baca19287ea6f8e80d3d117c4", func := "loop.example/g03204/laws.FnExactFormatRhythm", spec := "fnExactFormatRhythm", inPlace := ["internal/bytealg.MakeNoZero"], apart := false, narrowed := true }
def FnExactFormatRhythmUptoSaid : Prop := fnExactFormatRhythmUptoRow.holds Try.pinned (OpenSpec.upto fnExactFormatRhythmSpec)

end Rows
end Go.Proofs.Ytcgpmdfcdngnlaa
