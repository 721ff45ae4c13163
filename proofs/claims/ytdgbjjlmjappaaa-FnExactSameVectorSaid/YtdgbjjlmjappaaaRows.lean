/-
  No cell of these rows narrows 'for every input' (looked for: loops, veiled, ifaces, maps, wideKeys, modest, calm, conditions, laid).
  DERIVED. THE GIVEN ROWS OF THIS SEAT. 4 by the template 'for every input the law returns true; each argument reads behind the call as it read before'; 0 by the template 'total and deterministic' (their statements: YtdgbjjlmjappaaaTotals.lean).
  GIVEN WITH THE SEED: the statements are not yours to turn. If you find one false, say at which input.
  Laid BY PROGRAM, IN A SANDBOX (cutbox-rows.mjs): the forced cells as the released guide's own fill.sh prints them over the translation 9086639b3cdd4b78… (all of the seat's roots in one cut). By AI agents, Wed Nov 11 2026. No macro, syntax, notation, axiom, sorry.
-/
import Derived.Test.YtdgbjjlmjappaaaChecked
import GoSem.Claim
import GoSem.ClaimJoined
import GoSem.ClaimMapViews
import Derived.JoinedTies
import Derived.KernelRfl
namespace Go.Proofs.Ytdgbjjlmjappaaa
/- THE CELL 'sum', in the pinned program and in every row, IS THE sha256 OF THE DUMP (.gsa) THAT YtdgbjjlmjappaaaProg.lean LOADS. Nothing in Lean hashes anything: it is a label: what it is worth is what the hold of that sum in a sandbox is worth. -/
noncomputable def Try.pinned : Pinned := { name := "ytdgbjjlmjappaaa", sum := "9086639b3cdd4b78f9f8ce691f6b9a627e872bd32accebef9c373a11a04f6b00", checked := Try.checked }
namespace Rows
def none {H : Type} : Left H := { results := [], args := [] }

/-- 'laws.FnExactSpanOf': WHATEVER THE INPUT: true; the input reads as it did. -/
def fnExactSpanOfSpec : ChangeSpec := { name := "fnExactSpanOf", fn := fun _ => fun
  | [d1, d2, d3] => { results := [.lit (.bool true)], args := [d1, d2, d3] }
  | _ => none }
def fnExactSpanOfRow : OpenClaim := { program := "ytdgbjjlmjappaaa", sum := "9086639b3cdd4b78f9f8ce691f6b9a627e872bd32accebef9c373a11a04f6b00", func := "loop.example/g03204/laws.FnExactSpanOf", spec := "fnExactSpanOf", apart := false }
def FnExactSpanOfSaid : Prop := fnExactSpanOfRow.holds Try.pinned (OpenSpec.ofChange fnExactSpanOfSpec)

/-- ITS FALSE NEIGHBOUR: 'it returns false'. Refute it at one input. -/
def fnExactSpanOfWrong : ChangeSpec := { name := "fnExactSpanOf", fn := fun _ => fun
  | [d1, d2, d3] => { results := [.lit (.bool false)], args := [d1, d2, d3] }
  | _ => none }
def FnExactSpanOfWrongFalsely : Prop := fnExactSpanOfRow.holds Try.pinned (OpenSpec.ofChange fnExactSpanOfWrong)

/-- 'laws.FnExactSameVector': WHATEVER THE INPUT: true; the input reads as it did. -/
def fnExactSameVectorSpec : ChangeSpec := { name := "fnExactSameVector", fn := fun _ => fun
  | [d1, d2] => { results := [.lit (.bool true)], args := [d1, d2] }
  | _ => none }
def fnExactSameVectorRow : OpenClaim := { program := "ytdgbjjlmjappaaa", sum := "9086639b3cdd4b78f9f8ce691f6b9a627e872bd32accebef9c373a11a04f6b00", func := "loop.example/g03204/laws.FnExactSameVector", spec := "fnExactSameVector", apart := false }
def FnExactSameVectorSaid : Prop := fnExactSameVectorRow.holds Try.pinned (OpenSpec.ofChange fnExactSameVectorSpec)

/-- ITS FALSE NEIGHBOUR: 'it returns false'. Refute it at one input. -/
def fnExactSameVectorWrong : ChangeSpec := { name := "fnExactSameVector", fn := fun _ => fun
  | [d1, d2] => { results := [.lit (.bool false)], args := [d1, d2] }
  | _ => none }
def FnExactSameVectorWrongFalsely : Prop := fnExactSameVectorRow.holds Try.pinned (OpenSpec.ofChange fnExactSameVectorWrong)

/-- 'laws.FnExactVectorOf': WHATEVER THE INPUT: true; the input reads as it did. -/
def fnExactVectorOfSpec : ChangeSpec := { name := "fnExactVectorOf", fn := fun _ => fun
  | [d] => { results := [.lit (.bool true)], args := [d] }
  | _ => none }
def fnExactVectorOfRow : OpenClaim := { program := "ytdgbjjlmjappaaa", sum := "9086639b3cdd4b78f9f8ce691f6b9a627e872bd32accebef9c373a11a04f6b00", func := "loop.example/g03204/laws.FnExactVectorOf", spec := "fnExactVectorOf", apart := false }
def FnExactVectorOfSaid : Prop := fnExactVectorOfRow.holds Try.pinned (OpenSpec.ofChange fnExactVectorOfSpec)

/-- ITS FALSE NEIGHBOUR: 'it returns false'. Refute it at one input. -/
def fnExactVectorOfWrong : ChangeSpec := { name := "fnExactVectorOf", fn := fun _ => fun
  | [d] => { results := [.lit (.bool false)], args := [d] }
  | _ => none }
def FnExactVectorOfWrongFalsely : Prop := fnExactVectorOfRow.holds Try.pinned (OpenSpec.ofChange fnExactVectorOfWrong)

/-- 'laws.FnExactOtherRhythm': WHATEVER THE INPUT: true; the input reads as it did. -/
def fnExactOtherRhythmSpec : ChangeSpec := { name := "fnExactOtherRhythm", fn := fun _ => fun
  | [d] => { results := [.lit (.bool true)], args := [d] }
  | _ => none }
def fnExactOtherRhythmRow : OpenClaim := { program := "ytdgbjjlmjappaaa", sum := "9086639b3cdd4b78f9f8ce691f6b9a627e872bd32accebef9c373a11a04f6b00", func := "loop.example/g03204/laws.FnExactOtherRhythm", spec := "fnExactOtherRhythm", apart := false }
def FnExactOtherRhythmSaid : Prop := fnExactOtherRhythmRow.holds Try.pinned (OpenSpec.ofChange fnExactOtherRhythmSpec)

/-- ITS FALSE NEIGHBOUR: 'it returns false'. Refute it at one input. -/
def fnExactOtherRhythmWrong : ChangeSpec := { name := "fnExactOtherRhythm", fn := fun _ => fun
  | [d] => { results := [.lit (.bool false)], args := [d] }
  | _ => none }
def FnExactOtherRhythmWrongFalsely : Prop := fnExactOtherRhythmRow.holds Try.pinned (OpenSpec.ofChange fnExactOtherRhythmWrong)

/- THE SECOND FORM. 'bulk': how many values and letters a reading holds, each counted each time it is reached (what is shared counts as often as it is met; a slice's spare places count too). A statement '..UptoSaid' is the law's where the arguments, and the package variables that the reading takes, are together of bulk at most 1048576: NARROWER than '..Said'. Prove '..Said' where nothing that the law and all that it calls make is longer than what came in: it says more and counts as full. Else prove '..UptoSaid'. A law counts once. -/
mutual
def uptoBulk {H : Type} : DataW H → Nat
  | .lit (.string bytes) => bytes.length + 1
  | .lit _ => 1
  | .nil => 1
  | .ptr d => uptoBulk d + 1
  | .slice elems spare => uptoBulkAll elems + uptoBulkAll spare + 1
  | .agg parts => uptoBulkAll parts + 1
  | .iface _ d => uptoBulk d + 1
  | .map entries => uptoBulkEntries entries + 1
  | .held _ => 1
def uptoBulkAll {H : Type} : List (DataW H) → Nat
  | [] => 0
  | d :: r => uptoBulk d + uptoBulkAll r
def uptoBulkEntries {H : Type} : List (Lit × DataW H) → Nat
  | [] => 0
  | x :: r => uptoBulkEntry x + uptoBulkEntries r
def uptoBulkEntry {H : Type} : Lit × DataW H → Nat
  | (.string bytes, d) => bytes.length + uptoBulk d + 1
  | (_, d) => uptoBulk d + 1
 end
def uptoSmall : (H : Type) → List (DataW H) → Bool := fun _ ds => decide (uptoBulkAll ds ≤ 1048576)
def OpenSpec.upto (s : _root_.Go.ChangeSpec) : _root_.Go.OpenSpec := { _root_.Go.OpenSpec.ofChange s with cond := some uptoSmall }

/-- 'laws.FnExactSpanOf', WHERE WHAT IT READS IS OF BULK AT MOST 1048576: true; the input reads as it did. -/
def fnExactSpanOfUptoRow : OpenClaim := { program := "ytdgbjjlmjappaaa", sum := "9086639b3cdd4b78f9f8ce691f6b9a627e872bd32accebef9c373a11a04f6b00", func := "loop.example/g03204/laws.FnExactSpanOf", spec := "fnExactSpanOf", apart := false, narrowed := true }
def FnExactSpanOfUptoSaid : Prop := fnExactSpanOfUptoRow.holds Try.pinned (OpenSpec.upto fnExactSpanOfSpec)

/-- 'laws.FnExactSameVector', WHERE WHAT IT READS IS OF BULK AT MOST 1048576: true; the input reads as it did. -/
def fnExactSameVectorUptoRow : OpenClaim := { program := "ytdgbjjlmjappaaa", sum := "9086639b3cdd4b78f9f8ce691f6b9a627e872bd32accebef9c373a11a04f6b00", func := "loop.example/g03204/laws.FnExactSameVector", spec := "fnExactSameVector", apart := false, narrowed := true }
def FnExactSameVectorUptoSaid : Prop := fnExactSameVectorUptoRow.holds Try.pinned (OpenSpec.upto fnExactSameVectorSpec)

/-- 'laws.FnExactVectorOf', WHERE WHAT IT READS IS OF BULK AT MOST 1048576: true; the input reads as it did. -/
def fnExactVectorOfUptoRow : OpenClaim := { program := "ytdgbjjlmjappaaa", sum := "9086639b3cdd4b78f9f8ce691f6b9a627e872bd32accebef9c373a11a04f6b00", func := "loop.example/g03204/laws.FnExactVectorOf", spec := "fnExactVectorOf", apart := false, narrowed := true }
def FnExactVectorOfUptoSaid : Prop := fnExactVectorOfUptoRow.holds Try.pinned (OpenSpec.upto fnExactVectorOfSpec)

/-- 'laws.FnExactOtherRhythm', WHERE WHAT IT READS IS OF BULK AT MOST 1048576: true; the input reads as it did. -/
def fnExactOtherRhythmUptoRow : OpenClaim := { program := "ytdgbjjlmjappaaa", sum := "9086639b3cdd4b78f9f8ce691f6b9a627e872bd32accebef9c373a11a04f6b00", func := "loop.example/g03204/laws.FnExactOtherRhythm", spec := "fnExactOtherRhythm", apart := false, narrowed := true }
def FnExactOtherRhythmUptoSaid : Prop := fnExactOtherRhythmUptoRow.holds Try.pinned (OpenSpec.upto fnExactOtherRhythmSpec)

end Rows
end Go.Proofs.Ytdgbjjlmjappaaa
