/-
  No cell of these rows narrows 'for every input' (looked for: loops, veiled, ifaces, maps, wideKeys, modest, calm, conditions, laid).
  DERIVED. THE GIVEN ROWS OF THIS SEAT. 7 by the template 'for every input the law returns true; each argument reads behind the call as it read before'; 0 by the template 'total and deterministic' (their statements: YtopfenhphnmfkaaTotals.lean).
  GIVEN WITH THE SEED: the statements are not yours to turn. If you find one false, say at which input.
  Laid BY PROGRAM, IN A SANDBOX (cutbox-rows.mjs): the forced cells as the released guide's own fill.sh prints them over the translation 120b9130abf56c0c… (all of the seat's roots in one cut). By AI agents, Wed Nov 11 2026. No macro, syntax, notation, axiom, sorry.
-/
import Derived.Test.YtopfenhphnmfkaaChecked
import GoSem.Claim
import GoSem.ClaimJoined
import GoSem.ClaimMapViews
import Derived.JoinedTies
import Derived.KernelRfl
namespace Go.Proofs.Ytopfenhphnmfkaa
/- THE CELL 'sum', in the pinned program and in every row, IS THE sha256 OF THE DUMP (.gsa) THAT YtopfenhphnmfkaaProg.lean LOADS. Nothing in Lean hashes anything: it is a label: what it is worth is what the hold of that sum in a sandbox is worth. -/
noncomputable def Try.pinned : Pinned := { name := "ytopfenhphnmfkaa", sum := "120b9130abf56c0c8bff6210f892aad375db41a7ee07f7efdace5b5eb1dfac89", checked := Try.checked }
namespace Rows
def none {H : Type} : Left H := { results := [], args := [] }

/-- 'laws.FnForms': WHATEVER THE INPUT: true; the input reads as it did. -/
def fnFormsSpec : ChangeSpec := { name := "fnForms", fn := fun _ => fun
  | [d] => { results := [.lit (.bool true)], args := [d] }
  | _ => none }
def fnFormsRow : OpenClaim := { program := "ytopfenhphnmfkaa", sum := "120b9130abf56c0c8bff6210f892aad375db41a7ee07f7efdace5b5eb1dfac89", func := "loop.example/g03204/laws.FnForms", spec := "fnForms", unfollowed := true, recurses := true, apart := false }
def FnFormsSaid : Prop := fnFormsRow.holds Try.pinned (OpenSpec.ofChange fnFormsSpec)

/-- ITS FALSE NEIGHBOUR: 'it returns false'. Refute it at one input. -/
def fnFormsWrong : ChangeSpec := { name := "fnForms", fn := fun _ => fun
  | [d] => { results := [.lit (.bool false)], args := [d] }
  | _ => none }
def FnFormsWrongFalsely : Prop := fnFormsRow.holds Try.pinned (OpenSpec.ofChange fnFormsWrong)

/-- 'laws.FnExactOverlapsOf': WHATEVER THE INPUT: true; the input reads as it did. -/
def fnExactOverlapsOfSpec : ChangeSpec := { name := "fnExactOverlapsOf", fn := fun _ => fun
  | [d1, d2] => { results := [.lit (.bool true)], args := [d1, d2] }
  | _ => none }
def fnExactOverlapsOfRow : OpenClaim := { program := "ytopfenhphnmfkaa", sum := "120b9130abf56c0c8bff6210f892aad375db41a7ee07f7efdace5b5eb1dfac89", func := "loop.example/g03204/laws.FnExactOverlapsOf", spec := "fnExactOverlapsOf", unfollowed := true, recurses := true, apart := false }
def FnExactOverlapsOfSaid : Prop := fnExactOverlapsOfRow.holds Try.pinned (OpenSpec.ofChange fnExactOverlapsOfSpec)

/-- ITS FALSE NEIGHBOUR: 'it returns false'. Refute it at one input. -/
def fnExactOverlapsOfWrong : ChangeSpec := { name := "fnExactOverlapsOf", fn := fun _ => fun
  | [d1, d2] => { results := [.lit (.bool false)], args := [d1, d2] }
  | _ => none }
def FnExactOverlapsOfWrongFalsely : Prop := fnExactOverlapsOfRow.holds Try.pinned (OpenSpec.ofChange fnExactOverlapsOfWrong)

/-- 'laws.FnExactAreTwins': WHATEVER THE INPUT: true; the input reads as it did. -/
def fnExactAreTwinsSpec : ChangeSpec := { name := "fnExactAreTwins", fn := fun _ => fun
  | [d1, d2] => { results := [.lit (.bool true)], args := [d1, d2] }
  | _ => none }
def fnExactAreTwinsRow : OpenClaim := { program := "ytopfenhphnmfkaa", sum := "120b9130abf56c0c8bff6210f892aad375db41a7ee07f7efdace5b5eb1dfac89", func := "loop.example/g03204/laws.FnExactAreTwins", spec := "fnExactAreTwins", unfollowed := true, recurses := true, apart := false }
def FnExactAreTwinsSaid : Prop := fnExactAreTwinsRow.holds Try.pinned (OpenSpec.ofChange fnExactAreTwinsSpec)

/-- ITS FALSE NEIGHBOUR: 'it returns false'. Refute it at one input. -/
def fnExactAreTwinsWrong : ChangeSpec := { name := "fnExactAreTwins", fn := fun _ => fun
  | [d1, d2] => { results := [.lit (.bool false)], args := [d1, d2] }
  | _ => none }
def FnExactAreTwinsWrongFalsely : Prop := fnExactAreTwinsRow.holds Try.pinned (OpenSpec.ofChange fnExactAreTwinsWrong)

/-- 'laws.FnExactRotationsOf': WHATEVER THE INPUT: true; the input reads as it did. -/
def fnExactRotationsOfSpec : ChangeSpec := { name := "fnExactRotationsOf", fn := fun _ => fun
  | [d] => { results := [.lit (.bool true)], args := [d] }
  | _ => none }
def fnExactRotationsOfRow : OpenClaim := { program := "ytopfenhphnmfkaa", sum := "120b9130abf56c0c8bff6210f892aad375db41a7ee07f7efdace5b5eb1dfac89", func := "loop.example/g03204/laws.FnExactRotationsOf", spec := "fnExactRotationsOf", unfollowed := true, recurses := true, apart := false }
def FnExactRotationsOfSaid : Prop := fnExactRotationsOfRow.holds Try.pinned (OpenSpec.ofChange fnExactRotationsOfSpec)

/-- ITS FALSE NEIGHBOUR: 'it returns false'. Refute it at one input. -/
def fnExactRotationsOfWrong : ChangeSpec := { name := "fnExactRotationsOf", fn := fun _ => fun
  | [d] => { results := [.lit (.bool false)], args := [d] }
  | _ => none }
def FnExactRotationsOfWrongFalsely : Prop := fnExactRotationsOfRow.holds Try.pinned (OpenSpec.ofChange fnExactRotationsOfWrong)

/-- 'laws.FnRhythms': WHATEVER THE INPUT: true; the input reads as it did. -/
def fnRhythmsSpec : ChangeSpec := { name := "fnRhythms", fn := fun _ => fun
  | [d] => { results := [.lit (.bool true)], args := [d] }
  | _ => none }
def fnRhythmsRow : OpenClaim := { program := "ytopfenhphnmfkaa", sum := "120b9130abf56c0c8bff6210f892aad375db41a7ee07f7efdace5b5eb1dfac89", func := "loop.example/g03204/laws.FnRhythms", spec := "fnRhythms", unfollowed := true, recurses := true, apart := false }
def FnRhythmsSaid : Prop := fnRhythmsRow.holds Try.pinned (OpenSpec.ofChange fnRhythmsSpec)

/-- ITS FALSE NEIGHBOUR: 'it returns false'. Refute it at one input. -/
def fnRhythmsWrong : ChangeSpec := { name := "fnRhythms", fn := fun _ => fun
  | [d] => { results := [.lit (.bool false)], args := [d] }
  | _ => none }
def FnRhythmsWrongFalsely : Prop := fnRhythmsRow.holds Try.pinned (OpenSpec.ofChange fnRhythmsWrong)

/-- 'laws.FnTwins': WHATEVER THE INPUT: true; the input reads as it did. -/
def fnTwinsSpec : ChangeSpec := { name := "fnTwins", fn := fun _ => fun
  | [d] => { results := [.lit (.bool true)], args := [d] }
  | _ => none }
def fnTwinsRow : OpenClaim := { program := "ytopfenhphnmfkaa", sum := "120b9130abf56c0c8bff6210f892aad375db41a7ee07f7efdace5b5eb1dfac89", func := "loop.example/g03204/laws.FnTwins", spec := "fnTwins", inPlace := ["internal/bytealg.MakeNoZero"], unfollowed := true, recurses := true, apart := false }
def FnTwinsSaid : Prop := fnTwinsRow.holds Try.pinned (OpenSpec.ofChange fnTwinsSpec)

/-- ITS FALSE NEIGHBOUR: 'it returns false'. Refute it at one input. -/
def fnTwinsWrong : ChangeSpec := { name := "fnTwins", fn := fun _ => fun
  | [d] => { results := [.lit (.bool false)], args := [d] }
  | _ => none }
def FnTwinsWrongFalsely : Prop := fnTwinsRow.holds Try.pinned (OpenSpec.ofChange fnTwinsWrong)

/-- 'laws.FnExactTwinsOf': WHATEVER THE INPUT: true; the input reads as it did. -/
def fnExactTwinsOfSpec : ChangeSpec := { name := "fnExactTwinsOf", fn := fun _ => fun
  | [d] => { results := [.lit (.bool true)], args := [d] }
  | _ => none }
def fnExactTwinsOfRow : OpenClaim := { program := "ytopfenhphnmfkaa", sum := "120b9130abf56c0c8bff6210f892aad375db41a7ee07f7efdace5b5eb1dfac89", func := "loop.example/g03204/laws.FnExactTwinsOf", spec := "fnExactTwinsOf", unfollowed := true, recurses := true, apart := false }
def FnExactTwinsOfSaid : Prop := fnExactTwinsOfRow.holds Try.pinned (OpenSpec.ofChange fnExactTwinsOfSpec)

/-- ITS FALSE NEIGHBOUR: 'it returns false'. Refute it at one input. -/
def fnExactTwinsOfWrong : ChangeSpec := { name := "fnExactTwinsOf", fn := fun _ => fun
  | [d] => { results := [.lit (.bool false)], args := [d] }
  | _ => none }
def FnExactTwinsOfWrongFalsely : Prop := fnExactTwinsOfRow.holds Try.pinned (OpenSpec.ofChange fnExactTwinsOfWrong)

/- THE SECOND FORM. 'bulk': how many values and letters a reading holds, each counted each time it is reached (what is shared counts as often as it is met; a slice's spare places count too). A statement '..UptoSaid' is the law's where the arguments, and the package variables that the reading takes, are together of bulk at most 1048576: NARROWER than '..Said'. Prove '..Said' where nothing that the law and all that it calls make is longer than what came in: it says more and counts as full. Else prove '..UptoSaid'. A law counts once. -/
mutual
def uptoBulk {H : Type} : DataW H → Nat
  | .lit (.string bytes) => bytes.length + 1
  | .lit _ => 1
  | .nil => 1
  | .ptr d => uptoBulk d + 1
  | .slice elems spare => uptoBulkAll elems + uptoBulkAll spare + 1
  | .agg parts => uptoBulkAll parts + 1
  | .iface _ d => uptoBulk d + 1
  | .map entries => uptoBulkEntries entries + 1
  | .held _ => 1
def uptoBulkAll {H : Type} : List (DataW H) → Nat
  | [] => 0
  | d :: r => uptoBulk d + uptoBulkAll r
def uptoBulkEntries {H : Type} : List (Lit × DataW H) → Nat
  | [] => 0
  | x :: r => uptoBulkEntry x + uptoBulkEntries r
def uptoBulkEntry {H : Type} : Lit × DataW H → Nat
  | (.string bytes, d) => bytes.length + uptoBulk d + 1
  | (_, d) => uptoBulk d + 1
 end
def uptoSmall : (H : Type) → List (DataW H) → Bool := fun _ ds => decide (uptoBulkAll ds ≤ 1048576)
def OpenSpec.upto (s : _root_.Go.ChangeSpec) : _root_.Go.OpenSpec := { _root_.Go.OpenSpec.ofChange s with cond := some uptoSmall }

/-- 'laws.FnForms', WHERE WHAT IT READS IS OF BULK AT MOST 1048576: true; the input reads as it did. -/
def fnFormsUptoRow : OpenClaim := { program := "ytopfenhphnmfkaa", sum := "120b9130abf56c0c8bff6210f892aad375db41a7ee07f7efdace5b5eb1dfac89", func := "loop.example/g03204/laws.FnForms", spec := "fnForms", unfollowed := true, recurses := true, apart := false, narrowed := true }
def FnFormsUptoSaid : Prop := fnFormsUptoRow.holds Try.pinned (OpenSpec.upto fnFormsSpec)

/-- 'laws.FnExactOverlapsOf', WHERE WHAT IT READS IS OF BULK AT MOST 1048576: true; the input reads as it did. -/
def fnExactOverlapsOfUptoRow : OpenClaim := { program := "ytopfenhphnmfkaa", sum := "120b9130abf56c0c8bff6210f892aad375db41a7ee07f7efdace5b5eb1dfac89", func := "loop.example/g03204/laws.FnExactOverlapsOf", spec := "fnExactOverlapsOf", unfollowed := true, recurses := true, apart := false, narrowed := true }
def FnExactOverlapsOfUptoSaid : Prop := fnExactOverlapsOfUptoRow.holds Try.pinned (OpenSpec.upto fnExactOverlapsOfSpec)

/-- 'laws.FnExactAreTwins', WHERE WHAT IT READS IS OF BULK AT MOST 1048576: true; the input reads as it did. -/
def fnExactAreTwinsUptoRow : OpenClaim := { program := "ytopfenhphnmfkaa", sum := "120b9130abf56c0c8bff6210f892aad375db41a7ee07f7efdace5b5eb1dfac89", func := "loop.example/g03204/laws.FnExactAreTwins", spec := "fnExactAreTwins", unfollowed := true, recurses := true, apart := false, narrowed := true }
def FnExactAreTwinsUptoSaid : Prop := fnExactAreTwinsUptoRow.holds Try.pinned (OpenSpec.upto fnExactAreTwinsSpec)

/-- 'laws.FnExactRotationsOf', WHERE WHAT IT READS IS OF BULK AT MOST 1048576: true; the input reads as it did. -/
def fnExactRotationsOfUptoRow : OpenClaim := { program := "ytopfenhphnmfkaa", sum := "120b9130abf56c0c8bff6210f892aad375db41a7ee07f7efdace5b5eb1dfac89", func := "loop.example/g03204/laws.FnExactRotationsOf", spec := "fnExactRotationsOf", unfollowed := true, recurses := true, apart := false, narrowed := true }
def FnExactRotationsOfUptoSaid : Prop := fnExactRotationsOfUptoRow.holds Try.pinned (OpenSpec.upto fnExactRotationsOfSpec)

/-- 'laws.FnRhythms', WHERE WHAT IT READS IS OF BULK AT MOST 1048576: true; the input reads as it did. -/
def fnRhythmsUptoRow : OpenClaim := { program := "ytopfenhphnmfkaa", sum := "120b9130abf56c0c8bff6210f892aad375db41a7ee07f7efdace5b5eb1dfac89", func := "loop.example/g03204/laws.FnRhythms", spec := "fnRhythms", unfollowed := true, recurses := true, apart := false, narrowed := true }
def FnRhythmsUptoSaid : Prop := fnRhythmsUptoRow.holds Try.pinned (OpenSpec.upto fnRhythmsSpec)

/-- 'laws.FnTwins', WHERE WHAT IT READS IS OF BULK AT MOST 1048576: true; the input reads as it did. -/
def fnTwinsUptoRow : OpenClaim := { program := "ytopfenhphnmfkaa", sum := "120b9130abf56c0c8bff6210f892aad375db41a7ee07f7efdace5b5eb1dfac89", func := "loop.example/g03204/laws.FnTwins", spec := "fnTwins", inPlace := ["internal/bytealg.MakeNoZero"], unfollowed := true, recurses := true, apart := false, narrowed := true }
def FnTwinsUptoSaid : Prop := fnTwinsUptoRow.holds Try.pinned (OpenSpec.upto fnTwinsSpec)

/-- 'laws.FnExactTwinsOf', WHERE WHAT IT READS IS OF BULK AT MOST 1048576: true; the input reads as it did. -/
def fnExactTwinsOfUptoRow : OpenClaim := { program := "ytopfenhphnmfkaa", sum := "120b9130abf56c0c8bff6210f892aad375db41a7ee07f7efdace5b5eb1dfac89", func := "loop.example/g03204/laws.FnExactTwinsOf", spec := "fnExactTwinsOf", unfollowed := true, recurses := true, apart := false, narrowed := true }
def FnExactTwinsOfUptoSaid : Prop := fnExactTwinsOfUptoRow.holds Try.pinned (OpenSpec.upto fnExactTwinsOfSpec)

end Rows
end Go.Proofs.Ytopfenhphnmfkaa
