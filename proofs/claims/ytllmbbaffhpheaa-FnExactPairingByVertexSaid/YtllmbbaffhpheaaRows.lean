/-
  No cell of these rows narrows 'for every input' (looked for: loops, veiled, ifaces, maps, wideKeys, modest, calm, conditions, laid).
  DERIVED. THE GIVEN ROWS OF THIS SEAT. 12 by the template 'for every input the law returns true; each argument reads behind the call as it read before'; 0 by the template 'total and deterministic' (their statements: YtllmbbaffhpheaaTotals.lean).
  GIVEN WITH THE SEED: the statements are not yours to turn. If you find one false, say at which input.
  Laid BY PROGRAM, IN A SANDBOX (cutbox-rows.mjs): the forced cells as the released guide's own fill.sh prints them over the translation 8991c366003feca0… (all of the seat's roots in one cut). By AI agents, Wed Nov 11 2026. No macro, syntax, notation, axiom, sorry.
-/
import Derived.Test.YtllmbbaffhpheaaChecked
import GoSem.Claim
import GoSem.ClaimJoined
import GoSem.ClaimMapViews
import Derived.JoinedTies
import Derived.KernelRfl
namespace Go.Proofs.Ytllmbbaffhpheaa
/- THE CELL 'sum', in the pinned program and in every row, IS THE sha256 OF THE DUMP (.gsa) THAT YtllmbbaffhpheaaProg.lean LOADS. Nothing in Lean hashes anything: it is a label: what it is worth is what the hold of that sum in a sandbox is worth. -/
noncomputable def Try.pinned : Pinned := { name := "ytllmbbaffhpheaa", sum := "8991c366003feca0d7bc4ccc8fd0db744760eb42f3556aee2621c9a3347d6be0", checked := Try.checked }
namespace Rows
def none {H : Type} : Left H := { results := [], args := [] }

/-- 'laws.FnExactAreContiguous': WHATEVER THE INPUT: true; the input reads as it did. -/
def fnExactAreContiguousSpec : ChangeSpec := { name := "fnExactAreContiguous", fn := fun _ => fun
  | [d1, d2, d3, d4] => { results := [.lit (.bool true)], args := [d1, d2, d3, d4] }
  | _ => none }
def fnExactAreContiguousRow : OpenClaim := { program := "ytllmbbaffhpheaa", sum := "8991c366003feca0d7bc4ccc8fd0db744760eb42f3556aee2621c9a3347d6be0", func := "loop.example/g01348/laws.FnExactAreContiguous", spec := "fnExactAreContiguous", unfollowed := true, recurses := true, plainKeys := false, apart := false }
def FnExactAreContiguousSaid : Prop := fnExactAreContiguousRow.holds Try.pinned (OpenSpec.ofChange fnExactAreContiguousSpec)

/-- ITS FALSE NEIGHBOUR: 'it returns false'. Refute it at one input. -/
def fnExactAreContiguousWrong : ChangeSpec := { name := "fnExactAreContiguous", fn := fun _ => fun
  | [d1, d2, d3, d4] => { results := [.lit (.bool false)], args := [d1, d2, d3, d4] }
  | _ => none }
def FnExactAreContiguousWrongFalsely : Prop := fnExactAreContiguousRow.holds Try.pinned (OpenSpec.ofChange fnExactAreContiguousWrong)

/-- 'laws.FnExactComposeMaps': WHATEVER THE INPUT: true; the input reads as it did. -/
def fnExactComposeMapsSpec : ChangeSpec := { name := "fnExactComposeMaps", fn := fun _ => fun
  | [d1, d2, d3, d4, d5] => { results := [.lit (.bool true)], args := [d1, d2, d3, d4, d5] }
  | _ => none }
def fnExactComposeMapsRow : OpenClaim := { program := "ytllmbbaffhpheaa", sum := "8991c366003feca0d7bc4ccc8fd0db744760eb42f3556aee2621c9a3347d6be0", func := "loop.example/g01348/laws.FnExactComposeMaps", spec := "fnExactComposeMaps", unfollowed := true, recurses := true, plainKeys := false, apart := false }
def FnExactComposeMapsSaid : Prop := fnExactComposeMapsRow.holds Try.pinned (OpenSpec.ofChange fnExactComposeMapsSpec)

/-- ITS FALSE NEIGHBOUR: 'it returns false'. Refute it at one input. -/
def fnExactComposeMapsWrong : ChangeSpec := { name := "fnExactComposeMaps", fn := fun _ => fun
  | [d1, d2, d3, d4, d5] => { results := [.lit (.bool false)], args := [d1, d2, d3, d4, d5] }
  | _ => none }
def FnExactComposeMapsWrongFalsely : Prop := fnExactComposeMapsRow.holds Try.pinned (OpenSpec.ofChange fnExactComposeMapsWrong)

/-- 'laws.FnExactIsEvasive': WHATEVER THE INPUT: true; the input reads as it did. -/
def fnExactIsEvasiveSpec : ChangeSpec := { name := "fnExactIsEvasive", fn := fun _ => fun
  | [d] => { results := [.lit (.bool true)], args := [d] }
  | _ => none }
def fnExactIsEvasiveRow : OpenClaim := { program := "ytllmbbaffhpheaa", sum := "8991c366003feca0d7bc4ccc8fd0db744760eb42f3556aee2621c9a3347d6be0", func := "loop.example/g01348/laws.FnExactIsEvasive", spec := "fnExactIsEvasive", unfollowed := true, recurses := true, plainKeys := false, apart := false }
def FnExactIsEvasiveSaid : Prop := fnExactIsEvasiveRow.holds Try.pinned (OpenSpec.ofChange fnExactIsEvasiveSpec)

/-- ITS FALSE NEIGHBOUR: 'it returns false'. Refute it at one input. -/
def fnExactIsEvasiveWrong : ChangeSpec := { name := "fnExactIsEvasive", fn := fun _ => fun
  | [d] => { results := [.lit (.bool false)], args := [d] }
  | _ => none }
def FnExactIsEvasiveWrongFalsely : Prop := fnExactIsEvasiveRow.holds Try.pinned (OpenSpec.ofChange fnExactIsEvasiveWrong)

/-- 'laws.FnExactQuestionNumber': WHATEVER THE INPUT: true; the input reads as it did. -/
def fnExactQuestionNumberSpec : ChangeSpec := { name := "fnExactQuestionNumber", fn := fun _ => fun
  | [d] => { results := [.lit (.bool true)], args := [d] }
  | _ => none }
def fnExactQuestionNumberRow : OpenClaim := { program := "ytllmbbaffhpheaa", sum := "8991c366003feca0d7bc4ccc8fd0db744760eb42f3556aee2621c9a3347d6be0", func := "loop.example/g01348/laws.FnExactQuestionNumber", spec := "fnExactQuestionNumber", unfollowed := true, recurses := true, plainKeys := false, apart := false }
def FnExactQuestionNumberSaid : Prop := fnExactQuestionNumberRow.holds Try.pinned (OpenSpec.ofChange fnExactQuestionNumberSpec)

/-- ITS FALSE NEIGHBOUR: 'it returns false'. Refute it at one input. -/
def fnExactQuestionNumberWrong : ChangeSpec := { name := "fnExactQuestionNumber", fn := fun _ => fun
  | [d] => { results := [.lit (.bool false)], args := [d] }
  | _ => none }
def FnExactQuestionNumberWrongFalsely : Prop := fnExactQuestionNumberRow.holds Try.pinned (OpenSpec.ofChange fnExactQuestionNumberWrong)

/-- 'laws.FnExactPairingByVertex': WHATEVER THE INPUT: true; the input reads as it did. -/
def fnExactPairingByVertexSpec : ChangeSpec := { name := "fnExactPairingByVertex", fn := fun _ => fun
  | [d1, d2] => { results := [.lit (.bool true)], args := [d1, d2] }
  | _ => none }
def fnExactPairingByVertexRow : OpenClaim := { program := "ytllmbbaffhpheaa", sum := "8991c366003feca0d7bc4ccc8fd0db744760eb42f3556aee2621c9a3347d6be0", func := "loop.example/g01348/laws.FnExactPairingByVertex", spec := "fnExactPairingByVertex", unfollowed := true, recurses := true, plainKeys := false, apart := false }
def FnExactPairingByVertexSaid : Prop := fnExactPairingByVertexRow.holds Try.pinned (OpenSpec.ofChange fnExactPairingByVertexSpec)

/-- ITS FALSE NEIGHBOUR: 'it returns false'. Refute it at one input. -/
def fnExactPairingByVertexWrong : ChangeSpec := { name := "fnExactPairingByVertex", fn := fun _ => fun
  | [d1, d2] => { results := [.lit (.bool false)], args := [d1, d2] }
  | _ => none }
def FnExactPairingByVertexWrongFalsely : Prop := fnExactPairingByVertexRow.holds Try.pinned (OpenSpec.ofChange fnExactPairingByVertexWrong)

/-- 'laws.FnExactLevelAt': WHATEVER THE INPUT: true; the input reads as it did. -/
def fnExactLevelAtSpec : ChangeSpec := { name := "fnExactLevelAt", fn := fun _ => fun
  | [d1, d2, d3] => { results := [.lit (.bool true)], args := [d1, d2, d3] }
  | _ => none }
def fnExactLevelAtRow : OpenClaim := { program := "ytllmbbaffhpheaa", sum := "8991c366003feca0d7bc4ccc8fd0db744760eb42f3556aee2621c9a3347d6be0", func := "loop.example/g01348/laws.FnExactLevelAt", spec := "fnExactLevelAt", unfollowed := true, recurses := true, plainKeys := false, apart := false }
def FnExactLevelAtSaid : Prop := fnExactLevelAtRow.holds Try.pinned (OpenSpec.ofChange fnExactLevelAtSpec)

/-- ITS FALSE NEIGHBOUR: 'it returns false'. Refute it at one input. -/
def fnExactLevelAtWrong : ChangeSpec := { name := "fnExactLevelAt", fn := fun _ => fun
  | [d1, d2, d3] => { results := [.lit (.bool false)], args := [d1, d2, d3] }
  | _ => none }
def FnExactLevelAtWrongFalsely : Prop := fnExactLevelAtRow.holds Try.pinned (OpenSpec.ofChange fnExactLevelAtWrong)

/-- 'laws.FnExactFixedFaces': WHATEVER THE INPUT: true; the input reads as it did. -/
def fnExactFixedFacesSpec : ChangeSpec := { name := "fnExactFixedFaces", fn := fun _ => fun
  | [d1, d2] => { results := [.lit (.bool true)], args := [d1, d2] }
  | _ => none }
def fnExactFixedFacesRow : OpenClaim := { program := "ytllmbbaffhpheaa", sum := "8991c366003feca0d7bc4ccc8fd0db744760eb42f3556aee2621c9a3347d6be0", func := "loop.example/g01348/laws.FnExactFixedFaces", spec := "fnExactFixedFaces", unfollowed := true, recurses := true, plainKeys := false, apart := false }
def FnExactFixedFacesSaid : Prop := fnExactFixedFacesRow.holds Try.pinned (OpenSpec.ofChange fnExactFixedFacesSpec)

/-- ITS FALSE NEIGHBOUR: 'it returns false'. Refute it at one input. -/
def fnExactFixedFacesWrong : ChangeSpec := { name := "fnExactFixedFaces", fn := fun _ => fun
  | [d1, d2] => { results := [.lit (.bool false)], args := [d1, d2] }
  | _ => none }
def FnExactFixedFacesWrongFalsely : Prop := fnExactFixedFacesRow.holds Try.pinned (OpenSpec.ofChange fnExactFixedFacesWrong)

/-- 'laws.FnExactLeastEvaders': WHATEVER THE INPUT: true; the input reads as it did. -/
def fnExactLeastEvadersSpec : ChangeSpec := { name := "fnExactLeastEvaders", fn := fun _ => fun
  | [d] => { results := [.lit (.bool true)], args := [d] }
  | _ => none }
def fnExactLeastEvadersRow : OpenClaim := { program := "ytllmbbaffhpheaa", sum := "8991c366003feca0d7bc4ccc8fd0db744760eb42f3556aee2621c9a3347d6be0", func := "loop.example/g01348/laws.FnExactLeastEvaders", spec := "fnExactLeastEvaders", unfollowed := true, recurses := true, plainKeys := false, apart := false }
def FnExactLeastEvadersSaid : Prop := fnExactLeastEvadersRow.holds Try.pinned (OpenSpec.ofChange fnExactLeastEvadersSpec)

/-- ITS FALSE NEIGHBOUR: 'it returns false'. Refute it at one input. -/
def fnExactLeastEvadersWrong : ChangeSpec := { name := "fnExactLeastEvaders", fn := fun _ => fun
  | [d] => { results := [.lit (.bool false)], args := [d] }
  | _ => none }
def FnExactLeastEvadersWrongFalsely : Prop := fnExactLeastEvadersRow.holds Try.pinned (OpenSpec.ofChange fnExactLeastEvadersWrong)

/-- 'laws.FnExactIsCycle': WHATEVER THE INPUT: true; the input reads as it did. -/
def fnExactIsCycleSpec : ChangeSpec := { name := "fnExactIsCycle", fn := fun _ => fun
  | [d1, d2] => { results := [.lit (.bool true)], args := [d1, d2] }
  | _ => none }
def fnExactIsCycleRow : OpenClaim := { program := "ytllmbbaffhpheaa", sum := "8991c366003feca0d7bc4ccc8fd0db744760eb42f3556aee2621c9a3347d6be0", func := "loop.example/g01348/laws.FnExactIsCycle", spec := "fnExactIsCycle", unfollowed := true, recurses := true, plainKeys := false, apart := false }
def FnExactIsCycleSaid : Prop := fnExactIsCycleRow.holds Try.pinned (OpenSpec.ofChange fnExactIsCycleSpec)

/-- ITS FALSE NEIGHBOUR: 'it returns false'. Refute it at one input. -/
def fnExactIsCycleWrong : ChangeSpec := { name := "fnExactIsCycle", fn := fun _ => fun
  | [d1, d2] => { results := [.lit (.bool false)], args := [d1, d2] }
  | _ => none }
def FnExactIsCycleWrongFalsely : Prop := fnExactIsCycleRow.holds Try.pinned (OpenSpec.ofChange fnExactIsCycleWrong)

/-- 'laws.FnExactOpenFibre': WHATEVER THE INPUT: true; the input reads as it did. -/
def fnExactOpenFibreSpec : ChangeSpec := { name := "fnExactOpenFibre", fn := fun _ => fun
  | [d1, d2, d3, d4] => { results := [.lit (.bool true)], args := [d1, d2, d3, d4] }
  | _ => none }
def fnExactOpenFibreRow : OpenClaim := { program := "ytllmbbaffhpheaa", sum := "8991c366003feca0d7bc4ccc8fd0db744760eb42f3556aee2621c9a3347d6be0", func := "loop.example/g01348/laws.FnExactOpenFibre", spec := "fnExactOpenFibre", unfollowed := true, recurses := true, plainKeys := false, apart := false }
def FnExactOpenFibreSaid : Prop := fnExactOpenFibreRow.holds Try.pinned (OpenSpec.ofChange fnExactOpenFibreSpec)

/-- ITS FALSE NEIGHBOUR: 'it returns false'. Refute it at one input. -/
def fnExactOpenFibreWrong : ChangeSpec := { name := "fnExactOpenFibre", fn := fun _ => fun
  | [d1, d2, d3, d4] => { results := [.lit (.bool false)], args := [d1, d2, d3, d4] }
  | _ => none }
def FnExactOpenFibreWrongFalsely : Prop := fnExactOpenFibreRow.holds Try.pinned (OpenSpec.ofChange fnExactOpenFibreWrong)

/-- 'laws.FnExactFibreOf': WHATEVER THE INPUT: true; the input reads as it did. -/
def fnExactFibreOfSpec : ChangeSpec := { name := "fnExactFibreOf", fn := fun _ => fun
  | [d1, d2, d3, d4] => { results := [.lit (.bool true)], args := [d1, d2, d3, d4] }
  | _ => none }
def fnExactFibreOfRow : OpenClaim := { program := "ytllmbbaffhpheaa", sum := "8991c366003feca0d7bc4ccc8fd0db744760eb42f3556aee2621c9a3347d6be0", func := "loop.example/g01348/laws.FnExactFibreOf", spec := "fnExactFibreOf", unfollowed := true, recurses := true, plainKeys := false, apart := false }
def FnExactFibreOfSaid : Prop := fnExactFibreOfRow.holds Try.pinned (OpenSpec.ofChange fnExactFibreOfSpec)

/-- ITS FALSE NEIGHBOUR: 'it returns false'. Refute it at one input. -/
def fnExactFibreOfWrong : ChangeSpec := { name := "fnExactFibreOf", fn := fun _ => fun
  | [d1, d2, d3, d4] => { results := [.lit (.bool false)], args := [d1, d2, d3, d4] }
  | _ => none }
def FnExactFibreOfWrongFalsely : Prop := fnExactFibreOfRow.holds Try.pinned (OpenSpec.ofChange fnExactFibreOfWrong)

/-- 'laws.FnExactImageComplex': WHATEVER THE INPUT: true; the input reads as it did. -/
def fnExactImageComplexSpec : ChangeSpec := { name := "fnExactImageComplex", fn := fun _ => fun
  | [d1, d2, d3] => { results := [.lit (.bool true)], args := [d1, d2, d3] }
  | _ => none }
def fnExactImageComplexRow : OpenClaim := { program := "ytllmbbaffhpheaa", sum := "8991c366003feca0d7bc4ccc8fd0db744760eb42f3556aee2621c9a3347d6be0", func := "loop.example/g01348/laws.FnExactImageComplex", spec := "fnExactImageComplex", unfollowed := true, recurses := true, plainKeys := false, apart := false }
def FnExactImageComplexSaid : Prop := fnExactImageComplexRow.holds Try.pinned (OpenSpec.ofChange fnExactImageComplexSpec)

/-- ITS FALSE NEIGHBOUR: 'it returns false'. Refute it at one input. -/
def fnExactImageComplexWrong : ChangeSpec := { name := "fnExactImageComplex", fn := fun _ => fun
  | [d1, d2, d3] => { results := [.lit (.bool false)], args := [d1, d2, d3] }
  | _ => none }
def FnExactImageComplexWrongFalsely : Prop := fnExactImageComplexRow.holds Try.pinned (OpenSpec.ofChange fnExactImageComplexWrong)

/- THE SECOND FORM. 'bulk': how many values and letters a reading holds, each counted each time it is reached (what is shared counts as often as it is met; a slice's spare places count too). A statement '..UptoSaid' is the law's where the arguments, and the package variables that the reading takes, are together of bulk at most 1048576: NARROWER than '..Said'. Prove '..Said' where nothing that the law and all that it calls make is longer than what came in: it says more and counts as full. Else prove '..UptoSaid'. A law counts once. -/
mutual
def uptoBulk {H : Type} : DataW H → Nat
  | .lit (.string bytes) => bytes.length + 1
  | .lit _ => 1
  | .nil => 1
  | .ptr d => uptoBulk d + 1
  | .slice elems spare => uptoBulkAll elems + uptoBulkAll spare + 1
  | .agg parts => uptoBulkAll parts + 1
  | .iface _ d => uptoBulk d + 1
  | .map entries => uptoBulkEntries entries + 1
  | .held _ => 1
def uptoBulkAll {H : Type} : List (DataW H) → Nat
  | [] => 0
  | d :: r => uptoBulk d + uptoBulkAll r
def uptoBulkEntries {H : Type} : List (Lit × DataW H) → Nat
  | [] => 0
  | x :: r => uptoBulkEntry x + uptoBulkEntries r
def uptoBulkEntry {H : Type} : Lit × DataW H → Nat
  | (.string bytes, d) => bytes.length + uptoBulk d + 1
  | (_, d) => uptoBulk d + 1
 end
def uptoSmall : (H : Type) → List (DataW H) → Bool := fun _ ds => decide (uptoBulkAll ds ≤ 1048576)
def OpenSpec.upto (s : _root_.Go.ChangeSpec) : _root_.Go.OpenSpec := { _root_.Go.OpenSpec.ofChange s with cond := some uptoSmall }

/-- 'laws.FnExactAreContiguous', WHERE WHAT IT READS IS OF BULK AT MOST 1048576: true; the input reads as it did. -/
def fnExactAreContiguousUptoRow : OpenClaim := { program := "ytllmbbaffhpheaa", sum := "8991c366003feca0d7bc4ccc8fd0db744760eb42f3556aee2621c9a3347d6be0", func := "loop.example/g01348/laws.FnExactAreContiguous", spec := "fnExactAreContiguous", unfollowed := true, recurses := true, plainKeys := false, apart := false, narrowed := true }
def FnExactAreContiguousUptoSaid : Prop := fnExactAreContiguousUptoRow.holds Try.pinned (OpenSpec.upto fnExactAreContiguousSpec)

/-- 'laws.FnExactComposeMaps', WHERE WHAT IT READS IS OF BULK AT MOST 1048576: true; the input reads as it did. -/
def fnExactComposeMapsUptoRow : OpenClaim := { program := "ytllmbbaffhpheaa", sum := "8991c366003feca0d7bc4ccc8fd0db744760eb42f3556aee2621c9a3347d6be0", func := "loop.example/g01348/laws.FnExactComposeMaps", spec := "fnExactComposeMaps", unfollowed := true, recurses := true, plainKeys := false, apart := false, narrowed := true }
def FnExactComposeMapsUptoSaid : Prop := fnExactComposeMapsUptoRow.holds Try.pinned (OpenSpec.upto fnExactComposeMapsSpec)

/-- 'laws.FnExactIsEvasive', WHERE WHAT IT READS IS OF BULK AT MOST 1048576: true; the input reads as it did. -/
def fnExactIsEvasiveUptoRow : OpenClaim := { program := "ytllmbbaffhpheaa", sum := "8991c366003feca0d7bc4ccc8fd0db744760eb42f3556aee2621c9a3347d6be0", func := "loop.example/g01348/laws.FnExactIsEvasive", spec := "fnExactIsEvasive", unfollowed := true, recurses := true, plainKeys := false, apart := false, narrowed := true }
def FnExactIsEvasiveUptoSaid : Prop := fnExactIsEvasiveUptoRow.holds Try.pinned (OpenSpec.upto fnExactIsEvasiveSpec)

/-- 'laws.FnExactQuestionNumber', WHERE WHAT IT READS IS OF BULK AT MOST 1048576: true; the input reads as it did. -/
def fnExactQuestionNumberUptoRow : OpenClaim := { program := "ytllmbbaffhpheaa", sum := "8991c366003feca0d7bc4ccc8fd0db744760eb42f3556aee2621c9a3347d6be0", func := "loop.example/g01348/laws.FnExactQuestionNumber", spec := "fnExactQuestionNumber", unfollowed := true, recurses := true, plainKeys := false, apart := false, narrowed := true }
def FnExactQuestionNumberUptoSaid : Prop := fnExactQuestionNumberUptoRow.holds Try.pinned (OpenSpec.upto fnExactQuestionNumberSpec)

/-- 'laws.FnExactPairingByVertex', WHERE WHAT IT READS IS OF BULK AT MOST 1048576: true; the input reads as it did. -/
def fnExactPairingByVertexUptoRow : OpenClaim := { program := "ytllmbbaffhpheaa", sum := "8991c366003feca0d7bc4ccc8fd0db744760eb42f3556aee2621c9a3347d6be0", func := "loop.example/g01348/laws.FnExactPairingByVertex", spec := "fnExactPairingByVertex", unfollowed := true, recurses := true, plainKeys := false, apart := false, narrowed := true }
def FnExactPairingByVertexUptoSaid : Prop := fnExactPairingByVertexUptoRow.holds Try.pinned (OpenSpec.upto fnExactPairingByVertexSpec)

/-- 'laws.FnExactLevelAt', WHERE WHAT IT READS IS OF BULK AT MOST 1048576: true; the input reads as it did. -/
def fnExactLevelAtUptoRow : OpenClaim := { program := "ytllmbbaffhpheaa", sum := "8991c366003feca0d7bc4ccc8fd0db744760eb42f3556aee2621c9a3347d6be0", func := "loop.example/g01348/laws.FnExactLevelAt", spec := "fnExactLevelAt", unfollowed := true, recurses := true, plainKeys := false, apart := false, narrowed := true }
def FnExactLevelAtUptoSaid : Prop := fnExactLevelAtUptoRow.holds Try.pinned (OpenSpec.upto fnExactLevelAtSpec)

/-- 'laws.FnExactFixedFaces', WHERE WHAT IT READS IS OF BULK AT MOST 1048576: true; the input reads as it did. -/
def fnExactFixedFacesUptoRow : OpenClaim := { program := "ytllmbbaffhpheaa", sum := "8991c366003feca0d7bc4ccc8fd0db744760eb42f3556aee2621c9a3347d6be0", func := "loop.example/g01348/laws.FnExactFixedFaces", spec := "fnExactFixedFaces", unfollowed := true, recurses := true, plainKeys := false, apart := false, narrowed := true }
def FnExactFixedFacesUptoSaid : Prop := fnExactFixedFacesUptoRow.holds Try.pinned (OpenSpec.upto fnExactFixedFacesSpec)

/-- 'laws.FnExactLeastEvaders', WHERE WHAT IT READS IS OF BULK AT MOST 1048576: true; the input reads as it did. -/
def fnExactLeastEvadersUptoRow : OpenClaim := { program := "ytllmbbaffhpheaa", sum := "8991c366003feca0d7bc4ccc8fd0db744760eb42f3556aee2621c9a3347d6be0", func := "loop.example/g01348/laws.FnExactLeastEvaders", spec := "fnExactLeastEvaders", unfollowed := true, recurses := true, plainKeys := false, apart := false, narrowed := true }
def FnExactLeastEvadersUptoSaid : Prop := fnExactLeastEvadersUptoRow.holds Try.pinned (OpenSpec.upto fnExactLeastEvadersSpec)

/-- 'laws.FnExactIsCycle', WHERE WHAT IT READS IS OF BULK AT MOST 1048576: true; the input reads as it did. -/
def fnExactIsCycleUptoRow : OpenClaim := { program := "ytllmbbaffhpheaa", sum := "8991c366003feca0d7bc4ccc8fd0db744760eb42f3556aee2621c9a3347d6be0", func := "loop.example/g01348/laws.FnExactIsCycle", spec := "fnExactIsCycle", unfollowed := true, recurses := true, plainKeys := false, apart := false, narrowed := true }
def FnExactIsCycleUptoSaid : Prop := fnExactIsCycleUptoRow.holds Try.pinned (OpenSpec.upto fnExactIsCycleSpec)

/-- 'laws.FnExactOpenFibre', WHERE WHAT IT READS IS OF BULK AT MOST 1048576: true; the input reads as it did. -/
def fnExactOpenFibreUptoRow : OpenClaim := { program := "ytllmbbaffhpheaa", sum := "8991c366003feca0d7bc4ccc8fd0db744760eb42f3556aee2621c9a3347d6be0", func := "loop.example/g01348/laws.FnExactOpenFibre", spec := "fnExactOpenFibre", unfollowed := true, recurses := true, plainKeys := false, apart := false, narrowed := true }
def FnExactOpenFibreUptoSaid : Prop := fnExactOpenFibreUptoRow.holds Try.pinned (OpenSpec.upto fnExactOpenFibreSpec)

/-- 'laws.FnExactFibreOf', WHERE WHAT IT READS IS OF BULK AT MOST 1048576: true; the input reads as it did. -/
def fnExactFibreOfUptoRow : OpenClaim := { program := "ytllmbbaffhpheaa", sum := "8991c366003feca0d7bc4ccc8fd0db744760eb42f3556aee2621c9a3347d6be0", func := "loop.example/g01348/laws.FnExactFibreOf", spec := "fnExactFibreOf", unfollowed := true, recurses := true, plainKeys := false, apart := false, narrowed := true }
def FnExactFibreOfUptoSaid : Prop := fnExactFibreOfUptoRow.holds Try.pinned (OpenSpec.upto fnExactFibreOfSpec)

/-- 'laws.FnExactImageComplex', WHERE WHAT IT READS IS OF BULK AT MOST 1048576: true; the input reads as it did. -/
def fnExactImageComplexUptoRow : OpenClaim := { program := "ytllmbbaffhpheaa", sum := "8991c366003feca0d7bc4ccc8fd0db744760eb42f3556aee2621c9a3347d6be0", func := "loop.example/g01348/laws.FnExactImageComplex", spec := "fnExactImageComplex", unfollowed := true, recurses := true, plainKeys := false, apart := false, narrowed := true }
def FnExactImageComplexUptoSaid : Prop := fnExactImageComplexUptoRow.holds Try.pinned (OpenSpec.upto fnExactImageComplexSpec)

end Rows
end Go.Proofs.Ytllmbbaffhpheaa
