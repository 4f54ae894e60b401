/-
  No cell of these rows narrows 'for every input' (looked for: loops, veiled, ifaces, maps, wideKeys, modest, calm, conditions, laid).
  DERIVED. THE GIVEN ROWS OF THIS SEAT. 6 by the template 'for every input the law returns true; each argument reads behind the call as it read before'; 0 by the template 'total and deterministic' (their statements: YtomofijniefelaaGreatTotals.lean).
  GIVEN WITH THE SEED: the statements are not yours to turn. If you find one false, say at which input.
  Laid BY PROGRAM, IN A SANDBOX (cutbox-rows.mjs): the forced cells as the released guide's own fill.sh prints them over the translation 92fa03f46cc77239… (all of the seat's roots in one cut). By AI agents, Wed Nov 11 2026. No macro, syntax, notation, axiom, sorry.
-/
import Derived.Test.YtomofijniefelaaGreatChecked
import GoSem.Claim
import GoSem.ClaimJoined
import GoSem.ClaimMapViews
import Derived.JoinedTies
import Derived.KernelRfl
namespace Go.Proofs.YtomofijniefelaaGreat
/- THE CELL 'sum', in the pinned program and in every row, IS THE sha256 OF THE DUMP (.gsa) THAT YtomofijniefelaaGreatProg.lean LOADS. Nothing in Lean hashes anything: it is a label: what it is worth is what the hold of that sum in a sandbox is worth. -/
noncomputable def Tryz.pinned : Pinned := { name := "ytomofijniefelaagreat", sum := "92fa03f46cc772392625045a2d79caef3c14623e6b0cd73674fb6a09ba0b9a62", checked := Tryz.checked }
namespace Rows
def none {H : Type} : Left H := { results := [], args := [] }

/-- 'laws.FnMaps': WHATEVER THE INPUT: true; the input reads as it did. -/
def fnMapsSpec : ChangeSpec := { name := "fnMaps", fn := fun _ => fun
  | [d] => { results := [.lit (.bool true)], args := [d] }
  | _ => none }
def fnMapsRow : OpenClaim := { program := "ytomofijniefelaagreat", sum := "92fa03f46cc772392625045a2d79caef3c14623e6b0cd73674fb6a09ba0b9a62", func := "loop.example/g01348/laws.FnMaps", spec := "fnMaps", unfollowed := true, recurses := true, apart := false }
def FnMapsSaid : Prop := fnMapsRow.holds Tryz.pinned (OpenSpec.ofChange fnMapsSpec)

/-- ITS FALSE NEIGHBOUR: 'it returns false'. Refute it at one input. -/
def fnMapsWrong : ChangeSpec := { name := "fnMaps", fn := fun _ => fun
  | [d] => { results := [.lit (.bool false)], args := [d] }
  | _ => none }
def FnMapsWrongFalsely : Prop := fnMapsRow.holds Tryz.pinned (OpenSpec.ofChange fnMapsWrong)

/-- 'laws.FnFlows': WHATEVER THE INPUT: true; the input reads as it did. -/
def fnFlowsSpec : ChangeSpec := { name := "fnFlows", fn := fun _ => fun
  | [d] => { results := [.lit (.bool true)], args := [d] }
  | _ => none }
def fnFlowsRow : OpenClaim := { program := "ytomofijniefelaagreat", sum := "92fa03f46cc772392625045a2d79caef3c14623e6b0cd73674fb6a09ba0b9a62", func := "loop.example/g01348/laws.FnFlows", spec := "fnFlows", unfollowed := true, recurses := true, apart := false }
def FnFlowsSaid : Prop := fnFlowsRow.holds Tryz.pinned (OpenSpec.ofChange fnFlowsSpec)

/-- ITS FALSE NEIGHBOUR: 'it returns false'. Refute it at one input. -/
def fnFlowsWrong : ChangeSpec := { name := "fnFlows", fn := fun _ => fun
  | [d] => { results := [.lit (.bool false)], args := [d] }
  | _ => none }
def FnFlowsWrongFalsely : Prop := fnFlowsRow.holds Tryz.pinned (OpenSpec.ofChange fnFlowsWrong)

/-- 'laws.FnMatchings': WHATEVER THE INPUT: true; the input reads as it did. -/
def fnMatchingsSpec : ChangeSpec := { name := "fnMatchings", fn := fun _ => fun
  | [d] => { results := [.lit (.bool true)], args := [d] }
  | _ => none }
def fnMatchingsRow : OpenClaim := { program := "ytomofijniefelaagreat", sum := "92fa03f46cc772392625045a2d79caef3c14623e6b0cd73674fb6a09ba0b9a62", func := "loop.example/g01348/laws.FnMatchings", spec := "fnMatchings", unfollowed := true, recurses := true, apart := false }
def FnMatchingsSaid : Prop := fnMatchingsRow.holds Tryz.pinned (OpenSpec.ofChange fnMatchingsSpec)

/-- ITS FALSE NEIGHBOUR: 'it returns false'. Refute it at one input. -/
def fnMatchingsWrong : ChangeSpec := { name := "fnMatchings", fn := fun _ => fun
  | [d] => { results := [.lit (.bool false)], args := [d] }
  | _ => none }
def FnMatchingsWrongFalsely : Prop := fnMatchingsRow.holds Tryz.pinned (OpenSpec.ofChange fnMatchingsWrong)

/-- 'laws.FnCyclesAndBounds': WHATEVER THE INPUT: true; the input reads as it did. -/
def fnCyclesAndBoundsSpec : ChangeSpec := { name := "fnCyclesAndBounds", fn := fun _ => fun
  | [d] => { results := [.lit (.bool true)], args := [d] }
  | _ => none }
def fnCyclesAndBoundsRow : OpenClaim := { program := "ytomofijniefelaagreat", sum := "92fa03f46cc772392625045a2d79caef3c14623e6b0cd73674fb6a09ba0b9a62", func := "loop.example/g01348/laws.FnCyclesAndBounds", spec := "fnCyclesAndBounds", unfollowed := true, recurses := true, apart := false }
def FnCyclesAndBoundsSaid : Prop := fnCyclesAndBoundsRow.holds Tryz.pinned (OpenSpec.ofChange fnCyclesAndBoundsSpec)

/-- ITS FALSE NEIGHBOUR: 'it returns false'. Refute it at one input. -/
def fnCyclesAndBoundsWrong : ChangeSpec := { name := "fnCyclesAndBounds", fn := fun _ => fun
  | [d] => { results := [.lit (.bool false)], args := [d] }
  | _ => none }
def FnCyclesAndBoundsWrongFalsely : Prop := fnCyclesAndBoundsRow.holds Tryz.pinned (OpenSpec.ofChange fnCyclesAndBoundsWrong)

/-- 'laws.FnGradientWays': WHATEVER THE INPUT: true; the input reads as it did. -/
def fnGradientWaysSpec : ChangeSpec := { name := "fnGradientWays", fn := fun _ => fun
  | [d] => { results := [.lit (.bool true)], args := [d] }
  | _ => none }
def fnGradientWaysRow : OpenClaim := { program := "ytomofijniefelaagreat", sum := "92fa03f46cc772392625045a2d79caef3c14623e6b0cd73674fb6a09ba0b9a62", func := "loop.example/g01348/laws.FnGradientWays", spec := "fnGradientWays", inPlace := ["slices.overlaps[loop.example/g01348/impl.Pair]"], unfollowed := true, recurses := true, apart := false }
def FnGradientWaysSaid : Prop := fnGradientWaysRow.holds Tryz.pinned (OpenSpec.ofChange fnGradientWaysSpec)

/-- ITS FALSE NEIGHBOUR: 'it returns false'. Refute it at one input. -/
def fnGradientWaysWrong : ChangeSpec := { name := "fnGradientWays", fn := fun _ => fun
  | [d] => { results := [.lit (.bool false)], args := [d] }
  | _ => none }
def FnGradientWaysWrongFalsely : Prop := fnGradientWaysRow.holds Tryz.pinned (OpenSpec.ofChange fnGradientWaysWrong)

/-- 'laws.FnFlatFunctions': WHATEVER THE INPUT: true; the input reads as it did. -/
def fnFlatFunctionsSpec : ChangeSpec := { name := "fnFlatFunctions", fn := fun _ => fun
  | [d] => { results := [.lit (.bool true)], args := [d] }
  | _ => none }
def fnFlatFunctionsRow : OpenClaim := { program := "ytomofijniefelaagreat", sum := "92fa03f46cc772392625045a2d79caef3c14623e6b0cd73674fb6a09ba0b9a62", func := "loop.example/g01348/laws.FnFlatFunctions", spec := "fnFlatFunctions", unfollowed := true, recurses := true, apart := false }
def FnFlatFunctionsSaid : Prop := fnFlatFunctionsRow.holds Tryz.pinned (OpenSpec.ofChange fnFlatFunctionsSpec)

/-- ITS FALSE NEIGHBOUR: 'it returns false'. Refute it at one input. -/
def fnFlatFunctionsWrong : ChangeSpec := { name := "fnFlatFunctions", fn := fun _ => fun
  | [d] => { results := [.lit (.bool false)], args := [d] }
  | _ => none }
def FnFlatFunctionsWrongFalsely : Prop := fnFlatFunctionsRow.holds Tryz.pinned (OpenSpec.ofChange fnFlatFunctionsWrong)

/- THE SECOND FORM. 'bulk': how many values and letters a reading holds, each counted each time it is reached (what is shared counts as often as it is met; a slice's spare places count too). A statement '..UptoSaid' is the law's where the arguments, and the package variables that the reading takes, are together of bulk at most 1048576: NARROWER than '..Said'. Prove '..Said' where nothing that the law and all that it calls make is longer than what came in: it says more and counts as full. Else prove '..UptoSaid'. A law counts once. -/
mutual
def uptoBulk {H : Type} : DataW H → Nat
  | .lit (.string bytes) => bytes.length + 1
  | .lit _ => 1
  | .nil => 1
  | .ptr d => uptoBulk d + 1
  | .slice elems spare => uptoBulkAll elems + uptoBulkAll spare + 1
  | .agg parts => uptoBulkAll parts + 1
  | .iface _ d => uptoBulk d + 1
  | .map entries => uptoBulkEntries entries + 1
  | .held _ => 1
def uptoBulkAll {H : Type} : List (DataW H) → Nat
  | [] => 0
  | d :: r => uptoBulk d + uptoBulkAll r
def uptoBulkEntries {H : Type} : List (Lit × DataW H) → Nat
  | [] => 0
  | x :: r => uptoBulkEntry x + uptoBulkEntries r
def uptoBulkEntry {H : Type} : Lit × DataW H → Nat
  | (.string bytes, d) => bytes.length + uptoBulk d + 1
  | (_, d) => uptoBulk d + 1
 end
def uptoSmall : (H : Type) → List (DataW H) → Bool := fun _ ds => decide (uptoBulkAll ds ≤ 1048576)
def OpenSpec.upto (s : _root_.Go.ChangeSpec) : _root_.Go.OpenSpec := { _root_.Go.OpenSpec.ofChange s with cond := some uptoSmall }

/-- 'laws.FnMaps', WHERE WHAT IT READS IS OF BULK AT MOST 1048576: true; the input reads as it did. -/
def fnMapsUptoRow : OpenClaim := { program := "ytomofijniefelaagreat", sum := "92fa03f46cc772392625045a2d79caef3c14623e6b0cd73674fb6a09ba0b9a62", func := "loop.example/g01348/laws.FnMaps", spec := "fnMaps", unfollowed := true, recurses := true, apart := false, narrowed := true }
def FnMapsUptoSaid : Prop := fnMapsUptoRow.holds Tryz.pinned (OpenSpec.upto fnMapsSpec)

/-- 'laws.FnFlows', WHERE WHAT IT READS IS OF BULK AT MOST 1048576: true; the input reads as it did. -/
def fnFlowsUptoRow : OpenClaim := { program := "ytomofijniefelaagreat", sum := "92fa03f46cc772392625045a2d79caef3c14623e6b0cd73674fb6a09ba0b9a62", func := "loop.example/g01348/laws.FnFlows", spec := "fnFlows", unfollowed := true, recurses := true, apart := false, narrowed := true }
def FnFlowsUptoSaid : Prop := fnFlowsUptoRow.holds Tryz.pinned (OpenSpec.upto fnFlowsSpec)

/-- 'laws.FnMatchings', WHERE WHAT IT READS IS OF BULK AT MOST 1048576: true; the input reads as it did. -/
def fnMatchingsUptoRow : OpenClaim := { program := "ytomofijniefelaagreat", sum := "92fa03f46cc772392625045a2d79caef3c14623e6b0cd73674fb6a09ba0b9a62", func := "loop.example/g01348/laws.FnMatchings", spec := "fnMatchings", unfollowed := true, recurses := true, apart := false, narrowed := true }
def FnMatchingsUptoSaid : Prop := fnMatchingsUptoRow.holds Tryz.pinned (OpenSpec.upto fnMatchingsSpec)

/-- 'laws.FnCyclesAndBounds', WHERE WHAT IT READS IS OF BULK AT MOST 1048576: true; the input reads as it did. -/
def fnCyclesAndBoundsUptoRow : OpenClaim := { program := "ytomofijniefelaagreat", sum := "92fa03f46cc772392625045a2d79caef3c14623e6b0cd73674fb6a09ba0b9a62", func := "loop.example/g01348/laws.FnCyclesAndBounds", spec := "fnCyclesAndBounds", unfollowed := true, recurses := true, apart := false, narrowed := true }
def FnCyclesAndBoundsUptoSaid : Prop := fnCyclesAndBoundsUptoRow.holds Tryz.pinned (OpenSpec.upto fnCyclesAndBoundsSpec)

/-- 'laws.FnGradientWays', WHERE WHAT IT READS IS OF BULK AT MOST 1048576: true; the input reads as it did. -/
def fnGradientWaysUptoRow : OpenClaim := { program := "ytomofijniefelaagreat", sum := "92fa03f46cc772392625045a2d79caef3c14623e6b0cd73674fb6a09ba0b9a62", func := "loop.example/g01348/laws.FnGradientWays", spec := "fnGradientWays", inPlace := ["slices.overlaps[loop.example/g01348/impl.Pair]"], unfollowed := true, recurses := true, apart := false, narrowed := true }
def FnGradientWaysUptoSaid : Prop := fnGradientWaysUptoRow.holds Tryz.pinned (OpenSpec.upto fnGradientWaysSpec)

/-- 'laws.FnFlatFunctions', WHERE WHAT IT READS IS OF BULK AT MOST 1048576: true; the input reads as it did. -/
def fnFlatFunctionsUptoRow : OpenClaim := { program := "ytomofijniefelaagreat", sum := "92fa03f46cc772392625045a2d79caef3c14623e6b0cd73674fb6a09ba0b9a62", func := "loop.example/g01348/laws.FnFlatFunctions", spec := "fnFlatFunctions", unfollowed := true, recurses := true, apart := false, narrowed := true }
def FnFlatFunctionsUptoSaid : Prop := fnFlatFunctionsUptoRow.holds Tryz.pinned (OpenSpec.upto fnFlatFunctionsSpec)

end Rows
end Go.Proofs.YtomofijniefelaaGreat
