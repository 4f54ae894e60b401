/-
  No cell of these rows narrows 'for every input' (looked for: loops, veiled, ifaces, maps, wideKeys, modest, calm, conditions, laid).
  DERIVED. THE GIVEN ROWS OF THIS SEAT. 2 by the template 'for every input the law returns true; each argument reads behind the call as it read before'; 0 by the template 'total and deterministic' (their statements: YtomofijniefelaaTotals.lean).
  GIVEN WITH THE SEED: the statements are not yours to turn. If you find one false, say at which input.
  Laid BY PROGRAM, IN A SANDBOX (cutbox-rows.mjs): the forced cells as the released guide's own fill.sh prints them over the translation bac11c4e1d73b1ba… (all of the seat's roots in one cut). By AI agents, Wed Nov 11 2026. No macro, syntax, notation, axiom, sorry.
-/
import Derived.Test.YtomofijniefelaaChecked
import GoSem.Claim
import GoSem.ClaimJoined
import GoSem.ClaimMapViews
import Derived.JoinedTies
import Derived.KernelRfl
namespace Go.Proofs.Ytomofijniefelaa
/- THE CELL 'sum', in the pinned program and in every row, IS THE sha256 OF THE DUMP (.gsa) THAT YtomofijniefelaaProg.lean LOADS. Nothing in Lean hashes anything: it is a label: what it is worth is what the hold of that sum in a sandbox is worth. -/
noncomputable def Try.pinned : Pinned := { name := "ytomofijniefelaa", sum := "bac11c4e1d73b1ba5a8f9e8e35a12fa3d9b5ea521808a7fec2dba500fb7cca4c", checked := Try.checked }
namespace Rows
def none {H : Type} : Left H := { results := [], args := [] }

/-- 'laws.FnExactEulerOfLevels': WHATEVER THE INPUT: true; the input reads as it did. -/
def fnExactEulerOfLevelsSpec : ChangeSpec := { name := "fnExactEulerOfLevels", fn := fun _ => fun
  | [d1, d2] => { results := [.lit (.bool true)], args := [d1, d2] }
  | _ => none }
def fnExactEulerOfLevelsRow : OpenClaim := { program := "ytomofijniefelaa", sum := "bac11c4e1d73b1ba5a8f9e8e35a12fa3d9b5ea521808a7fec2dba500fb7cca4c", func := "loop.example/g01348/laws.FnExactEulerOfLevels", spec := "fnExactEulerOfLevels", unfollowed := true, recurses := true, apart := false }
def FnExactEulerOfLevelsSaid : Prop := fnExactEulerOfLevelsRow.holds Try.pinned (OpenSpec.ofChange fnExactEulerOfLevelsSpec)

/-- ITS FALSE NEIGHBOUR: 'it returns false'. Refute it at one input. -/
def fnExactEulerOfLevelsWrong : ChangeSpec := { name := "fnExactEulerOfLevels", fn := fun _ => fun
  | [d1, d2] => { results := [.lit (.bool false)], args := [d1, d2] }
  | _ => none }
def FnExactEulerOfLevelsWrongFalsely : Prop := fnExactEulerOfLevelsRow.holds Try.pinned (OpenSpec.ofChange fnExactEulerOfLevelsWrong)

/-- 'laws.FnExactShortestCircle': WHATEVER THE INPUT: true; the input reads as it did. -/
def fnExactShortestCircleSpec : ChangeSpec := { name := "fnExactShortestCircle", fn := fun _ => fun
  | [d] => { results := [.lit (.bool true)], args := [d] }
  | _ => none }
def fnExactShortestCircleRow : OpenClaim := { program := "ytomofijniefelaa", sum := "bac11c4e1d73b1ba5a8f9e8e35a12fa3d9b5ea521808a7fec2dba500fb7cca4c", func := "loop.example/g01348/laws.FnExactShortestCircle", spec := "fnExactShortestCircle", unfollowed := true, recurses := true, apart := false }
def FnExactShortestCircleSaid : Prop := fnExactShortestCircleRow.holds Try.pinned (OpenSpec.ofChange fnExactShortestCircleSpec)

/-- ITS FALSE NEIGHBOUR: 'it returns false'. Refute it at one input. -/
def fnExactShortestCircleWrong : ChangeSpec := { name := "fnExactShortestCircle", fn := fun _ => fun
  | [d] => { results := [.lit (.bool false)], args := [d] }
  | _ => none }
def FnExactShortestCircleWrongFalsely : Prop := fnExactShortestCircleRow.holds Try.pinned (OpenSpec.ofChange fnExactShortestCircleWrong)

/- THE SECOND FORM. 'bulk': how many values and letters a reading holds, each counted each time it is reached (what is shared counts as often as it is met; a slice's spare places count too). A statement '..UptoSaid' is the law's where the arguments, and the package variables that the reading takes, are together of bulk at most 1048576: NARROWER than '..Said'. Prove '..Said' where nothing that the law and all that it calls make is longer than what came in: it says more and counts as full. Else prove '..UptoSaid'. A law counts once. -/
mutual
def uptoBulk {H : Type} : DataW H → Nat
  | .lit (.string bytes) => bytes.length + 1
  | .lit _ => 1
  | .nil => 1
  | .ptr d => uptoBulk d + 1
  | .slice elems spare => uptoBulkAll elems + uptoBulkAll spare + 1
  | .agg parts => uptoBulkAll parts + 1
  | .iface _ d => uptoBulk d + 1
  | .map entries => uptoBulkEntries entries + 1
  | .held _ => 1
def uptoBulkAll {H : Type} : List (DataW H) → Nat
  | [] => 0
  | d :: r => uptoBulk d + uptoBulkAll r
def uptoBulkEntries {H : Type} : List (Lit × DataW H) → Nat
  | [] => 0
  | x :: r => uptoBulkEntry x + uptoBulkEntries r
def uptoBulkEntry {H : Type} : Lit × DataW H → Nat
  | (.string bytes, d) => bytes.length + uptoBulk d + 1
  | (_, d) => uptoBulk d + 1
 end
def uptoSmall : (H : Type) → List (DataW H) → Bool := fun _ ds => decide (uptoBulkAll ds ≤ 1048576)
def OpenSpec.upto (s : _root_.Go.ChangeSpec) : _root_.Go.OpenSpec := { _root_.Go.OpenSpec.ofChange s with cond := some uptoSmall }

/-- 'laws.FnExactEulerOfLevels', WHERE WHAT IT READS IS OF BULK AT MOST 1048576: true; the input reads as it did. -/
def fnExactEulerOfLevelsUptoRow : OpenClaim := { program := "ytomofijniefelaa", sum := "bac11c4e1d73b1ba5a8f9e8e35a12fa3d9b5ea521808a7fec2dba500fb7cca4c", func := "loop.example/g01348/laws.FnExactEulerOfLevels", spec := "fnExactEulerOfLevels", unfollowed := true, recurses := true, apart := false, narrowed := true }
def FnExactEulerOfLevelsUptoSaid : Prop := fnExactEulerOfLevelsUptoRow.holds Try.pinned (OpenSpec.upto fnExactEulerOfLevelsSpec)

/-- 'laws.FnExactShortestCircle', WHERE WHAT IT READS IS OF BULK AT MOST 1048576: true; the input reads as it did. -/
def fnExactShortestCircleUptoRow : OpenClaim := { program := "ytomofijniefelaa", sum := "bac11c4e1d73b1ba5a8f9e8e35a12fa3d9b5ea521808a7fec2dba500fb7cca4c", func := "loop.example/g01348/laws.FnExactShortestCircle", spec := "fnExactShortestCircle", unfollowed := true, recurses := true, apart := false, narrowed := true }
def FnExactShortestCircleUptoSaid : Prop := fnExactShortestCircleUptoRow.holds Try.pinned (OpenSpec.upto fnExactShortestCircleSpec)

end Rows
end Go.Proofs.Ytomofijniefelaa
