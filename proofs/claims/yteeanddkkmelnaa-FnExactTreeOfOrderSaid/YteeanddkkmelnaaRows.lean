/-
  No cell of these rows narrows 'for every input' (looked for: loops, veiled, ifaces, maps, wideKeys, modest, calm, conditions, laid).
  DERIVED. THE GIVEN ROWS OF THIS SEAT. 5 by the template 'for every input the law returns true; each argument reads behind the call as it read before'; 0 by the template 'total and deterministic' (their statements: YteeanddkkmelnaaTotals.lean).
  GIVEN WITH THE SEED: the statements are not yours to turn. If you find one false, say at which input.
  Laid BY PROGRAM, IN A SANDBOX (cutbox-rows.mjs): the forced cells as the released guide's own fill.sh prints them over the translation 9761ab8b44d19901… (all of the seat's roots in one cut). By AI agents, Wed Nov 11 2026. No macro, syntax, notation, axiom, sorry.
-/
import Derived.Test.YteeanddkkmelnaaChecked
import GoSem.Claim
import GoSem.ClaimJoined
import GoSem.ClaimMapViews
import Derived.JoinedTies
import Derived.KernelRfl
namespace Go.Proofs.Yteeanddkkmelnaa
/- THE CELL 'sum', in the pinned program and in every row, IS THE sha256 OF THE DUMP (.gsa) THAT YteeanddkkmelnaaProg.lean LOADS. Nothing in Lean hashes anything: it is a label: what it is worth is what the hold of that sum in a sandbox is worth. -/
noncomputable def Try.pinned : Pinned := { name := "yteeanddkkmelnaa", sum := "9761ab8b44d19901aede22578ac374c0fb0bcb953bd116ddc5dd33b780181017", checked := Try.checked }
namespace Rows
def none {H : Type} : Left H := { results := [], args := [] }

/-- 'laws.FnExactIsTree': WHATEVER THE INPUT: true; the input reads as it did. -/
def fnExactIsTreeSpec : ChangeSpec := { name := "fnExactIsTree", fn := fun _ => fun
  | [d1, d2] => { results := [.lit (.bool true)], args := [d1, d2] }
  | _ => none }
def fnExactIsTreeRow : OpenClaim := { program := "yteeanddkkmelnaa", sum := "9761ab8b44d19901aede22578ac374c0fb0bcb953bd116ddc5dd33b780181017", func := "loop.example/g01348/laws.FnExactIsTree", spec := "fnExactIsTree", unfollowed := true, recurses := true, apart := false }
def FnExactIsTreeSaid : Prop := fnExactIsTreeRow.holds Try.pinned (OpenSpec.ofChange fnExactIsTreeSpec)

/-- ITS FALSE NEIGHBOUR: 'it returns false'. Refute it at one input. -/
def fnExactIsTreeWrong : ChangeSpec := { name := "fnExactIsTree", fn := fun _ => fun
  | [d1, d2] => { results := [.lit (.bool false)], args := [d1, d2] }
  | _ => none }
def FnExactIsTreeWrongFalsely : Prop := fnExactIsTreeRow.holds Try.pinned (OpenSpec.ofChange fnExactIsTreeWrong)

/-- 'laws.FnExactTreeOfOrder': WHATEVER THE INPUT: true; the input reads as it did. -/
def fnExactTreeOfOrderSpec : ChangeSpec := { name := "fnExactTreeOfOrder", fn := fun _ => fun
  | [d1, d2] => { results := [.lit (.bool true)], args := [d1, d2] }
  | _ => none }
def fnExactTreeOfOrderRow : OpenClaim := { program := "yteeanddkkmelnaa", sum := "9761ab8b44d19901aede22578ac374c0fb0bcb953bd116ddc5dd33b780181017", func := "loop.example/g01348/laws.FnExactTreeOfOrder", spec := "fnExactTreeOfOrder", apart := false }
def FnExactTreeOfOrderSaid : Prop := fnExactTreeOfOrderRow.holds Try.pinned (OpenSpec.ofChange fnExactTreeOfOrderSpec)

/-- ITS FALSE NEIGHBOUR: 'it returns false'. Refute it at one input. -/
def fnExactTreeOfOrderWrong : ChangeSpec := { name := "fnExactTreeOfOrder", fn := fun _ => fun
  | [d1, d2] => { results := [.lit (.bool false)], args := [d1, d2] }
  | _ => none }
def FnExactTreeOfOrderWrongFalsely : Prop := fnExactTreeOfOrderRow.holds Try.pinned (OpenSpec.ofChange fnExactTreeOfOrderWrong)

/-- 'laws.FnExactIsMap': WHATEVER THE INPUT: true; the input reads as it did. -/
def fnExactIsMapSpec : ChangeSpec := { name := "fnExactIsMap", fn := fun _ => fun
  | [d1, d2, d3] => { results := [.lit (.bool true)], args := [d1, d2, d3] }
  | _ => none }
def fnExactIsMapRow : OpenClaim := { program := "yteeanddkkmelnaa", sum := "9761ab8b44d19901aede22578ac374c0fb0bcb953bd116ddc5dd33b780181017", func := "loop.example/g01348/laws.FnExactIsMap", spec := "fnExactIsMap", unfollowed := true, recurses := true, apart := false }
def FnExactIsMapSaid : Prop := fnExactIsMapRow.holds Try.pinned (OpenSpec.ofChange fnExactIsMapSpec)

/-- ITS FALSE NEIGHBOUR: 'it returns false'. Refute it at one input. -/
def fnExactIsMapWrong : ChangeSpec := { name := "fnExactIsMap", fn := fun _ => fun
  | [d1, d2, d3] => { results := [.lit (.bool false)], args := [d1, d2, d3] }
  | _ => none }
def FnExactIsMapWrongFalsely : Prop := fnExactIsMapRow.holds Try.pinned (OpenSpec.ofChange fnExactIsMapWrong)

/-- 'laws.FnExactIsSimplicial': WHATEVER THE INPUT: true; the input reads as it did. -/
def fnExactIsSimplicialSpec : ChangeSpec := { name := "fnExactIsSimplicial", fn := fun _ => fun
  | [d1, d2, d3] => { results := [.lit (.bool true)], args := [d1, d2, d3] }
  | _ => none }
def fnExactIsSimplicialRow : OpenClaim := { program := "yteeanddkkmelnaa", sum := "9761ab8b44d19901aede22578ac374c0fb0bcb953bd116ddc5dd33b780181017", func := "loop.example/g01348/laws.FnExactIsSimplicial", spec := "fnExactIsSimplicial", unfollowed := true, recurses := true, apart := false }
def FnExactIsSimplicialSaid : Prop := fnExactIsSimplicialRow.holds Try.pinned (OpenSpec.ofChange fnExactIsSimplicialSpec)

/-- ITS FALSE NEIGHBOUR: 'it returns false'. Refute it at one input. -/
def fnExactIsSimplicialWrong : ChangeSpec := { name := "fnExactIsSimplicial", fn := fun _ => fun
  | [d1, d2, d3] => { results := [.lit (.bool false)], args := [d1, d2, d3] }
  | _ => none }
def FnExactIsSimplicialWrongFalsely : Prop := fnExactIsSimplicialRow.holds Try.pinned (OpenSpec.ofChange fnExactIsSimplicialWrong)

/-- 'laws.FnExactCountSimplicial': WHATEVER THE INPUT: true; the input reads as it did. -/
def fnExactCountSimplicialSpec : ChangeSpec := { name := "fnExactCountSimplicial", fn := fun _ => fun
  | [d1, d2] => { results := [.lit (.bool true)], args := [d1, d2] }
  | _ => none }
def fnExactCountSimplicialRow : OpenClaim := { program := "yteeanddkkmelnaa", sum := "9761ab8b44d19901aede22578ac374c0fb0bcb953bd116ddc5dd33b780181017", func := "loop.example/g01348/laws.FnExactCountSimplicial", spec := "fnExactCountSimplicial", unfollowed := true, recurses := true, apart := false }
def FnExactCountSimplicialSaid : Prop := fnExactCountSimplicialRow.holds Try.pinned (OpenSpec.ofChange fnExactCountSimplicialSpec)

/-- ITS FALSE NEIGHBOUR: 'it returns false'. Refute it at one input. -/
def fnExactCountSimplicialWrong : ChangeSpec := { name := "fnExactCountSimplicial", fn := fun _ => fun
  | [d1, d2] => { results := [.lit (.bool false)], args := [d1, d2] }
  | _ => none }
def FnExactCountSimplicialWrongFalsely : Prop := fnExactCountSimplicialRow.holds Try.pinned (OpenSpec.ofChange fnExactCountSimplicialWrong)

/- THE SECOND FORM. 'bulk': how many values and letters a reading holds, each counted each time it is reached (what is shared counts as often as it is met; a slice's spare places count too). A statement '..UptoSaid' is the law's where the arguments, and the package variables that the reading takes, are together of bulk at most 1048576: NARROWER than '..Said'. Prove '..Said' where nothing that the law and all that it calls make is longer than what came in: it says more and counts as full. Else prove '..UptoSaid'. A law counts once. -/
mutual
def uptoBulk {H : Type} : DataW H → Nat
  | .lit (.string bytes) => bytes.length + 1
  | .lit _ => 1
  | .nil => 1
  | .ptr d => uptoBulk d + 1
  | .slice elems spare => uptoBulkAll elems + uptoBulkAll spare + 1
  | .agg parts => uptoBulkAll parts + 1
  | .iface _ d => uptoBulk d + 1
  | .map entries => uptoBulkEntries entries + 1
  | .held _ => 1
def uptoBulkAll {H : Type} : List (DataW H) → Nat
  | [] => 0
  | d :: r => uptoBulk d + uptoBulkAll r
def uptoBulkEntries {H : Type} : List (Lit × DataW H) → Nat
  | [] => 0
  | x :: r => uptoBulkEntry x + uptoBulkEntries r
def uptoBulkEntry {H : Type} : Lit × DataW H → Nat
  | (.string bytes, d) => bytes.length + uptoBulk d + 1
  | (_, d) => uptoBulk d + 1
 end
def uptoSmall : (H : Type) → List (DataW H) → Bool := fun _ ds => decide (uptoBulkAll ds ≤ 1048576)
def OpenSpec.upto (s : _root_.Go.ChangeSpec) : _root_.Go.OpenSpec := { _root_.Go.OpenSpec.ofChange s with cond := some uptoSmall }

/-- 'laws.FnExactIsTree', WHERE WHAT IT READS IS OF BULK AT MOST 1048576: true; the input reads as it did. -/
def fnExactIsTreeUptoRow : OpenClaim := { program := "yteeanddkkmelnaa", sum := "9761ab8b44d19901aede22578ac374c0fb0bcb953bd116ddc5dd33b780181017", func := "loop.example/g01348/laws.FnExactIsTree", spec := "fnExactIsTree", unfollowed := true, recurses := true, apart := false, narrowed := true }
def FnExactIsTreeUptoSaid : Prop := fnExactIsTreeUptoRow.holds Try.pinned (OpenSpec.upto fnExactIsTreeSpec)

/-- 'laws.FnExactTreeOfOrder', WHERE WHAT IT READS IS OF BULK AT MOST 1048576: true; the input reads as it did. -/
def fnExactTreeOfOrderUptoRow : OpenClaim := { program := "yteeanddkkmelnaa", sum := "9761ab8b44d19901aede22578ac374c0fb0bcb953bd116ddc5dd33b780181017", func := "loop.example/g01348/laws.FnExactTreeOfOrder", spec := "fnExactTreeOfOrder", apart := false, narrowed := true }
def FnExactTreeOfOrderUptoSaid : Prop := fnExactTreeOfOrderUptoRow.holds Try.pinned (OpenSpec.upto fnExactTreeOfOrderSpec)

/-- 'laws.FnExactIsMap', WHERE WHAT IT READS IS OF BULK AT MOST 1048576: true; the input reads as it did. -/
def fnExactIsMapUptoRow : OpenClaim := { program := "yteeanddkkmelnaa", sum := "9761ab8b44d19901aede22578ac374c0fb0bcb953bd116ddc5dd33b780181017", func := "loop.example/g01348/laws.FnExactIsMap", spec := "fnExactIsMap", unfollowed := true, recurses := true, apart := false, narrowed := true }
def FnExactIsMapUptoSaid : Prop := fnExactIsMapUptoRow.holds Try.pinned (OpenSpec.upto fnExactIsMapSpec)

/-- 'laws.FnExactIsSimplicial', WHERE WHAT IT READS IS OF BULK AT MOST 1048576: true; the input reads as it did. -/
def fnExactIsSimplicialUptoRow : OpenClaim := { program := "yteeanddkkmelnaa", sum := "9761ab8b44d19901aede22578ac374c0fb0bcb953bd116ddc5dd33b780181017", func := "loop.example/g01348/laws.FnExactIsSimplicial", spec := "fnExactIsSimplicial", unfollowed := true, recurses := true, apart := false, narrowed := true }
def FnExactIsSimplicialUptoSaid : Prop := fnExactIsSimplicialUptoRow.holds Try.pinned (OpenSpec.upto fnExactIsSimplicialSpec)

/-- 'laws.FnExactCountSimplicial', WHERE WHAT IT READS IS OF BULK AT MOST 1048576: true; the input reads as it did. -/
def fnExactCountSimplicialUptoRow : OpenClaim := { program := "yteeanddkkmelnaa", sum := "9761ab8b44d19901aede22578ac374c0fb0bcb953bd116ddc5dd33b780181017", func := "loop.example/g01348/laws.FnExactCountSimplicial", spec := "fnExactCountSimplicial", unfollowed := true, recurses := true, apart := false, narrowed := true }
def FnExactCountSimplicialUptoSaid : Prop := fnExactCountSimplicialUptoRow.holds Try.pinned (OpenSpec.upto fnExactCountSimplicialSpec)

end Rows
end Go.Proofs.Yteeanddkkmelnaa
