/-
  No cell of these rows narrows 'for every input' (looked for: loops, veiled, ifaces, maps, wideKeys, modest, calm, conditions, laid).
  DERIVED. THE GIVEN ROWS OF THIS SEAT. 10 by the template 'for every input the law returns true; each argument reads behind the call as it read before'; 0 by the template 'total and deterministic' (their statements: YtcbkchnfjeegmaaTotals.lean).
  GIVEN WITH THE SEED: the statements are not yours to turn. If you find one false, say at which input.
  Laid BY PROGRAM, IN A SANDBOX (cutbox-rows.mjs): the forced cells as the released guide's own fill.sh prints them over the translation 76cef75d17dc86f0… (all of the seat's roots in one cut). By AI agents, Wed Nov 11 2026. No macro, syntax, notation, axiom, sorry.
-/
import Derived.Test.YtcbkchnfjeegmaaChecked
import GoSem.Claim
import GoSem.ClaimJoined
import GoSem.ClaimMapViews
import Derived.JoinedTies
import Derived.KernelRfl
namespace Go.Proofs.Ytcbkchnfjeegmaa
/- THE CELL 'sum', in the pinned program and in every row, IS THE sha256 OF THE DUMP (.gsa) THAT YtcbkchnfjeegmaaProg.lean LOADS. Nothing in Lean hashes anything: it is a label: what it is worth is what the hold of that sum in a sandbox is worth. -/
noncomputable def Try.pinned : Pinned := { name := "ytcbkchnfjeegmaa", sum := "76cef75d17dc86f083ece35c1b08334471ff9dfdb3d326afeb82a4e25fe1e751", checked := Try.checked }
namespace Rows
def none {H : Type} : Left H := { results := [], args := [] }

/-- 'laws.FnExactBoundaryOf': WHATEVER THE INPUT: true; the input reads as it did. -/
def fnExactBoundaryOfSpec : ChangeSpec := { name := "fnExactBoundaryOf", fn := fun _ => fun
  | [d1, d2] => { results := [.lit (.bool true)], args := [d1, d2] }
  | _ => none }
def fnExactBoundaryOfRow : OpenClaim := { program := "ytcbkchnfjeegmaa", sum := "76cef75d17dc86f083ece35c1b08334471ff9dfdb3d326afeb82a4e25fe1e751", func := "loop.example/g01348/laws.FnExactBoundaryOf", spec := "fnExactBoundaryOf", unfollowed := true, recurses := true, apart := false }
def FnExactBoundaryOfSaid : Prop := fnExactBoundaryOfRow.holds Try.pinned (OpenSpec.ofChange fnExactBoundaryOfSpec)

/-- ITS FALSE NEIGHBOUR: 'it returns false'. Refute it at one input. -/
def fnExactBoundaryOfWrong : ChangeSpec := { name := "fnExactBoundaryOf", fn := fun _ => fun
  | [d1, d2] => { results := [.lit (.bool false)], args := [d1, d2] }
  | _ => none }
def FnExactBoundaryOfWrongFalsely : Prop := fnExactBoundaryOfRow.holds Try.pinned (OpenSpec.ofChange fnExactBoundaryOfWrong)

/-- 'laws.FnExactFundamentalChain': WHATEVER THE INPUT: true; the input reads as it did. -/
def fnExactFundamentalChainSpec : ChangeSpec := { name := "fnExactFundamentalChain", fn := fun _ => fun
  | [d] => { results := [.lit (.bool true)], args := [d] }
  | _ => none }
def fnExactFundamentalChainRow : OpenClaim := { program := "ytcbkchnfjeegmaa", sum := "76cef75d17dc86f083ece35c1b08334471ff9dfdb3d326afeb82a4e25fe1e751", func := "loop.example/g01348/laws.FnExactFundamentalChain", spec := "fnExactFundamentalChain", unfollowed := true, recurses := true, apart := false }
def FnExactFundamentalChainSaid : Prop := fnExactFundamentalChainRow.holds Try.pinned (OpenSpec.ofChange fnExactFundamentalChainSpec)

/-- ITS FALSE NEIGHBOUR: 'it returns false'. Refute it at one input. -/
def fnExactFundamentalChainWrong : ChangeSpec := { name := "fnExactFundamentalChain", fn := fun _ => fun
  | [d] => { results := [.lit (.bool false)], args := [d] }
  | _ => none }
def FnExactFundamentalChainWrongFalsely : Prop := fnExactFundamentalChainRow.holds Try.pinned (OpenSpec.ofChange fnExactFundamentalChainWrong)

/-- 'laws.FnExactIsDesk': WHATEVER THE INPUT: true; the input reads as it did. -/
def fnExactIsDeskSpec : ChangeSpec := { name := "fnExactIsDesk", fn := fun _ => fun
  | [d] => { results := [.lit (.bool true)], args := [d] }
  | _ => none }
def fnExactIsDeskRow : OpenClaim := { program := "ytcbkchnfjeegmaa", sum := "76cef75d17dc86f083ece35c1b08334471ff9dfdb3d326afeb82a4e25fe1e751", func := "loop.example/g01348/laws.FnExactIsDesk", spec := "fnExactIsDesk", unfollowed := true, recurses := true, apart := false }
def FnExactIsDeskSaid : Prop := fnExactIsDeskRow.holds Try.pinned (OpenSpec.ofChange fnExactIsDeskSpec)

/-- ITS FALSE NEIGHBOUR: 'it returns false'. Refute it at one input. -/
def fnExactIsDeskWrong : ChangeSpec := { name := "fnExactIsDesk", fn := fun _ => fun
  | [d] => { results := [.lit (.bool false)], args := [d] }
  | _ => none }
def FnExactIsDeskWrongFalsely : Prop := fnExactIsDeskRow.holds Try.pinned (OpenSpec.ofChange fnExactIsDeskWrong)

/-- 'laws.FnExactFlowOf': WHATEVER THE INPUT: true; the input reads as it did. -/
def fnExactFlowOfSpec : ChangeSpec := { name := "fnExactFlowOf", fn := fun _ => fun
  | [d1, d2, d3] => { results := [.lit (.bool true)], args := [d1, d2, d3] }
  | _ => none }
def fnExactFlowOfRow : OpenClaim := { program := "ytcbkchnfjeegmaa", sum := "76cef75d17dc86f083ece35c1b08334471ff9dfdb3d326afeb82a4e25fe1e751", func := "loop.example/g01348/laws.FnExactFlowOf", spec := "fnExactFlowOf", unfollowed := true, recurses := true, apart := false }
def FnExactFlowOfSaid : Prop := fnExactFlowOfRow.holds Try.pinned (OpenSpec.ofChange fnExactFlowOfSpec)

/-- ITS FALSE NEIGHBOUR: 'it returns false'. Refute it at one input. -/
def fnExactFlowOfWrong : ChangeSpec := { name := "fnExactFlowOf", fn := fun _ => fun
  | [d1, d2, d3] => { results := [.lit (.bool false)], args := [d1, d2, d3] }
  | _ => none }
def FnExactFlowOfWrongFalsely : Prop := fnExactFlowOfRow.holds Try.pinned (OpenSpec.ofChange fnExactFlowOfWrong)

/-- 'laws.FnExactEndOfFlow': WHATEVER THE INPUT: true; the input reads as it did. -/
def fnExactEndOfFlowSpec : ChangeSpec := { name := "fnExactEndOfFlow", fn := fun _ => fun
  | [d1, d2, d3] => { results := [.lit (.bool true)], args := [d1, d2, d3] }
  | _ => none }
def fnExactEndOfFlowRow : OpenClaim := { program := "ytcbkchnfjeegmaa", sum := "76cef75d17dc86f083ece35c1b08334471ff9dfdb3d326afeb82a4e25fe1e751", func := "loop.example/g01348/laws.FnExactEndOfFlow", spec := "fnExactEndOfFlow", unfollowed := true, recurses := true, apart := false }
def FnExactEndOfFlowSaid : Prop := fnExactEndOfFlowRow.holds Try.pinned (OpenSpec.ofChange fnExactEndOfFlowSpec)

/-- ITS FALSE NEIGHBOUR: 'it returns false'. Refute it at one input. -/
def fnExactEndOfFlowWrong : ChangeSpec := { name := "fnExactEndOfFlow", fn := fun _ => fun
  | [d1, d2, d3] => { results := [.lit (.bool false)], args := [d1, d2, d3] }
  | _ => none }
def FnExactEndOfFlowWrongFalsely : Prop := fnExactEndOfFlowRow.holds Try.pinned (OpenSpec.ofChange fnExactEndOfFlowWrong)

/-- 'laws.FnExactCountAutomorphisms': WHATEVER THE INPUT: true; the input reads as it did. -/
def fnExactCountAutomorphismsSpec : ChangeSpec := { name := "fnExactCountAutomorphisms", fn := fun _ => fun
  | [d] => { results := [.lit (.bool true)], args := [d] }
  | _ => none }
def fnExactCountAutomorphismsRow : OpenClaim := { program := "ytcbkchnfjeegmaa", sum := "76cef75d17dc86f083ece35c1b08334471ff9dfdb3d326afeb82a4e25fe1e751", func := "loop.example/g01348/laws.FnExactCountAutomorphisms", spec := "fnExactCountAutomorphisms", unfollowed := true, recurses := true, apart := false }
def FnExactCountAutomorphismsSaid : Prop := fnExactCountAutomorphismsRow.holds Try.pinned (OpenSpec.ofChange fnExactCountAutomorphismsSpec)

/-- ITS FALSE NEIGHBOUR: 'it returns false'. Refute it at one input. -/
def fnExactCountAutomorphismsWrong : ChangeSpec := { name := "fnExactCountAutomorphisms", fn := fun _ => fun
  | [d] => { results := [.lit (.bool false)], args := [d] }
  | _ => none }
def FnExactCountAutomorphismsWrongFalsely : Prop := fnExactCountAutomorphismsRow.holds Try.pinned (OpenSpec.ofChange fnExactCountAutomorphismsWrong)

/-- 'laws.FnExactCriticalChain': WHATEVER THE INPUT: true; the input reads as it did. -/
def fnExactCriticalChainSpec : ChangeSpec := { name := "fnExactCriticalChain", fn := fun _ => fun
  | [d1, d2, d3] => { results := [.lit (.bool true)], args := [d1, d2, d3] }
  | _ => none }
def fnExactCriticalChainRow : OpenClaim := { program := "ytcbkchnfjeegmaa", sum := "76cef75d17dc86f083ece35c1b08334471ff9dfdb3d326afeb82a4e25fe1e751", func := "loop.example/g01348/laws.FnExactCriticalChain", spec := "fnExactCriticalChain", unfollowed := true, recurses := true, apart := false }
def FnExactCriticalChainSaid : Prop := fnExactCriticalChainRow.holds Try.pinned (OpenSpec.ofChange fnExactCriticalChainSpec)

/-- ITS FALSE NEIGHBOUR: 'it returns false'. Refute it at one input. -/
def fnExactCriticalChainWrong : ChangeSpec := { name := "fnExactCriticalChain", fn := fun _ => fun
  | [d1, d2, d3] => { results := [.lit (.bool false)], args := [d1, d2, d3] }
  | _ => none }
def FnExactCriticalChainWrongFalsely : Prop := fnExactCriticalChainRow.holds Try.pinned (OpenSpec.ofChange fnExactCriticalChainWrong)

/-- 'laws.FnExactFindIsomorphism': WHATEVER THE INPUT: true; the input reads as it did. -/
def fnExactFindIsomorphismSpec : ChangeSpec := { name := "fnExactFindIsomorphism", fn := fun _ => fun
  | [d1, d2] => { results := [.lit (.bool true)], args := [d1, d2] }
  | _ => none }
def fnExactFindIsomorphismRow : OpenClaim := { program := "ytcbkchnfjeegmaa", sum := "76cef75d17dc86f083ece35c1b08334471ff9dfdb3d326afeb82a4e25fe1e751", func := "loop.example/g01348/laws.FnExactFindIsomorphism", spec := "fnExactFindIsomorphism", unfollowed := true, recurses := true, apart := false }
def FnExactFindIsomorphismSaid : Prop := fnExactFindIsomorphismRow.holds Try.pinned (OpenSpec.ofChange fnExactFindIsomorphismSpec)

/-- ITS FALSE NEIGHBOUR: 'it returns false'. Refute it at one input. -/
def fnExactFindIsomorphismWrong : ChangeSpec := { name := "fnExactFindIsomorphism", fn := fun _ => fun
  | [d1, d2] => { results := [.lit (.bool false)], args := [d1, d2] }
  | _ => none }
def FnExactFindIsomorphismWrongFalsely : Prop := fnExactFindIsomorphismRow.holds Try.pinned (OpenSpec.ofChange fnExactFindIsomorphismWrong)

/-- 'laws.FnExactPairingByFibres': WHATEVER THE INPUT: true; the input reads as it did. -/
def fnExactPairingByFibresSpec : ChangeSpec := { name := "fnExactPairingByFibres", fn := fun _ => fun
  | [d1, d2, d3] => { results := [.lit (.bool true)], args := [d1, d2, d3] }
  | _ => none }
def fnExactPairingByFibresRow : OpenClaim := { program := "ytcbkchnfjeegmaa", sum := "76cef75d17dc86f083ece35c1b08334471ff9dfdb3d326afeb82a4e25fe1e751", func := "loop.example/g01348/laws.FnExactPairingByFibres", spec := "fnExactPairingByFibres", unfollowed := true, recurses := true, apart := false }
def FnExactPairingByFibresSaid : Prop := fnExactPairingByFibresRow.holds Try.pinned (OpenSpec.ofChange fnExactPairingByFibresSpec)

/-- ITS FALSE NEIGHBOUR: 'it returns false'. Refute it at one input. -/
def fnExactPairingByFibresWrong : ChangeSpec := { name := "fnExactPairingByFibres", fn := fun _ => fun
  | [d1, d2, d3] => { results := [.lit (.bool false)], args := [d1, d2, d3] }
  | _ => none }
def FnExactPairingByFibresWrongFalsely : Prop := fnExactPairingByFibresRow.holds Try.pinned (OpenSpec.ofChange fnExactPairingByFibresWrong)

/-- 'laws.FnExactShortestCircle': WHATEVER THE INPUT: true; the input reads as it did. -/
def fnExactShortestCircleSpec : ChangeSpec := { name := "fnExactShortestCircle", fn := fun _ => fun
  | [d] => { results := [.lit (.bool true)], args := [d] }
  | _ => none }
def fnExactShortestCircleRow : OpenClaim := { program := "ytcbkchnfjeegmaa", sum := "76cef75d17dc86f083ece35c1b08334471ff9dfdb3d326afeb82a4e25fe1e751", func := "loop.example/g01348/laws.FnExactShortestCircle", spec := "fnExactShortestCircle", unfollowed := true, recurses := true, apart := false }
def FnExactShortestCircleSaid : Prop := fnExactShortestCircleRow.holds Try.pinned (OpenSpec.ofChange fnExactShortestCircleSpec)

/-- ITS FALSE NEIGHBOUR: 'it returns false'. Refute it at one input. -/
def fnExactShortestCircleWrong : ChangeSpec := { name := "fnExactShortestCircle", fn := fun _ => fun
  | [d] => { results := [.lit (.bool false)], args := [d] }
  | _ => none }
def FnExactShortestCircleWrongFalsely : Prop := fnExactShortestCircleRow.holds Try.pinned (OpenSpec.ofChange fnExactShortestCircleWrong)

/- THE SECOND FORM. 'bulk': how many values and letters a reading holds, each counted each time it is reached (what is shared counts as often as it is met; a slice's spare places count too). A statement '..UptoSaid' is the law's where the arguments, and the package variables that the reading takes, are together of bulk at most 1048576: NARROWER than '..Said'. Prove '..Said' where nothing that the law and all that it calls make is longer than what came in: it says more and counts as full. Else prove '..UptoSaid'. A law counts once. -/
mutual
def uptoBulk {H : Type} : DataW H → Nat
  | .lit (.string bytes) => bytes.length + 1
  | .lit _ => 1
  | .nil => 1
  | .ptr d => uptoBulk d + 1
  | .slice elems spare => uptoBulkAll elems + uptoBulkAll spare + 1
  | .agg parts => uptoBulkAll parts + 1
  | .iface _ d => uptoBulk d + 1
  | .map entries => uptoBulkEntries entries + 1
  | .held _ => 1
def uptoBulkAll {H : Type} : List (DataW H) → Nat
  | [] => 0
  | d :: r => uptoBulk d + uptoBulkAll r
def uptoBulkEntries {H : Type} : List (Lit × DataW H) → Nat
  | [] => 0
  | x :: r => uptoBulkEntry x + uptoBulkEntries r
def uptoBulkEntry {H : Type} : Lit × DataW H → Nat
  | (.string bytes, d) => bytes.length + uptoBulk d + 1
  | (_, d) => uptoBulk d + 1
 end
def uptoSmall : (H : Type) → List (DataW H) → Bool := fun _ ds => decide (uptoBulkAll ds ≤ 1048576)
def OpenSpec.upto (s : _root_.Go.ChangeSpec) : _root_.Go.OpenSpec := { _root_.Go.OpenSpec.ofChange s with cond := some uptoSmall }

/-- 'laws.FnExactBoundaryOf', WHERE WHAT IT READS IS OF BULK AT MOST 1048576: true; the input reads as it did. -/
def fnExactBoundaryOfUptoRow : OpenClaim := { program := "ytcbkchnfjeegmaa", sum := "76cef75d17dc86f083ece35c1b08334471ff9dfdb3d326afeb82a4e25fe1e751", func := "loop.example/g01348/laws.FnExactBoundaryOf", spec := "fnExactBoundaryOf", unfollowed := true, recurses := true, apart := false, narrowed := true }
def FnExactBoundaryOfUptoSaid : Prop := fnExactBoundaryOfUptoRow.holds Try.pinned (OpenSpec.upto fnExactBoundaryOfSpec)

/-- 'laws.FnExactFundamentalChain', WHERE WHAT IT READS IS OF BULK AT MOST 1048576: true; the input reads as it did. -/
def fnExactFundamentalChainUptoRow : OpenClaim := { program := "ytcbkchnfjeegmaa", sum := "76cef75d17dc86f083ece35c1b08334471ff9dfdb3d326afeb82a4e25fe1e751", func := "loop.example/g01348/laws.FnExactFundamentalChain", spec := "fnExactFundamentalChain", unfollowed := true, recurses := true, apart := false, narrowed := true }
def FnExactFundamentalChainUptoSaid : Prop := fnExactFundamentalChainUptoRow.holds Try.pinned (OpenSpec.upto fnExactFundamentalChainSpec)

/-- 'laws.FnExactIsDesk', WHERE WHAT IT READS IS OF BULK AT MOST 1048576: true; the input reads as it did. -/
def fnExactIsDeskUptoRow : OpenClaim := { program := "ytcbkchnfjeegmaa", sum := "76cef75d17dc86f083ece35c1b08334471ff9dfdb3d326afeb82a4e25fe1e751", func := "loop.example/g01348/laws.FnExactIsDesk", spec := "fnExactIsDesk", unfollowed := true, recurses := true, apart := false, narrowed := true }
def FnExactIsDeskUptoSaid : Prop := fnExactIsDeskUptoRow.holds Try.pinned (OpenSpec.upto fnExactIsDeskSpec)

/-- 'laws.FnExactFlowOf', WHERE WHAT IT READS IS OF BULK AT MOST 1048576: true; the input reads as it did. -/
def fnExactFlowOfUptoRow : OpenClaim := { program := "ytcbkchnfjeegmaa", sum := "76cef75d17dc86f083ece35c1b08334471ff9dfdb3d326afeb82a4e25fe1e751", func := "loop.example/g01348/laws.FnExactFlowOf", spec := "fnExactFlowOf", unfollowed := true, recurses := true, apart := false, narrowed := true }
def FnExactFlowOfUptoSaid : Prop := fnExactFlowOfUptoRow.holds Try.pinned (OpenSpec.upto fnExactFlowOfSpec)

/-- 'laws.FnExactEndOfFlow', WHERE WHAT IT READS IS OF BULK AT MOST 1048576: true; the input reads as it did. -/
def fnExactEndOfFlowUptoRow : OpenClaim := { program := "ytcbkchnfjeegmaa", sum := "76cef75d17dc86f083ece35c1b08334471ff9dfdb3d326afeb82a4e25fe1e751", func := "loop.example/g01348/laws.FnExactEndOfFlow", spec := "fnExactEndOfFlow", unfollowed := true, recurses := true, apart := false, narrowed := true }
def FnExactEndOfFlowUptoSaid : Prop := fnExactEndOfFlowUptoRow.holds Try.pinned (OpenSpec.upto fnExactEndOfFlowSpec)

/-- 'laws.FnExactCountAutomorphisms', WHERE WHAT IT READS IS OF BULK AT MOST 1048576: true; the input reads as it did. -/
def fnExactCountAutomorphismsUptoRow : OpenClaim := { program := "ytcbkchnfjeegmaa", sum := "76cef75d17dc86f083ece35c1b08334471ff9dfdb3d326afeb82a4e25fe1e751", func := "loop.example/g01348/laws.FnExactCountAutomorphisms", spec := "fnExactCountAutomorphisms", unfollowed := true, recurses := true, apart := false, narrowed := true }
def FnExactCountAutomorphismsUptoSaid : Prop := fnExactCountAutomorphismsUptoRow.holds Try.pinned (OpenSpec.upto fnExactCountAutomorphismsSpec)

/-- 'laws.FnExactCriticalChain', WHERE WHAT IT READS IS OF BULK AT MOST 1048576: true; the input reads as it did. -/
def fnExactCriticalChainUptoRow : OpenClaim := { program := "ytcbkchnfjeegmaa", sum := "76cef75d17dc86f083ece35c1b08334471ff9dfdb3d326afeb82a4e25fe1e751", func := "loop.example/g01348/laws.FnExactCriticalChain", spec := "fnExactCriticalChain", unfollowed := true, recurses := true, apart := false, narrowed := true }
def FnExactCriticalChainUptoSaid : Prop := fnExactCriticalChainUptoRow.holds Try.pinned (OpenSpec.upto fnExactCriticalChainSpec)

/-- 'laws.FnExactFindIsomorphism', WHERE WHAT IT READS IS OF BULK AT MOST 1048576: true; the input reads as it did. -/
def fnExactFindIsomorphismUptoRow : OpenClaim := { program := "ytcbkchnfjeegmaa", sum := "76cef75d17dc86f083ece35c1b08334471ff9dfdb3d326afeb82a4e25fe1e751", func := "loop.example/g01348/laws.FnExactFindIsomorphism", spec := "fnExactFindIsomorphism", unfollowed := true, recurses := true, apart := false, narrowed := true }
def FnExactFindIsomorphismUptoSaid : Prop := fnExactFindIsomorphismUptoRow.holds Try.pinned (OpenSpec.upto fnExactFindIsomorphismSpec)

/-- 'laws.FnExactPairingByFibres', WHERE WHAT IT READS IS OF BULK AT MOST 1048576: true; the input reads as it did. -/
def fnExactPairingByFibresUptoRow : OpenClaim := { program := "ytcbkchnfjeegmaa", sum := "76cef75d17dc86f083ece35c1b08334471ff9dfdb3d326afeb82a4e25fe1e751", func := "loop.example/g01348/laws.FnExactPairingByFibres", spec := "fnExactPairingByFibres", unfollowed := true, recurses := true, apart := false, narrowed := true }
def FnExactPairingByFibresUptoSaid : Prop := fnExactPairingByFibresUptoRow.holds Try.pinned (OpenSpec.upto fnExactPairingByFibresSpec)

/-- 'laws.FnExactShortestCircle', WHERE WHAT IT READS IS OF BULK AT MOST 1048576: true; the input reads as it did. -/
def fnExactShortestCircleUptoRow : OpenClaim := { program := "ytcbkchnfjeegmaa", sum := "76cef75d17dc86f083ece35c1b08334471ff9dfdb3d326afeb82a4e25fe1e751", func := "loop.example/g01348/laws.FnExactShortestCircle", spec := "fnExactShortestCircle", unfollowed := true, recurses := true, apart := false, narrowed := true }
def FnExactShortestCircleUptoSaid : Prop := fnExactShortestCircleUptoRow.holds Try.pinned (OpenSpec.upto fnExactShortestCircleSpec)

end Rows
end Go.Proofs.Ytcbkchnfjeegmaa
