/-
  No cell of these rows narrows 'for every input' (looked for: loops, veiled, ifaces, maps, wideKeys, modest, calm, conditions, laid).
  DERIVED. THE GIVEN ROWS OF THIS SEAT. 8 by the template 'for every input the law returns true; each argument reads behind the call as it read before'; 0 by the template 'total and deterministic' (their statements: YtpcjbdkdpcgdiaaTotals.lean).
  GIVEN WITH THE SEED: the statements are not yours to turn. If you find one false, say at which input.
  Laid BY PROGRAM, IN A SANDBOX (cutbox-rows.mjs): the forced cells as the released guide's own fill.sh prints them over the translation 8362b9494248f7ad… (all of the seat's roots in one cut). By AI agents, Wed Nov 11 2026. No macro, syntax, notation, axiom, sorry.
-/
import Derived.Test.YtpcjbdkdpcgdiaaChecked
import GoSem.Claim
import GoSem.ClaimJoined
import GoSem.ClaimMapViews
import Derived.JoinedTies
import Derived.KernelRfl
namespace Go.Proofs.Ytpcjbdkdpcgdiaa
/- THE CELL 'sum', in the pinned program and in every row, IS THE sha256 OF THE DUMP (.gsa) THAT YtpcjbdkdpcgdiaaProg.lean LOADS. Nothing in Lean hashes anything: it is a label: what it is worth is what the hold of that sum in a sandbox is worth. -/
noncomputable def Try.pinned : Pinned := { name := "ytpcjbdkdpcgdiaa", sum := "8362b9494248f7ad7ad1562d6b8d0e616819859d8b0261ed2e06353830a7e9af", checked := Try.checked }
namespace Rows
def none {H : Type} : Left H := { results := [], args := [] }

/-- 'laws.FnExactIsEvasive': WHATEVER THE INPUT: true; the input reads as it did. -/
def fnExactIsEvasiveSpec : ChangeSpec := { name := "fnExactIsEvasive", fn := fun _ => fun
  | [d] => { results := [.lit (.bool true)], args := [d] }
  | _ => none }
def fnExactIsEvasiveRow : OpenClaim := { program := "ytpcjbdkdpcgdiaa", sum := "8362b9494248f7ad7ad1562d6b8d0e616819859d8b0261ed2e06353830a7e9af", func := "loop.example/g01348/laws.FnExactIsEvasive", spec := "fnExactIsEvasive", unfollowed := true, recurses := true, plainKeys := false, apart := false }
def FnExactIsEvasiveSaid : Prop := fnExactIsEvasiveRow.holds Try.pinned (OpenSpec.ofChange fnExactIsEvasiveSpec)

/-- ITS FALSE NEIGHBOUR: 'it returns false'. Refute it at one input. -/
def fnExactIsEvasiveWrong : ChangeSpec := { name := "fnExactIsEvasive", fn := fun _ => fun
  | [d] => { results := [.lit (.bool false)], args := [d] }
  | _ => none }
def FnExactIsEvasiveWrongFalsely : Prop := fnExactIsEvasiveRow.holds Try.pinned (OpenSpec.ofChange fnExactIsEvasiveWrong)

/-- 'laws.FnExactQuestionNumber': WHATEVER THE INPUT: true; the input reads as it did. -/
def fnExactQuestionNumberSpec : ChangeSpec := { name := "fnExactQuestionNumber", fn := fun _ => fun
  | [d] => { results := [.lit (.bool true)], args := [d] }
  | _ => none }
def fnExactQuestionNumberRow : OpenClaim := { program := "ytpcjbdkdpcgdiaa", sum := "8362b9494248f7ad7ad1562d6b8d0e616819859d8b0261ed2e06353830a7e9af", func := "loop.example/g01348/laws.FnExactQuestionNumber", spec := "fnExactQuestionNumber", unfollowed := true, recurses := true, plainKeys := false, apart := false }
def FnExactQuestionNumberSaid : Prop := fnExactQuestionNumberRow.holds Try.pinned (OpenSpec.ofChange fnExactQuestionNumberSpec)

/-- ITS FALSE NEIGHBOUR: 'it returns false'. Refute it at one input. -/
def fnExactQuestionNumberWrong : ChangeSpec := { name := "fnExactQuestionNumber", fn := fun _ => fun
  | [d] => { results := [.lit (.bool false)], args := [d] }
  | _ => none }
def FnExactQuestionNumberWrongFalsely : Prop := fnExactQuestionNumberRow.holds Try.pinned (OpenSpec.ofChange fnExactQuestionNumberWrong)

/-- 'laws.FnExactLeastEvaders': WHATEVER THE INPUT: true; the input reads as it did. -/
def fnExactLeastEvadersSpec : ChangeSpec := { name := "fnExactLeastEvaders", fn := fun _ => fun
  | [d] => { results := [.lit (.bool true)], args := [d] }
  | _ => none }
def fnExactLeastEvadersRow : OpenClaim := { program := "ytpcjbdkdpcgdiaa", sum := "8362b9494248f7ad7ad1562d6b8d0e616819859d8b0261ed2e06353830a7e9af", func := "loop.example/g01348/laws.FnExactLeastEvaders", spec := "fnExactLeastEvaders", unfollowed := true, recurses := true, plainKeys := false, apart := false }
def FnExactLeastEvadersSaid : Prop := fnExactLeastEvadersRow.holds Try.pinned (OpenSpec.ofChange fnExactLeastEvadersSpec)

/-- ITS FALSE NEIGHBOUR: 'it returns false'. Refute it at one input. -/
def fnExactLeastEvadersWrong : ChangeSpec := { name := "fnExactLeastEvaders", fn := fun _ => fun
  | [d] => { results := [.lit (.bool false)], args := [d] }
  | _ => none }
def FnExactLeastEvadersWrongFalsely : Prop := fnExactLeastEvadersRow.holds Try.pinned (OpenSpec.ofChange fnExactLeastEvadersWrong)

/-- 'laws.FnExactQuestionsFor': WHATEVER THE INPUT: true; the input reads as it did. -/
def fnExactQuestionsForSpec : ChangeSpec := { name := "fnExactQuestionsFor", fn := fun _ => fun
  | [d1, d2, d3] => { results := [.lit (.bool true)], args := [d1, d2, d3] }
  | _ => none }
def fnExactQuestionsForRow : OpenClaim := { program := "ytpcjbdkdpcgdiaa", sum := "8362b9494248f7ad7ad1562d6b8d0e616819859d8b0261ed2e06353830a7e9af", func := "loop.example/g01348/laws.FnExactQuestionsFor", spec := "fnExactQuestionsFor", unfollowed := true, recurses := true, plainKeys := false, apart := false }
def FnExactQuestionsForSaid : Prop := fnExactQuestionsForRow.holds Try.pinned (OpenSpec.ofChange fnExactQuestionsForSpec)

/-- ITS FALSE NEIGHBOUR: 'it returns false'. Refute it at one input. -/
def fnExactQuestionsForWrong : ChangeSpec := { name := "fnExactQuestionsFor", fn := fun _ => fun
  | [d1, d2, d3] => { results := [.lit (.bool false)], args := [d1, d2, d3] }
  | _ => none }
def FnExactQuestionsForWrongFalsely : Prop := fnExactQuestionsForRow.holds Try.pinned (OpenSpec.ofChange fnExactQuestionsForWrong)

/-- 'laws.FnExactEvadersOf': WHATEVER THE INPUT: true; the input reads as it did. -/
def fnExactEvadersOfSpec : ChangeSpec := { name := "fnExactEvadersOf", fn := fun _ => fun
  | [d1, d2] => { results := [.lit (.bool true)], args := [d1, d2] }
  | _ => none }
def fnExactEvadersOfRow : OpenClaim := { program := "ytpcjbdkdpcgdiaa", sum := "8362b9494248f7ad7ad1562d6b8d0e616819859d8b0261ed2e06353830a7e9af", func := "loop.example/g01348/laws.FnExactEvadersOf", spec := "fnExactEvadersOf", unfollowed := true, recurses := true, plainKeys := false, apart := false }
def FnExactEvadersOfSaid : Prop := fnExactEvadersOfRow.holds Try.pinned (OpenSpec.ofChange fnExactEvadersOfSpec)

/-- ITS FALSE NEIGHBOUR: 'it returns false'. Refute it at one input. -/
def fnExactEvadersOfWrong : ChangeSpec := { name := "fnExactEvadersOf", fn := fun _ => fun
  | [d1, d2] => { results := [.lit (.bool false)], args := [d1, d2] }
  | _ => none }
def FnExactEvadersOfWrongFalsely : Prop := fnExactEvadersOfRow.holds Try.pinned (OpenSpec.ofChange fnExactEvadersOfWrong)

/-- 'laws.FnExactBestTree': WHATEVER THE INPUT: true; the input reads as it did. -/
def fnExactBestTreeSpec : ChangeSpec := { name := "fnExactBestTree", fn := fun _ => fun
  | [d] => { results := [.lit (.bool true)], args := [d] }
  | _ => none }
def fnExactBestTreeRow : OpenClaim := { program := "ytpcjbdkdpcgdiaa", sum := "8362b9494248f7ad7ad1562d6b8d0e616819859d8b0261ed2e06353830a7e9af", func := "loop.example/g01348/laws.FnExactBestTree", spec := "fnExactBestTree", unfollowed := true, recurses := true, plainKeys := false, apart := false }
def FnExactBestTreeSaid : Prop := fnExactBestTreeRow.holds Try.pinned (OpenSpec.ofChange fnExactBestTreeSpec)

/-- ITS FALSE NEIGHBOUR: 'it returns false'. Refute it at one input. -/
def fnExactBestTreeWrong : ChangeSpec := { name := "fnExactBestTree", fn := fun _ => fun
  | [d] => { results := [.lit (.bool false)], args := [d] }
  | _ => none }
def FnExactBestTreeWrongFalsely : Prop := fnExactBestTreeRow.holds Try.pinned (OpenSpec.ofChange fnExactBestTreeWrong)

/-- 'laws.FnExactPairingOfTree': WHATEVER THE INPUT: true; the input reads as it did. -/
def fnExactPairingOfTreeSpec : ChangeSpec := { name := "fnExactPairingOfTree", fn := fun _ => fun
  | [d1, d2] => { results := [.lit (.bool true)], args := [d1, d2] }
  | _ => none }
def fnExactPairingOfTreeRow : OpenClaim := { program := "ytpcjbdkdpcgdiaa", sum := "8362b9494248f7ad7ad1562d6b8d0e616819859d8b0261ed2e06353830a7e9af", func := "loop.example/g01348/laws.FnExactPairingOfTree", spec := "fnExactPairingOfTree", unfollowed := true, recurses := true, plainKeys := false, apart := false }
def FnExactPairingOfTreeSaid : Prop := fnExactPairingOfTreeRow.holds Try.pinned (OpenSpec.ofChange fnExactPairingOfTreeSpec)

/-- ITS FALSE NEIGHBOUR: 'it returns false'. Refute it at one input. -/
def fnExactPairingOfTreeWrong : ChangeSpec := { name := "fnExactPairingOfTree", fn := fun _ => fun
  | [d1, d2] => { results := [.lit (.bool false)], args := [d1, d2] }
  | _ => none }
def FnExactPairingOfTreeWrongFalsely : Prop := fnExactPairingOfTreeRow.holds Try.pinned (OpenSpec.ofChange fnExactPairingOfTreeWrong)

/-- 'laws.FnQuestions': WHATEVER THE INPUT: true; the input reads as it did. -/
def fnQuestionsSpec : ChangeSpec := { name := "fnQuestions", fn := fun _ => fun
  | [d] => { results := [.lit (.bool true)], args := [d] }
  | _ => none }
def fnQuestionsRow : OpenClaim := { program := "ytpcjbdkdpcgdiaa", sum := "8362b9494248f7ad7ad1562d6b8d0e616819859d8b0261ed2e06353830a7e9af", func := "loop.example/g01348/laws.FnQuestions", spec := "fnQuestions", unfollowed := true, recurses := true, plainKeys := false, apart := false }
def FnQuestionsSaid : Prop := fnQuestionsRow.holds Try.pinned (OpenSpec.ofChange fnQuestionsSpec)

/-- ITS FALSE NEIGHBOUR: 'it returns false'. Refute it at one input. -/
def fnQuestionsWrong : ChangeSpec := { name := "fnQuestions", fn := fun _ => fun
  | [d] => { results := [.lit (.bool false)], args := [d] }
  | _ => none }
def FnQuestionsWrongFalsely : Prop := fnQuestionsRow.holds Try.pinned (OpenSpec.ofChange fnQuestionsWrong)

/- THE SECOND FORM. 'bulk': how many values and letters a reading holds, each counted each time it is reached (what is shared counts as often as it is met; a slice's spare places count too). A statement '..UptoSaid' is the law's where the arguments, and the package variables that the reading takes, are together of bulk at most 1048576: NARROWER than '..Said'. Prove '..Said' where nothing that the law and all that it calls make is longer than what came in: it says more and counts as full. Else prove '..UptoSaid'. A law counts once. -/
mutual
def uptoBulk {H : Type} : DataW H → Nat
  | .lit (.string bytes) => bytes.length + 1
  | .lit _ => 1
  | .nil => 1
  | .ptr d => uptoBulk d + 1
  | .slice elems spare => uptoBulkAll elems + uptoBulkAll spare + 1
  | .agg parts => uptoBulkAll parts + 1
  | .iface _ d => uptoBulk d + 1
  | .map entries => uptoBulkEntries entries + 1
  | .held _ => 1
def uptoBulkAll {H : Type} : List (DataW H) → Nat
  | [] => 0
  | d :: r => uptoBulk d + uptoBulkAll r
def uptoBulkEntries {H : Type} : List (Lit × DataW H) → Nat
  | [] => 0
  | x :: r => uptoBulkEntry x + uptoBulkEntries r
def uptoBulkEntry {H : Type} : Lit × DataW H → Nat
  | (.string bytes, d) => bytes.length + uptoBulk d + 1
  | (_, d) => uptoBulk d + 1
 end
def uptoSmall : (H : Type) → List (DataW H) → Bool := fun _ ds => decide (uptoBulkAll ds ≤ 1048576)
def OpenSpec.upto (s : _root_.Go.ChangeSpec) : _root_.Go.OpenSpec := { _root_.Go.OpenSpec.ofChange s with cond := some uptoSmall }

/-- 'laws.FnExactIsEvasive', WHERE WHAT IT READS IS OF BULK AT MOST 1048576: true; the input reads as it did. -/
def fnExactIsEvasiveUptoRow : OpenClaim := { program := "ytpcjbdkdpcgdiaa", sum := "8362b9494248f7ad7ad1562d6b8d0e616819859d8b0261ed2e06353830a7e9af", func := "loop.example/g01348/laws.FnExactIsEvasive", spec := "fnExactIsEvasive", unfollowed := true, recurses := true, plainKeys := false, apart := false, narrowed := true }
def FnExactIsEvasiveUptoSaid : Prop := fnExactIsEvasiveUptoRow.holds Try.pinned (OpenSpec.upto fnExactIsEvasiveSpec)

/-- 'laws.FnExactQuestionNumber', WHERE WHAT IT READS IS OF BULK AT MOST 1048576: true; the input reads as it did. -/
def fnExactQuestionNumberUptoRow : OpenClaim := { program := "ytpcjbdkdpcgdiaa", sum := "8362b9494248f7ad7ad1562d6b8d0e616819859d8b0261ed2e06353830a7e9af", func := "loop.example/g01348/laws.FnExactQuestionNumber", spec := "fnExactQuestionNumber", unfollowed := true, recurses := true, plainKeys := false, apart := false, narrowed := true }
def FnExactQuestionNumberUptoSaid : Prop := fnExactQuestionNumberUptoRow.holds Try.pinned (OpenSpec.upto fnExactQuestionNumberSpec)

/-- 'laws.FnExactLeastEvaders', WHERE WHAT IT READS IS OF BULK AT MOST 1048576: true; the input reads as it did. -/
def fnExactLeastEvadersUptoRow : OpenClaim := { program := "ytpcjbdkdpcgdiaa", sum := "8362b9494248f7ad7ad1562d6b8d0e616819859d8b0261ed2e06353830a7e9af", func := "loop.example/g01348/laws.FnExactLeastEvaders", spec := "fnExactLeastEvaders", unfollowed := true, recurses := true, plainKeys := false, apart := false, narrowed := true }
def FnExactLeastEvadersUptoSaid : Prop := fnExactLeastEvadersUptoRow.holds Try.pinned (OpenSpec.upto fnExactLeastEvadersSpec)

/-- 'laws.FnExactQuestionsFor', WHERE WHAT IT READS IS OF BULK AT MOST 1048576: true; the input reads as it did. -/
def fnExactQuestionsForUptoRow : OpenClaim := { program := "ytpcjbdkdpcgdiaa", sum := "8362b9494248f7ad7ad1562d6b8d0e616819859d8b0261ed2e06353830a7e9af", func := "loop.example/g01348/laws.FnExactQuestionsFor", spec := "fnExactQuestionsFor", unfollowed := true, recurses := true, plainKeys := false, apart := false, narrowed := true }
def FnExactQuestionsForUptoSaid : Prop := fnExactQuestionsForUptoRow.holds Try.pinned (OpenSpec.upto fnExactQuestionsForSpec)

/-- 'laws.FnExactEvadersOf', WHERE WHAT IT READS IS OF BULK AT MOST 1048576: true; the input reads as it did. -/
def fnExactEvadersOfUptoRow : OpenClaim := { program := "ytpcjbdkdpcgdiaa", sum := "8362b9494248f7ad7ad1562d6b8d0e616819859d8b0261ed2e06353830a7e9af", func := "loop.example/g01348/laws.FnExactEvadersOf", spec := "fnExactEvadersOf", unfollowed := true, recurses := true, plainKeys := false, apart := false, narrowed := true }
def FnExactEvadersOfUptoSaid : Prop := fnExactEvadersOfUptoRow.holds Try.pinned (OpenSpec.upto fnExactEvadersOfSpec)

/-- 'laws.FnExactBestTree', WHERE WHAT IT READS IS OF BULK AT MOST 1048576: true; the input reads as it did. -/
def fnExactBestTreeUptoRow : OpenClaim := { program := "ytpcjbdkdpcgdiaa", sum := "8362b9494248f7ad7ad1562d6b8d0e616819859d8b0261ed2e06353830a7e9af", func := "loop.example/g01348/laws.FnExactBestTree", spec := "fnExactBestTree", unfollowed := true, recurses := true, plainKeys := false, apart := false, narrowed := true }
def FnExactBestTreeUptoSaid : Prop := fnExactBestTreeUptoRow.holds Try.pinned (OpenSpec.upto fnExactBestTreeSpec)

/-- 'laws.FnExactPairingOfTree', WHERE WHAT IT READS IS OF BULK AT MOST 1048576: true; the input reads as it did. -/
def fnExactPairingOfTreeUptoRow : OpenClaim := { program := "ytpcjbdkdpcgdiaa", sum := "8362b9494248f7ad7ad1562d6b8d0e616819859d8b0261ed2e06353830a7e9af", func := "loop.example/g01348/laws.FnExactPairingOfTree", spec := "fnExactPairingOfTree", unfollowed := true, recurses := true, plainKeys := false, apart := false, narrowed := true }
def FnExactPairingOfTreeUptoSaid : Prop := fnExactPairingOfTreeUptoRow.holds Try.pinned (OpenSpec.upto fnExactPairingOfTreeSpec)

/-- 'laws.FnQuestions', WHERE WHAT IT READS IS OF BULK AT MOST 1048576: true; the input reads as it did. -/
def fnQuestionsUptoRow : OpenClaim := { program := "ytpcjbdkdpcgdiaa", sum := "8362b9494248f7ad7ad1562d6b8d0e616819859d8b0261ed2e06353830a7e9af", func := "loop.example/g01348/laws.FnQuestions", spec := "fnQuestions", unfollowed := true, recurses := true, plainKeys := false, apart := false, narrowed := true }
def FnQuestionsUptoSaid : Prop := fnQuestionsUptoRow.holds Try.pinned (OpenSpec.upto fnQuestionsSpec)

end Rows
end Go.Proofs.Ytpcjbdkdpcgdiaa
