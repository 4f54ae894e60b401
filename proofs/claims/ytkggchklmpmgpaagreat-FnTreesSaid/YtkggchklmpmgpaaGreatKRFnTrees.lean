/- The row of FnTrees: for every input the law returns true and leaves its arguments as they were. No condition. -/
import Derived.Test.YtkggchklmpmgpaaGreatRows
import Derived.WalkKit
import Derived.ProofKit
import Derived.OpenShut
import Derived.ShutString
import Derived.ChangeOld
import Derived.Below
import Derived.SizedLaws
import Derived.Test.YtkggchklmpmgpaaGreatKFnTrees1
import Derived.Test.YtkggchklmpmgpaaGreatKFnTrees2
import Derived.Test.YtkggchklmpmgpaaGreatKFnTrees3
import Derived.Test.YtkggchklmpmgpaaGreatKFnTrees4
import Derived.Test.YtkggchklmpmgpaaGreatKFnTrees5
import Derived.Test.YtkggchklmpmgpaaGreatKFnTrees6
import Derived.Test.YtkggchklmpmgpaaGreatKFnTrees7
import Derived.Test.YtkggchklmpmgpaaGreatKFnTrees8
import Derived.Test.YtkggchklmpmgpaaGreatKFnTrees9
import Derived.Test.YtkggchklmpmgpaaGreatKFnTrees10
import Derived.Test.YtkggchklmpmgpaaGreatKFnTrees11
import Derived.Test.YtkggchklmpmgpaaGreatKFnTrees12
import Derived.Test.YtkggchklmpmgpaaGreatKFnTrees13
import Derived.Test.YtkggchklmpmgpaaGreatKFnTrees14
import Derived.Test.YtkggchklmpmgpaaGreatKFnTrees15
import Derived.Test.YtkggchklmpmgpaaGreatKFnTrees16
import Derived.Test.YtkggchklmpmgpaaGreatKFnTrees17
import Derived.Test.YtkggchklmpmgpaaGreatKFnTrees18
import Derived.Test.YtkggchklmpmgpaaGreatKFnTrees19
import Derived.Test.YtkggchklmpmgpaaGreatKFnTrees20
import Derived.Test.YtkggchklmpmgpaaGreatKFnTrees21
import Derived.Test.YtkggchklmpmgpaaGreatKFnTrees22
import Derived.Test.YtkggchklmpmgpaaGreatKFnTrees23
import Derived.Test.YtkggchklmpmgpaaGreatKFnTrees24
import Derived.Test.YtkggchklmpmgpaaGreatKFnTrees25
import Derived.Test.YtkggchklmpmgpaaGreatKFnTrees26
import Derived.Test.YtkggchklmpmgpaaGreatKFnTrees27
import Derived.Test.YtkggchklmpmgpaaGreatKFnTrees28
namespace Go.Proofs.YtkggchklmpmgpaaGreat.fnTrees
open Go.ChangeShapes Go.WideShapes Go.ChangeAt Go.RowKit
open Go.ChangeMaps (open_string shut_string)
set_option linter.unusedVariables false
theorem own : ownKnob Tryz.prog.godebug = none := by kernel_rfl
theorem laidOut : laidOutB Tryz.prog = true := by kernel_rfl
set_option maxRecDepth 100000 in
theorem lifted (os : Os) (started : os.Started) (H : Type) (enc : TypeId × Value → H) :
    ReturnsInHanded {} Tryz.checked os 5 .any (Rows.fnTreesSpec.pre6 enc Tryz.prog Tryz.f5 Rows.fnTreesRow.domain false) (Rows.fnTreesSpec.post enc Tryz.prog Tryz.f5 false true false false) := by
  refine returnsInHanded_of_change_sized (C := Tryz.checked) own started (by kernel_rfl) Tryz.func5
    (ChangeSpec.witness6 (enc := enc) (C := Tryz.checked) false ⟨#[], #[.slice none 0 0], []⟩ 8 (by kernel_rfl) (by kernel_rfl) (by kernel_rfl) (by kernel_rfl)) ?_
  intro W base args ds gs before hval0 hW hcnd hsz0 _
  have hval : ∀ (j : Nat) t v, Tryz.f5.params[j]? = some t → args[j]? = some v → Value.okWide Tryz.prog W .any base t v := hval0
  have hW' := hW
  obtain ⟨p, q, hA0, hV, rfl, hfz, hnd⟩ := hW
  have hA : DataW.TrodAll enc Tryz.prog W 0 (fun _ => true) true Tryz.f5.params.toList args.toList ds p := hA0
  rw [Tryz.params5] at hA hval
  obtain ⟨v0, vs0, d0, ds0, p0, q0, hargs, rfl, rfl, h0, r0⟩ := trodAll_cons hA
  obtain ⟨rfl, rfl, rfl⟩ := trodAll_nil r0
  obtain rfl : args = #[v0] := by cases args; simp_all
  obtain ⟨rfl, rfl⟩ := trodVars_none hV
  have k0 := h0
  have lt0 : ∀ x ∈ p0, x.block < W.heap.size := by obtain ⟨m, hm⟩ := k0; exact DataW.trod_lt m _ _ _ hm
  obtain ⟨n0, e0, g0⟩ := Go.Proofs.YtkggchklmpmgpaaGreat.H.open_code (hval 0 22 v0 rfl rfl) h0
  refine (Go.Proofs.YtkggchklmpmgpaaGreat.H.lawFnTrees W v0 n0 e0 g0).mono fun e W' ⟨he, bel⟩ => ?_
  subst he
  exact ⟨_, rfl, _, _, _, [], _, [], hW', trodAll_mk1 (shut_bool Tryz.underlying4 _), (trodAll_cons_mk (Below.trod laidOut (by kernel_rfl) (of_decide_eq_true (by kernel_rfl)) k0 bel lt0) trodAll_mk0), rfl, bel.frame _, fun h => by cases h⟩
theorem named : Tryz.pinned.checked.prog.funcNamed Rows.fnTreesRow.func = some 5 := by kernel_rfl
theorem closed : joinedFacts Tryz.pinned.checked.prog 5 Tryz.f5 Rows.fnTreesSpec Rows.fnTreesRow = true := by kernel_rfl
theorem inst : Tryz.f5.isInstance Tryz.pinned.checked.prog Rows.fnTreesRow.origin Rows.fnTreesRow.targs := of_decide_eq_true (by kernel_rfl)
theorem wrapped : Tryz.f5.isWrapper Tryz.pinned.checked.prog Rows.fnTreesRow.wrapper Rows.fnTreesRow.mainSum := by unfold Func.isWrapper; first | (rw [if_pos (by decide +kernel)]; kernel_rfl) | (rw [if_neg (by decide +kernel)]; exact ⟨rfl, rfl⟩)
theorem over : Rows.fnTreesRow.holds Tryz.pinned (OpenSpec.ofChange Rows.fnTreesSpec) :=
  OpenClaim.holds_of_wide 5 Tryz.f5 rfl rfl rfl rfl rfl rfl rfl ⟨rfl, rfl, rfl, rfl, rfl⟩ rfl rfl rfl rfl rfl named Tryz.func5 closed inst wrapped
    (fun os started H enc _ => lifted os started H enc)
theorem proved : Rows.FnTreesSaid := over
#print axioms proved
end Go.Proofs.YtkggchklmpmgpaaGreat.fnTrees
namespace Go.Proofs.YtkggchklmpmgpaaGreat
/-- The row, under a short name, for the claim. -/
theorem fnTrees_holds : Rows.FnTreesSaid := fnTrees.proved
end Go.Proofs.YtkggchklmpmgpaaGreat
