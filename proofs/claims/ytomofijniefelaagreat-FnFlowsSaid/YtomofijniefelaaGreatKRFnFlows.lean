/- The row of FnFlows: for every input the law returns true and leaves its arguments as they were. No condition. -/
import Derived.Test.YtomofijniefelaaGreatRows
import Derived.WalkKit
import Derived.ProofKit
import Derived.OpenShut
import Derived.ShutString
import Derived.ChangeOld
import Derived.Below
import Derived.SizedLaws
import Derived.Test.YtomofijniefelaaGreatKFnFlows1
import Derived.Test.YtomofijniefelaaGreatKFnFlows2
import Derived.Test.YtomofijniefelaaGreatKFnFlows3
import Derived.Test.YtomofijniefelaaGreatKFnFlows4
import Derived.Test.YtomofijniefelaaGreatKFnFlows5
import Derived.Test.YtomofijniefelaaGreatKFnFlows6
import Derived.Test.YtomofijniefelaaGreatKFnFlows7
import Derived.Test.YtomofijniefelaaGreatKFnFlows8
import Derived.Test.YtomofijniefelaaGreatKFnFlows9
import Derived.Test.YtomofijniefelaaGreatKFnFlows10
import Derived.Test.YtomofijniefelaaGreatKFnFlows11
import Derived.Test.YtomofijniefelaaGreatKFnFlows12
import Derived.Test.YtomofijniefelaaGreatKFnFlows13
import Derived.Test.YtomofijniefelaaGreatKFnFlows14
import Derived.Test.YtomofijniefelaaGreatKFnFlows15
import Derived.Test.YtomofijniefelaaGreatKFnFlows16
import Derived.Test.YtomofijniefelaaGreatKFnFlows17
import Derived.Test.YtomofijniefelaaGreatKFnFlows18
import Derived.Test.YtomofijniefelaaGreatKFnFlows19
import Derived.Test.YtomofijniefelaaGreatKFnFlows20
import Derived.Test.YtomofijniefelaaGreatKFnFlows21
import Derived.Test.YtomofijniefelaaGreatKFnFlows22
import Derived.Test.YtomofijniefelaaGreatKFnFlows23
import Derived.Test.YtomofijniefelaaGreatKFnFlows24
import Derived.Test.YtomofijniefelaaGreatKFnFlows25
import Derived.Test.YtomofijniefelaaGreatKFnFlows26
namespace Go.Proofs.YtomofijniefelaaGreat.fnFlows
open Go.ChangeShapes Go.WideShapes Go.ChangeAt Go.RowKit
open Go.ChangeMaps (open_string shut_string)
set_option linter.unusedVariables false
theorem own : ownKnob Tryz.prog.godebug = none := by kernel_rfl
theorem laidOut : laidOutB Tryz.prog = true := by kernel_rfl
set_option maxRecDepth 100000 in
theorem lifted (os : Os) (started : os.Started) (H : Type) (enc : TypeId × Value → H) :
    ReturnsInHanded {} Tryz.checked os 4 .any (Rows.fnFlowsSpec.pre6 enc Tryz.prog Tryz.f4 Rows.fnFlowsRow.domain false) (Rows.fnFlowsSpec.post enc Tryz.prog Tryz.f4 false true false false) := by
  refine returnsInHanded_of_change_sized (C := Tryz.checked) own started (by kernel_rfl) Tryz.func4
    (ChangeSpec.witness6 (enc := enc) (C := Tryz.checked) false ⟨#[], #[.slice none 0 0], []⟩ 8 (by kernel_rfl) (by kernel_rfl) (by kernel_rfl) (by kernel_rfl)) ?_
  intro W base args ds gs before hval0 hW hcnd hsz0 _
  have hval : ∀ (j : Nat) t v, Tryz.f4.params[j]? = some t → args[j]? = some v → Value.okWide Tryz.prog W .any base t v := hval0
  have hW' := hW
  obtain ⟨p, q, hA0, hV, rfl, hfz, hnd⟩ := hW
  have hA : DataW.TrodAll enc Tryz.prog W 0 (fun _ => true) true Tryz.f4.params.toList args.toList ds p := hA0
  rw [Tryz.params4] at hA hval
  obtain ⟨v0, vs0, d0, ds0, p0, q0, hargs, rfl, rfl, h0, r0⟩ := trodAll_cons hA
  obtain ⟨rfl, rfl, rfl⟩ := trodAll_nil r0
  obtain rfl : args = #[v0] := by cases args; simp_all
  obtain ⟨rfl, rfl⟩ := trodVars_none hV
  have k0 := h0
  have lt0 : ∀ x ∈ p0, x.block < W.heap.size := by obtain ⟨m, hm⟩ := k0; exact DataW.trod_lt m _ _ _ hm
  obtain ⟨n0, e0, g0⟩ := Go.Proofs.YtomofijniefelaaGreat.H.open_code (hval 0 22 v0 rfl rfl) h0
  refine (Go.Proofs.YtomofijniefelaaGreat.H.lawFnFlows W v0 n0 e0 g0).mono fun e W' ⟨he, bel⟩ => ?_
  subst he
  exact ⟨_, rfl, _, _, _, [], _, [], hW', trodAll_mk1 (shut_bool Tryz.underlying4 _), (trodAll_cons_mk (Below.trod laidOut (by kernel_rfl) (of_decide_eq_true (by kernel_rfl)) k0 bel lt0) trodAll_mk0), rfl, bel.frame _, fun h => by cases h⟩
theorem named : Tryz.pinned.checked.prog.funcNamed Rows.fnFlowsRow.func = some 4 := by kernel_rfl
theorem closed : joinedFacts Tryz.pinned.checked.prog 4 Tryz.f4 Rows.fnFlowsSpec Rows.fnFlowsRow = true := by kernel_rfl
theorem inst : Tryz.f4.isInstance Tryz.pinned.checked.prog Rows.fnFlowsRow.origin Rows.fnFlowsRow.targs := of_decide_eq_true (by kernel_rfl)
theorem wrapped : Tryz.f4.isWrapper Tryz.pinned.checked.prog Rows.fnFlowsRow.wrapper Rows.fnFlowsRow.mainSum := by unfold Func.isWrapper; first | (rw [if_pos (by decide +kernel)]; kernel_rfl) | (rw [if_neg (by decide +kernel)]; exact ⟨rfl, rfl⟩)
theorem over : Rows.fnFlowsRow.holds Tryz.pinned (OpenSpec.ofChange Rows.fnFlowsSpec) :=
  OpenClaim.holds_of_wide 4 Tryz.f4 rfl rfl rfl rfl rfl rfl rfl ⟨rfl, rfl, rfl, rfl, rfl⟩ rfl rfl rfl rfl rfl named Tryz.func4 closed inst wrapped
    (fun os started H enc _ => lifted os started H enc)
theorem proved : Rows.FnFlowsSaid := over
#print axioms proved
end Go.Proofs.YtomofijniefelaaGreat.fnFlows
namespace Go.Proofs.YtomofijniefelaaGreat
/-- The row, under a short name, for the claim. -/
theorem fnFlows_holds : Rows.FnFlowsSaid := fnFlows.proved
end Go.Proofs.YtomofijniefelaaGreat
