/- The row of FnExactEulerOfLevels: for every input the law returns true and leaves its arguments as they were. No condition. -/
import Derived.Test.YtomofijniefelaaRows
import Derived.WalkKit
import Derived.ProofKit
import Derived.OpenShut
import Derived.ShutString
import Derived.ChangeOld
import Derived.Below
import Derived.SizedLaws
import Derived.Test.YtomofijniefelaaKFnExactEulerOfLevels1
import Derived.Test.YtomofijniefelaaKFnExactEulerOfLevels2
import Derived.Test.YtomofijniefelaaKFnExactEulerOfLevels3
import Derived.Test.YtomofijniefelaaKFnExactEulerOfLevels4
import Derived.Test.YtomofijniefelaaKFnExactEulerOfLevels5
import Derived.Test.YtomofijniefelaaKFnExactEulerOfLevels6
import Derived.Test.YtomofijniefelaaKFnExactEulerOfLevels7
import Derived.Test.YtomofijniefelaaKFnExactEulerOfLevels8
namespace Go.Proofs.Ytomofijniefelaa.fnExactEulerOfLevels
open Go.ChangeShapes Go.WideShapes Go.ChangeAt Go.RowKit
open Go.ChangeMaps (open_string shut_string)
set_option linter.unusedVariables false
theorem own : ownKnob Try.prog.godebug = none := by kernel_rfl
theorem laidOut : laidOutB Try.prog = true := by kernel_rfl
set_option maxRecDepth 100000 in
theorem lifted (os : Os) (started : os.Started) (H : Type) (enc : TypeId × Value → H) :
    ReturnsInHanded {} Try.checked os 3 .any (Rows.fnExactEulerOfLevelsSpec.pre6 enc Try.prog Try.f3 Rows.fnExactEulerOfLevelsRow.domain false) (Rows.fnExactEulerOfLevelsSpec.post enc Try.prog Try.f3 false true false false) := by
  refine returnsInHanded_of_change_sized (C := Try.checked) own started (by kernel_rfl) Try.func3
    (ChangeSpec.witness6 (enc := enc) (C := Try.checked) false ⟨#[], #[.agg #[.int .i64 0, .slice none 0 0], .slice none 0 0], []⟩ 8 (by kernel_rfl) (by kernel_rfl) (by kernel_rfl) (by kernel_rfl)) ?_
  intro W base args ds gs before hval0 hW hcnd hsz0 _
  have hval : ∀ (j : Nat) t v, Try.f3.params[j]? = some t → args[j]? = some v → Value.okWide Try.prog W .any base t v := hval0
  have hW' := hW
  obtain ⟨p, q, hA0, hV, rfl, hfz, hnd⟩ := hW
  have hA : DataW.TrodAll enc Try.prog W 0 (fun _ => true) true Try.f3.params.toList args.toList ds p := hA0
  rw [Try.params3] at hA hval
  obtain ⟨v0, vs0, d0, ds0, p0, q0, hargs, rfl, rfl, h0, r0⟩ := trodAll_cons hA
  obtain ⟨v1, vs1, d1, ds1, p1, q1, rfl, rfl, rfl, h1, r1⟩ := trodAll_cons r0
  obtain ⟨rfl, rfl, rfl⟩ := trodAll_nil r1
  obtain rfl : args = #[v0, v1] := by cases args; simp_all
  obtain ⟨rfl, rfl⟩ := trodVars_none hV
  have k0 := h0
  have lt0 : ∀ x ∈ p0, x.block < W.heap.size := by obtain ⟨m, hm⟩ := k0; exact DataW.trod_lt m _ _ _ hm
  obtain ⟨a0, u0, l0, rfl, w0, e0, g0⟩ := Go.Proofs.Ytomofijniefelaa.H.open_complex (hval 0 24 v0 rfl rfl) h0
  have k1 := h1
  have lt1 : ∀ x ∈ p1, x.block < W.heap.size := by obtain ⟨m, hm⟩ := k1; exact DataW.trod_lt m _ _ _ hm
  obtain ⟨l1, e1, g1⟩ := Go.Proofs.Ytomofijniefelaa.H.open_list (hval 1 22 v1 rfl rfl) h1
  refine (Go.Proofs.Ytomofijniefelaa.H.lawFnExactEulerOfLevels W a0 w0 u0 l0 e0 g0 v1 l1 e1 g1).mono fun e W' ⟨he, bel⟩ => ?_
  subst he
  exact ⟨_, rfl, _, _, _, [], _, [], hW', trodAll_mk1 (shut_bool Try.underlying4 _), (trodAll_cons_mk (Below.trod laidOut (by kernel_rfl) (of_decide_eq_true (by kernel_rfl)) k0 bel lt0) (trodAll_cons_mk (Below.trod laidOut (by kernel_rfl) (of_decide_eq_true (by kernel_rfl)) k1 bel lt1) trodAll_mk0)), rfl, bel.frame _, fun h => by cases h⟩
theorem named : Try.pinned.checked.prog.funcNamed Rows.fnExactEulerOfLevelsRow.func = some 3 := by kernel_rfl
theorem closed : joinedFacts Try.pinned.checked.prog 3 Try.f3 Rows.fnExactEulerOfLevelsSpec Rows.fnExactEulerOfLevelsRow = true := by kernel_rfl
theorem inst : Try.f3.isInstance Try.pinned.checked.prog Rows.fnExactEulerOfLevelsRow.origin Rows.fnExactEulerOfLevelsRow.targs := of_decide_eq_true (by kernel_rfl)
theorem wrapped : Try.f3.isWrapper Try.pinned.checked.prog Rows.fnExactEulerOfLevelsRow.wrapper Rows.fnExactEulerOfLevelsRow.mainSum := by unfold Func.isWrapper; first | (rw [if_pos (by decide +kernel)]; kernel_rfl) | (rw [if_neg (by decide +kernel)]; exact ⟨rfl, rfl⟩)
theorem over : Rows.fnExactEulerOfLevelsRow.holds Try.pinned (OpenSpec.ofChange Rows.fnExactEulerOfLevelsSpec) :=
  OpenClaim.holds_of_wide 3 Try.f3 rfl rfl rfl rfl rfl rfl rfl ⟨rfl, rfl, rfl, rfl, rfl⟩ rfl rfl rfl rfl rfl named Try.func3 closed inst wrapped
    (fun os started H enc _ => lifted os started H enc)
theorem proved : Rows.FnExactEulerOfLevelsSaid := over
#print axioms proved
end Go.Proofs.Ytomofijniefelaa.fnExactEulerOfLevels
namespace Go.Proofs.Ytomofijniefelaa
/-- The row, under a short name, for the claim. -/
theorem fnExactEulerOfLevels_holds : Rows.FnExactEulerOfLevelsSaid := fnExactEulerOfLevels.proved
end Go.Proofs.Ytomofijniefelaa
