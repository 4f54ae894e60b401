/- The row of FnExactPairingOfTree: for every input the law returns true and leaves its arguments as they were. No condition. -/
import Derived.Test.YthbkboigbkadjaaRows
import Derived.WalkKit
import Derived.ProofKit
import Derived.OpenShut
import Derived.ShutString
import Derived.ChangeOld
import Derived.Below
import Derived.SizedLaws
import Derived.Test.YthbkboigbkadjaaKFnExactPairingOfTree1
import Derived.Test.YthbkboigbkadjaaKFnExactPairingOfTree2
import Derived.Test.YthbkboigbkadjaaKFnExactPairingOfTree3
import Derived.Test.YthbkboigbkadjaaKFnExactPairingOfTree4
import Derived.Test.YthbkboigbkadjaaKFnExactPairingOfTree5
import Derived.Test.YthbkboigbkadjaaKFnExactPairingOfTree6
import Derived.Test.YthbkboigbkadjaaKFnExactPairingOfTree7
import Derived.Test.YthbkboigbkadjaaKFnExactPairingOfTree8
import Derived.Test.YthbkboigbkadjaaKFnExactPairingOfTree9
import Derived.Test.YthbkboigbkadjaaKFnExactPairingOfTree10
import Derived.Test.YthbkboigbkadjaaKFnExactPairingOfTree11
import Derived.Test.YthbkboigbkadjaaKFnExactPairingOfTree12
import Derived.Test.YthbkboigbkadjaaKFnExactPairingOfTree13
import Derived.Test.YthbkboigbkadjaaKFnExactPairingOfTree14
namespace Go.Proofs.Ythbkboigbkadjaa.fnExactPairingOfTree
open Go.ChangeShapes Go.WideShapes Go.ChangeAt Go.RowKit
open Go.ChangeMaps (open_string shut_string)
set_option linter.unusedVariables false
theorem own : ownKnob Try.prog.godebug = none := by kernel_rfl
theorem laidOut : laidOutB Try.prog = true := by kernel_rfl
set_option maxRecDepth 100000 in
theorem lifted (os : Os) (started : os.Started) (H : Type) (enc : TypeId × Value → H) :
    ReturnsInHanded {} Try.checked os 5 .any (Rows.fnExactPairingOfTreeSpec.pre6 enc Try.prog Try.f5 Rows.fnExactPairingOfTreeRow.domain false) (Rows.fnExactPairingOfTreeSpec.post enc Try.prog Try.f5 false true false false) := by
  refine returnsInHanded_of_change_sized (C := Try.checked) own started (by kernel_rfl) Try.func5
    (ChangeSpec.witness6 (enc := enc) (C := Try.checked) false ⟨#[], #[.agg #[.int .i64 0, .slice none 0 0], .slice none 0 0], []⟩ 8 (by kernel_rfl) (by kernel_rfl) (by kernel_rfl) (by kernel_rfl)) ?_
  intro W base args ds gs before hval0 hW hcnd hsz0 _
  have hval : ∀ (j : Nat) t v, Try.f5.params[j]? = some t → args[j]? = some v → Value.okWide Try.prog W .any base t v := hval0
  have hW' := hW
  obtain ⟨p, q, hA0, hV, rfl, hfz, hnd⟩ := hW
  have hA : DataW.TrodAll enc Try.prog W 0 (fun _ => true) true Try.f5.params.toList args.toList ds p := hA0
  rw [Try.params5] at hA hval
  obtain ⟨v0, vs0, d0, ds0, p0, q0, hargs, rfl, rfl, h0, r0⟩ := trodAll_cons hA
  obtain ⟨v1, vs1, d1, ds1, p1, q1, rfl, rfl, rfl, h1, r1⟩ := trodAll_cons r0
  obtain ⟨rfl, rfl, rfl⟩ := trodAll_nil r1
  obtain rfl : args = #[v0, v1] := by cases args; simp_all
  obtain ⟨rfl, rfl⟩ := trodVars_none hV
  have k0 := h0
  have lt0 : ∀ x ∈ p0, x.block < W.heap.size := by obtain ⟨m, hm⟩ := k0; exact DataW.trod_lt m _ _ _ hm
  obtain ⟨a0, u0, l0, rfl, w0, e0, g0⟩ := Go.Proofs.Ythbkboigbkadjaa.H.open_complex (hval 0 24 v0 rfl rfl) h0
  have k1 := h1
  have lt1 : ∀ x ∈ p1, x.block < W.heap.size := by obtain ⟨m, hm⟩ := k1; exact DataW.trod_lt m _ _ _ hm
  obtain ⟨l1, e1, g1⟩ := Go.Proofs.Ythbkboigbkadjaa.H.open_list (hval 1 22 v1 rfl rfl) h1
  refine (Go.Proofs.Ythbkboigbkadjaa.H.lawFnExactPairingOfTree W a0 w0 u0 l0 e0 g0 v1 l1 e1 g1).mono fun e W' ⟨he, bel⟩ => ?_
  subst he
  exact ⟨_, rfl, _, _, _, [], _, [], hW', trodAll_mk1 (shut_bool Try.underlying4 _), (trodAll_cons_mk (Below.trod laidOut (by kernel_rfl) (of_decide_eq_true (by kernel_rfl)) k0 bel lt0) (trodAll_cons_mk (Below.trod laidOut (by kernel_rfl) (of_decide_eq_true (by kernel_rfl)) k1 bel lt1) trodAll_mk0)), rfl, bel.frame _, fun h => by cases h⟩
theorem over : Rows.fnExactPairingOfTreeRow.holds Try.pinned (OpenSpec.ofChange Rows.fnExactPairingOfTreeSpec) :=
  OpenClaim.holds_of_wide 5 Try.f5 rfl rfl rfl rfl rfl rfl rfl ⟨rfl, rfl, rfl, rfl, rfl⟩ rfl rfl rfl rfl rfl (by kernel_rfl) Try.func5 (by kernel_rfl)
    (of_decide_eq_true (by kernel_rfl)) (by unfold Func.isWrapper; first | (rw [if_pos (by decide +kernel)]; kernel_rfl) | (rw [if_neg (by decide +kernel)]; exact ⟨rfl, rfl⟩))
    (fun os started H enc _ => lifted os started H enc)
theorem proved : Rows.FnExactPairingOfTreeSaid := over
#print axioms proved
end Go.Proofs.Ythbkboigbkadjaa.fnExactPairingOfTree
namespace Go.Proofs.Ythbkboigbkadjaa
/-- The row, under a short name, for the claim. -/
theorem fnExactPairingOfTree_holds : Rows.FnExactPairingOfTreeSaid := fnExactPairingOfTree.proved
end Go.Proofs.Ythbkboigbkadjaa
