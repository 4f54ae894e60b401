/- The row of FnExactPairingByFibres: for every input the law returns true and leaves its arguments as they were. No condition. -/
import Derived.Test.YtcbkchnfjeegmaaRows
import Derived.WalkKit
import Derived.ProofKit
import Derived.OpenShut
import Derived.ShutString
import Derived.ChangeOld
import Derived.Below
import Derived.SizedLaws
import Derived.Test.YtcbkchnfjeegmaaKFnExactPairingByFibres1
import Derived.Test.YtcbkchnfjeegmaaKFnExactPairingByFibres2
import Derived.Test.YtcbkchnfjeegmaaKFnExactPairingByFibres3
import Derived.Test.YtcbkchnfjeegmaaKFnExactPairingByFibres4
import Derived.Test.YtcbkchnfjeegmaaKFnExactPairingByFibres5
import Derived.Test.YtcbkchnfjeegmaaKFnExactPairingByFibres6
import Derived.Test.YtcbkchnfjeegmaaKFnExactPairingByFibres7
import Derived.Test.YtcbkchnfjeegmaaKFnExactPairingByFibres8
import Derived.Test.YtcbkchnfjeegmaaKFnExactPairingByFibres9
namespace Go.Proofs.Ytcbkchnfjeegmaa.fnExactPairingByFibres
open Go.ChangeShapes Go.WideShapes Go.ChangeAt Go.RowKit
open Go.ChangeMaps (open_string shut_string)
set_option linter.unusedVariables false
theorem own : ownKnob Try.prog.godebug = none := by kernel_rfl
theorem laidOut : laidOutB Try.prog = true := by kernel_rfl
set_option maxRecDepth 100000 in
theorem lifted (os : Os) (started : os.Started) (H : Type) (enc : TypeId × Value → H) :
    ReturnsInHanded {} Try.checked os 11 .any (Rows.fnExactPairingByFibresSpec.pre6 enc Try.prog Try.f11 Rows.fnExactPairingByFibresRow.domain false) (Rows.fnExactPairingByFibresSpec.post enc Try.prog Try.f11 false true false false) := by
  refine returnsInHanded_of_change_sized (C := Try.checked) own started (by kernel_rfl) Try.func11
    (ChangeSpec.witness6 (enc := enc) (C := Try.checked) false ⟨#[], #[.agg #[.int .i64 0, .slice none 0 0], .agg #[.int .i64 0, .slice none 0 0], .slice none 0 0], []⟩ 8 (by kernel_rfl) (by kernel_rfl) (by kernel_rfl) (by kernel_rfl)) ?_
  intro W base args ds gs before hval0 hW hcnd hsz0 _
  have hval : ∀ (j : Nat) t v, Try.f11.params[j]? = some t → args[j]? = some v → Value.okWide Try.prog W .any base t v := hval0
  have hW' := hW
  obtain ⟨p, q, hA0, hV, rfl, hfz, hnd⟩ := hW
  have hA : DataW.TrodAll enc Try.prog W 0 (fun _ => true) true Try.f11.params.toList args.toList ds p := hA0
  rw [Try.params11] at hA hval
  obtain ⟨v0, vs0, d0, ds0, p0, q0, hargs, rfl, rfl, h0, r0⟩ := trodAll_cons hA
  obtain ⟨v1, vs1, d1, ds1, p1, q1, rfl, rfl, rfl, h1, r1⟩ := trodAll_cons r0
  obtain ⟨v2, vs2, d2, ds2, p2, q2, rfl, rfl, rfl, h2, r2⟩ := trodAll_cons r1
  obtain ⟨rfl, rfl, rfl⟩ := trodAll_nil r2
  obtain rfl : args = #[v0, v1, v2] := by cases args; simp_all
  obtain ⟨rfl, rfl⟩ := trodVars_none hV
  have k0 := h0
  have lt0 : ∀ x ∈ p0, x.block < W.heap.size := by obtain ⟨m, hm⟩ := k0; exact DataW.trod_lt m _ _ _ hm
  obtain ⟨a0, u0, l0, rfl, w0, e0, g0⟩ := Go.Proofs.Ytcbkchnfjeegmaa.H.open_complex (hval 0 24 v0 rfl rfl) h0
  have k1 := h1
  have lt1 : ∀ x ∈ p1, x.block < W.heap.size := by obtain ⟨m, hm⟩ := k1; exact DataW.trod_lt m _ _ _ hm
  obtain ⟨a1, u1, l1, rfl, w1, e1, g1⟩ := Go.Proofs.Ytcbkchnfjeegmaa.H.open_complex (hval 1 24 v1 rfl rfl) h1
  have k2 := h2
  have lt2 : ∀ x ∈ p2, x.block < W.heap.size := by obtain ⟨m, hm⟩ := k2; exact DataW.trod_lt m _ _ _ hm
  obtain ⟨l2, e2, g2⟩ := Go.Proofs.Ytcbkchnfjeegmaa.H.open_list (hval 2 22 v2 rfl rfl) h2
  refine (Go.Proofs.Ytcbkchnfjeegmaa.H.lawFnExactPairingByFibres W a0 w0 u0 l0 e0 g0 a1 w1 u1 l1 e1 g1 v2 l2 e2 g2).mono fun e W' ⟨he, bel⟩ => ?_
  subst he
  exact ⟨_, rfl, _, _, _, [], _, [], hW', trodAll_mk1 (shut_bool Try.underlying4 _), (trodAll_cons_mk (Below.trod laidOut (by kernel_rfl) (of_decide_eq_true (by kernel_rfl)) k0 bel lt0) (trodAll_cons_mk (Below.trod laidOut (by kernel_rfl) (of_decide_eq_true (by kernel_rfl)) k1 bel lt1) (trodAll_cons_mk (Below.trod laidOut (by kernel_rfl) (of_decide_eq_true (by kernel_rfl)) k2 bel lt2) trodAll_mk0))), rfl, bel.frame _, fun h => by cases h⟩
theorem over : Rows.fnExactPairingByFibresRow.holds Try.pinned (OpenSpec.ofChange Rows.fnExactPairingByFibresSpec) :=
  OpenClaim.holds_of_wide 11 Try.f11 rfl rfl rfl rfl rfl rfl rfl ⟨rfl, rfl, rfl, rfl, rfl⟩ rfl rfl rfl rfl rfl (by kernel_rfl) Try.func11 (by kernel_rfl)
    (of_decide_eq_true (by kernel_rfl)) (by unfold Func.isWrapper; first | (rw [if_pos (by decide +kernel)]; kernel_rfl) | (rw [if_neg (by decide +kernel)]; exact ⟨rfl, rfl⟩))
    (fun os started H enc _ => lifted os started H enc)
theorem proved : Rows.FnExactPairingByFibresSaid := over
#print axioms proved
end Go.Proofs.Ytcbkchnfjeegmaa.fnExactPairingByFibres
namespace Go.Proofs.Ytcbkchnfjeegmaa
/-- The row, under a short name, for the claim. -/
theorem fnExactPairingByFibres_holds : Rows.FnExactPairingByFibresSaid := fnExactPairingByFibres.proved
end Go.Proofs.Ytcbkchnfjeegmaa
