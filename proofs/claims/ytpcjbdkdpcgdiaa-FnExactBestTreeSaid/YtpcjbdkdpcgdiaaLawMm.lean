/- Marks over complexes. -/
import Derived.Test.YtpcjbdkdpcgdiaaLawB
namespace Go.Proofs.Ytpcjbdkdpcgdiaa.H
open Go.RowKit Go.Proofs.YtpcjbdkdpcgdiaaW.PrintWords Go.Proofs.YtpcjbdkdpcgdiaaW.PrintLast Go.Proofs.YtpcjbdkdpcgdiaaW.PrintMore
set_option linter.unusedVariables false
set_option linter.unusedSimpArgs false

theorem grown_alloc {w w' : World} {o : Obj} {r : Option Nat} (h : (w.alloc o).grownBy w' r) : w.grownBy w' r :=
  ⟨h.os, h.tape, h.output, Nat.le_trans (by simp) h.size, fun k hk hne => (h.block k (by simp; omega) hne).trans ((World.grownBy_alloc w o none).block k hk (by simp))⟩

set_option maxRecDepth 100000 in
set_option maxHeartbeats 1000000 in
theorem markComplex (b : Nat) (a : Int) (v : Value) (xs : List Int) (k : Nat) (w : World) (ho : OwnI b w v xs) (hk : k ≤ 1073741824) (hl : xs.length ≤ 1073741824) (hbw : b ≤ w.heap.size) :
    Calls Try.prog 24 #[.agg #[.int .i64 a, v], .int .i64 k] w fun e w' => e = .returned (.int .i64 ((k : Int) + xs.length)) ∧ OwnI b w' v (marks k xs.length) ∧ w.grownBy w' v.ownBlock ∧ Below b w w' := by
  have hba : Below w.heap.size w (w.alloc (.cells #[.int .i64 a, v] 28)) := Below.alloc (Below.refl _ _) (Nat.le_refl _) _
  have HO := Aside0.mk (OwnI.below ho hba)
  have HB := Aside0.mk (hba.mono hbw)
  obtain ⟨A, c, rfl, -⟩ := ho.read
  clear ho hba
  go_enter Try.func24, Try.ntmps24
  go_wp2_with (first | (go_at_call 25; refine (markInt64S b _ xs k _ HO.out hk hl).mono ?_; rintro e w2 ⟨rfl, ho, hg, hb⟩; have HO2 := Aside0.mk ho; have HG2 := Aside0.mk hg; have HB2 := Aside0.mk hb; clear ho hg hb))
  go_ret
  exact ⟨rfl, HO2.out, grown_alloc HG2.out, HB.out.trans HB2.out⟩

end Go.Proofs.Ytpcjbdkdpcgdiaa.H
