/- A slice of one list. -/
import Derived.Test.YtcbkchnfjeegmaaHofS
import Derived.Test.YtcbkchnfjeegmaaBase
namespace Go.Proofs.Ytcbkchnfjeegmaa.H
open Go.RowKit Go.Proofs.YtcbkchnfjeegmaaW.PrintWords Go.Proofs.YtcbkchnfjeegmaaW.PrintLast Go.Proofs.YtcbkchnfjeegmaaW.PrintMore
set_option linter.unusedVariables false
set_option linter.unusedSimpArgs false

theorem ReadS.one' {W : World} {u : Value} {p : List Int} (h : ReadI W u p) : ReadS (W.alloc (.cells #[u] 22)) (.slice (some ⟨W.heap.size, 0, none⟩) 1 1) [p] := by
  refine ⟨_, 1, rfl, by simp, fun i xs hi => ?_⟩
  cases i with
  | zero =>
    simp at hi
    subst hi
    exact ⟨_, u, rfl, by rw [add_mk]; exact blk_cell (blk_new W _) 0, h.below (Below.alloc (Below.refl _ _) (Nat.le_refl _) _)⟩
  | succ i => simp at hi
end Go.Proofs.Ytcbkchnfjeegmaa.H
