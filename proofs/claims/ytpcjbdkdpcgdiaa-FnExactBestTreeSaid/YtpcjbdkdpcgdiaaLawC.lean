/- What is known of a world is carried to the next one: the words of the printed laws. -/
import Derived.Test.YtpcjbdkdpcgdiaaLawB
import Derived.Test.YtpcjbdkdpcgdiaaPhi
namespace Go.Proofs.Ytpcjbdkdpcgdiaa.H
open Go.RowKit Go.Proofs.YtpcjbdkdpcgdiaaW.PrintWords Go.Proofs.YtpcjbdkdpcgdiaaW.PrintLast Go.Proofs.YtpcjbdkdpcgdiaaW.PrintMore
set_option linter.unusedVariables false
set_option linter.unusedSimpArgs false

/-- where a walk stands -/
structure Stg (n : Nat) : Prop where
theorem stg_next (k k' : Nat) (h : Stg k) : Stg k' := ⟨⟩
theorem new_cell (W : World) (cs : Array Value) (t : TypeId) (i : Nat) (v : Value) (h : cs[i]? = some v) : (W.alloc (.cells cs t)).cell? ⟨W.heap.size, i, none⟩ = some v := by
  rw [blk_cell (blk_new W _) i, h]
theorem below_unalloc {W W' : World} {o : Obj} (h : Below (W.alloc o).heap.size (W.alloc o) W') : Below W.heap.size W W' :=
  (Below.alloc (Below.refl _ _) (Nat.le_refl _) o).trans (h.mono (by simp))
theorem alloc_size {W W' : World} {o : Obj} (h : Below (W.alloc o).heap.size (W.alloc o) W') : W.heap.size + 1 ≤ W'.heap.size := by
  have := h.size
  rwa [World.size_alloc] at this
theorem Aside0.own {b : Nat} {w w' : World} {v : Value} {xs : List Int} (h : Aside0 (OwnI b w v xs)) (hb : Below w.heap.size w w') : Aside0 (OwnI b w' v xs) := ⟨OwnI.below h.out hb⟩
theorem Aside0.belowC {w w1 w' : World} (h : Aside0 (Below w.heap.size w w1)) (hb : Below w1.heap.size w1 w') : Aside0 (Below w.heap.size w w') := ⟨h.out.trans (hb.mono h.out.size)⟩
theorem cell_ahead {W : World} {a : Addr} {v : Value} (h : W.cell? a = some v) (o : Obj) : (W.alloc o).cell? a = some v := pw_cell_below (Below.alloc (Below.refl _ _) (Nat.le_refl _) o) h
theorem cell_grown {W W' : World} {v u : Value} {a : Addr} {lo hi : Nat} (hg : W.grownBy W' v.ownBlock) (hr : ∀ k, v.ownBlock = some k → lo ≤ k ∧ k < hi) (hn : a.block < lo ∨ hi ≤ a.block) (hc : W.cell? a = some u) : W'.cell? a = some u := by
  rw [World.cell?_of_block (hg.block a.block (World.block_lt_of_cell? _ _ hc) (fun e => by have := hr _ e.symm; omega))]
  exact hc
theorem own_grown {W W' : World} {v u : Value} {b lo hi lo' hi' : Nat} {xs : List Int} (hg : W.grownBy W' v.ownBlock) (hr : ∀ k, v.ownBlock = some k → lo ≤ k ∧ k < hi) (hr' : ∀ k, u.ownBlock = some k → lo' ≤ k ∧ k < hi') (hn : hi' ≤ lo ∨ hi ≤ lo') (ho : OwnI b W u xs) : OwnI b W' u xs :=
  ho.grown hg (fun k hk e => by have h1 := hr _ e.symm; have h2 := hr' _ hk; omega)
end Go.Proofs.Ytpcjbdkdpcgdiaa.H
