/- Complexes drawn, seldom bad ones: l01Bad, l01Spoil. Complexes drawn: l01Spoil; draws of one complex. Trees drawn: l10DrawTree. Trees drawn: l10Draw. A region of open order: heads as in wp_region_u, then stores that may come early, the last operations one behind the other. DrawQuestionsFor: what its region keeps. Pairs put in, one by one, in order (plain). -/
import Derived.Test.YtomofijniefelaaGreatKFnFlows1
import Derived.Test.YtomofijniefelaaGreatKFnFlows2
import Derived.Test.YtomofijniefelaaGreatKFnFlows3
import Derived.Test.YtomofijniefelaaGreatKFnFlows4
import Derived.Test.YtomofijniefelaaGreatKFnFlows5
import Derived.Test.YtomofijniefelaaGreatKFnFlows6
import Derived.Test.YtomofijniefelaaGreatKFnFlows7
import Derived.Test.YtomofijniefelaaGreatKFnFlows8
import Derived.Test.YtomofijniefelaaGreatKFnFlows9
import Derived.Test.YtomofijniefelaaGreatKFnFlows10
import Derived.Test.YtomofijniefelaaGreatKFnFlows11
import Derived.Test.YtomofijniefelaaGreatKFnFlows12
import Derived.Test.YtomofijniefelaaGreatKFnFlows13
import Derived.Test.YtomofijniefelaaGreatKFnFlows14
import Derived.Test.YtomofijniefelaaGreatKFnFlows15
import Derived.Test.YtomofijniefelaaGreatKFnFlows16
import Derived.Test.YtomofijniefelaaGreatKFnFlows17
import Derived.Test.YtomofijniefelaaGreatKFnFlows18

namespace Go.Proofs.YtomofijniefelaaGreat.H
open Go.RowKit Go.Proofs.YtomofijniefelaaGreatW.PrintWords Go.Proofs.YtomofijniefelaaGreatW.PrintLast
set_option linter.unusedVariables false
set_option linter.unusedSimpArgs false
/-- what a draw gives, complex or not -/
def Rc (a : Int) (ys : List Int) : Prop := -1 ≤ a ∧ a ≤ 7 ∧ (∀ y ∈ ys, 0 ≤ y ∧ y ≤ 64) ∧ ys.length ≤ 65
theorem Gc.rc {n : Nat} {xs : List Int} (h : Gc n xs) : Rc n xs := ⟨by omega, by have := h.2.1; omega, fun y hy => by have := h.2.2.1 y hy; have := pwn h.2.1; omega, by have := h.2.2.2; omega⟩
/-- the third spoiling: a copy, a number picked, and put behind it -/
structure BsI (bs n : Nat) (xs L : List Int) (N1 : Int) (w0 : World) (b : Nat → Bool) (s : Nat → Value) (w : World) : Prop where
 hD : Dw bs w0 w
 h16 : b 16 = true → b 4 = true ∧ b 15 = true
 h15 : b 15 = true → b 14 = true
 h14 : b 14 = true → b 13 = true
 h17 : b 17 = true → b 16 = true
 v4 : b 4 = true → b 16 = false → OwnI w0.heap.size w (s 4) xs
 v8 : b 8 = true → s 8 = .int .i64 N1
 v12 : b 12 = true → s 12 = .int .i64 N1
 v13 : b 13 = true → b 14 = false → OwnI w0.heap.size w (s 13) L
 v14 : b 14 = true → ∃ r : Int, s 14 = .int .i64 r ∧ 0 ≤ r ∧ r ≤ 64
 v15 : b 15 = true → b 16 = false → ∃ (r : Int) (k : Nat), s 15 = .slice (some ⟨k, 0, none⟩) 1 1 ∧ w0.heap.size ≤ k ∧ w.cell? ⟨k, 0, none⟩ = some (.int .i64 r) ∧ 0 ≤ r ∧ r ≤ 64
 v16 : b 16 = true → ∃ r : Int, OwnI w0.heap.size w (s 16) (xs ++ [r]) ∧ 0 ≤ r ∧ r ≤ 64
 v17 : b 17 = true → ∃ (r : Int) (u : Value), s 17 = .agg #[.int .i64 (n : Int), u] ∧ OwnI w0.heap.size w u (xs ++ [r]) ∧ 0 ≤ r ∧ r ≤ 64
section
variable {bs n : Nat} {xs L : List Int} {N1 : Int} {w0 w : World} {b : Nat → Bool} {s : Nat → Value}
theorem BsI.start (hs : Src bs w0) (hb : ∀ i, b i = false) : BsI bs n xs L N1 w0 b s w0.drew := by
 have hn : ∀ i, ¬ b i = true := fun i h => by rw [hb i] at h; cases h
 exact ⟨Dw.of_below hs (Below.refl _ _).drew, fun h => absurd h (hn _), fun h => absurd h (hn _), fun h => absurd h (hn _), fun h => absurd h (hn _), fun h => absurd h (hn _), fun h => absurd h (hn _), fun h => absurd h (hn _), fun h => absurd h (hn _), fun h => absurd h (hn _), fun h => absurd h (hn _), fun h => absurd h (hn _), fun h => absurd h (hn _)⟩
theorem BsI.go (h : BsI bs n xs L N1 w0 b s w) (hbs : bs < w0.heap.size) {w' : World} (hd : Dw bs w w') : BsI bs n xs L N1 w0 b s w' :=
 ⟨h.hD.trans hd, h.h16, h.h15, h.h14, h.h17, fun a c => (h.v4 a c).gm hd.1 hbs, h.v8, h.v12, fun a c => (h.v13 a c).gm hd.1 hbs, h.v14, fun a c => by
  obtain ⟨r, k, e, hk, hc, hr⟩ := h.v15 a c
  exact ⟨r, k, e, hk, grown_cell hd.1 hc (by show k ≠ bs; omega), hr⟩, fun a => by
  obtain ⟨r, ho, hr⟩ := h.v16 a
  exact ⟨r, ho.gm hd.1 hbs, hr⟩, fun a => by
  obtain ⟨r, u, e, ho, hr⟩ := h.v17 a
  exact ⟨r, u, e, ho.gm hd.1 hbs, hr⟩⟩
theorem BsI.set4 (h : BsI bs n xs L N1 w0 b s w) (hb : b 4 = false) {u : Value} (hv : OwnI w0.heap.size w u xs) : BsI bs n xs L N1 w0 (markU b 4) (upd s 4 u) w := by
 have n16 : b 16 = false := by
  cases h1 : b 16 with
  | false => rfl
  | true => have := (fun h1 => (h.h16 h1).1) h1; rw [hb] at this; cases this
 have m : ∀ j, j ≠ 4 → markU b 4 j = b j := fun j hj => markU_ne b hj
 have p : ∀ j, j ≠ 4 → upd s 4 u j = s j := fun j hj => upd_ne s _ hj
 refine ⟨h.hD, ?_, ?_, ?_, ?_, ?_, ?_, ?_, ?_, ?_, ?_, ?_, ?_⟩
 ·intro e; rw [m 16 (by decide), n16] at e; cases e
 ·rw [m 15 (by decide), m 14 (by decide)]; exact h.h15
 ·rw [m 14 (by decide), m 13 (by decide)]; exact h.h14
 ·rw [m 17 (by decide), m 16 (by decide)]; exact h.h17
 ·intro _ _; rw [upd_self]; exact hv
 ·rw [m 8 (by decide), p 8 (by decide)]; exact h.v8
 ·rw [m 12 (by decide), p 12 (by decide)]; exact h.v12
 ·rw [m 13 (by decide), m 14 (by decide), p 13 (by decide)]; exact h.v13
 ·rw [m 14 (by decide), p 14 (by decide)]; exact h.v14
 ·rw [m 15 (by decide), m 16 (by decide), p 15 (by decide)]; exact h.v15
 ·rw [m 16 (by decide), p 16 (by decide)]; exact h.v16
 ·rw [m 17 (by decide), p 17 (by decide)]; exact h.v17
theorem BsI.set8 (h : BsI bs n xs L N1 w0 b s w)  : BsI bs n xs L N1 w0 (markU b 8) (upd s 8 (.int .i64 N1)) w := by
 have m : ∀ j, j ≠ 8 → markU b 8 j = b j := fun j hj => markU_ne b hj
 have p : ∀ j, j ≠ 8 → upd s 8 (.int .i64 N1) j = s j := fun j hj => upd_ne s _ hj
 refine ⟨h.hD, ?_, ?_, ?_, ?_, ?_, ?_, ?_, ?_, ?_, ?_, ?_, ?_⟩
 ·rw [m 16 (by decide), m 4 (by decide), m 15 (by decide)]; exact h.h16
 ·rw [m 15 (by decide), m 14 (by decide)]; exact h.h15
 ·rw [m 14 (by decide), m 13 (by decide)]; exact h.h14
 ·rw [m 17 (by decide), m 16 (by decide)]; exact h.h17
 ·rw [m 4 (by decide), m 16 (by decide), p 4 (by decide)]; exact h.v4
 ·intro _; rw [upd_self]
 ·rw [m 12 (by decide), p 12 (by decide)]; exact h.v12
 ·rw [m 13 (by decide), m 14 (by decide), p 13 (by decide)]; exact h.v13
 ·rw [m 14 (by decide), p 14 (by decide)]; exact h.v14
 ·rw [m 15 (by decide), m 16 (by decide), p 15 (by decide)]; exact h.v15
 ·rw [m 16 (by decide), p 16 (by decide)]; exact h.v16
 ·rw [m 17 (by decide), p 17 (by decide)]; exact h.v17
theorem BsI.set12 (h : BsI bs n xs L N1 w0 b s w)  : BsI bs n xs L N1 w0 (markU b 12) (upd s 12 (.int .i64 N1)) w := by
 have m : ∀ j, j ≠ 12 → markU b 12 j = b j := fun j hj => markU_ne b hj
 have p : ∀ j, j ≠ 12 → upd s 12 (.int .i64 N1) j = s j := fun j hj => upd_ne s _ hj
 refine ⟨h.hD, ?_, ?_, ?_, ?_, ?_, ?_, ?_, ?_, ?_, ?_, ?_, ?_⟩
 ·rw [m 16 (by decide), m 4 (by decide), m 15 (by decide)]; exact h.h16
 ·rw [m 15 (by decide), m 14 (by decide)]; exact h.h15
 ·rw [m 14 (by decide), m 13 (by decide)]; exact h.h14
 ·rw [m 17 (by decide), m 16 (by decide)]; exact h.h17
 ·rw [m 4 (by decide), m 16 (by decide), p 4 (by decide)]; exact h.v4
 ·rw [m 8 (by decide), p 8 (by decide)]; exact h.v8
 ·intro _; rw [upd_self]
 ·rw [m 13 (by decide), m 14 (by decide), p 13 (by decide)]; exact h.v13
 ·rw [m 14 (by decide), p 14 (by decide)]; exact h.v14
 ·rw [m 15 (by decide), m 16 (by decide), p 15 (by decide)]; exact h.v15
 ·rw [m 16 (by decide), p 16 (by decide)]; exact h.v16
 ·rw [m 17 (by decide), p 17 (by decide)]; exact h.v17
theorem BsI.set13 (h : BsI bs n xs L N1 w0 b s w) (hb : b 13 = false) {u : Value} (hv : OwnI w0.heap.size w u L) : BsI bs n xs L N1 w0 (markU b 13) (upd s 13 u) w := by
 have m : ∀ j, j ≠ 13 → markU b 13 j = b j := fun j hj => markU_ne b hj
 have p : ∀ j, j ≠ 13 → upd s 13 u j = s j := fun j hj => upd_ne s _ hj
 refine ⟨h.hD, ?_, ?_, ?_, ?_, ?_, ?_, ?_, ?_, ?_, ?_, ?_, ?_⟩
 ·rw [m 16 (by decide), m 4 (by decide), m 15 (by decide)]; exact h.h16
 ·rw [m 15 (by decide), m 14 (by decide)]; exact h.h15
 ·intro _; exact markU_self b 13
 ·rw [m 17 (by decide), m 16 (by decide)]; exact h.h17
 ·rw [m 4 (by decide), m 16 (by decide), p 4 (by decide)]; exact h.v4
 ·rw [m 8 (by decide), p 8 (by decide)]; exact h.v8
 ·rw [m 12 (by decide), p 12 (by decide)]; exact h.v12
 ·intro _ _; rw [upd_self]; exact hv
 ·rw [m 14 (by decide), p 14 (by decide)]; exact h.v14
 ·rw [m 15 (by decide), m 16 (by decide), p 15 (by decide)]; exact h.v15
 ·rw [m 16 (by decide), p 16 (by decide)]; exact h.v16
 ·rw [m 17 (by decide), p 17 (by decide)]; exact h.v17
theorem BsI.set14 (h : BsI bs n xs L N1 w0 b s w) (hb : b 14 = false) (h13 : b 13 = true) {r : Int} (hv : 0 ≤ r ∧ r ≤ 64) : BsI bs n xs L N1 w0 (markU b 14) (upd s 14 (.int .i64 r)) w := by
 have m : ∀ j, j ≠ 14 → markU b 14 j = b j := fun j hj => markU_ne b hj
 have p : ∀ j, j ≠ 14 → upd s 14 (.int .i64 r) j = s j := fun j hj => upd_ne s _ hj
 refine ⟨h.hD, ?_, ?_, ?_, ?_, ?_, ?_, ?_, ?_, ?_, ?_, ?_, ?_⟩
 ·rw [m 16 (by decide), m 4 (by decide), m 15 (by decide)]; exact h.h16
 ·intro _; exact markU_self b 14
 ·intro _; rw [m 13 (by decide)]; exact h13
 ·rw [m 17 (by decide), m 16 (by decide)]; exact h.h17
 ·rw [m 4 (by decide), m 16 (by decide), p 4 (by decide)]; exact h.v4
 ·rw [m 8 (by decide), p 8 (by decide)]; exact h.v8
 ·rw [m 12 (by decide), p 12 (by decide)]; exact h.v12
 ·intro _ e; rw [markU_self] at e; cases e
 ·intro _; rw [upd_self]; exact ⟨r, rfl, hv⟩
 ·rw [m 15 (by decide), m 16 (by decide), p 15 (by decide)]; exact h.v15
 ·rw [m 16 (by decide), p 16 (by decide)]; exact h.v16
 ·rw [m 17 (by decide), p 17 (by decide)]; exact h.v17
theorem BsI.set15 (h : BsI bs n xs L N1 w0 b s w) (hb : b 15 = false) (h14 : b 14 = true) {u : Value} (hv : ∃ (r : Int) (k : Nat), u = .slice (some ⟨k, 0, none⟩) 1 1 ∧ w0.heap.size ≤ k ∧ w.cell? ⟨k, 0, none⟩ = some (.int .i64 r) ∧ 0 ≤ r ∧ r ≤ 64) : BsI bs n xs L N1 w0 (markU b 15) (upd s 15 u) w := by
 have n16 : b 16 = false := by
  cases h1 : b 16 with
  | false => rfl
  | true => have := (fun h1 => (h.h16 h1).2) h1; rw [hb] at this; cases this
 have m : ∀ j, j ≠ 15 → markU b 15 j = b j := fun j hj => markU_ne b hj
 have p : ∀ j, j ≠ 15 → upd s 15 u j = s j := fun j hj => upd_ne s _ hj
 refine ⟨h.hD, ?_, ?_, ?_, ?_, ?_, ?_, ?_, ?_, ?_, ?_, ?_, ?_⟩
 ·intro e; rw [m 16 (by decide), n16] at e; cases e
 ·intro _; rw [m 14 (by decide)]; exact h14
 ·rw [m 14 (by decide), m 13 (by decide)]; exact h.h14
 ·rw [m 17 (by decide), m 16 (by decide)]; exact h.h17
 ·rw [m 4 (by decide), m 16 (by decide), p 4 (by decide)]; exact h.v4
 ·rw [m 8 (by decide), p 8 (by decide)]; exact h.v8
 ·rw [m 12 (by decide), p 12 (by decide)]; exact h.v12
 ·rw [m 13 (by decide), m 14 (by decide), p 13 (by decide)]; exact h.v13
 ·rw [m 14 (by decide), p 14 (by decide)]; exact h.v14
 ·intro _ _; rw [upd_self]; exact hv
 ·rw [m 16 (by decide), p 16 (by decide)]; exact h.v16
 ·rw [m 17 (by decide), p 17 (by decide)]; exact h.v17
theorem BsI.set17 (h : BsI bs n xs L N1 w0 b s w) (hb : b 17 = false) (h16 : b 16 = true) {u : Value} (hv : ∃ (r : Int) (z : Value), u = .agg #[.int .i64 (n : Int), z] ∧ OwnI w0.heap.size w z (xs ++ [r]) ∧ 0 ≤ r ∧ r ≤ 64) : BsI bs n xs L N1 w0 (markU b 17) (upd s 17 u) w := by
 have m : ∀ j, j ≠ 17 → markU b 17 j = b j := fun j hj => markU_ne b hj
 have p : ∀ j, j ≠ 17 → upd s 17 u j = s j := fun j hj => upd_ne s _ hj
 refine ⟨h.hD, ?_, ?_, ?_, ?_, ?_, ?_, ?_, ?_, ?_, ?_, ?_, ?_⟩
 ·rw [m 16 (by decide), m 4 (by decide), m 15 (by decide)]; exact h.h16
 ·rw [m 15 (by decide), m 14 (by decide)]; exact h.h15
 ·rw [m 14 (by decide), m 13 (by decide)]; exact h.h14
 ·intro _; rw [m 16 (by decide)]; exact h16
 ·rw [m 4 (by decide), m 16 (by decide), p 4 (by decide)]; exact h.v4
 ·rw [m 8 (by decide), p 8 (by decide)]; exact h.v8
 ·rw [m 12 (by decide), p 12 (by decide)]; exact h.v12
 ·rw [m 13 (by decide), m 14 (by decide), p 13 (by decide)]; exact h.v13
 ·rw [m 14 (by decide), p 14 (by decide)]; exact h.v14
 ·rw [m 15 (by decide), m 16 (by decide), p 15 (by decide)]; exact h.v15
 ·rw [m 16 (by decide), p 16 (by decide)]; exact h.v16
 ·intro _; rw [upd_self]; exact hv
theorem BsI.quiet (h : BsI bs n xs L N1 w0 b s w) {i : Nat} (n4 : ¬i = 4) (n8 : ¬i = 8) (n12 : ¬i = 12) (n13 : ¬i = 13) (n14 : ¬i = 14) (n15 : ¬i = 15) (n16 : ¬i = 16) (n17 : ¬i = 17) (v : Value) : BsI bs n xs L N1 w0 (markU b i) (upd s i v) w := by
 have m : ∀ j, ¬i = j → markU b i j = b j := fun j hj => markU_ne b (Ne.symm hj)
 have p : ∀ j, ¬i = j → upd s i v j = s j := fun j hj => upd_ne s _ (Ne.symm hj)
 refine ⟨h.hD, ?_, ?_, ?_, ?_, ?_, ?_, ?_, ?_, ?_, ?_, ?_, ?_⟩
 ·rw [m 16 n16, m 4 n4, m 15 n15]; exact h.h16
 ·rw [m 15 n15, m 14 n14]; exact h.h15
 ·rw [m 14 n14, m 13 n13]; exact h.h14
 ·rw [m 17 n17, m 16 n16]; exact h.h17
 ·rw [m 4 n4, m 16 n16, p 4 n4]; exact h.v4
 ·rw [m 8 n8, p 8 n8]; exact h.v8
 ·rw [m 12 n12, p 12 n12]; exact h.v12
 ·rw [m 13 n13, m 14 n14, p 13 n13]; exact h.v13
 ·rw [m 14 n14, p 14 n14]; exact h.v14
 ·rw [m 15 n15, m 16 n16, p 15 n15]; exact h.v15
 ·rw [m 16 n16, p 16 n16]; exact h.v16
 ·rw [m 17 n17, p 17 n17]; exact h.v17
theorem BsI.app (h : BsI bs n xs L N1 w0 b s w) (hbs : bs < w0.heap.size) (h4 : b 4 = true) (h15 : b 15 = true) (hb : b 16 = false) {u : Value} {w' : World} (hg : w.grownBy w' (s 4).ownBlock) (hv : ∃ r : Int, OwnI w0.heap.size w' u (xs ++ [r]) ∧ 0 ≤ r ∧ r ≤ 64) : BsI bs n xs L N1 w0 (markU b 16) (upd s 16 u) w' := by
 have h14 := h.h15 h15
 have h17 : b 17 = false := by
  cases h1 : b 17 with
  | false => rfl
  | true => have := h.h17 h1; rw [hb] at this; cases this
 have hB : Below w0.heap.size w w' := Below.grown (Below.refl _ _) hg h.hD.1.size (fun k hk => (h.v4 h4 hb).base k hk)
 have m : ∀ j, j ≠ 16 → markU b 16 j = b j := fun j hj => markU_ne b hj
 have p : ∀ j, j ≠ 16 → upd s 16 u j = s j := fun j hj => upd_ne s u hj
 refine ⟨h.hD.top hB (Nat.le_refl _) hbs, ?_, ?_, ?_, ?_, ?_, ?_, ?_, ?_, ?_, ?_, ?_, ?_⟩
 ·intro _; rw [m 4 (by decide), m 15 (by decide)]; exact ⟨h4, h15⟩
 ·rw [m 15 (by decide), m 14 (by decide)]; exact h.h15
 ·rw [m 14 (by decide), m 13 (by decide)]; exact h.h14
 ·intro _; exact markU_self b 16
 ·intro _ e; rw [markU_self] at e; cases e
 ·rw [m 8 (by decide), p 8 (by decide)]; exact h.v8
 ·rw [m 12 (by decide), p 12 (by decide)]; exact h.v12
 ·intro _ e; rw [m 14 (by decide), h14] at e; cases e
 ·rw [m 14 (by decide), p 14 (by decide)]; exact h.v14
 ·intro _ e; rw [markU_self] at e; cases e
 ·intro _; rw [upd_self]; exact hv
 ·intro e; rw [m 17 (by decide), h17] at e; cases e
end
set_option maxRecDepth 100000 in
set_option maxHeartbeats 8000000 in
theorem bad (bs n B : Nat) (z : Value) (xs : List Int) (w : World) (hs : Src bs w) (hz : OwnI B w z xs) (hbB : bs < B) (hB : B ≤ w.heap.size) (hg : Gc n xs) :
  Calls Tryz.prog 160 #[.pointer (some ⟨bs, 0, none⟩), .agg #[.int .i64 n, z]] w fun e w' => ∃ v, e = .returned v ∧ (∃ (a : Int) (u : Value) (ys : List Int), v = .agg #[.int .i64 a, u] ∧ OwnI B w' u ys ∧ Rc a ys) ∧ Dw bs w w' := by
 have HBS := Aside0.mk hs.lt
 obtain ⟨w1, hw1⟩ : ∃ w1, w1 = (w.alloc (.cells #[.int .i64 n, z] 26)).alloc C0 := ⟨_, rfl⟩
 have hB1 : Below w.heap.size w w1 := by rw [hw1]; exact ((Below.refl _ w).alloc (Nat.le_refl _) _).alloc (by simp) _
 have hs1 : w1.heap.size = w.heap.size + 1 + 1 := by rw [hw1]; simp
 have c0 : w1.cell? ⟨w.heap.size, 0, none⟩ = some (.int .i64 n) := by rw [hw1]; simp
 have c1 : w1.cell? ⟨w.heap.size, 1, none⟩ = some z := by rw [hw1]; simp
 have hk1 : w1.heap[w.heap.size + 1]? = some C0 := by
  have := blk_new (w.alloc (.cells #[.int .i64 n, z] 26)) C0
  rw [World.size_alloc, ← hw1] at this; exact this
 have HK1 := Aside0.mk hk1
 have HS1 := Aside0.mk hs1
 have HD1 := Aside0.mk (Dw.of_below hs hB1)
 have HNE : Aside0 (w.heap.size ≠ bs) := ⟨Nat.ne_of_gt hs.lt⟩
 have HOZ := Aside0.mk hz
 have HGC := Aside0.mk hg
 have hNN := pwn hg.2.1
 obtain ⟨N, hN⟩ : ∃ N : Nat, N = 2 ^ n := ⟨_, rfl⟩
 have HALL : Aside0 (∀ W : World, Calls Tryz.prog 268 #[.int .i64 n] W fun e w' => e = .returned (.int .i64 ((N : Int) - 1)) ∧ Below W.heap.size W w') := ⟨fun W => by rw [hN]; exact specAll n hg.2.1 W⟩
 rw [← hN] at hNN
 have HNW : Aside0 (IntKind.i64.wrap (N : Int) = (N : Int)) := ⟨IntWalk.i64_in _ (by omega)⟩
 have HXL : Aside0 (xs.length ≤ 1000000) := ⟨by have := hg.2.2.2; omega⟩
 have HXL1 : Aside0 ((xs.drop 1).length ≤ 1000000) := ⟨by rw [List.length_drop]; have := hg.2.2.2; omega⟩
 have hxl := hg.2.2.2
 have HRC := Aside0.mk hg.rc
 obtain ⟨Az, cz, rfl, -⟩ := id hz.read
 have hmx : Tryz.prog.follows .mixedOrders = true := by kernel_rfl
 have HNX := Aside0.mk (next bs 50 w1 (by decide) HD1.out.2)
 have HBB := Aside0.mk (⟨hbB, hB⟩ : bs < B ∧ B ≤ w.heap.size)
 clear hs hz hg hN hB1 hk1 hs1 hbB hB
 go_enter Tryz.func160, Tryz.ntmps160
 go_wp2_with (first | (go_at_call 146; rw [← hw1]; clear hw1; refine HNX.out.mono ?_; rintro e w2 ⟨r, rfl, -, -, hd⟩; have HD2 := Aside0.mk (HD1.out.trans hd); have HK2 : Aside0 (w2.heap[w.heap.size + 1]? = some C0) := ⟨(by rw [hd.1.block _ (blk_lt HK1.out) (fun e => by have := Option.some.inj e; have := HBS.out; omega)]; exact HK1.out)⟩; have HS2 := Aside0.mk hd.2; have HBS2 := Aside0.mk hd.2.lt; have HZ2 : Aside0 (w.heap.size + 1 + 1 ≤ w2.heap.size) := ⟨(by have := hd.1.size; have := HS1.out; omega)⟩; have HZ := Aside0.mk (fun W (h : w2.grownBy W (some bs)) => ((HOZ.out.gm (grown_trans (HD1.out.trans hd).1 h) HBB.out.1)).read); have HOZ2 := Aside0.mk (HOZ.out.gm (HD1.out.trans hd).1 HBB.out.1); replace c0 := grown_cell hd.1 c0 HNE.out; replace c1 := grown_cell hd.1 c1 HNE.out; have q00 : w2.cell? ⟨w.heap.size + 1, 0, none⟩ = some (.int .i64 0) := blk_cell HK2.out 0; have q01 : w2.cell? ⟨w.heap.size + 1, 1, none⟩ = some (.slice none 0 0) := blk_cell HK2.out 1; have fq0 : w2.frozen? ⟨w.heap.size + 1, 0, none⟩ = false := blk_frozen HK2.out 0; have fq1 : w2.frozen? ⟨w.heap.size + 1, 1, none⟩ = false := blk_frozen HK2.out 1; clear hd))
 ·clear q00 q01 fq0 fq1
  refine wp_region_gv (Gm bs (Src bs)) (fun w => ⟨grown_drew w _, fun h => h.below (Below.refl _ _).drew⟩) (fun _ _ _ => Gm.trans) 7 (fun i => match i with | 0 => fun v _ => v = .pointer (some ⟨bs, 0, none⟩) | 1 => fun v W => OwnI w2.heap.size W v [0, 7, -1] | 2 => fun v W => ∃ r : Int, v = .int .i64 r ∧ -1 ≤ r ∧ r ≤ 7 | 3 => fun v _ => v = .pointer (some ⟨w.heap.size, 1, none⟩) | 4 => fun v _ => v = .slice Az xs.length cz | 5 => fun v W => OwnI w2.heap.size W v xs | 6 => fun v W => ∃ (r : Int) (u : Value), v = .agg #[.int .i64 r, u] ∧ -1 ≤ r ∧ r ≤ 7 ∧ OwnI w2.heap.size W u xs | _ => fun _ _ => True)
   [0, 0, 3, 0, 8, 31, 63, 127] hmx (by kernel_rfl) ?st ?steps ?rest
  case st =>
   intro i v w1_ w2_ hb
   match i with
   | 0 | 3 | 4 => exact id
   | 1 => exact fun h => OwnI.gm h hb.1 HBS2.out
   | 2 => exact id
   | 5 => exact fun h => OwnI.gm h hb.1 HBS2.out
   | 6 => exact fun ⟨r, u, e, h1, h2, ho⟩ => ⟨r, u, e, h1, h2, OwnI.gm ho hb.1 HBS2.out⟩
   | n + 7 => exact id
  case steps =>
   refine ⟨?_, ?_, ?_, ?_, ?_, ?_, ?_, trivial⟩
   ·intro s w_ hb hd hq R hR
    generalize hA : putAll _ 0 s _ = A
    clear hq
    have hR' := hR (.pointer (some ⟨bs, 0, none⟩)) _ (Gm.refl _ _ _) rfl
    clear hR hd
    refine opGives_value ?_ hR'
    subst hA
    simp only [dsOf, List.take, List.map_cons, List.map_nil, Option.getD_some, putAll, Act.put, List.setIfInBounds_toArray, List.set_cons_zero, List.set_cons_succ]
    go_simp
   ·intro s w_ hb hd hq R hR
    generalize hA : putAll _ 0 s _ = A
    clear hq
    have hR' := hR (.slice (some ⟨w_.heap.size, 0, none⟩) 3 3) (w_.alloc (.cells #[.int .i64 0, .int .i64 7, .int .i64 (-1)] 2)) (⟨grown_below (Below.alloc (Below.refl _ _) (Nat.le_refl _) _) _, fun h => h.below (Below.alloc (Below.refl _ _) (Nat.le_refl _) _)⟩) (lit_own w_ w2.heap.size [0, 7, -1] hb.1.size (by decide))
    clear hR hd
    refine opGives_value ?_ hR'
    subst hA
    simp only [dsOf, List.take, List.map_cons, List.map_nil, Option.getD_some, putAll, Act.put, List.setIfInBounds_toArray, List.set_cons_zero, List.set_cons_succ]
    go_simp
   ·intro s w_ hb hd hq R hR
    generalize hA : putAll _ 0 s _ = A
    have e0 : s 0 = _ := hd 0 (by kernel_rfl)
    have o1 : OwnI w2.heap.size w_ (s 1) [0, 7, -1] := hd 1 (by kernel_rfl)
    obtain ⟨A1, c1, e1, -⟩ := id o1.read
    rw [e1] at o1
    clear hq
    refine opGives_call (f := 255) (args := #[.pointer (some ⟨bs, 0, none⟩), .slice A1 [0, 7, -1].length c1]) ?_ ?_
    ·subst hA
     clear hR hd
     simp only [dsOf, List.take, List.map_cons, List.map_nil, Option.getD_some, putAll, Act.put, List.setIfInBounds_toArray, List.set_cons_zero, List.set_cons_succ]
     go_simp
    clear hA A hd
    refine (pick bs _ [0, 7, -1] w_ (hb.2 HS2.out) (o1.rdk HBS2.out) (by decide) (by decide)).mono ?_
    rintro e w3_ ⟨r, rfl, hm, hd⟩
    exact ⟨_, rfl, hR _ _ ⟨hd.1, fun _ => hd.2⟩ ⟨r, rfl, by simp at hm; omega, by simp at hm; omega⟩⟩
   ·intro s w_ hb hd hq R hR
    generalize hA : putAll _ 0 s _ = A
    clear hq
    have hR' := hR (.pointer (some ⟨w.heap.size, 1, none⟩)) _ (Gm.refl _ _ _) rfl
    clear hR hd
    refine opGives_value ?_ hR'
    subst hA
    simp only [dsOf, List.take, List.map_cons, List.map_nil, Option.getD_some, putAll, Act.put, List.setIfInBounds_toArray, List.set_cons_zero, List.set_cons_succ]
    go_simp
   ·intro s w_ hb hd hq R hR
    generalize hA : putAll _ 0 s _ = A
    have e3 : s 3 = _ := hd 3 (by kernel_rfl)
    clear hq
    have c1 := grown_cell hb.1 c1 HNE.out
    have hR' := hR (.slice Az xs.length cz) _ (Gm.refl _ _ _) rfl
    clear hR hd
    refine opGives_value ?_ hR'
    subst hA
    simp only [dsOf, List.take, List.map_cons, List.map_nil, Option.getD_some, putAll, Act.put, List.setIfInBounds_toArray, List.set_cons_zero, List.set_cons_succ]
    go_simp
   ·intro s w_ hb hd hq R hR
    generalize hA : putAll _ 0 s _ = A
    have e4 : s 4 = _ := hd 4 (by kernel_rfl)
    clear hq
    refine opGives_call (f := 153) (args := #[.slice Az xs.length cz]) ?_ ?_
    ·subst hA
     clear hR hd
     simp only [dsOf, List.take, List.map_cons, List.map_nil, Option.getD_some, putAll, Act.put, List.setIfInBounds_toArray, List.set_cons_zero, List.set_cons_succ]
     go_simp
    clear hA A hd
    refine (specOwn2 _ xs w_ (HZ.out w_ hb.1) HXL.out).mono ?_
    rintro e w3_ ⟨u3, rfl, ho, hb3⟩
    exact ⟨_, rfl, hR _ _ ⟨grown_below hb3 _, fun h => h.below hb3⟩ (ho.lower hb.1.size)⟩
   ·intro s w_ hb hd hq R hR
    generalize hA : putAll _ 0 s _ = A
    obtain ⟨r2, e2, r2a, r2b⟩ : ∃ r : Int, s 2 = .int .i64 r ∧ -1 ≤ r ∧ r ≤ 7 := hd 2 (by kernel_rfl)
    have o5 : OwnI w2.heap.size w_ (s 5) xs := hd 5 (by kernel_rfl)
    obtain ⟨A5, c5, e5, -⟩ := id o5.read
    rw [e5] at o5
    clear hq
    have hR' := hR (.agg #[.int .i64 r2, .slice A5 xs.length c5]) _ (Gm.refl _ _ _) (⟨r2, _, rfl, r2a, r2b, o5⟩)
    clear hR hd
    refine opGives_value ?_ hR'
    subst hA
    simp only [dsOf, List.take, List.map_cons, List.map_nil, Option.getD_some, putAll, Act.put, List.setIfInBounds_toArray, List.set_cons_zero, List.set_cons_succ]
    go_simp
  case rest =>
   intro s9 w9 hb hv
   obtain ⟨r6, u6, e6_, r6a, r6b, o6⟩ : ∃ (r : Int) (u : Value), s9 6 = .agg #[.int .i64 r, u] ∧ -1 ≤ r ∧ r ≤ 7 ∧ OwnI w2.heap.size w9 u xs := hv 6 (by decide)
   clear hv
   simp only [dsOf, List.take, List.map_cons, List.map_nil, Option.getD_some, putAll, Act.put, List.setIfInBounds_toArray, List.set_cons_zero, List.set_cons_succ]
   have hd9 : Dw bs w2 w9 := ⟨hb.1, hb.2 HS2.out⟩
   have hk9 : w9.heap[w.heap.size + 1]? = some C0 := by rw [hd9.1.block _ (blk_lt HK2.out) (fun e => by have := Option.some.inj e; have := HBS.out; omega)]; exact HK2.out
   have HK9 := Aside0.mk hk9
   have HD9 := Aside0.mk (HD2.out.trans hd9)
   have HO9 := Aside0.mk o6
   obtain ⟨A9, c9, rfl, -⟩ := id (o6).read
   have c00 : w9.cell? ⟨w.heap.size + 1, 0, none⟩ = some (.int .i64 0) := blk_cell hk9 0
   have c01 : w9.cell? ⟨w.heap.size + 1, 1, none⟩ = some (.slice none 0 0) := blk_cell hk9 1
   have f00 : w9.frozen? ⟨w.heap.size + 1, 0, none⟩ = false := blk_frozen hk9 0
   have f01 : w9.frozen? ⟨w.heap.size + 1, 1, none⟩ = false := blk_frozen hk9 1
   rw [e6_]
   clear hb hd9 hk9 o6 e6_
   refine .inr ⟨(w9.setCell ⟨w.heap.size + 1, 0, none⟩ (.int .i64 r6)).setCell ⟨w.heap.size + 1, 1, none⟩ (.slice A9 xs.length c9), (by go_simp), ?_⟩
   simp only [List.drop, Act.put, List.setIfInBounds_toArray, List.set_cons_zero, List.set_cons_succ]
   unfold tailList
   go_wp2
   refine bodyPost_ret (results_cell_row rfl _ _ (w.heap.size + 1) 26 #[.int .i64 r6, .slice A9 xs.length c9] (0, 0) _ rfl (by refine blk_put (cs := #[.int .i64 r6, .slice none 0 0]) ?_ 1 _ rfl; refine blk_put (cs := #[.int .i64 0, .slice none 0 0]) ?_ 0 _ rfl; exact HK9.out) Tryz.underlying26 rfl (by kernel_rfl)) rfl ?_
   have hbb : Below w.heap.size w9 ((w9.setCell ⟨w.heap.size + 1, 0, none⟩ (Value.int IntKind.i64 r6)).setCell ⟨w.heap.size + 1, 1, none⟩ (Value.slice A9 xs.length c9)) := ((Below.refl _ _).setCell (by simp) _).setCell (by simp) _
   refine ⟨_, rfl, ⟨r6, _, xs, rfl, ?_, ⟨r6a, r6b, HRC.out.2.2.1, HRC.out.2.2.2⟩⟩, HD9.out.top hbb (Nat.le_refl _) HBS.out⟩
   have ho := HO9.out
   have hbse := ho.base
   have hz2 := HZ2.out
   have hBB := HBB.out.2
   have ho := ho.lower (b' := B) (by omega)
   exact (ho.grown (set_grown' _ (w.heap.size + 1) _ _) (fun j hj e => by have := hbse _ hj; cases e; omega)).grown (set_grown' _ (w.heap.size + 1) _ _) (fun j hj e => by have := hbse _ hj; cases e; omega)
 ·clear q00 q01 fq0 fq1
  have hlen1 : 1 ≤ xs.length := by omega
  obtain ⟨Af, cf, hsf, hrf, -⟩ := ReadI.from_ (HZ.out w2 (grown_below (Below.refl _ _) _)) hlen1
  have HSF := Aside0.mk hsf
  obtain ⟨Af2, cf2, hsf2⟩ : ∃ A c, Af = A ∧ cf = c := ⟨_, _, rfl, rfl⟩
  have HFR : Aside0 (∀ W, w2.grownBy W (some bs) → ReadI W (.slice Af (xs.length - 1) cf) (xs.drop 1)) := ⟨fun W h => by
   obtain ⟨A', c', h1, h2, -⟩ := ReadI.from_ (HZ.out W h) hlen1
   have h3 := (h1 w2).symm.trans (hsf w2)
   injection h3 with h4
   injection h4 with h5 _ h6
   rw [← h5, ← h6]; exact h2⟩
  clear hsf hrf hsf2
  refine wp_region_gv (Gm bs (Src bs)) (fun w => ⟨grown_drew w _, fun h => h.below (Below.refl _ _).drew⟩) (fun _ _ _ => Gm.trans) 7 (fun i => match i with | 0 => fun v _ => v = .pointer (some ⟨w.heap.size, 0, none⟩) | 1 => fun v _ => v = .int .i64 (n : Int) | 2 => fun v _ => v = .pointer (some ⟨w.heap.size, 1, none⟩) | 3 => fun v _ => v = .slice Az xs.length cz | 4 => fun v _ => v = .slice Af (xs.length - 1) cf | 5 => fun v W => OwnI w2.heap.size W v (xs.drop 1) | 6 => fun v W => ∃ (u : Value), v = .agg #[.int .i64 (n : Int), u] ∧ OwnI w2.heap.size W u (xs.drop 1) | _ => fun _ _ => True)
   [0, 1, 0, 4, 12, 28, 63, 127] hmx (by kernel_rfl) ?st ?steps ?rest
  case st =>
   intro i v w1_ w2_ hb
   match i with
   | 0 | 1 | 2 | 3 | 4 => exact id
   | 5 => exact fun h => OwnI.gm h hb.1 HBS2.out
   | 6 => exact fun ⟨u, e, ho⟩ => ⟨u, e, OwnI.gm ho hb.1 HBS2.out⟩
   | n + 7 => exact id
  case steps =>
   refine ⟨?_, ?_, ?_, ?_, ?_, ?_, ?_, trivial⟩
   ·intro s w_ hb hd hq R hR
    generalize hA : putAll _ 0 s _ = A
    clear hq
    have hR' := hR (.pointer (some ⟨w.heap.size, 0, none⟩)) _ (Gm.refl _ _ _) rfl
    clear hR hd
    refine opGives_value ?_ hR'
    subst hA
    simp only [dsOf, List.take, List.map_cons, List.map_nil, Option.getD_some, putAll, Act.put, List.setIfInBounds_toArray, List.set_cons_zero, List.set_cons_succ]
    go_simp
   ·intro s w_ hb hd hq R hR
    generalize hA : putAll _ 0 s _ = A
    have e0 : s 0 = _ := hd 0 (by kernel_rfl)
    clear hq
    have c0 := grown_cell hb.1 c0 HNE.out
    have hR' := hR (.int .i64 (n : Int)) _ (Gm.refl _ _ _) rfl
    clear hR hd
    refine opGives_value ?_ hR'
    subst hA
    simp only [dsOf, List.take, List.map_cons, List.map_nil, Option.getD_some, putAll, Act.put, List.setIfInBounds_toArray, List.set_cons_zero, List.set_cons_succ]
    go_simp
   ·intro s w_ hb hd hq R hR
    generalize hA : putAll _ 0 s _ = A
    clear hq
    have hR' := hR (.pointer (some ⟨w.heap.size, 1, none⟩)) _ (Gm.refl _ _ _) rfl
    clear hR hd
    refine opGives_value ?_ hR'
    subst hA
    simp only [dsOf, List.take, List.map_cons, List.map_nil, Option.getD_some, putAll, Act.put, List.setIfInBounds_toArray, List.set_cons_zero, List.set_cons_succ]
    go_simp
   ·intro s w_ hb hd hq R hR
    generalize hA : putAll _ 0 s _ = A
    have e2 : s 2 = _ := hd 2 (by kernel_rfl)
    clear hq
    have c1 := grown_cell hb.1 c1 HNE.out
    have hR' := hR (.slice Az xs.length cz) _ (Gm.refl _ _ _) rfl
    clear hR hd
    refine opGives_value ?_ hR'
    subst hA
    simp only [dsOf, List.take, List.map_cons, List.map_nil, Option.getD_some, putAll, Act.put, List.setIfInBounds_toArray, List.set_cons_zero, List.set_cons_succ]
    go_simp
   ·intro s w_ hb hd hq R hR
    generalize hA : putAll _ 0 s _ = A
    have e3 : s 3 = _ := hd 3 (by kernel_rfl)
    clear hq
    have hR' := hR (.slice Af (xs.length - 1) cf) _ (Gm.refl _ _ _) rfl
    clear hR hd
    refine opGives_value (slice_exec Tryz.underlying24 rfl ?_) hR'
    subst hA
    simp only [dsOf, List.take, List.map_cons, List.map_nil, Option.getD_some, putAll, Act.put, List.setIfInBounds_toArray, List.set_cons_zero, List.set_cons_succ]
    show (Instr.slice 24 (s 3) (some (.int .i64 1)) none none).run Tryz.prog w_ = _
    rw [e3]
    exact HSF.out w_
   ·intro s w_ hb hd hq R hR
    generalize hA : putAll _ 0 s _ = A
    have e4 : s 4 = _ := hd 4 (by kernel_rfl)
    clear hq
    refine opGives_call (f := 153) (args := #[.slice Af (xs.length - 1) cf]) ?_ ?_
    ·subst hA
     clear hR hd
     simp only [dsOf, List.take, List.map_cons, List.map_nil, Option.getD_some, putAll, Act.put, List.setIfInBounds_toArray, List.set_cons_zero, List.set_cons_succ]
     go_simp
    clear hA A hd
    refine (specOwn2 _ (xs.drop 1) w_ (HFR.out w_ hb.1) HXL1.out).mono ?_
    rintro e w3_ ⟨u3, rfl, ho, hb3⟩
    exact ⟨_, rfl, hR _ _ ⟨grown_below hb3 _, fun h => h.below hb3⟩ (ho.lower hb.1.size)⟩
   ·intro s w_ hb hd hq R hR
    generalize hA : putAll _ 0 s _ = A
    have e1 : s 1 = _ := hd 1 (by kernel_rfl)
    have o5 : OwnI w2.heap.size w_ (s 5) (xs.drop 1) := hd 5 (by kernel_rfl)
    obtain ⟨A5, c5, e5, -⟩ := id o5.read
    rw [e5] at o5
    clear hq
    have hR' := hR (.agg #[.int .i64 (n : Int), .slice A5 (xs.drop 1).length c5]) _ (Gm.refl _ _ _) (⟨_, rfl, o5⟩)
    clear hR hd
    refine opGives_value ?_ hR'
    subst hA
    simp only [dsOf, List.take, List.map_cons, List.map_nil, Option.getD_some, putAll, Act.put, List.setIfInBounds_toArray, List.set_cons_zero, List.set_cons_succ]
    go_simp
  case rest =>
   intro s9 w9 hb hv
   obtain ⟨u6, e6_, o6⟩ : ∃ (u : Value), s9 6 = .agg #[.int .i64 (n : Int), u] ∧ OwnI w2.heap.size w9 u (xs.drop 1) := hv 6 (by decide)
   clear hv
   simp only [dsOf, List.take, List.map_cons, List.map_nil, Option.getD_some, putAll, Act.put, List.setIfInBounds_toArray, List.set_cons_zero, List.set_cons_succ]
   have hd9 : Dw bs w2 w9 := ⟨hb.1, hb.2 HS2.out⟩
   have hk9 : w9.heap[w.heap.size + 1]? = some C0 := by rw [hd9.1.block _ (blk_lt HK2.out) (fun e => by have := Option.some.inj e; have := HBS.out; omega)]; exact HK2.out
   have HK9 := Aside0.mk hk9
   have HD9 := Aside0.mk (HD2.out.trans hd9)
   have HO9 := Aside0.mk o6
   obtain ⟨A9, c9, rfl, -⟩ := id (o6).read
   have c00 : w9.cell? ⟨w.heap.size + 1, 0, none⟩ = some (.int .i64 0) := blk_cell hk9 0
   have c01 : w9.cell? ⟨w.heap.size + 1, 1, none⟩ = some (.slice none 0 0) := blk_cell hk9 1
   have f00 : w9.frozen? ⟨w.heap.size + 1, 0, none⟩ = false := blk_frozen hk9 0
   have f01 : w9.frozen? ⟨w.heap.size + 1, 1, none⟩ = false := blk_frozen hk9 1
   rw [e6_]
   clear hb hd9 hk9 o6 e6_
   refine .inr ⟨(w9.setCell ⟨w.heap.size + 1, 0, none⟩ (.int .i64 (n : Int))).setCell ⟨w.heap.size + 1, 1, none⟩ (.slice A9 (xs.drop 1).length c9), (by go_simp), ?_⟩
   simp only [List.drop, Act.put, List.setIfInBounds_toArray, List.set_cons_zero, List.set_cons_succ]
   unfold tailList
   go_wp2
   refine bodyPost_ret (results_cell_row rfl _ _ (w.heap.size + 1) 26 #[.int .i64 (n : Int), .slice A9 (xs.drop 1).length c9] (0, 0) _ rfl (by refine blk_put (cs := #[.int .i64 (n : Int), .slice none 0 0]) ?_ 1 _ rfl; refine blk_put (cs := #[.int .i64 0, .slice none 0 0]) ?_ 0 _ rfl; exact HK9.out) Tryz.underlying26 rfl (by kernel_rfl)) rfl ?_
   have hbb : Below w.heap.size w9 ((w9.setCell ⟨w.heap.size + 1, 0, none⟩ (Value.int IntKind.i64 (n : Int))).setCell ⟨w.heap.size + 1, 1, none⟩ (Value.slice A9 (xs.drop 1).length c9)) := ((Below.refl _ _).setCell (by simp) _).setCell (by simp) _
   refine ⟨_, rfl, ⟨(n : Int), _, (xs.drop 1), rfl, ?_, ⟨HRC.out.1, HRC.out.2.1, fun y hy => HRC.out.2.2.1 y (List.mem_of_mem_drop hy), by rw [List.length_drop]; have := HRC.out.2.2.2; omega⟩⟩, HD9.out.top hbb (Nat.le_refl _) HBS.out⟩
   have ho := HO9.out
   have hbse := ho.base
   have hz2 := HZ2.out
   have hBB := HBB.out.2
   have ho := ho.lower (b' := B) (by omega)
   exact (ho.grown (set_grown' _ (w.heap.size + 1) _ _) (fun j hj e => by have := hbse _ hj; cases e; omega)).grown (set_grown' _ (w.heap.size + 1) _ _) (fun j hj e => by have := hbse _ hj; cases e; omega)
 ·have HK9 := HK2
  have HD9 := HD2
  have HO9 := HOZ2
  refine bodyPost_ret (results_cell_row rfl _ _ (w.heap.size + 1) 26 #[.int .i64 (n : Int), .slice Az xs.length cz] (0, 0) _ rfl (by refine blk_put (cs := #[.int .i64 (n : Int), .slice none 0 0]) ?_ 1 _ rfl; refine blk_put (cs := #[.int .i64 0, .slice none 0 0]) ?_ 0 _ rfl; exact HK9.out) Tryz.underlying26 rfl (by kernel_rfl)) rfl ?_
  have hbb : Below w.heap.size w2 ((w2.setCell ⟨w.heap.size + 1, 0, none⟩ (Value.int IntKind.i64 (n : Int))).setCell ⟨w.heap.size + 1, 1, none⟩ (Value.slice Az xs.length cz)) := ((Below.refl _ _).setCell (by simp) _).setCell (by simp) _
  refine ⟨_, rfl, ⟨(n : Int), _, xs, rfl, ?_, HRC.out⟩, HD9.out.top hbb (Nat.le_refl _) HBS.out⟩
  have ho := HO9.out
  have hbse : ∀ k, (Value.slice Az xs.length cz).ownBlock = some k → k < w.heap.size := HOZ.out.lt
  have hz2 := HZ2.out
  have hBB := HBB.out.2
  have ho := ho.lower (b' := B) (by omega)
  exact (ho.grown (set_grown' _ (w.heap.size + 1) _ _) (fun j hj e => by have := hbse _ hj; cases e; omega)).grown (set_grown' _ (w.heap.size + 1) _ _) (fun j hj e => by have := hbse _ hj; cases e; omega)
 ·clear q00 q01 fq0 fq1
  refine wp_region_v 18 (fun i => !(i == 4) && !(i == 8) && !(i == 12) && !(i == 13) && !(i == 14) && !(i == 15) && !(i == 16) && !(i == 17)) (fun i => match i with | 0 => fun v => v = .pointer (some ⟨w.heap.size, 0, none⟩) | 1 => fun v => v = .int .i64 (n : Int) | 2 => fun v => v = .pointer (some ⟨w.heap.size, 1, none⟩) | 3 => fun v => v = .slice Az xs.length cz | 5 => fun v => v = .pointer (some ⟨bs, 0, none⟩) | 6 => fun v => v = .pointer (some ⟨w.heap.size, 0, none⟩) | 7 => fun v => v = .int .i64 (n : Int) | 9 => fun v => v = .int .i64 (N : Int) | 10 => fun v => v = .pointer (some ⟨w.heap.size, 0, none⟩) | 11 => fun v => v = .int .i64 (n : Int) | _ => fun _ => True)
   (BsI bs n xs [0, (N : Int), (N : Int) - 1, 1] ((N : Int) - 1) w2) [0, 1, 0, 4, 12, 0, 0, 64, 220, 476, 0, 1024, 3548, 8156, 16380, 32764, 65532, 131071, 262143] hmx (by kernel_rfl) ?start ?stay ?steps ?rest
  case start =>
   intro b_ s hb
   exact BsI.start HS2.out hb
  case stay =>
   intro i_ b_ s v_ w1_ hq hI
   have h4 : ((((((¬i_ = 4 ∧ ¬i_ = 8) ∧ ¬i_ = 12) ∧ ¬i_ = 13) ∧ ¬i_ = 14) ∧ ¬i_ = 15) ∧ ¬i_ = 16) ∧ ¬i_ = 17 := by simpa using hq
   exact hI.quiet h4.1.1.1.1.1.1.1 h4.1.1.1.1.1.1.2 h4.1.1.1.1.1.2 h4.1.1.1.1.2 h4.1.1.1.2 h4.1.1.2 h4.1.2 h4.2 v_
  case steps =>
   refine ⟨?_, ?_, ?_, ?_, ?_, ?_, ?_, ?_, ?_, ?_, ?_, ?_, ?_, ?_, ?_, ?_, ?_, ?_, trivial⟩
   ·intro s b_ w_ hI hbi hd hq R hR hN
    generalize hA : putAll _ 0 s _ = A
    clear hq
    refine stepG_on rfl ?_
    have hR' := hR rfl (.pointer (some ⟨w.heap.size, 0, none⟩)) rfl
    clear hR hN hd
    refine opGives_value ?_ hR'
    subst hA
    simp only [dsOf, List.take, List.map_cons, List.map_nil, Option.getD_some, putAll, Act.put, List.setIfInBounds_toArray, List.set_cons_zero, List.set_cons_succ]
    go_simp
   ·intro s b_ w_ hI hbi hd hq R hR hN
    generalize hA : putAll _ 0 s _ = A
    clear hq
    refine stepG_on rfl ?_
    have e0 : s 0 = _ := (hd 0 (by kernel_rfl)).2 rfl
    have c0 := grown_cell hI.hD.1 c0 HNE.out
    have hR' := hR rfl (.int .i64 (n : Int)) rfl
    clear hR hN hd
    refine opGives_value ?_ hR'
    subst hA
    simp only [dsOf, List.take, List.map_cons, List.map_nil, Option.getD_some, putAll, Act.put, List.setIfInBounds_toArray, List.set_cons_zero, List.set_cons_succ]
    go_simp
   ·intro s b_ w_ hI hbi hd hq R hR hN
    generalize hA : putAll _ 0 s _ = A
    clear hq
    refine stepG_on rfl ?_
    have hR' := hR rfl (.pointer (some ⟨w.heap.size, 1, none⟩)) rfl
    clear hR hN hd
    refine opGives_value ?_ hR'
    subst hA
    simp only [dsOf, List.take, List.map_cons, List.map_nil, Option.getD_some, putAll, Act.put, List.setIfInBounds_toArray, List.set_cons_zero, List.set_cons_succ]
    go_simp
   ·intro s b_ w_ hI hbi hd hq R hR hN
    generalize hA : putAll _ 0 s _ = A
    clear hq
    refine stepG_on rfl ?_
    have e2 : s 2 = _ := (hd 2 (by kernel_rfl)).2 rfl
    have c1 := grown_cell hI.hD.1 c1 HNE.out
    have hR' := hR rfl (.slice Az xs.length cz) rfl
    clear hR hN hd
    refine opGives_value ?_ hR'
    subst hA
    simp only [dsOf, List.take, List.map_cons, List.map_nil, Option.getD_some, putAll, Act.put, List.setIfInBounds_toArray, List.set_cons_zero, List.set_cons_succ]
    go_simp
   ·intro s b_ w_ hI hbi hd hq R hR hN
    generalize hA : putAll _ 0 s _ = A
    clear hq
    refine stepG_on rfl ?_
    have e3 : s 3 = _ := (hd 3 (by kernel_rfl)).2 rfl
    clear hR
    refine opGives_call (f := 153) (args := #[.slice Az xs.length cz]) ?_ ?_
    ·subst hA
     clear hN hd
     simp only [dsOf, List.take, List.map_cons, List.map_nil, Option.getD_some, putAll, Act.put, List.setIfInBounds_toArray, List.set_cons_zero, List.set_cons_succ]
     go_simp
    clear hA A hd
    refine (specOwn2 _ xs w_ (HZ.out w_ hI.hD.1) HXL.out).mono ?_
    rintro e w3_ ⟨u3, rfl, ho, hb3⟩
    exact ⟨_, rfl, hN rfl _ _ ((hI.go HBS2.out (Dw.of_below hI.hD.2 hb3)).set4 hbi (ho.lower hI.hD.1.size))⟩
   ·intro s b_ w_ hI hbi hd hq R hR hN
    generalize hA : putAll _ 0 s _ = A
    clear hq
    refine stepG_on rfl ?_
    have hR' := hR rfl (.pointer (some ⟨bs, 0, none⟩)) rfl
    clear hR hN hd
    refine opGives_value ?_ hR'
    subst hA
    simp only [dsOf, List.take, List.map_cons, List.map_nil, Option.getD_some, putAll, Act.put, List.setIfInBounds_toArray, List.set_cons_zero, List.set_cons_succ]
    go_simp
   ·intro s b_ w_ hI hbi hd hq R hR hN
    generalize hA : putAll _ 0 s _ = A
    clear hq
    refine stepG_on rfl ?_
    have hR' := hR rfl (.pointer (some ⟨w.heap.size, 0, none⟩)) rfl
    clear hR hN hd
    refine opGives_value ?_ hR'
    subst hA
    simp only [dsOf, List.take, List.map_cons, List.map_nil, Option.getD_some, putAll, Act.put, List.setIfInBounds_toArray, List.set_cons_zero, List.set_cons_succ]
    go_simp
   ·intro s b_ w_ hI hbi hd hq R hR hN
    generalize hA : putAll _ 0 s _ = A
    clear hq
    refine stepG_on rfl ?_
    have e6 : s 6 = _ := (hd 6 (by kernel_rfl)).2 rfl
    have c0 := grown_cell hI.hD.1 c0 HNE.out
    have hR' := hR rfl (.int .i64 (n : Int)) rfl
    clear hR hN hd
    refine opGives_value ?_ hR'
    subst hA
    simp only [dsOf, List.take, List.map_cons, List.map_nil, Option.getD_some, putAll, Act.put, List.setIfInBounds_toArray, List.set_cons_zero, List.set_cons_succ]
    go_simp
   ·intro s b_ w_ hI hbi hd hq R hR hN
    generalize hA : putAll _ 0 s _ = A
    clear hq
    refine stepG_on rfl ?_
    have e7 : s 7 = _ := (hd 7 (by kernel_rfl)).2 rfl
    clear hR
    refine opGives_call (f := 268) (args := #[.int .i64 (n : Int)]) ?_ ?_
    ·subst hA
     clear hN hd
     simp only [dsOf, List.take, List.map_cons, List.map_nil, Option.getD_some, putAll, Act.put, List.setIfInBounds_toArray, List.set_cons_zero, List.set_cons_succ]
     go_simp
    clear hA A hd
    refine (HALL.out w_).mono ?_
    rintro e w3_ ⟨rfl, hb3⟩
    exact ⟨_, rfl, hN rfl _ _ ((hI.go HBS2.out (Dw.of_below hI.hD.2 hb3)).set8)⟩
   ·intro s b_ w_ hI hbi hd hq R hR hN
    generalize hA : putAll _ 0 s _ = A
    clear hq
    refine stepG_on rfl ?_
    have b8 : b_ 8 = true := (hd 8 (by kernel_rfl)).1
    have e8 := hI.v8 b8
    have hNw := HNW.out
    have hR' := hR rfl (.int .i64 (N : Int)) rfl
    clear hR hN hd
    refine opGives_value ?_ hR'
    subst hA
    simp only [dsOf, List.take, List.map_cons, List.map_nil, Option.getD_some, putAll, Act.put, List.setIfInBounds_toArray, List.set_cons_zero, List.set_cons_succ]
    go_simp
   ·intro s b_ w_ hI hbi hd hq R hR hN
    generalize hA : putAll _ 0 s _ = A
    clear hq
    refine stepG_on rfl ?_
    have hR' := hR rfl (.pointer (some ⟨w.heap.size, 0, none⟩)) rfl
    clear hR hN hd
    refine opGives_value ?_ hR'
    subst hA
    simp only [dsOf, List.take, List.map_cons, List.map_nil, Option.getD_some, putAll, Act.put, List.setIfInBounds_toArray, List.set_cons_zero, List.set_cons_succ]
    go_simp
   ·intro s b_ w_ hI hbi hd hq R hR hN
    generalize hA : putAll _ 0 s _ = A
    clear hq
    refine stepG_on rfl ?_
    have e10 : s 10 = _ := (hd 10 (by kernel_rfl)).2 rfl
    have c0 := grown_cell hI.hD.1 c0 HNE.out
    have hR' := hR rfl (.int .i64 (n : Int)) rfl
    clear hR hN hd
    refine opGives_value ?_ hR'
    subst hA
    simp only [dsOf, List.take, List.map_cons, List.map_nil, Option.getD_some, putAll, Act.put, List.setIfInBounds_toArray, List.set_cons_zero, List.set_cons_succ]
    go_simp
   ·intro s b_ w_ hI hbi hd hq R hR hN
    generalize hA : putAll _ 0 s _ = A
    clear hq
    refine stepG_on rfl ?_
    have e11 : s 11 = _ := (hd 11 (by kernel_rfl)).2 rfl
    clear hR
    refine opGives_call (f := 268) (args := #[.int .i64 (n : Int)]) ?_ ?_
    ·subst hA
     clear hN hd
     simp only [dsOf, List.take, List.map_cons, List.map_nil, Option.getD_some, putAll, Act.put, List.setIfInBounds_toArray, List.set_cons_zero, List.set_cons_succ]
     go_simp
    clear hA A hd
    refine (HALL.out w_).mono ?_
    rintro e w3_ ⟨rfl, hb3⟩
    exact ⟨_, rfl, hN rfl _ _ ((hI.go HBS2.out (Dw.of_below hI.hD.2 hb3)).set12)⟩
   ·intro s b_ w_ hI hbi hd hq R hR hN
    generalize hA : putAll _ 0 s _ = A
    clear hq
    refine stepG_on rfl ?_
    have e9 : s 9 = _ := (hd 9 (by kernel_rfl)).2 rfl
    have b12 : b_ 12 = true := (hd 12 (by kernel_rfl)).1
    clear hR
    have e12 := hI.v12 b12
    have hba : Below w_.heap.size w_ (w_.alloc (.cells #[.int .i64 0, .int .i64 (N : Int), .int .i64 ((N : Int) - 1), .int .i64 1] 2)) := Below.alloc (Below.refl _ _) (Nat.le_refl _) _
    have hN' := hN rfl (.slice (some ⟨w_.heap.size, 0, none⟩) 4 4) (w_.alloc (.cells #[.int .i64 0, .int .i64 (N : Int), .int .i64 ((N : Int) - 1), .int .i64 1] 2)) ((hI.go HBS2.out (Dw.of_below hI.hD.2 hba)).set13 hbi (lit_own w_ w2.heap.size [0, (N : Int), (N : Int) - 1, 1] hI.hD.1.size (by simp)))
    clear hN hd hba
    refine opGives_value ?_ hN'
    subst hA
    simp only [dsOf, List.take, List.map_cons, List.map_nil, Option.getD_some, putAll, Act.put, List.setIfInBounds_toArray, List.set_cons_zero, List.set_cons_succ]
    go_simp
   ·intro s b_ w_ hI hbi hd hq R hR hN
    generalize hA : putAll _ 0 s _ = A
    clear hq
    refine stepG_on rfl ?_
    have e5 : s 5 = _ := (hd 5 (by kernel_rfl)).2 rfl
    have b13 : b_ 13 = true := (hd 13 (by kernel_rfl)).1
    clear hR
    have o13 := hI.v13 b13 hbi
    obtain ⟨A13, c13, e13, -⟩ := id o13.read
    refine opGives_call (f := 255) (args := #[.pointer (some ⟨bs, 0, none⟩), .slice A13 [0, (N : Int), (N : Int) - 1, 1].length c13]) ?_ ?_
    ·subst hA
     clear hN hd
     simp only [dsOf, List.take, List.map_cons, List.map_nil, Option.getD_some, putAll, Act.put, List.setIfInBounds_toArray, List.set_cons_zero, List.set_cons_succ]
     go_simp
    clear hA A hd
    refine (pick bs _ [0, (N : Int), (N : Int) - 1, 1] w_ hI.hD.2 (by rw [← e13]; exact o13.rdk HBS2.out) (by simp) (by simp)).mono ?_
    rintro e w3_ ⟨r, rfl, hm, hd⟩
    exact ⟨_, rfl, hN rfl _ _ ((hI.go HBS2.out hd).set14 hbi b13 (by simp at hm; omega))⟩
   ·intro s b_ w_ hI hbi hd hq R hR hN
    generalize hA : putAll _ 0 s _ = A
    clear hq
    refine stepG_on rfl ?_
    have b14 : b_ 14 = true := (hd 14 (by kernel_rfl)).1
    clear hR
    obtain ⟨r14, e14, h14⟩ := hI.v14 b14
    have hba : Below w_.heap.size w_ (w_.alloc (.cells #[.int .i64 r14] 2)) := Below.alloc (Below.refl _ _) (Nat.le_refl _) _
    have hN' := hN rfl (.slice (some ⟨w_.heap.size, 0, none⟩) 1 1) (w_.alloc (.cells #[.int .i64 r14] 2)) ((hI.go HBS2.out (Dw.of_below hI.hD.2 hba)).set15 hbi b14 ⟨r14, w_.heap.size, rfl, hI.hD.1.size, by simp, h14⟩)
    clear hN hd hba
    refine opGives_value ?_ hN'
    subst hA
    simp only [dsOf, List.take, List.map_cons, List.map_nil, Option.getD_some, putAll, Act.put, List.setIfInBounds_toArray, List.set_cons_zero, List.set_cons_succ]
    go_simp
   ·intro s b_ w_ hI hbi hd hq R hR hN
    generalize hA : putAll _ 0 s _ = A
    clear hq
    refine stepG_on rfl ?_
    have b4 : b_ 4 = true := (hd 4 (by kernel_rfl)).1
    have b15 : b_ 15 = true := (hd 15 (by kernel_rfl)).1
    clear hR
    have o4 := hI.v4 b4 hbi
    obtain ⟨r15, kb, e15, hkb1, hkb2, h15⟩ := hI.v15 b15 hbi
    obtain ⟨A4, c4, e4, -⟩ := id o4.read
    refine append_gives w2.heap.size (.tmp 35) (.tmp 46) rfl (.slice A4 xs.length c4) xs r15 kb 1 ?_ ?_ hkb2 (by rw [← e4]; exact o4) hI.hD.1.size (by have := HXL.out; omega) ?_
    ·subst hA
     clear hN hd
     simp only [dsOf, List.take, List.map_cons, List.map_nil, Option.getD_some, putAll, Act.put, List.setIfInBounds_toArray, List.set_cons_zero, List.set_cons_succ]
     exact e4
    ·subst hA
     clear hN hd
     simp only [dsOf, List.take, List.map_cons, List.map_nil, Option.getD_some, putAll, Act.put, List.setIfInBounds_toArray, List.set_cons_zero, List.set_cons_succ]
     exact e15
    intro v1 wn1 ho1 hg1 hat1
    exact hN rfl _ _ (hI.app HBS2.out b4 b15 hbi (by rw [e4]; exact hg1) ⟨r15, ho1, h15⟩)
   ·intro s b_ w_ hI hbi hd hq R hR hN
    generalize hA : putAll _ 0 s _ = A
    clear hq
    refine stepG_on rfl ?_
    have e1 : s 1 = _ := (hd 1 (by kernel_rfl)).2 rfl
    have b16 : b_ 16 = true := (hd 16 (by kernel_rfl)).1
    clear hR
    obtain ⟨r16, o16, h16⟩ := hI.v16 b16
    obtain ⟨A16, c16, e16, -⟩ := id o16.read
    have hN' := hN rfl (.agg #[.int .i64 (n : Int), s 16]) w_ (hI.set17 hbi b16 ⟨r16, _, rfl, o16, h16⟩)
    clear hN hd
    refine opGives_value ?_ hN'
    subst hA
    simp only [dsOf, List.take, List.map_cons, List.map_nil, Option.getD_some, putAll, Act.put, List.setIfInBounds_toArray, List.set_cons_zero, List.set_cons_succ]
    go_simp
  case rest =>
   intro s9 b_ w9 hI hb hv
   simp only [dsOf, List.take, List.map_cons, List.map_nil, Option.getD_some, putAll, Act.put, List.setIfInBounds_toArray, List.set_cons_zero, List.set_cons_succ]
   clear hv
   obtain ⟨r17, u17, e17_, o17, h17⟩ := hI.v17 (hb 17 (by decide))
   have hdd := hI.hD
   have hd9 : Dw bs w2 w9 := hdd
   have hk9 : w9.heap[w.heap.size + 1]? = some C0 := by rw [hd9.1.block _ (blk_lt HK2.out) (fun e => by have := Option.some.inj e; have := HBS.out; omega)]; exact HK2.out
   have HK9 := Aside0.mk hk9
   have HD9 := Aside0.mk (HD2.out.trans hd9)
   have HO9 := Aside0.mk o17
   obtain ⟨A9, c9, rfl, -⟩ := id (o17).read
   have c00 : w9.cell? ⟨w.heap.size + 1, 0, none⟩ = some (.int .i64 0) := blk_cell hk9 0
   have c01 : w9.cell? ⟨w.heap.size + 1, 1, none⟩ = some (.slice none 0 0) := blk_cell hk9 1
   have f00 : w9.frozen? ⟨w.heap.size + 1, 0, none⟩ = false := blk_frozen hk9 0
   have f01 : w9.frozen? ⟨w.heap.size + 1, 1, none⟩ = false := blk_frozen hk9 1
   rw [e17_]
   clear hb hI hdd hd9 hk9 o17 e17_
   refine .inr ⟨(w9.setCell ⟨w.heap.size + 1, 0, none⟩ (.int .i64 (n : Int))).setCell ⟨w.heap.size + 1, 1, none⟩ (.slice A9 (xs ++ [r17]).length c9), (by go_simp), ?_⟩
   simp only [List.drop, Act.put, List.setIfInBounds_toArray, List.set_cons_zero, List.set_cons_succ]
   unfold tailList
   go_wp2
   refine bodyPost_ret (results_cell_row rfl _ _ (w.heap.size + 1) 26 #[.int .i64 (n : Int), .slice A9 (xs ++ [r17]).length c9] (0, 0) _ rfl (by refine blk_put (cs := #[.int .i64 (n : Int), .slice none 0 0]) ?_ 1 _ rfl; refine blk_put (cs := #[.int .i64 0, .slice none 0 0]) ?_ 0 _ rfl; exact HK9.out) Tryz.underlying26 rfl (by kernel_rfl)) rfl ?_
   have hbb : Below w.heap.size w9 ((w9.setCell ⟨w.heap.size + 1, 0, none⟩ (Value.int IntKind.i64 (n : Int))).setCell ⟨w.heap.size + 1, 1, none⟩ (Value.slice A9 (xs ++ [r17]).length c9)) := ((Below.refl _ _).setCell (by simp) _).setCell (by simp) _
   refine ⟨_, rfl, ⟨(n : Int), _, (xs ++ [r17]), rfl, ?_, ⟨HRC.out.1, HRC.out.2.1, fun y hy => by
     rcases List.mem_append.1 hy with hy | hy
     ·exact HRC.out.2.2.1 y hy
     ·rw [List.mem_singleton] at hy; omega, by rw [List.length_append, List.length_singleton]; omega⟩⟩, HD9.out.top hbb (Nat.le_refl _) HBS.out⟩
   have ho := HO9.out
   have hbse := ho.base
   have hz2 := HZ2.out
   have hBB := HBB.out.2
   have ho := ho.lower (b' := B) (by omega)
   exact (ho.grown (set_grown' _ (w.heap.size + 1) _ _) (fun j hj e => by have := hbse _ hj; cases e; omega)).grown (set_grown' _ (w.heap.size + 1) _ _) (fun j hj e => by have := hbse _ hj; cases e; omega)
 ·have HK9 := HK2
  have HD9 := HD2
  have HO9 := HOZ2
  refine bodyPost_ret (results_cell_row rfl _ _ (w.heap.size + 1) 26 #[.int .i64 (n : Int), .slice Az xs.length cz] (0, 0) _ rfl (by refine blk_put (cs := #[.int .i64 (n : Int), .slice none 0 0]) ?_ 1 _ rfl; refine blk_put (cs := #[.int .i64 0, .slice none 0 0]) ?_ 0 _ rfl; exact HK9.out) Tryz.underlying26 rfl (by kernel_rfl)) rfl ?_
  have hbb : Below w.heap.size w2 ((w2.setCell ⟨w.heap.size + 1, 0, none⟩ (Value.int IntKind.i64 (n : Int))).setCell ⟨w.heap.size + 1, 1, none⟩ (Value.slice Az xs.length cz)) := ((Below.refl _ _).setCell (by simp) _).setCell (by simp) _
  refine ⟨_, rfl, ⟨(n : Int), _, xs, rfl, ?_, HRC.out⟩, HD9.out.top hbb (Nat.le_refl _) HBS.out⟩
  have ho := HO9.out
  have hbse : ∀ k, (Value.slice Az xs.length cz).ownBlock = some k → k < w.heap.size := HOZ.out.lt
  have hz2 := HZ2.out
  have hBB := HBB.out.2
  have ho := ho.lower (b' := B) (by omega)
  exact (ho.grown (set_grown' _ (w.heap.size + 1) _ _) (fun j hj e => by have := hbse _ hj; cases e; omega)).grown (set_grown' _ (w.heap.size + 1) _ _) (fun j hj e => by have := hbse _ hj; cases e; omega)
set_option maxRecDepth 100000 in
set_option maxHeartbeats 2000000 in
theorem spoil (bs : Nat) (w : World) (hs : Src bs w) :
  Calls Tryz.prog 195 #[.pointer (some ⟨bs, 0, none⟩)] w fun e w' => ∃ v, e = .returned v ∧ (∃ (a : Int) (u : Value) (ys : List Int), v = .agg #[.int .i64 a, u] ∧ OwnI w.heap.size w' u ys ∧ Rc a ys) ∧ Dw bs w w' := by
 have HBS := Aside0.mk hs.lt
 obtain ⟨w1, hw1⟩ : ∃ w1, w1 = w.alloc C0 := ⟨_, rfl⟩
 have hb1 : Below w.heap.size w w1 := by rw [hw1]; exact Below.alloc (Below.refl _ _) (Nat.le_refl _) _
 have HZ1 : Aside0 (w1.heap.size = w.heap.size + 1) := ⟨by rw [hw1]; simp⟩
 have HK1 : Aside0 (w1.heap[w.heap.size]? = some C0) := ⟨by rw [hw1]; exact blk_new w _⟩
 have HD1 := Aside0.mk (Dw.of_below hs hb1)
 have HDR := Aside0.mk (draw bs w1 HD1.out.2)
 clear hs hb1
 go_enter Tryz.func195, Tryz.ntmps195
 go_wp2_with (first | (go_at_call 158; rw [← hw1]; clear hw1; refine HDR.out.mono ?_; rintro e w2 ⟨_, rfl, ⟨n, z, xs, rfl, ho, hg⟩, hd⟩; have HD2 := Aside0.mk hd; have HO2 := Aside0.mk ho; have HG2 := Aside0.mk hg; clear ho hg hd) | (go_at_call 160; go_must (refine (bad bs n w1.heap.size z xs w2 HD2.out.2 HO2.out HD1.out.2.lt HD2.out.size HG2.out).mono ?_; rintro e w9 ⟨_, rfl, ⟨a, u, ys, rfl, ho, hr⟩, hd⟩; have HD9 := Aside0.mk (HD2.out.trans hd); have hk9 : w9.heap[w.heap.size]? = some C0 := (by rw [(HD2.out.trans hd).1.block _ (by have h1 := HZ1.out; omega) (fun e => by have := Option.some.inj e; have := HBS.out; omega)]; exact HK1.out); have HK9 := Aside0.mk hk9; have HO9 := Aside0.mk ho; have HR9 := Aside0.mk hr; obtain ⟨A9, c9, rfl, -⟩ := id ho.read; have c00 : w9.cell? ⟨w.heap.size, 0, none⟩ = some (.int .i64 0) := blk_cell hk9 0; have c01 : w9.cell? ⟨w.heap.size, 1, none⟩ = some (.slice none 0 0) := blk_cell hk9 1; have f00 : w9.frozen? ⟨w.heap.size, 0, none⟩ = false := blk_frozen hk9 0; have f01 : w9.frozen? ⟨w.heap.size, 1, none⟩ = false := blk_frozen hk9 1; clear ho hr hd hk9)))
 refine bodyPost_ret (results_cell_row rfl _ _ w.heap.size 26 #[.int .i64 a, .slice A9 ys.length c9] (0, 0) _ rfl (by refine blk_put (cs := #[.int .i64 a, .slice none 0 0]) ?_ 1 _ rfl; refine blk_put (cs := #[.int .i64 0, .slice none 0 0]) ?_ 0 _ rfl; exact HK9.out) Tryz.underlying26 rfl (by kernel_rfl)) rfl ?_
 have hbb : Below w.heap.size w9 ((w9.setCell ⟨w.heap.size, 0, none⟩ (Value.int IntKind.i64 a)).setCell ⟨w.heap.size, 1, none⟩ (Value.slice A9 ys.length c9)) := ((Below.refl _ _).setCell (by simp) _).setCell (by simp) _
 have hz := HZ1.out
 refine ⟨_, rfl, ⟨a, _, ys, rfl, ?_, HR9.out⟩, (HD1.out.trans HD9.out).top hbb (Nat.le_refl _) HBS.out⟩
 have ho := HO9.out
 have hbse := ho.base
 have ho := ho.lower (b' := w.heap.size) (by omega)
 exact (ho.grown (set_grown' _ w.heap.size _ _) (fun j hj e => by have := hbse _ hj; cases e; omega)).grown (set_grown' _ w.heap.size _ _) (fun j hj e => by have := hbse _ hj; cases e; omega)
theorem C0_u8 {w : World} {kr : Nat} (hk : w.heap[kr]? = some C0) {ad : Addr} {y : Int} (h : w.cell? ad = some (.int .u8 y)) : ad.block ≠ kr := by
 intro e
 unfold World.cell? at h
 rw [e, hk] at h
 simp only [C0] at h
 split at h
 ·cases h
 ·rcases hq : ad.off with _ | _ | n <;> rw [hq] at h <;> simp at h
theorem Src.turn {bs kr : Nat} {w w' : World} (h : Src bs w) (hk : w.heap[kr]? = some C0) (hne : kr ≠ bs) (hg : w.grownBy w' (some kr)) : Src bs w' := by
 obtain ⟨A, n, c, at_, hh, h1, h2, h3, h4, h5⟩ := h
 refine ⟨A, n, c, at_, hh, by rw [hg.block bs (blk_lt h1) (fun e => hne (Option.some.inj e).symm)]; exact h1, h2, h3, h4, fun hn => ?_⟩
 obtain ⟨ad, e, hlt, hc⟩ := h5 hn
 exact ⟨ad, e, hlt, fun i hi => by obtain ⟨y, hy, hcy⟩ := hc i hi; exact ⟨y, hy, grown_cell hg hcy (C0_u8 hk hcy)⟩⟩
def putP (acc : List (Int × Int)) (k : Nat) (p : Int × Int) : List (Int × Int) := acc.take k ++ p :: acc.drop k
end Go.Proofs.YtomofijniefelaaGreat.H
