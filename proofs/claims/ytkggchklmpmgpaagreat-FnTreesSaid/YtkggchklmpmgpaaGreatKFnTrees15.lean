/- Gradient steps of the program. A slice of the call's own that begins anywhere in its block: a queue. What is reached by gradient steps: the program's queue. No face comes back to itself: the program's isAcyclic. A slice of one list. BoundaryOf of the program and of the reference. Flows of the program. A chain with a face turned: the reference's l06Put. A chain with a face turned: the walk of l06Put. Slices of bools of the call's own. Gradient steps, and what they reach: the reference. No face comes back to itself: the reference's l02Acyclic. Desks, by the program and by the reference. Flows of the reference. FlowOf of the program and of the reference. Flows of an acyclic pairing come to an end: the plain law. EndOfFlow of the program and of the reference. Critical faces of the program and of the reference. -/
import Derived.Deep.AppendLies
import Derived.WalkSpells
import Derived.Test.YtkggchklmpmgpaaGreatKFnTrees1
import Derived.Test.YtkggchklmpmgpaaGreatKFnTrees2
import Derived.Test.YtkggchklmpmgpaaGreatKFnTrees3
import Derived.Test.YtkggchklmpmgpaaGreatKFnTrees4
import Derived.Test.YtkggchklmpmgpaaGreatKFnTrees5
import Derived.Test.YtkggchklmpmgpaaGreatKFnTrees6
import Derived.Test.YtkggchklmpmgpaaGreatKFnTrees7
import Derived.Test.YtkggchklmpmgpaaGreatKFnTrees8
import Derived.Test.YtkggchklmpmgpaaGreatKFnTrees9
import Derived.Test.YtkggchklmpmgpaaGreatKFnTrees10
import Derived.Test.YtkggchklmpmgpaaGreatKFnTrees11
import Derived.Test.YtkggchklmpmgpaaGreatKFnTrees12
import Derived.Test.YtkggchklmpmgpaaGreatKFnTrees13
import Derived.Test.YtkggchklmpmgpaaGreatKFnTrees14

namespace Go.Proofs.YtkggchklmpmgpaaGreat.H
open Go.RowKit Go.Proofs.YtkggchklmpmgpaaGreatW.PrintWords Go.Proofs.YtkggchklmpmgpaaGreatW.PrintLast
set_option linter.unusedVariables false
set_option linter.unusedSimpArgs false
theorem idxP_cases (p : Int × Int → Bool) (ps : List (Int × Int)) : (idx p ps = -1 ∧ ∀ (j : Nat) (q : Int × Int), j < ps.length → ps[j]? = some q → p q = false) ∨
  ∃ (i : Nat) (q : Int × Int), idx p ps = i ∧ i < ps.length ∧ ps[i]? = some q ∧ p q = true ∧ ∀ (j : Nat) (q : Int × Int), j < i → ps[j]? = some q → p q = false := by
 by_cases h : ps.findIdx p < ps.length
 ·refine .inr ⟨ps.findIdx p, ps[ps.findIdx p], by unfold idx; rw [if_pos h], h, List.getElem?_eq_getElem h, List.findIdx_getElem, fun j q hj hq => ?_⟩
  have hl := (List.getElem?_eq_some_iff.1 hq)
  have := List.not_of_lt_findIdx hj
  rw [← hl.2]
  simpa using this
 ·refine .inl ⟨by unfold idx; rw [if_neg h], fun j q hj hq => ?_⟩
  have h2 := (List.findIdx_eq_length (p := p) (xs := ps)).1 (by have := List.findIdx_le_length (p := p) (xs := ps); omega)
  exact h2 q (List.mem_of_getElem? hq)
set_option maxRecDepth 100000 in
set_option maxHeartbeats 1000000 in
theorem steps1 (w : World) (b : Nat) (a : Int) (h0 : w.cell? ⟨b, 0, none⟩ = some (.int .i64 a)) :
  PredP w (.func (.func 421) #[] #[.pointer (some ⟨b, 0, none⟩)]) (fun p => p.1 == a) (fun _ => True) := by
 refine ⟨_, _, _, rfl, Enters.mk' Tryz.func421 rfl rfl, fun w1 x y hb _ => ?_⟩
 obtain ⟨w2, hw2⟩ : ∃ w2, w2 = w1.alloc (.cells #[.int .i64 x, .int .i64 y] 83) := ⟨_, rfl⟩
 have hB2 : Below w1.heap.size w1 w2 := by rw [hw2]; exact Below.alloc (Below.refl _ _) (Nat.le_refl _) _
 have ca := pw_cell_below hB2 (pw_cell_below hb h0)
 have c0 : w2.cell? ⟨w1.heap.size, 0, none⟩ = some (.int .i64 x) := by rw [hw2]; simp
 have HB := Aside0.mk hB2
 clear hb h0 hB2
 subst hw2
 show Calls _ _ #[_, _] _ _
 go_enter Tryz.func421, Tryz.ntmps421
 go_wp2
 go_ret
 exact ⟨rfl, HB.out⟩
set_option maxRecDepth 100000 in
set_option maxHeartbeats 1000000 in
theorem steps2 (w : World) (b : Nat) (a : Int) (h0 : w.cell? ⟨b, 0, none⟩ = some (.int .i64 a)) :
  PredI w (.func (.func 422) #[] #[.pointer (some ⟨b, 0, none⟩)]) (fun x => x == a) (fun _ => True) := by
 refine ⟨_, _, _, rfl, Enters.mk' Tryz.func422 rfl rfl, fun w1 x hb _ => ?_⟩
 have ca := pw_cell_below hb h0
 clear hb h0
 show Calls _ _ #[_, _] _ _
 go_enter Tryz.func422, Tryz.ntmps422
 go_wp2
 go_ret
 exact ⟨rfl, Below.refl _ _⟩
set_option maxRecDepth 100000 in
set_option maxHeartbeats 2000000 in
theorem steps (v : Value) (ps : List (Int × Int)) (a : Int) (w : World) (hv : ReadP w v ps) (hd : PsDom ps) :
  Calls Tryz.prog 369 #[v, .int .i64 a] w fun e w' => ∃ u, e = .returned u ∧ OwnI w.heap.size w' u (nextOf ps a) ∧ Below w.heap.size w w' := by
 obtain ⟨w1, hw1⟩ : ∃ w1, w1 = w.alloc (.cells #[.int .i64 a] 2) := ⟨_, rfl⟩
 have hB : Below w.heap.size w w1 := by rw [hw1]; exact Below.alloc (Below.refl _ _) (Nat.le_refl _) _
 have ca : w1.cell? ⟨w.heap.size, 0, none⟩ = some (.int .i64 a) := by rw [hw1]; simp
 have HB := Aside0.mk hB
 have HV := Aside0.mk (hv.below hB)
 have HX := Aside0.mk (indexFuncP v ps _ _ _ w1 (hv.below hB) (steps1 w1 w.heap.size a ca) (fun _ _ => trivial))
 have HP2 := Aside0.mk (steps2 w1 w.heap.size a ca)
 obtain ⟨A2, d2, rfl, hl2, -⟩ := id hv
 clear hv hB ca
 rcases idxP_cases (fun p => p.1 == a) ps with ⟨hi, hn⟩ | ⟨i, ⟨x, y⟩, hi, hlt, hq, hp, hn⟩
 ·rw [hi] at HX
  have HN : Aside0 (nextOf ps a = []) := ⟨by unfold nextOf; rw [if_pos (high_none ps a hn)]⟩
  clear hi hn
  go_enter Tryz.func369, Tryz.ntmps369
  go_wp2_with (first | (go_at_call 394; rw [← hw1]; clear hw1; refine HX.out.mono ?_; rintro e w2 ⟨rfl, hb⟩; have HB2 := Aside0.mk hb; clear hb))
  go_ret
  exact ⟨_, rfl, by rw [HN.out]; exact OwnI.nil _ _, HB.out.trans (HB2.out.mono HB.out.size)⟩
 ·rw [hi] at HX
  have hy := (hd (x, y) (List.mem_of_getElem? hq)).2
  obtain ⟨f, rfl⟩ : ∃ f : Nat, y = f := ⟨y.toNat, by simp only at hy; omega⟩
  have hf : f ≤ 63 := by simp only at hy; omega
  have hh : highTo ps a = f := high_hit ps a i x f hq hp hn
  have HN : Aside0 (nextOf ps a = (below f).filter fun z => !(z == a)) := ⟨by unfold nextOf; rw [hh, if_neg (by simp only at hy; omega), Int.toNat_natCast]⟩
  have hiI : (i : Int) < (ps.length : Int) := by omega
  have hi0 : ¬ (i : Int) < 0 := by omega
  have HG := Aside0.mk hq
  have HBL := Aside0.mk (below_dom f (by omega))
  clear hi hn hp hh hq hy hd
  go_enter Tryz.func369, Tryz.ntmps369
  go_wp2_with (first | (go_at_call 394; rw [← hw1]; clear hw1; refine HX.out.mono ?_; rintro e w2 ⟨rfl, hb⟩; have HB2 := Aside0.mk hb; obtain ⟨g2, x2, y2, rfl, hxy2, hc0, hc1⟩ := ReadP.get (HV.out.below hb) hlt; rw [HG.out] at hxy2; cases hxy2; clear hb) | (go_at_call 156; refine (borders f hf _).mono ?_; rintro e w3 ⟨u3, rfl, ho, hb⟩; obtain ⟨A3, d3, rfl, -⟩ := ho.read; have HO3 := Aside0.mk (ho.lower HB2.out.size); have HB3 := Aside0.mk (HB2.out.trans (hb.mono HB2.out.size)); clear ho hb) | (go_at_call 327; refine (deleteFunc w1 _ _ (below f) _ (fun z => z == a) (fun _ => True) HB3.out HO3.out HP2.out (fun _ _ => trivial) (by have := HBL.out.2; omega)).mono ?_; rintro e w4 ⟨u4, rfl, ho, hb⟩; have HO4 := Aside0.mk (ho.lower HB.out.size); have HB4 := Aside0.mk hb; obtain ⟨A4, d4, rfl, -⟩ := ho.read; clear ho hb))
  go_ret
  exact ⟨_, rfl, by rw [HN.out]; exact HO4.out, HB.out.trans (HB4.out.mono HB.out.size)⟩
theorem add_off (g o i : Nat) : (⟨g, o, none⟩ : Addr).add i = ⟨g, o + i, none⟩ := by
 unfold Addr.add
 split
 ·next h => subst h; rfl
 ·rfl
/-- a slice of numbers from place o of a block on, not below block b -/
def OwnO (b : Nat) (w : World) (v : Value) (xs : List Int) : Prop :=
 ∃ g o cap, v = .slice (some ⟨g, o, none⟩) xs.length cap ∧ b ≤ g ∧ g < w.heap.size ∧ xs.length ≤ cap ∧ (∀ (j : Nat) (x : Int), xs[j]? = some x → w.cell? ⟨g, o + j, none⟩ = some (.int .i64 x)) ∧
  ∀ j, j < cap → (w.cell? ⟨g, o + j, none⟩).isSome = true ∧ w.frozen? ⟨g, o + j, none⟩ = false
theorem below_of_none {w w' : World} (h : w.grownBy w' none) : Below w.heap.size w w' := ⟨h.os, h.tape, h.output, h.size, fun k hk => h.block k hk (by simp)⟩
theorem frozen_below {B : Nat} {w w' : World} (hb : Below B w w') {a : Addr} (h : a.block < B) : w'.frozen? a = w.frozen? a := by
 unfold World.frozen?
 rw [hb.block a.block h]
theorem OwnO.below {b : Nat} {w w' : World} {v : Value} {xs : List Int} (h : OwnO b w v xs) (hb : Below w.heap.size w w') : OwnO b w' v xs := by
 obtain ⟨g, o, cap, rfl, h1, h2, h3, h4, h5⟩ := h
 refine ⟨g, o, cap, rfl, h1, Nat.lt_of_lt_of_le h2 hb.size, h3, fun j x hj => pw_cell_below hb (h4 j x hj), fun j hj => ?_⟩
 obtain ⟨hy, hf⟩ := h5 j hj
 obtain ⟨y, hy⟩ := Option.isSome_iff_exists.1 hy
 exact ⟨by rw [pw_cell_below hb hy]; rfl, (frozen_below hb h2).trans hf⟩
theorem OwnO.other {b : Nat} {w w' : World} {v : Value} {xs : List Int} (h : OwnO b w v xs) {row : Option Nat} (hg : w.grownBy w' row) (hn : ∀ k, v.ownBlock = some k → some k ≠ row) : OwnO b w' v xs := by
 obtain ⟨g, o, cap, rfl, h1, h2, h3, h4, h5⟩ := h
 have hne : some g ≠ row := hn g (by simp [Value.ownBlock])
 have hh : w'.heap[g]? = w.heap[g]? := hg.block g h2 hne
 have hc : ∀ k, w'.cell? ⟨g, k, none⟩ = w.cell? ⟨g, k, none⟩ := fun k => by unfold World.cell?; rw [hh]
 have hf : ∀ k, w'.frozen? ⟨g, k, none⟩ = w.frozen? ⟨g, k, none⟩ := fun k => by unfold World.frozen?; rw [hh]
 exact ⟨g, o, cap, rfl, h1, Nat.lt_of_lt_of_le h2 hg.size, h3, fun j x hj => (hc _).trans (h4 j x hj), fun j hj => by rw [hc, hf]; exact h5 j hj⟩
theorem OwnO.head {b : Nat} {w : World} {g o n cap : Nat} {x : Int} {xs : List Int} (h : OwnO b w (.slice (some ⟨g, o, none⟩) n cap) (x :: xs)) : w.cell? ⟨g, o, none⟩ = some (.int .i64 x) := by
 obtain ⟨g', o', cap', e, h1, h2, h3, h4, h5⟩ := h
 cases e
 have := h4 0 x rfl
 simpa using this
theorem OwnO.base {b : Nat} {w : World} {v : Value} {xs : List Int} (h : OwnO b w v xs) : ∀ k, v.ownBlock = some k → b ≤ k := by
 obtain ⟨g, o, cap, rfl, h1, h2⟩ := h
 intro k hk
 have : g = k := by simpa [Value.ownBlock] using hk
 omega
theorem OwnO.lt {b : Nat} {w : World} {v : Value} {xs : List Int} (h : OwnO b w v xs) : ∀ k, v.ownBlock = some k → k < w.heap.size := by
 obtain ⟨g, o, cap, rfl, h1, h2, h3⟩ := h
 intro k hk
 have : g = k := by simpa [Value.ownBlock] using hk
 omega
/-- out of a slice that begins at its block's beginning -/
theorem OwnO.of {b : Nat} {w : World} {v : Value} {xs : List Int} (h : OwnI b w v xs) (hn : 0 < xs.length) : OwnO b w v xs := by
 obtain ⟨g, cap, rfl, hb, hlt, hc⟩ := Kd.R_form h hn
 obtain ⟨A, c, e, hle, hr⟩ := h.read
 injection e with e1 e2 e3
 subst e1 e3
 have ho := Kd.own_of_R h
 rcases ho.2 with ⟨hx, _⟩ | ⟨g', cap', cur, e, hb', hh, hl', hm, hs, ht⟩
 ·cases hx
 ·injection e with e1 e2 e3
  injection e1 with e1
  injection e1 with e1
  subst e1 e3
  refine ⟨g, 0, cap, rfl, hb, (Array.getElem?_eq_some_iff.1 hh).1, hle, fun j x hj => ?_, fun j hj => ?_⟩
  ·have hjl := (List.getElem?_eq_some_iff.1 hj).1
   obtain ⟨ad, e4, hcell⟩ := ReadI.at_ hr hjl
   cases e4
   rw [add_off] at hcell
   rw [hcell, List.getD_eq_getElem?_getD, hj]; rfl
  ·have hsz : j < cur.size := by rw [hs]; omega
   refine ⟨?_, ?_⟩
   ·unfold World.cell?
    simp only [hh, Nat.zero_add]
    simp [hsz]
   ·unfold World.frozen?
    simp only [hh]
    simp
theorem run_tail {P : Program} (t e : TypeId) (hu : P.underlying t = some (.slice e)) (hi : (P.info? e).map (·.size) = some 1) (g o n cap : Nat) (W : World) :
  (Instr.slice t (.slice (some ⟨g, o, none⟩) (n + 1) cap) (some (.int .i64 1)) none none).run P W = .ok (.slice (some ⟨g, if cap = 1 then o else o + 1, none⟩) n (cap - 1)) W := by
 obtain ⟨i, hi, hs⟩ := Option.map_eq_some_iff.1 hi
 have h1 : (⟨g, o, none⟩ : Addr).add 1 = ⟨g, o + 1, none⟩ := by unfold Addr.add; simp
 have h2 : (1 : Int) ≤ (n : Int) + 1 := by omega
 by_cases hc : cap = 1
 ·simp [Instr.slice, Instr.sliceBounds, Instr.sliceBound, asIntOf, run_underlying hu, sizeOf, typeInfo, hi, hs, go_sem, h2, hc]
 ·simp [Instr.slice, Instr.sliceBounds, Instr.sliceBound, asIntOf, run_underlying hu, sizeOf, typeInfo, hi, hs, go_sem, h2, hc, h1]
/-- queue[1:] -/
theorem OwnO.tail {b : Nat} {w : World} {v : Value} {x : Int} {xs : List Int} (h : OwnO b w v (x :: xs)) :
  ∃ u, (∀ W : World, (Instr.slice 24 v (some (.int .i64 1)) none none).run Tryz.prog W = .ok u W) ∧ OwnO b w u xs ∧ u.ownBlock = v.ownBlock := by
 obtain ⟨g, o, cap, rfl, h1, h2, h3, h4, h5⟩ := h
 simp only [List.length_cons] at h3
 refine ⟨_, fun W => run_tail 24 2 Tryz.underlying24 (by kernel_rfl) g o xs.length cap W, ⟨g, _, cap - 1, rfl, h1, h2, by omega, fun j x hj => ?_, fun j hj => ?_⟩, rfl⟩
 ·have hjl := (List.getElem?_eq_some_iff.1 hj).1
  have := h4 (j + 1) x (by simpa using hj)
  rw [if_neg (by omega), Nat.add_assoc, Nat.add_comm 1 j]
  exact this
 ·have := h5 (j + 1) (by omega)
  rw [if_neg (by omega), Nat.add_assoc, Nat.add_comm 1 j]
  exact this
section
variable {ops : Array Oper} {rest : List Oper} {o : Oper} {a : Act} {Q : Exit → Act → World → Prop}
/-- append(queue, p); the one-cell block of the variadic lies ahead -/
theorem app_ownO {w0 W : World} (base : Nat) (hgd : o.guard = none) (s x : Operand) (ho : o.op = .call { callee := .builtin .append, args := #[s, x], argTypes := #[24, 24] })
  (v : Value) (xs : List Int) (p : Int) (hs : a.eval s = v) (hx : a.eval x = .slice (some ⟨W.heap.size, 0, none⟩) 1 1)
  (HO : OwnO base W v xs) (HB : Below base w0 W) (hbase : base ≤ W.heap.size) (hl : xs.length < 1000000)
  (h : ∀ v1 w1, OwnO base w1 v1 (xs ++ [p]) → Below base w0 w1 → W.grownBy w1 v.ownBlock → (v1.ownBlock = v.ownBlock ∨ ∃ b, v1.ownBlock = some b ∧ W.heap.size ≤ b) → wpList Tryz.prog ops Q rest (a.put o.dst v1) w1) :
  wpList Tryz.prog ops Q (o :: rest) a (W.alloc (.cells #[.int .i64 p] 2)) := by
 obtain ⟨i0, hi, hzz⟩ := Option.map_eq_some_iff.1 info64
 simp only [Prod.mk.injEq] at hzz
 obtain ⟨hz0, hz1, hz2⟩ := hzz
 obtain ⟨g, of, cap, rfl, h1, h2, h3, h4, h5⟩ := HO
 have hbn : (W.alloc (.cells #[.int .i64 p] 2)).cell? ⟨W.heap.size, 0, none⟩ = some (.int .i64 p) := by simp
 have hA : Below W.heap.size W (W.alloc (.cells #[.int .i64 p] 2)) := Below.alloc (Below.refl _ _) (Nat.le_refl _) _
 have hcA : ∀ k u, W.cell? ⟨g, k, none⟩ = some u → (W.alloc (.cells #[.int .i64 p] 2)).cell? ⟨g, k, none⟩ = some u := fun k u hk => pw_cell_below hA hk
 have hfA : ∀ k, (W.alloc (.cells #[.int .i64 p] 2)).frozen? ⟨g, k, none⟩ = W.frozen? ⟨g, k, none⟩ := fun k => frozen_below hA h2
 have hsA : ∀ k, (W.cell? ⟨g, k, none⟩).isSome = true → ((W.alloc (.cells #[.int .i64 p] 2)).cell? ⟨g, k, none⟩).isSome = true := fun k hk => by
  obtain ⟨u, hu⟩ := Option.isSome_iff_exists.1 hk
  rw [hcA k u hu]; rfl
 refine wpList_append_arg _ hgd s x 24 ho 2 i0 (.int .i64 0) 1 8 Tryz.underlying24 hi hz0 hz1 hz2 rfl (by decide) g of xs.length cap (xs.map (Value.int .i64)) hs (by simp) ?olds ⟨W.heap.size, 0, none⟩ 1 1 [.int .i64 p] hx rfl ?c1 (by simp [Value.oneCell']) ?spare (by unfold maxLen; omega) (by omega) ?room ?grow
 case olds =>
  intro j u hj
  rw [List.getElem?_map] at hj
  obtain ⟨y, hy, rfl⟩ := Option.map_eq_some_iff.1 hj
  exact hcA _ _ (h4 j y hy)
 case c1 =>
  intro j u hj
  rcases j with _ | j
  ·simp at hj; subst hj; rw [add_off]; exact hbn
  ·simp at hj
 case spare =>
  intro hr j hj
  simp only [List.length_cons, List.length_nil] at hj
  obtain rfl : j = 0 := by omega
  have := h5 xs.length (by omega)
  rw [Nat.mul_one, Nat.add_zero]
  exact ⟨hsA _ this.1, (hfA _).trans this.2⟩
 case room =>
  intro hr
  rw [Nat.mul_one]
  have hsp := h5 xs.length (by omega)
  have hin := World.cell?_setCells_in g [Value.int .i64 p] (of + xs.length) (W.alloc (.cells #[.int .i64 p] 2)) (fun j hj => by
   simp only [List.length_cons, List.length_nil] at hj
   obtain rfl : j = 0 := by omega
   exact hsA _ hsp.1) 0 (by simp)
  have hout : ∀ k, k ≠ of + xs.length → ((W.alloc (.cells #[.int .i64 p] 2)).setCells g (of + xs.length) [Value.int .i64 p]).cell? ⟨g, k, none⟩ = (W.alloc (.cells #[.int .i64 p] 2)).cell? ⟨g, k, none⟩ := fun k hk =>
   World.cell?_setCells_out g _ _ _ _ (fun _ _ => by simp; omega)
  have hgr : W.grownBy ((W.alloc (.cells #[.int .i64 p] 2)).setCells g (of + xs.length) [Value.int .i64 p]) (some g) :=
   grown_trans (World.grownBy_alloc W _ _) (set_grown _ g _ _)
  refine h _ _ ⟨g, of, cap, by simp, h1, ?_, by simp; omega, fun j y hj => ?_, fun j hj => ?_⟩ (HB.grown hgr hbase (fun k hk => by cases hk; exact h1)) hgr (.inl rfl)
  ·exact Nat.lt_of_lt_of_le h2 hgr.size
  ·by_cases e : j = xs.length
   ·subst e
    simp at hj
    subst hj
    simpa using hin
   ·have hjl : j < xs.length := by have := (List.getElem?_eq_some_iff.1 hj).1; simp at this; omega
    rw [hout _ (by omega)]
    exact hcA _ _ (h4 j y (by rw [List.getElem?_append_left hjl] at hj; exact hj))
  ·have hj5 := h5 j hj
   refine ⟨?_, ?_⟩
   ·by_cases e : j = xs.length
    ·subst e
     rw [Nat.add_zero] at hin
     rw [hin]; rfl
    ·rw [hout _ (by omega)]
     exact hsA _ hj5.1
   ·rw [World.frozen?_setCells, hfA]
    exact hj5.2
 case grow =>
  intro hr v' w' hown hg
  have hI : OwnI base w' v' (xs ++ [p]) := by
   refine OwnI.of_row (b := (W.alloc (.cells #[.int .i64 p] 2)).heap.size) ?_ (by simp; omega)
   have e1 : (xs ++ [p]).length = xs.length + 1 := by simp
   have e2 : (xs ++ [p]).map (Value.int .i64) = xs.map (Value.int .i64) ++ [.int .i64 p] := by simp
   rw [e1, e2]
   exact hown
  have hgr : W.grownBy w' none := grown_trans (World.grownBy_alloc W _ _) hg
  refine h v' w' (OwnO.of hI (by simp)) (HB.grown hgr hbase (fun k hk => by cases hk)) (grown_of_below (below_of_none hgr) _) ?_
  have hb := own_base hown
  obtain ⟨g', cap', rfl, -⟩ := Kd.R_form hI (by simp)
  exact .inr ⟨g', by simp [Value.ownBlock], by have := hb g' (by simp [Value.ownBlock]); simp at this; omega⟩
end
section
variable {P : Program} {ops : Array Oper} {rest : List Oper} {o : Oper} {a : Act} {Q : Exit → Act → World → Prop}
theorem event_skip {W w1 : World} (hgd : o.guard = none) (hN : o.dst = none) (hrun : (execOp a.eval o).run P W = .ok .skip w1) (h : wpList P ops Q rest a w1) : wpList P ops Q (o :: rest) a W := by
 refine wpList_plain hgd fun K hK => ?_
 unfold Oper.wp
 rw [hrun]
 show K (a.put o.dst undef) w1
 rw [hN]
 exact hK _ _ h
/-- m[x] = true -/
theorem put_set {S : Int → Bool} {b k : Nat} {W : World} {x : Int} (hgd : o.guard = none) (hN : o.dst = none) (m z u : Operand) (ho : o.op = .mapUpdate 194 m z u) (hm : a.eval m = .map (some b)) (hz : a.eval z = .int .i64 x) (hu : a.eval u = .bool true)
  (HS : SetI S b k W) (hw : (Lit.int .i64 x).wf = true) (hk : k < 100000) (h : ∀ w', SetI (fun z => z == x || S z) b (k + 1) w' → W.grownBy w' (some b) → wpList Tryz.prog ops Q rest a w') : wpList Tryz.prog ops Q (o :: rest) a W := by
 obtain ⟨w', hr, hs, hg⟩ := HS.put hw hk
 refine event_skip (w1 := w') hgd hN ?_ (h w' hs hg)
 generalize a.eval = ρ at hm hz hu ⊢
 simp [execOp, ho, hm, hz, hu, hr]
/-- m[x] -/
theorem look_set {S : Int → Bool} {b k : Nat} {W : World} {x : Int} (hgd : o.guard = none) (m z : Operand) (ho : o.op = .lookup 194 m z false) (hm : a.eval m = .map (some b)) (hz : a.eval z = .int .i64 x)
  (HS : SetI S b k W) (hw : (Lit.int .i64 x).wf = true) (h : wpList Tryz.prog ops Q rest (a.put o.dst (.bool (S x))) W) : wpList Tryz.prog ops Q (o :: rest) a W := by
 have hr := HS.look hw
 refine Kd.event_run hgd (v := .bool (S x)) (w1 := W) ?_ h
 generalize a.eval = ρ at hm hz ⊢
 simp [execOp, ho, hm, hz, hr]
end
set_option maxRecDepth 100000 in
set_option maxHeartbeats 4000000 in
theorem behind (v : Value) (ps : List (Int × Int)) (a : Int) (w : World) (hv : ReadP w v ps) (hd : PsDom ps) :
  Calls Tryz.prog 268 #[v, .int .i64 a] w fun e w' => ∃ b k, e = .returned (.map (some b)) ∧ SetI (reachB (nextOf ps) a) b k w' ∧ Below w.heap.size w w' := by
 obtain ⟨N, hN⟩ : ∃ N, N = nextOf ps := ⟨_, rfl⟩
 have hND : ∀ x, (∀ y ∈ N x, 0 ≤ y ∧ y < 64) ∧ (N x).length ≤ 6 := fun x => by rw [hN]; exact next_dom hd x
 have HND := Aside0.mk hND
 obtain ⟨w1, hw1⟩ : ∃ w1, w1 = w.alloc (.map #[] 0) := ⟨_, rfl⟩
 have hs1 : w1.heap.size = w.heap.size + 1 := by rw [hw1]; simp
 have hB1 : Below w.heap.size w w1 := by rw [hw1]; exact Below.alloc (Below.refl _ _) (Nat.le_refl _) _
 obtain ⟨w2, hw2⟩ : ∃ w2, w2 = w1.alloc (.cells #[.int .i64 a] 2) := ⟨_, rfl⟩
 have hB2 : Below w1.heap.size w1 w2 := by rw [hw2]; exact Below.alloc (Below.refl _ _) (Nat.le_refl _) _
 have HB := Aside0.mk (hB1.trans (hB2.mono hB1.size))
 have HS0 : Aside0 (SetI (fun _ => false) w.heap.size 0 w2) := ⟨(by rw [hw1]; exact SetI.made w : SetI (fun _ => false) w.heap.size 0 w1).below hB2⟩
 have HQ0 : Aside0 (OwnO (w.heap.size + 1) w2 (.slice (some ⟨w.heap.size + 1, 0, none⟩) 1 1) [a]) := ⟨by
  refine ⟨w.heap.size + 1, 0, 1, rfl, Nat.le_refl _, by rw [hw2, World.size_alloc, hs1]; omega, Nat.le_refl _, fun j x hj => ?_, fun j hj => ?_⟩
  ·rcases j with _ | j
   ·simp at hj; subst hj; rw [hw2, ← hs1]; simp
   ·simp at hj
  ·obtain rfl : j = 0 := by omega
   refine ⟨by rw [hw2, ← hs1]; simp, ?_⟩
   rw [hw2, ← hs1]
   unfold World.frozen?
   simp only [heap_alloc_new]
   simp⟩
 have HSTP := Aside0.mk (fun W x (h : Below w.heap.size w W) => hN ▸ steps v ps x W (ReadP.below hv h) hd)
 have HN := Aside0.mk hN
 obtain ⟨A2, d2, rfl, hl2, -⟩ := id hv
 have hz : w.heap.size + 2 ≤ w2.heap.size := by rw [hw2, World.size_alloc, hs1]; omega
 have HZ := Aside0.mk hz
 subst hw1
 clear hv hB1 hB2 hs1 hND hN hd hz
 have hmm := @run_makeMap Tryz.prog
 go_enter Tryz.func268, Tryz.ntmps268
 go_wp2
 rw [← hw2]
 clear hw2
 go_loopg [6] 65 (fun k s6 wr => ∃ S Q, Aside0 (OwnO (w.heap.size + 1) wr s6 Q) ∧ Aside0 (SetI S w.heap.size (cnt S) wr) ∧ Aside0 (BI N a S Q) ∧ Aside0 (64 - cnt S + Q.length ≤ k) ∧ Aside0 (Q.length ≤ 1 + cnt S) ∧ Aside0 (Below w.heap.size w wr))
 case atStart => exact ⟨_, _, HQ0, by rw [cnt_none]; exact HS0, ⟨BI.start N a⟩, ⟨by rw [cnt_none]; simp⟩, ⟨by simp⟩, HB⟩
 case round =>
  obtain ⟨S, Q, HQ, HS, HI, HK, HL, HBr⟩ := hrel
  cases Q with
  | nil =>
   obtain ⟨g, o, cap, rfl, -⟩ := HQ.out
   go_wp2
   go_ret
   refine ⟨_, _, rfl, HS.out.congr (fun x => ?_), HBr.out⟩
   rw [← HN.out]
   exact reach_of (fun x => (HND.out x).1) (fun x => (HND.out x).2) HI.out.fin x
  | cons q0 Q0 =>
   obtain ⟨g, o, cap, rfl, -⟩ := id HQ.out
   have hhead := HQ.out.head
   have HQL := Aside0.mk HQ.out.lt
   have hNL := (HND.out q0).2
   have HWR : Aside0 (w.heap.size + 2 ≤ wr.heap.size) := ⟨by have h1 := HQ.out.lt g (by simp [Value.ownBlock]); have h2 := HQ.out.base g (by simp [Value.ownBlock]); omega⟩
   have hkk : 1 ≤ gk := by have := HK.out; simp only [List.length_cons] at this; omega
   obtain ⟨n, hn⟩ : ∃ n, n = (q0 :: Q0).length := ⟨_, rfl⟩
   have hn0 : 0 < n := by rw [hn]; simp
   rw [← hn] at HQ ⊢
   rw [← hn] at HQL
   have hnI : (0 : Int) < (n : Int) := by omega
   clear hn
   go_wp2_with (first | (go_at_call 369; refine (HSTP.out _ _ HBr.out).mono ?_; rintro e w3 ⟨u3, rfl, ho, hb⟩; obtain ⟨A3, d3, rfl, -⟩ := ho.read; have HO3 := Aside0.mk ho; have HQ3 := Aside0.mk (HQ.out.below hb); have HS3 := Aside0.mk (HS.out.below hb); have HB3 := Aside0.mk (HBr.out.trans (hb.mono HBr.out.size)); have HNE3 := Aside0.mk (fun k (hk : (Value.slice (some ⟨g, o, none⟩) n cap).ownBlock = some k) k' (hk' : (Value.slice A3 (N q0).length d3).ownBlock = some k') => (Nat.ne_of_lt (Nat.lt_of_lt_of_le (HQL.out k hk) (ho.base k' hk')) : k ≠ k')); clear ho hb hhead))
   go_loopw [6, 23] (fun s6 s23 wx => ∃ (i : Nat) (Q : List Int) (S : Int → Bool), s23 = .int .i64 i ∧ i ≤ (N q0).length ∧ Aside0 (OwnO (w.heap.size + 1) wx s6 (q0 :: Q)) ∧ Aside0 (SetI S w.heap.size (cnt S) wx) ∧ Aside0 (BI N a S (q0 :: Q)) ∧ Aside0 (64 - cnt S + (q0 :: Q).length ≤ gk) ∧ Aside0 ((q0 :: Q).length ≤ 1 + cnt S) ∧
    Aside0 (∀ j, j < i → S ((N q0).getD j 0) = true) ∧ Aside0 (OwnI wr.heap.size wx (.slice A3 (N q0).length d3) (N q0)) ∧ Aside0 (∀ k, s6.ownBlock = some k → ∀ k', (Value.slice A3 (N q0).length d3).ownBlock = some k' → k ≠ k') ∧ Aside0 (Below w.heap.size w wx)) (fun _ s23 _ => (N q0).length - (intOf s23).toNat)
   case atStart => exact ⟨0, Q0, S, rfl, Nat.zero_le _, HQ3, HS3, HI, HK, HL, ⟨fun j hj => absurd hj (Nat.not_lt_zero _)⟩, HO3, HNE3, HB3⟩
   case round =>
    obtain ⟨i, Q, S, rfl, hi, HQi, HSi, HIi, HKi, HLi, HD, HOi, HNE, HBi⟩ := hrel
    have HWI : Aside0 (w.heap.size + 1 ≤ wr.heap.size) := ⟨by obtain ⟨g9, o9, c9, -, h1, h2, -⟩ := HQi.out; omega⟩
    by_cases hlt : i < (N q0).length
    ·obtain ⟨A_, c_, e_, -, hcc⟩ := HOi.out.read
     cases e_
     obtain ⟨ad, y, e1, hcell, HY⟩ := ReadI.get hcc hlt
     cases e1
     have hmem : y ∈ N q0 := mem_at hlt HY.out
     have hyd := (HND.out q0).1 y hmem
     have HYD := Aside0.mk hyd
     have hw : (Lit.int .i64 y).wf = true := wfI (by omega) (by omega)
     have HW := Aside0.mk hw
     have HM := Aside0.mk hmem
     clear hcc hmem hyd hw
     cases hsy : S y with
     | true =>
      have HSY := Aside0.mk hsy
      clear hsy
      go_wp2_with (first | (at_lookup; refine look_set rfl (.tmp 27) (.tmp 28) rfl rfl rfl HSi.out HW.out ?_; rw [HSY.out]))
      go_roundw
      case rel => exact ⟨i + 1, Q, S, by go_num, by omega, HQi, HSi, HIi, HKi, HLi, ⟨fun j hj => by
       rcases Nat.lt_succ_iff_lt_or_eq.1 hj with h | rfl
       ·exact HD.out j h
       ·rw [HY.out]; exact HSY.out⟩, HOi, HNE, HBi⟩
      case measure => simp [intOf]; omega
     | false =>
      have HSY := Aside0.mk hsy
      clear hsy
      have HCA := Aside0.mk (cnt_add HSY.out HYD.out.1 HYD.out.2)
      have HCL := Aside0.mk (cnt_le (fun z => z == y || S z))
      go_wp2_with (first | (at_lookup; refine look_set rfl (.tmp 27) (.tmp 28) rfl rfl rfl HSi.out HW.out ?_; rw [HSY.out]) | (at_mapUpdate; refine put_set rfl rfl (.tmp 31) (.tmp 32) _ rfl rfl rfl rfl HSi.out HW.out (by have := cnt_le S; omega) ?_; intro w5 hs5 hg5; have HS5 := Aside0.mk hs5; have HQ5 := Aside0.mk (HQi.out.other hg5 (fun k hk e => by have h1 := HQi.out.base k hk; injection e with e; omega)); have HO5 := Aside0.mk (HOi.out.grown hg5 (fun k hk e => by have h1 := HOi.out.base k hk; have h2 := HWR.out; injection e with e; omega)); have HB5 := Aside0.mk (HBi.out.trans (below_grown hg5 (Nat.le_refl _) HBi.out.size)); have HZ5 : Aside0 (w.heap.size + 1 ≤ w5.heap.size) := ⟨by have h1 := HWI.out; have h2 := hg5.size; omega⟩; clear hs5 hg5) | ((with_reducible refine gate_builtin (b := .append) (xs := #[.tmp 33, .tmp 35]) rfl ?_); refine app_ownO (w0 := w5) (w.heap.size + 1) rfl (.tmp 33) (.tmp 35) rfl u6 (q0 :: Q) y rfl rfl HQ5.out (Below.refl _ _) HZ5.out (by have := HLi.out; have := cnt_le S; omega) ?_; intro v6 w6 ho6 hb6 hg6 hat6; have HQ6 := Aside0.mk ho6; have HB6 := Aside0.mk hb6; have HG6 := Aside0.mk hg6; have HA6 := Aside0.mk hat6; clear ho6 hb6 hg6 hat6))
      go_roundw
      case rel =>
       refine ⟨i + 1, Q ++ [y], fun z => z == y || S z, by go_num, by omega, ⟨HQ6.out⟩, ⟨?_⟩, ⟨HIi.out.add (by simp) HM.out⟩, ⟨?_⟩, ⟨?_⟩, ⟨fun j hj => ?_⟩, ⟨?_⟩, ⟨?_⟩, ⟨?_⟩⟩
       ·rw [HCA.out]
        exact HS5.out.grown HG6.out (fun e => by have := HQ5.out.base _ e.symm; omega)
       ·have h1 := HKi.out
        have h2 := HCA.out
        have h3 := HCL.out
        simp only [List.length_cons, List.length_append, List.length_nil] at h1 ⊢
        omega
       ·have h1 := HLi.out
        have h2 := HCA.out
        simp only [List.length_cons, List.length_append, List.length_nil] at h1 ⊢
        omega
       ·rcases Nat.lt_succ_iff_lt_or_eq.1 hj with h | rfl
        ·show (_ == y || S _) = true
         rw [HD.out j h, Bool.or_true]
        ·rw [HY.out]; simp
       ·exact HO5.out.grown HG6.out (fun k hk e => HNE.out k e.symm k hk rfl)
       ·intro k hk k' hk'
        rcases HA6.out with e | ⟨b9, e, hb9⟩
        ·exact HNE.out k (by rw [← e]; exact hk) k' hk'
        ·have h1 := HO5.out.lt k' hk'
         rw [e] at hk
         injection hk with hk
         omega
       ·exact HB5.out.trans (HB6.out.mono (Nat.le_succ _))
      case measure => simp [intOf]; omega
    ·have HALL : Aside0 (∀ y ∈ N q0, S y = true) := ⟨fun y hy => by
      obtain ⟨j, hj, rfl⟩ := List.getElem_of_mem hy
      have := HD.out j (by omega)
      simpa [List.getD_eq_getElem?_getD, hj] using this⟩
     obtain ⟨u9, hsl, ho9, -⟩ := HQi.out.tail
     have HO9 := Aside0.mk ho9
     clear ho9
     go_wp2
     go_roundg (gk - 1)
     case measure => omega
     case rel => exact ⟨S, Q, HO9, HSi, ⟨HIi.out.pop HALL.out⟩, ⟨by have := HKi.out; simp only [List.length_cons] at this; omega⟩, ⟨by have := HLi.out; simp only [List.length_cons] at this; omega⟩, HBi⟩
set_option maxRecDepth 100000 in
set_option maxHeartbeats 2000000 in
theorem isAcyclic1 (w : World) (b : Nat) (v : Value) (ps : List (Int × Int)) (hv : ReadP w v ps) (hd : PsDom ps) (h0 : w.cell? ⟨b, 0, none⟩ = some v) :
  PredP w (.func (.func 342) #[] #[.pointer (some ⟨b, 0, none⟩)]) (fun p => !reachB (nextOf ps) p.1 p.1) (fun p => 1 ≤ p.1 ∧ p.1 ≤ 63) := by
 refine ⟨_, _, _, rfl, Enters.mk' Tryz.func342 rfl rfl, fun w0 x y hb hx => ?_⟩
 show Calls _ _ #[_, _] _ _
 obtain ⟨w1, hw1⟩ : ∃ w1, w1 = w0 := ⟨_, rfl⟩
 rw [← hw1] at hb ⊢
 clear hw1
 obtain ⟨w2, hw2⟩ : ∃ w2, w2 = w1.alloc (.cells #[.int .i64 x, .int .i64 y] 83) := ⟨_, rfl⟩
 have hB2 : Below w1.heap.size w1 w2 := by rw [hw2]; exact Below.alloc (Below.refl _ _) (Nat.le_refl _) _
 have cl := pw_cell_below hB2 (pw_cell_below hb h0)
 have c0 : w2.cell? ⟨w1.heap.size, 0, none⟩ = some (.int .i64 x) := by rw [hw2]; simp
 have HB := Aside0.mk hB2
 have HW : Aside0 ((Lit.int .i64 x).wf = true) := ⟨wfI (by omega) (by omega)⟩
 have HBE := Aside0.mk (fun W (h : Below w2.heap.size w2 W) => behind v ps x W (ReadP.below hv (hb.trans ((hB2.trans (h.mono hB2.size)).mono hb.size))) hd)
 obtain ⟨A2, d2, rfl, hl2, -⟩ := id hv
 have hmx : Tryz.prog.follows .mixedOrders = true := by kernel_rfl
 clear hb h0 hB2 hv hx
 go_enter Tryz.func342, Tryz.ntmps342
 go_wp2
 rw [← hw2]
 clear hw2
 refine wp_region_g Bl (fun w => (Below.refl _ w).drew) (fun _ _ _ => Bl.trans) (fun i => match i with | 0 => fun v _ => v = .slice A2 ps.length d2 | 1 => fun v _ => v = .pointer (some ⟨w1.heap.size, 0, none⟩) | 2 => fun v _ => v = .int .i64 x | 3 => fun v W => ∃ b k, v = .map (some b) ∧ SetI (reachB (nextOf ps) x) b k W | 4 => fun v _ => v = .pointer (some ⟨w1.heap.size, 0, none⟩) | 5 => fun v _ => v = .int .i64 x | 6 => fun v _ => v = .bool (reachB (nextOf ps) x x) | 7 => fun v _ => v = .bool (!reachB (nextOf ps) x x) | 8 => fun v _ => v = .bool (!reachB (nextOf ps) x x) | _ => fun _ _ => True)
  [0, 0, 2, 7, 0, 16, 63, 127, 255] hmx (by kernel_rfl) ?st ?steps ?rest
 case st =>
  intro i v w1_ w2_ hb
  match i with
  | 0 | 1 | 2 | 4 | 5 | 6 | 7 | 8 => exact id
  | 3 => exact fun ⟨b, k, e, h⟩ => ⟨b, k, e, h.below hb⟩
  | n + 9 => exact id
 case steps =>
  refine ⟨?_, ?_, ?_, ?_, ?_, ?_, ?_, ?_, ?_, trivial⟩
  ·intro s w_ hb hd hq R hR
   generalize hA : putAll _ 0 s _ = A
   clear hq
   have cl_ := pw_cell_below hb cl
   have hR' := hR (.slice A2 ps.length d2) _ (Below.refl _ _) rfl
   clear hR hd
   refine opGives_value ?_ hR'
   subst hA
   simp only [dsOf, List.map_cons, List.map_nil, Option.getD_some, putAll, Act.put, List.setIfInBounds_toArray, List.set_cons_zero, List.set_cons_succ]
   go_simp
  ·intro s w_ hb hd hq R hR
   generalize hA : putAll _ 0 s _ = A
   clear hq
   have hR' := hR (.pointer (some ⟨w1.heap.size, 0, none⟩)) _ (Below.refl _ _) rfl
   clear hR hd
   refine opGives_value ?_ hR'
   subst hA
   simp only [dsOf, List.map_cons, List.map_nil, Option.getD_some, putAll, Act.put, List.setIfInBounds_toArray, List.set_cons_zero, List.set_cons_succ]
   go_simp
  ·intro s w_ hb hd hq R hR
   generalize hA : putAll _ 0 s _ = A
   have e1 : s 1 = _ := hd 1 (by kernel_rfl)
   clear hq
   have c0_ := pw_cell_below hb c0
   have hR' := hR (.int .i64 x) _ (Below.refl _ _) rfl
   clear hR hd
   refine opGives_value ?_ hR'
   subst hA
   simp only [dsOf, List.map_cons, List.map_nil, Option.getD_some, putAll, Act.put, List.setIfInBounds_toArray, List.set_cons_zero, List.set_cons_succ]
   go_simp
  ·intro s w_ hb hd hq R hR
   generalize hA : putAll _ 0 s _ = A
   have e0 : s 0 = _ := hd 0 (by kernel_rfl)
   have e2 : s 2 = _ := hd 2 (by kernel_rfl)
   clear hq
   refine opGives_call (f := 268) (args := #[.slice A2 ps.length d2, .int .i64 x]) ?_ ?_
   ·subst hA
    clear hR hd
    simp only [dsOf, List.map_cons, List.map_nil, Option.getD_some, putAll, Act.put, List.setIfInBounds_toArray, List.set_cons_zero, List.set_cons_succ]
    go_simp
   clear hA A hd
   refine (HBE.out w_ hb).mono ?_
   rintro e w3_ ⟨b, k, rfl, hs, hb3⟩
   exact ⟨_, rfl, hR _ _ hb3 ⟨b, k, rfl, hs⟩⟩
  ·intro s w_ hb hd hq R hR
   generalize hA : putAll _ 0 s _ = A
   clear hq
   have hR' := hR (.pointer (some ⟨w1.heap.size, 0, none⟩)) _ (Below.refl _ _) rfl
   clear hR hd
   refine opGives_value ?_ hR'
   subst hA
   simp only [dsOf, List.map_cons, List.map_nil, Option.getD_some, putAll, Act.put, List.setIfInBounds_toArray, List.set_cons_zero, List.set_cons_succ]
   go_simp
  ·intro s w_ hb hd hq R hR
   generalize hA : putAll _ 0 s _ = A
   have e4 : s 4 = _ := hd 4 (by kernel_rfl)
   clear hq
   have c0_ := pw_cell_below hb c0
   have hR' := hR (.int .i64 x) _ (Below.refl _ _) rfl
   clear hR hd
   refine opGives_value ?_ hR'
   subst hA
   simp only [dsOf, List.map_cons, List.map_nil, Option.getD_some, putAll, Act.put, List.setIfInBounds_toArray, List.set_cons_zero, List.set_cons_succ]
   go_simp
  ·intro s w_ hb hd hq R hR
   generalize hA : putAll _ 0 s _ = A
   obtain ⟨b3_, k3_, e3, h3_⟩ : ∃ b k, s 3 = .map (some b) ∧ SetI (reachB (nextOf ps) x) b k w_ := hd 3 (by kernel_rfl)
   have e5 : s 5 = _ := hd 5 (by kernel_rfl)
   clear hq
   have hlk := h3_.look HW.out
   have hR' := hR (.bool (reachB (nextOf ps) x x)) _ (Below.refl _ _) rfl
   clear hR hd
   refine opGives_value ?_ hR'
   subst hA
   simp only [dsOf, List.map_cons, List.map_nil, Option.getD_some, putAll, Act.put, List.setIfInBounds_toArray, List.set_cons_zero, List.set_cons_succ]
   go_simp
  ·intro s w_ hb hd hq R hR
   generalize hA : putAll _ 0 s _ = A
   have e6 : s 6 = _ := hd 6 (by kernel_rfl)
   clear hq
   have hR' := hR (.bool (!reachB (nextOf ps) x x)) _ (Below.refl _ _) rfl
   clear hR hd
   refine opGives_value ?_ hR'
   subst hA
   simp only [dsOf, List.map_cons, List.map_nil, Option.getD_some, putAll, Act.put, List.setIfInBounds_toArray, List.set_cons_zero, List.set_cons_succ]
   go_simp
  ·intro s w_ hb hd hq R hR
   generalize hA : putAll _ 0 s _ = A
   have e7 : s 7 = _ := hd 7 (by kernel_rfl)
   clear hq
   have hR' := hR (.bool (!reachB (nextOf ps) x x)) _ (Below.refl _ _) rfl
   clear hR hd
   refine opGives_value ?_ hR'
   subst hA
   simp only [dsOf, List.map_cons, List.map_nil, Option.getD_some, putAll, Act.put, List.setIfInBounds_toArray, List.set_cons_zero, List.set_cons_succ]
   go_simp
 case rest =>
  intro s9 w9 hb hv
  have e8_ : s9 8 = _ := hv 8 (by decide)
  simp only [dsOf, List.map_cons, List.map_nil, Option.getD_some, putAll, Act.put, List.setIfInBounds_toArray, List.set_cons_zero, List.set_cons_succ]
  rw [e8_]
  clear hv e8_
  go_wp2
  go_ret
  exact ⟨rfl, HB.out.trans (Below.mono hb HB.out.size)⟩
set_option maxRecDepth 100000 in
set_option maxHeartbeats 2000000 in
theorem isAcyclic (n : Nat) (ku : Value) (xs : List Int) (v : Value) (ps : List (Int × Int)) (w : World) (hk : ReadI w ku xs) (hv : ReadP w v ps) (hd : PsDom ps) :
  Calls Tryz.prog 220 #[cx n ku, v] w fun e w' => e = .returned (.bool (acyB ps)) ∧ Below w.heap.size w w' := by
 obtain ⟨wb, hwb⟩ : ∃ wb, wb = w.alloc (.cells #[.int .i64 n, ku] 26) := ⟨_, rfl⟩
 obtain ⟨w1, hw1⟩ : ∃ w1, w1 = wb.alloc (.cells #[v] 51) := ⟨_, rfl⟩
 have hsb : wb.heap.size = w.heap.size + 1 := by rw [hwb]; simp
 have hBb : Below w.heap.size w wb := by rw [hwb]; exact Below.alloc (Below.refl _ _) (Nat.le_refl _) _
 have hB1 : Below wb.heap.size wb w1 := by rw [hw1]; exact Below.alloc (Below.refl _ _) (Nat.le_refl _) _
 have hB : Below w.heap.size w w1 := hBb.trans (hB1.mono hBb.size)
 have cv : w1.cell? ⟨w.heap.size + 1, 0, none⟩ = some v := by rw [hw1, ← hsb]; simp
 have HB := Aside0.mk hB
 have HM := Aside0.mk (areAllP v ps _ _ _ w1 (hv.below hB) (isAcyclic1 w1 (w.heap.size + 1) v ps (hv.below hB) hd cv) (fun q hq => (hd q hq).1))
 obtain ⟨A1, d1, rfl, -⟩ := id hk
 obtain ⟨A2, d2, rfl, -⟩ := id hv
 subst hwb
 clear hk hv hd hsb hBb hB1 hB
 go_enter Tryz.func220, Tryz.ntmps220
 go_wp2_with (first | (go_at_call 278; rw [← hw1]; clear hw1; refine HM.out.mono ?_; rintro e w2 ⟨rfl, hb⟩))
 go_ret
 exact ⟨rfl, HB.out.trans (hb.mono HB.out.size)⟩
section
variable {P : Program} {ops : Array Oper} {rest : List Oper} {o : Oper} {a : Act} {Q : Exit → Act → World → Prop}
end
section
variable {P : Program} {ops : Array Oper} {rest : List Oper} {o : Oper} {a : Act} {Q : Exit → Act → World → Prop}
end
/-! sums -/
/-! the end -/
/-- a face lies in a pair -/
def inPair (f : Int) (p : Int × Int) : Bool := p.1 == f || p.2 == f
/-- the critical faces -/
def critL (xs : List Int) (ps : List (Int × Int)) : List Int := xs.filter fun f => !(ps.any (inPair f))
set_option maxRecDepth 100000 in
set_option maxHeartbeats 1000000 in
theorem crit11 (w : World) (b : Nat) (f : Int) (h0 : w.cell? ⟨b, 0, none⟩ = some (.int .i64 f)) :
  PredP w (.func (.func 331) #[] #[.pointer (some ⟨b, 0, none⟩)]) (inPair f) (fun _ => True) := by
 refine ⟨_, _, _, rfl, Enters.mk' Tryz.func331 rfl rfl, fun w1 x y hb _ => ?_⟩
 obtain ⟨w2, hw2⟩ : ∃ w2, w2 = w1.alloc (.cells #[.int .i64 x, .int .i64 y] 83) := ⟨_, rfl⟩
 have hB2 : Below w1.heap.size w1 w2 := by rw [hw2]; exact Below.alloc (Below.refl _ _) (Nat.le_refl _) _
 have ca := pw_cell_below hB2 (pw_cell_below hb h0)
 have c0 : w2.cell? ⟨w1.heap.size, 0, none⟩ = some (.int .i64 x) := by rw [hw2]; simp
 have c1 : w2.cell? ⟨w1.heap.size, 1, none⟩ = some (.int .i64 y) := by rw [hw2]; simp
 have HB := Aside0.mk hB2
 clear hb h0 hB2
 subst hw2
 show Calls _ _ #[_, _] _ _
 cases hq : (x == f) with
 | true =>
  have HI : Aside0 (inPair f (x, y) = true) := ⟨by unfold inPair; simp only; rw [hq]; rfl⟩
  go_enter Tryz.func331, Tryz.ntmps331
  go_wp2
  go_ret
  exact ⟨by rw [HI.out]; rfl, HB.out⟩
 | false =>
  have HI : Aside0 (inPair f (x, y) = (y == f)) := ⟨by unfold inPair; simp only; rw [hq]; rfl⟩
  go_enter Tryz.func331, Tryz.ntmps331
  go_wp2
  go_ret
  exact ⟨by rw [HI.out]; rfl, HB.out⟩
set_option maxRecDepth 100000 in
set_option maxHeartbeats 1000000 in
theorem crit1 (w : World) (b : Nat) (v : Value) (ps : List (Int × Int)) (h0 : w.cell? ⟨b, 0, none⟩ = some v) (hv : ReadP w v ps) :
  PredI w (.func (.func 329) #[] #[.pointer (some ⟨b, 0, none⟩)]) (fun f => ps.any (inPair f)) (fun _ => True) := by
 refine ⟨_, _, _, rfl, Enters.mk' Tryz.func329 rfl rfl, fun w1 x hb _ => ?_⟩
 obtain ⟨w2, hw2⟩ : ∃ w2, w2 = w1.alloc (.cells #[.int .i64 x] 2) := ⟨_, rfl⟩
 have hB2 : Below w1.heap.size w1 w2 := by rw [hw2]; exact Below.alloc (Below.refl _ _) (Nat.le_refl _) _
 have ca := pw_cell_below hB2 (pw_cell_below hb h0)
 have c0 : w2.cell? ⟨w1.heap.size, 0, none⟩ = some (.int .i64 x) := by rw [hw2]; simp
 have HB := Aside0.mk hB2
 have HC := Aside0.mk (containsFuncP v ps _ (inPair x) (fun _ => True) w2 (hv.below (hb.trans (hB2.mono hb.size))) (crit11 w2 w1.heap.size x c0) (fun _ _ => trivial))
 obtain ⟨A2, d2, rfl, -⟩ := id hv
 clear hb h0 hB2 hv
 subst hw2
 show Calls _ _ #[_, _] _ _
 go_enter Tryz.func329, Tryz.ntmps329
 go_wp2_with (first | (go_at_call 330; refine HC.out.mono ?_; rintro e w3 ⟨rfl, hb⟩; have HB3 := Aside0.mk hb; clear hb))
 go_ret
 exact ⟨rfl, HB.out.trans (HB3.out.mono HB.out.size)⟩
set_option maxRecDepth 100000 in
set_option maxHeartbeats 2000000 in
theorem critical (a : Int) (ku : Value) (xs : List Int) (v : Value) (ps : List (Int × Int)) (w : World) (hk : ReadI w ku xs) (hv : ReadP w v ps) (hl : xs.length ≤ 1000000) :
  Calls Tryz.prog 194 #[cx a ku, v] w fun e w' => ∃ u, e = .returned u ∧ OwnI w.heap.size w' u (critL xs ps) ∧ Below w.heap.size w w' := by
 obtain ⟨wb, hwb⟩ : ∃ wb, wb = w.alloc (.cells #[.int .i64 a, ku] 26) := ⟨_, rfl⟩
 obtain ⟨w1, hw1⟩ : ∃ w1, w1 = wb.alloc (.cells #[v] 51) := ⟨_, rfl⟩
 have hsb : wb.heap.size = w.heap.size + 1 := by rw [hwb]; simp
 have hBb : Below w.heap.size w wb := by rw [hwb]; exact Below.alloc (Below.refl _ _) (Nat.le_refl _) _
 have hB1 : Below wb.heap.size wb w1 := by rw [hw1]; exact Below.alloc (Below.refl _ _) (Nat.le_refl _) _
 have hB : Below w.heap.size w w1 := hBb.trans (hB1.mono hBb.size)
 have c0 : w1.cell? ⟨w.heap.size, 0, none⟩ = some (.int .i64 a) := pw_cell_below hB1 (by rw [hwb]; simp)
 have c1 : w1.cell? ⟨w.heap.size, 1, none⟩ = some ku := pw_cell_below hB1 (by rw [hwb]; simp)
 have cv : w1.cell? ⟨w.heap.size + 1, 0, none⟩ = some v := by rw [← hsb, hw1]; simp
 have HB := Aside0.mk hB
 have HCL := Aside0.mk (cloneI ku xs w1 (hk.below hB) hl)
 have HP := Aside0.mk (crit1 w1 (w.heap.size + 1) v ps cv (hv.below hB))
 have HL := Aside0.mk hl
 obtain ⟨A1, d1, rfl, -⟩ := id hk
 obtain ⟨A2, d2, rfl, -⟩ := id hv
 subst hwb
 clear hk hv hB hBb hB1 hsb hl cv
 go_enter Tryz.func194, Tryz.ntmps194
 go_wp2_with (first | (go_at_call 328; rw [← hw1]; clear hw1; refine HCL.out.mono ?_; rintro e w2 ⟨u, rfl, ho, hb⟩; have HO := Aside0.mk ho; have HB2 := Aside0.mk hb; obtain ⟨A3, d3, rfl, -⟩ := ho.read; clear ho hb) | (go_at_call 327; refine (deleteFunc w1 _ _ xs _ (fun f => ps.any (inPair f)) _ HB2.out HO.out HP.out (fun _ _ => trivial) HL.out).mono ?_; rintro e w3 ⟨u, rfl, ho, hb⟩; have HO3 := Aside0.mk (ho.lower HB.out.size); have HB3 := Aside0.mk hb; obtain ⟨A4, d4, rfl, -⟩ := ho.read; clear ho hb))
 go_ret
 exact ⟨_, rfl, HO3.out, HB.out.trans (HB3.out.mono HB.out.size)⟩
end Go.Proofs.YtkggchklmpmgpaaGreat.H
