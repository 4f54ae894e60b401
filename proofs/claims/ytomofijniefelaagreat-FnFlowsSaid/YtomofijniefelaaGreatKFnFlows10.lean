/- Gradient steps of the program. A slice of the call's own that begins anywhere in its block: a queue. What is reached by gradient steps: the program's queue. No face comes back to itself: the program's isAcyclic. A slice of one list. BoundaryOf of the program and of the reference. Flows of the program. A chain with a face turned: the reference's l06Put. One number, as a list. -/
import Derived.Deep.AppendLies
import Derived.Test.YtomofijniefelaaGreatKFnFlows1
import Derived.Test.YtomofijniefelaaGreatKFnFlows2
import Derived.Test.YtomofijniefelaaGreatKFnFlows3
import Derived.Test.YtomofijniefelaaGreatKFnFlows4
import Derived.Test.YtomofijniefelaaGreatKFnFlows5
import Derived.Test.YtomofijniefelaaGreatKFnFlows6
import Derived.Test.YtomofijniefelaaGreatKFnFlows7
import Derived.Test.YtomofijniefelaaGreatKFnFlows8
import Derived.Test.YtomofijniefelaaGreatKFnFlows9

namespace Go.Proofs.YtomofijniefelaaGreat.H
open Go.RowKit Go.Proofs.YtomofijniefelaaGreatW.PrintWords Go.Proofs.YtomofijniefelaaGreatW.PrintLast
set_option linter.unusedVariables false
set_option linter.unusedSimpArgs false
theorem idxP_cases (p : Int × Int → Bool) (ps : List (Int × Int)) : (idx p ps = -1 ∧ ∀ (j : Nat) (q : Int × Int), j < ps.length → ps[j]? = some q → p q = false) ∨
  ∃ (i : Nat) (q : Int × Int), idx p ps = i ∧ i < ps.length ∧ ps[i]? = some q ∧ p q = true ∧ ∀ (j : Nat) (q : Int × Int), j < i → ps[j]? = some q → p q = false := by
 by_cases h : ps.findIdx p < ps.length
 ·refine .inr ⟨ps.findIdx p, ps[ps.findIdx p], by unfold idx; rw [if_pos h], h, List.getElem?_eq_getElem h, List.findIdx_getElem, fun j q hj hq => ?_⟩
  have hl := (List.getElem?_eq_some_iff.1 hq)
  have := List.not_of_lt_findIdx hj
  rw [← hl.2]
  simpa using this
 ·refine .inl ⟨by unfold idx; rw [if_neg h], fun j q hj hq => ?_⟩
  have h2 := (List.findIdx_eq_length (p := p) (xs := ps)).1 (by have := List.findIdx_le_length (p := p) (xs := ps); omega)
  exact h2 q (List.mem_of_getElem? hq)
set_option maxRecDepth 100000 in
set_option maxHeartbeats 1000000 in
theorem steps1 (w : World) (b : Nat) (a : Int) (h0 : w.cell? ⟨b, 0, none⟩ = some (.int .i64 a)) :
  PredP w (.func (.func 384) #[] #[.pointer (some ⟨b, 0, none⟩)]) (fun p => p.1 == a) (fun _ => True) := by
 refine ⟨_, _, _, rfl, Enters.mk' Tryz.func384 rfl rfl, fun w1 x y hb _ => ?_⟩
 obtain ⟨w2, hw2⟩ : ∃ w2, w2 = w1.alloc (.cells #[.int .i64 x, .int .i64 y] 72) := ⟨_, rfl⟩
 have hB2 : Below w1.heap.size w1 w2 := by rw [hw2]; exact Below.alloc (Below.refl _ _) (Nat.le_refl _) _
 have ca := pw_cell_below hB2 (pw_cell_below hb h0)
 have c0 : w2.cell? ⟨w1.heap.size, 0, none⟩ = some (.int .i64 x) := by rw [hw2]; simp
 have HB := Aside0.mk hB2
 clear hb h0 hB2
 subst hw2
 show Calls _ _ #[_, _] _ _
 go_enter Tryz.func384, Tryz.ntmps384
 go_wp2
 go_ret
 exact ⟨rfl, HB.out⟩
set_option maxRecDepth 100000 in
set_option maxHeartbeats 1000000 in
theorem steps2 (w : World) (b : Nat) (a : Int) (h0 : w.cell? ⟨b, 0, none⟩ = some (.int .i64 a)) :
  PredI w (.func (.func 385) #[] #[.pointer (some ⟨b, 0, none⟩)]) (fun x => x == a) (fun _ => True) := by
 refine ⟨_, _, _, rfl, Enters.mk' Tryz.func385 rfl rfl, fun w1 x hb _ => ?_⟩
 have ca := pw_cell_below hb h0
 clear hb h0
 show Calls _ _ #[_, _] _ _
 go_enter Tryz.func385, Tryz.ntmps385
 go_wp2
 go_ret
 exact ⟨rfl, Below.refl _ _⟩
set_option maxRecDepth 100000 in
set_option maxHeartbeats 2000000 in
theorem steps (v : Value) (ps : List (Int × Int)) (a : Int) (w : World) (hv : ReadP w v ps) (hd : PsDom ps) :
  Calls Tryz.prog 331 #[v, .int .i64 a] w fun e w' => ∃ u, e = .returned u ∧ OwnI w.heap.size w' u (nextOf ps a) ∧ Below w.heap.size w w' := by
 obtain ⟨w1, hw1⟩ : ∃ w1, w1 = w.alloc (.cells #[.int .i64 a] 2) := ⟨_, rfl⟩
 have hB : Below w.heap.size w w1 := by rw [hw1]; exact Below.alloc (Below.refl _ _) (Nat.le_refl _) _
 have ca : w1.cell? ⟨w.heap.size, 0, none⟩ = some (.int .i64 a) := by rw [hw1]; simp
 have HB := Aside0.mk hB
 have HV := Aside0.mk (hv.below hB)
 have HX := Aside0.mk (indexFuncP v ps _ _ _ w1 (hv.below hB) (steps1 w1 w.heap.size a ca) (fun _ _ => trivial))
 have HP2 := Aside0.mk (steps2 w1 w.heap.size a ca)
 obtain ⟨A2, d2, rfl, hl2, -⟩ := id hv
 clear hv hB ca
 rcases idxP_cases (fun p => p.1 == a) ps with ⟨hi, hn⟩ | ⟨i, ⟨x, y⟩, hi, hlt, hq, hp, hn⟩
 ·rw [hi] at HX
  have HN : Aside0 (nextOf ps a = []) := ⟨by unfold nextOf; rw [if_pos (high_none ps a hn)]⟩
  clear hi hn
  go_enter Tryz.func331, Tryz.ntmps331
  go_wp2_with (first | (go_at_call 358; rw [← hw1]; clear hw1; refine HX.out.mono ?_; rintro e w2 ⟨rfl, hb⟩; have HB2 := Aside0.mk hb; clear hb))
  go_ret
  exact ⟨_, rfl, by rw [HN.out]; exact OwnI.nil _ _, HB.out.trans (HB2.out.mono HB.out.size)⟩
 ·rw [hi] at HX
  have hy := (hd (x, y) (List.mem_of_getElem? hq)).2
  obtain ⟨f, rfl⟩ : ∃ f : Nat, y = f := ⟨y.toNat, by simp only at hy; omega⟩
  have hf : f ≤ 63 := by simp only at hy; omega
  have hh : highTo ps a = f := high_hit ps a i x f hq hp hn
  have HN : Aside0 (nextOf ps a = (below f).filter fun z => !(z == a)) := ⟨by unfold nextOf; rw [hh, if_neg (by simp only at hy; omega), Int.toNat_natCast]⟩
  have hiI : (i : Int) < (ps.length : Int) := by omega
  have hi0 : ¬ (i : Int) < 0 := by omega
  have HG := Aside0.mk hq
  have HBL := Aside0.mk (below_dom f (by omega))
  clear hi hn hp hh hq hy hd
  go_enter Tryz.func331, Tryz.ntmps331
  go_wp2_with (first | (go_at_call 358; rw [← hw1]; clear hw1; refine HX.out.mono ?_; rintro e w2 ⟨rfl, hb⟩; have HB2 := Aside0.mk hb; obtain ⟨g2, x2, y2, rfl, hxy2, hc0, hc1⟩ := ReadP.get (HV.out.below hb) hlt; rw [HG.out] at hxy2; cases hxy2; clear hb) | (go_at_call 140; refine (borders f hf _).mono ?_; rintro e w3 ⟨u3, rfl, ho, hb⟩; obtain ⟨A3, d3, rfl, -⟩ := ho.read; have HO3 := Aside0.mk (ho.lower HB2.out.size); have HB3 := Aside0.mk (HB2.out.trans (hb.mono HB2.out.size)); clear ho hb) | (go_at_call 296; refine (deleteFunc w1 _ _ (below f) _ (fun z => z == a) (fun _ => True) HB3.out HO3.out HP2.out (fun _ _ => trivial) (by have := HBL.out.2; omega)).mono ?_; rintro e w4 ⟨u4, rfl, ho, hb⟩; have HO4 := Aside0.mk (ho.lower HB.out.size); have HB4 := Aside0.mk hb; obtain ⟨A4, d4, rfl, -⟩ := ho.read; clear ho hb))
  go_ret
  exact ⟨_, rfl, by rw [HN.out]; exact HO4.out, HB.out.trans (HB4.out.mono HB.out.size)⟩
theorem add_off (g o i : Nat) : (⟨g, o, none⟩ : Addr).add i = ⟨g, o + i, none⟩ := by
 unfold Addr.add
 split
 ·next h => subst h; rfl
 ·rfl
/-- a slice of numbers from place o of a block on, not below block b -/
def OwnO (b : Nat) (w : World) (v : Value) (xs : List Int) : Prop :=
 ∃ g o cap, v = .slice (some ⟨g, o, none⟩) xs.length cap ∧ b ≤ g ∧ g < w.heap.size ∧ xs.length ≤ cap ∧ (∀ (j : Nat) (x : Int), xs[j]? = some x → w.cell? ⟨g, o + j, none⟩ = some (.int .i64 x)) ∧
  ∀ j, j < cap → (w.cell? ⟨g, o + j, none⟩).isSome = true ∧ w.frozen? ⟨g, o + j, none⟩ = false
theorem below_of_none {w w' : World} (h : w.grownBy w' none) : Below w.heap.size w w' := ⟨h.os, h.tape, h.output, h.size, fun k hk => h.block k hk (by simp)⟩
theorem frozen_below {B : Nat} {w w' : World} (hb : Below B w w') {a : Addr} (h : a.block < B) : w'.frozen? a = w.frozen? a := by
 unfold World.frozen?
 rw [hb.block a.block h]
theorem OwnO.below {b : Nat} {w w' : World} {v : Value} {xs : List Int} (h : OwnO b w v xs) (hb : Below w.heap.size w w') : OwnO b w' v xs := by
 obtain ⟨g, o, cap, rfl, h1, h2, h3, h4, h5⟩ := h
 refine ⟨g, o, cap, rfl, h1, Nat.lt_of_lt_of_le h2 hb.size, h3, fun j x hj => pw_cell_below hb (h4 j x hj), fun j hj => ?_⟩
 obtain ⟨hy, hf⟩ := h5 j hj
 obtain ⟨y, hy⟩ := Option.isSome_iff_exists.1 hy
 exact ⟨by rw [pw_cell_below hb hy]; rfl, (frozen_below hb h2).trans hf⟩
theorem OwnO.other {b : Nat} {w w' : World} {v : Value} {xs : List Int} (h : OwnO b w v xs) {row : Option Nat} (hg : w.grownBy w' row) (hn : ∀ k, v.ownBlock = some k → some k ≠ row) : OwnO b w' v xs := by
 obtain ⟨g, o, cap, rfl, h1, h2, h3, h4, h5⟩ := h
 have hne : some g ≠ row := hn g (by simp [Value.ownBlock])
 have hh : w'.heap[g]? = w.heap[g]? := hg.block g h2 hne
 have hc : ∀ k, w'.cell? ⟨g, k, none⟩ = w.cell? ⟨g, k, none⟩ := fun k => by unfold World.cell?; rw [hh]
 have hf : ∀ k, w'.frozen? ⟨g, k, none⟩ = w.frozen? ⟨g, k, none⟩ := fun k => by unfold World.frozen?; rw [hh]
 exact ⟨g, o, cap, rfl, h1, Nat.lt_of_lt_of_le h2 hg.size, h3, fun j x hj => (hc _).trans (h4 j x hj), fun j hj => by rw [hc, hf]; exact h5 j hj⟩
theorem OwnO.head {b : Nat} {w : World} {g o n cap : Nat} {x : Int} {xs : List Int} (h : OwnO b w (.slice (some ⟨g, o, none⟩) n cap) (x :: xs)) : w.cell? ⟨g, o, none⟩ = some (.int .i64 x) := by
 obtain ⟨g', o', cap', e, h1, h2, h3, h4, h5⟩ := h
 cases e
 have := h4 0 x rfl
 simpa using this
theorem OwnO.base {b : Nat} {w : World} {v : Value} {xs : List Int} (h : OwnO b w v xs) : ∀ k, v.ownBlock = some k → b ≤ k := by
 obtain ⟨g, o, cap, rfl, h1, h2⟩ := h
 intro k hk
 have : g = k := by simpa [Value.ownBlock] using hk
 omega
theorem OwnO.lt {b : Nat} {w : World} {v : Value} {xs : List Int} (h : OwnO b w v xs) : ∀ k, v.ownBlock = some k → k < w.heap.size := by
 obtain ⟨g, o, cap, rfl, h1, h2, h3⟩ := h
 intro k hk
 have : g = k := by simpa [Value.ownBlock] using hk
 omega
/-- out of a slice that begins at its block's beginning -/
theorem OwnO.of {b : Nat} {w : World} {v : Value} {xs : List Int} (h : OwnI b w v xs) (hn : 0 < xs.length) : OwnO b w v xs := by
 obtain ⟨g, cap, rfl, hb, hlt, hc⟩ := Kd.R_form h hn
 obtain ⟨A, c, e, hle, hr⟩ := h.read
 injection e with e1 e2 e3
 subst e1 e3
 have ho := Kd.own_of_R h
 rcases ho.2 with ⟨hx, _⟩ | ⟨g', cap', cur, e, hb', hh, hl', hm, hs, ht⟩
 ·cases hx
 ·injection e with e1 e2 e3
  injection e1 with e1
  injection e1 with e1
  subst e1 e3
  refine ⟨g, 0, cap, rfl, hb, (Array.getElem?_eq_some_iff.1 hh).1, hle, fun j x hj => ?_, fun j hj => ?_⟩
  ·have hjl := (List.getElem?_eq_some_iff.1 hj).1
   obtain ⟨ad, e4, hcell⟩ := ReadI.at_ hr hjl
   cases e4
   rw [add_off] at hcell
   rw [hcell, List.getD_eq_getElem?_getD, hj]; rfl
  ·have hsz : j < cur.size := by rw [hs]; omega
   refine ⟨?_, ?_⟩
   ·unfold World.cell?
    simp only [hh, Nat.zero_add]
    simp [hsz]
   ·unfold World.frozen?
    simp only [hh]
    simp
theorem run_tail {P : Program} (t e : TypeId) (hu : P.underlying t = some (.slice e)) (hi : (P.info? e).map (·.size) = some 1) (g o n cap : Nat) (W : World) :
  (Instr.slice t (.slice (some ⟨g, o, none⟩) (n + 1) cap) (some (.int .i64 1)) none none).run P W = .ok (.slice (some ⟨g, if cap = 1 then o else o + 1, none⟩) n (cap - 1)) W := by
 obtain ⟨i, hi, hs⟩ := Option.map_eq_some_iff.1 hi
 have h1 : (⟨g, o, none⟩ : Addr).add 1 = ⟨g, o + 1, none⟩ := by unfold Addr.add; simp
 have h2 : (1 : Int) ≤ (n : Int) + 1 := by omega
 by_cases hc : cap = 1
 ·simp [Instr.slice, Instr.sliceBounds, Instr.sliceBound, asIntOf, run_underlying hu, sizeOf, typeInfo, hi, hs, go_sem, h2, hc]
 ·simp [Instr.slice, Instr.sliceBounds, Instr.sliceBound, asIntOf, run_underlying hu, sizeOf, typeInfo, hi, hs, go_sem, h2, hc, h1]
/-- queue[1:] -/
theorem OwnO.tail {b : Nat} {w : World} {v : Value} {x : Int} {xs : List Int} (h : OwnO b w v (x :: xs)) :
  ∃ u, (∀ W : World, (Instr.slice 24 v (some (.int .i64 1)) none none).run Tryz.prog W = .ok u W) ∧ OwnO b w u xs ∧ u.ownBlock = v.ownBlock := by
 obtain ⟨g, o, cap, rfl, h1, h2, h3, h4, h5⟩ := h
 simp only [List.length_cons] at h3
 refine ⟨_, fun W => run_tail 24 2 Tryz.underlying24 (by kernel_rfl) g o xs.length cap W, ⟨g, _, cap - 1, rfl, h1, h2, by omega, fun j x hj => ?_, fun j hj => ?_⟩, rfl⟩
 ·have hjl := (List.getElem?_eq_some_iff.1 hj).1
  have := h4 (j + 1) x (by simpa using hj)
  rw [if_neg (by omega), Nat.add_assoc, Nat.add_comm 1 j]
  exact this
 ·have := h5 (j + 1) (by omega)
  rw [if_neg (by omega), Nat.add_assoc, Nat.add_comm 1 j]
  exact this
section
variable {ops : Array Oper} {rest : List Oper} {o : Oper} {a : Act} {Q : Exit → Act → World → Prop}
/-- append(queue, p); the one-cell block of the variadic lies ahead -/
theorem app_ownO {w0 W : World} (base : Nat) (hgd : o.guard = none) (s x : Operand) (ho : o.op = .call { callee := .builtin .append, args := #[s, x], argTypes := #[24, 24] })
  (v : Value) (xs : List Int) (p : Int) (hs : a.eval s = v) (hx : a.eval x = .slice (some ⟨W.heap.size, 0, none⟩) 1 1)
  (HO : OwnO base W v xs) (HB : Below base w0 W) (hbase : base ≤ W.heap.size) (hl : xs.length < 1000000)
  (h : ∀ v1 w1, OwnO base w1 v1 (xs ++ [p]) → Below base w0 w1 → W.grownBy w1 v.ownBlock → (v1.ownBlock = v.ownBlock ∨ ∃ b, v1.ownBlock = some b ∧ W.heap.size ≤ b) → wpList Tryz.prog ops Q rest (a.put o.dst v1) w1) :
  wpList Tryz.prog ops Q (o :: rest) a (W.alloc (.cells #[.int .i64 p] 2)) := by
 obtain ⟨i0, hi, hzz⟩ := Option.map_eq_some_iff.1 info64
 simp only [Prod.mk.injEq] at hzz
 obtain ⟨hz0, hz1, hz2⟩ := hzz
 obtain ⟨g, of, cap, rfl, h1, h2, h3, h4, h5⟩ := HO
 have hbn : (W.alloc (.cells #[.int .i64 p] 2)).cell? ⟨W.heap.size, 0, none⟩ = some (.int .i64 p) := by simp
 have hA : Below W.heap.size W (W.alloc (.cells #[.int .i64 p] 2)) := Below.alloc (Below.refl _ _) (Nat.le_refl _) _
 have hcA : ∀ k u, W.cell? ⟨g, k, none⟩ = some u → (W.alloc (.cells #[.int .i64 p] 2)).cell? ⟨g, k, none⟩ = some u := fun k u hk => pw_cell_below hA hk
 have hfA : ∀ k, (W.alloc (.cells #[.int .i64 p] 2)).frozen? ⟨g, k, none⟩ = W.frozen? ⟨g, k, none⟩ := fun k => frozen_below hA h2
 have hsA : ∀ k, (W.cell? ⟨g, k, none⟩).isSome = true → ((W.alloc (.cells #[.int .i64 p] 2)).cell? ⟨g, k, none⟩).isSome = true := fun k hk => by
  obtain ⟨u, hu⟩ := Option.isSome_iff_exists.1 hk
  rw [hcA k u hu]; rfl
 refine wpList_append_arg _ hgd s x 24 ho 2 i0 (.int .i64 0) 1 8 Tryz.underlying24 hi hz0 hz1 hz2 rfl (by decide) g of xs.length cap (xs.map (Value.int .i64)) hs (by simp) ?olds ⟨W.heap.size, 0, none⟩ 1 1 [.int .i64 p] hx rfl ?c1 (by simp [Value.oneCell']) ?spare (by unfold maxLen; omega) (by omega) ?room ?grow
 case olds =>
  intro j u hj
  rw [List.getElem?_map] at hj
  obtain ⟨y, hy, rfl⟩ := Option.map_eq_some_iff.1 hj
  exact hcA _ _ (h4 j y hy)
 case c1 =>
  intro j u hj
  rcases j with _ | j
  ·simp at hj; subst hj; rw [add_off]; exact hbn
  ·simp at hj
 case spare =>
  intro hr j hj
  simp only [List.length_cons, List.length_nil] at hj
  obtain rfl : j = 0 := by omega
  have := h5 xs.length (by omega)
  rw [Nat.mul_one, Nat.add_zero]
  exact ⟨hsA _ this.1, (hfA _).trans this.2⟩
 case room =>
  intro hr
  rw [Nat.mul_one]
  have hsp := h5 xs.length (by omega)
  have hin := World.cell?_setCells_in g [Value.int .i64 p] (of + xs.length) (W.alloc (.cells #[.int .i64 p] 2)) (fun j hj => by
   simp only [List.length_cons, List.length_nil] at hj
   obtain rfl : j = 0 := by omega
   exact hsA _ hsp.1) 0 (by simp)
  have hout : ∀ k, k ≠ of + xs.length → ((W.alloc (.cells #[.int .i64 p] 2)).setCells g (of + xs.length) [Value.int .i64 p]).cell? ⟨g, k, none⟩ = (W.alloc (.cells #[.int .i64 p] 2)).cell? ⟨g, k, none⟩ := fun k hk =>
   World.cell?_setCells_out g _ _ _ _ (fun _ _ => by simp; omega)
  have hgr : W.grownBy ((W.alloc (.cells #[.int .i64 p] 2)).setCells g (of + xs.length) [Value.int .i64 p]) (some g) :=
   grown_trans (World.grownBy_alloc W _ _) (set_grown _ g _ _)
  refine h _ _ ⟨g, of, cap, by simp, h1, ?_, by simp; omega, fun j y hj => ?_, fun j hj => ?_⟩ (HB.grown hgr hbase (fun k hk => by cases hk; exact h1)) hgr (.inl rfl)
  ·exact Nat.lt_of_lt_of_le h2 hgr.size
  ·by_cases e : j = xs.length
   ·subst e
    simp at hj
    subst hj
    simpa using hin
   ·have hjl : j < xs.length := by have := (List.getElem?_eq_some_iff.1 hj).1; simp at this; omega
    rw [hout _ (by omega)]
    exact hcA _ _ (h4 j y (by rw [List.getElem?_append_left hjl] at hj; exact hj))
  ·have hj5 := h5 j hj
   refine ⟨?_, ?_⟩
   ·by_cases e : j = xs.length
    ·subst e
     rw [Nat.add_zero] at hin
     rw [hin]; rfl
    ·rw [hout _ (by omega)]
     exact hsA _ hj5.1
   ·rw [World.frozen?_setCells, hfA]
    exact hj5.2
 case grow =>
  intro hr v' w' hown hg
  have hI : OwnI base w' v' (xs ++ [p]) := by
   refine OwnI.of_row (b := (W.alloc (.cells #[.int .i64 p] 2)).heap.size) ?_ (by simp; omega)
   have e1 : (xs ++ [p]).length = xs.length + 1 := by simp
   have e2 : (xs ++ [p]).map (Value.int .i64) = xs.map (Value.int .i64) ++ [.int .i64 p] := by simp
   rw [e1, e2]
   exact hown
  have hgr : W.grownBy w' none := grown_trans (World.grownBy_alloc W _ _) hg
  refine h v' w' (OwnO.of hI (by simp)) (HB.grown hgr hbase (fun k hk => by cases hk)) (grown_of_below (below_of_none hgr) _) ?_
  have hb := own_base hown
  obtain ⟨g', cap', rfl, -⟩ := Kd.R_form hI (by simp)
  exact .inr ⟨g', by simp [Value.ownBlock], by have := hb g' (by simp [Value.ownBlock]); simp at this; omega⟩
end
section
variable {P : Program} {ops : Array Oper} {rest : List Oper} {o : Oper} {a : Act} {Q : Exit → Act → World → Prop}
theorem event_skip {W w1 : World} (hgd : o.guard = none) (hN : o.dst = none) (hrun : (execOp a.eval o).run P W = .ok .skip w1) (h : wpList P ops Q rest a w1) : wpList P ops Q (o :: rest) a W := by
 refine wpList_plain hgd fun K hK => ?_
 unfold Oper.wp
 rw [hrun]
 show K (a.put o.dst undef) w1
 rw [hN]
 exact hK _ _ h
/-- m[x] = true -/
theorem put_set {S : Int → Bool} {b k : Nat} {W : World} {x : Int} (hgd : o.guard = none) (hN : o.dst = none) (m z u : Operand) (ho : o.op = .mapUpdate 175 m z u) (hm : a.eval m = .map (some b)) (hz : a.eval z = .int .i64 x) (hu : a.eval u = .bool true)
  (HS : SetI S b k W) (hw : (Lit.int .i64 x).wf = true) (hk : k < 100000) (h : ∀ w', SetI (fun z => z == x || S z) b (k + 1) w' → W.grownBy w' (some b) → wpList Tryz.prog ops Q rest a w') : wpList Tryz.prog ops Q (o :: rest) a W := by
 obtain ⟨w', hr, hs, hg⟩ := HS.put hw hk
 refine event_skip (w1 := w') hgd hN ?_ (h w' hs hg)
 generalize a.eval = ρ at hm hz hu ⊢
 simp [execOp, ho, hm, hz, hu, hr]
/-- m[x] -/
theorem look_set {S : Int → Bool} {b k : Nat} {W : World} {x : Int} (hgd : o.guard = none) (m z : Operand) (ho : o.op = .lookup 175 m z false) (hm : a.eval m = .map (some b)) (hz : a.eval z = .int .i64 x)
  (HS : SetI S b k W) (hw : (Lit.int .i64 x).wf = true) (h : wpList Tryz.prog ops Q rest (a.put o.dst (.bool (S x))) W) : wpList Tryz.prog ops Q (o :: rest) a W := by
 have hr := HS.look hw
 refine Kd.event_run hgd (v := .bool (S x)) (w1 := W) ?_ h
 generalize a.eval = ρ at hm hz ⊢
 simp [execOp, ho, hm, hz, hr]
end
set_option maxRecDepth 100000 in
set_option maxHeartbeats 4000000 in
theorem behind (v : Value) (ps : List (Int × Int)) (a : Int) (w : World) (hv : ReadP w v ps) (hd : PsDom ps) :
  Calls Tryz.prog 234 #[v, .int .i64 a] w fun e w' => ∃ b k, e = .returned (.map (some b)) ∧ SetI (reachB (nextOf ps) a) b k w' ∧ Below w.heap.size w w' := by
 obtain ⟨N, hN⟩ : ∃ N, N = nextOf ps := ⟨_, rfl⟩
 have hND : ∀ x, (∀ y ∈ N x, 0 ≤ y ∧ y < 64) ∧ (N x).length ≤ 6 := fun x => by rw [hN]; exact next_dom hd x
 have HND := Aside0.mk hND
 obtain ⟨w1, hw1⟩ : ∃ w1, w1 = w.alloc (.map #[] 0) := ⟨_, rfl⟩
 have hs1 : w1.heap.size = w.heap.size + 1 := by rw [hw1]; simp
 have hB1 : Below w.heap.size w w1 := by rw [hw1]; exact Below.alloc (Below.refl _ _) (Nat.le_refl _) _
 obtain ⟨w2, hw2⟩ : ∃ w2, w2 = w1.alloc (.cells #[.int .i64 a] 2) := ⟨_, rfl⟩
 have hB2 : Below w1.heap.size w1 w2 := by rw [hw2]; exact Below.alloc (Below.refl _ _) (Nat.le_refl _) _
 have HB := Aside0.mk (hB1.trans (hB2.mono hB1.size))
 have HS0 : Aside0 (SetI (fun _ => false) w.heap.size 0 w2) := ⟨(by rw [hw1]; exact SetI.made w : SetI (fun _ => false) w.heap.size 0 w1).below hB2⟩
 have HQ0 : Aside0 (OwnO (w.heap.size + 1) w2 (.slice (some ⟨w.heap.size + 1, 0, none⟩) 1 1) [a]) := ⟨by
  refine ⟨w.heap.size + 1, 0, 1, rfl, Nat.le_refl _, by rw [hw2, World.size_alloc, hs1]; omega, Nat.le_refl _, fun j x hj => ?_, fun j hj => ?_⟩
  ·rcases j with _ | j
   ·simp at hj; subst hj; rw [hw2, ← hs1]; simp
   ·simp at hj
  ·obtain rfl : j = 0 := by omega
   refine ⟨by rw [hw2, ← hs1]; simp, ?_⟩
   rw [hw2, ← hs1]
   unfold World.frozen?
   simp only [heap_alloc_new]
   simp⟩
 have HSTP := Aside0.mk (fun W x (h : Below w.heap.size w W) => hN ▸ steps v ps x W (ReadP.below hv h) hd)
 have HN := Aside0.mk hN
 obtain ⟨A2, d2, rfl, hl2, -⟩ := id hv
 have hz : w.heap.size + 2 ≤ w2.heap.size := by rw [hw2, World.size_alloc, hs1]; omega
 have HZ := Aside0.mk hz
 subst hw1
 clear hv hB1 hB2 hs1 hND hN hd hz
 have hmm := @run_makeMap Tryz.prog
 go_enter Tryz.func234, Tryz.ntmps234
 go_wp2
 rw [← hw2]
 clear hw2
 go_loopg [6] 65 (fun k s6 wr => ∃ S Q, Aside0 (OwnO (w.heap.size + 1) wr s6 Q) ∧ Aside0 (SetI S w.heap.size (cnt S) wr) ∧ Aside0 (BI N a S Q) ∧ Aside0 (64 - cnt S + Q.length ≤ k) ∧ Aside0 (Q.length ≤ 1 + cnt S) ∧ Aside0 (Below w.heap.size w wr))
 case atStart => exact ⟨_, _, HQ0, by rw [cnt_none]; exact HS0, ⟨BI.start N a⟩, ⟨by rw [cnt_none]; simp⟩, ⟨by simp⟩, HB⟩
 case round =>
  obtain ⟨S, Q, HQ, HS, HI, HK, HL, HBr⟩ := hrel
  cases Q with
  | nil =>
   obtain ⟨g, o, cap, rfl, -⟩ := HQ.out
   go_wp2
   go_ret
   refine ⟨_, _, rfl, HS.out.congr (fun x => ?_), HBr.out⟩
   rw [← HN.out]
   exact reach_of (fun x => (HND.out x).1) (fun x => (HND.out x).2) HI.out.fin x
  | cons q0 Q0 =>
   obtain ⟨g, o, cap, rfl, -⟩ := id HQ.out
   have hhead := HQ.out.head
   have HQL := Aside0.mk HQ.out.lt
   have hNL := (HND.out q0).2
   have HWR : Aside0 (w.heap.size + 2 ≤ wr.heap.size) := ⟨by have h1 := HQ.out.lt g (by simp [Value.ownBlock]); have h2 := HQ.out.base g (by simp [Value.ownBlock]); omega⟩
   have hkk : 1 ≤ gk := by have := HK.out; simp only [List.length_cons] at this; omega
   obtain ⟨n, hn⟩ : ∃ n, n = (q0 :: Q0).length := ⟨_, rfl⟩
   have hn0 : 0 < n := by rw [hn]; simp
   rw [← hn] at HQ ⊢
   rw [← hn] at HQL
   have hnI : (0 : Int) < (n : Int) := by omega
   clear hn
   go_wp2_with (first | (go_at_call 331; refine (HSTP.out _ _ HBr.out).mono ?_; rintro e w3 ⟨u3, rfl, ho, hb⟩; obtain ⟨A3, d3, rfl, -⟩ := ho.read; have HO3 := Aside0.mk ho; have HQ3 := Aside0.mk (HQ.out.below hb); have HS3 := Aside0.mk (HS.out.below hb); have HB3 := Aside0.mk (HBr.out.trans (hb.mono HBr.out.size)); have HNE3 := Aside0.mk (fun k (hk : (Value.slice (some ⟨g, o, none⟩) n cap).ownBlock = some k) k' (hk' : (Value.slice A3 (N q0).length d3).ownBlock = some k') => (Nat.ne_of_lt (Nat.lt_of_lt_of_le (HQL.out k hk) (ho.base k' hk')) : k ≠ k')); clear ho hb hhead))
   go_loopw [6, 23] (fun s6 s23 wx => ∃ (i : Nat) (Q : List Int) (S : Int → Bool), s23 = .int .i64 i ∧ i ≤ (N q0).length ∧ Aside0 (OwnO (w.heap.size + 1) wx s6 (q0 :: Q)) ∧ Aside0 (SetI S w.heap.size (cnt S) wx) ∧ Aside0 (BI N a S (q0 :: Q)) ∧ Aside0 (64 - cnt S + (q0 :: Q).length ≤ gk) ∧ Aside0 ((q0 :: Q).length ≤ 1 + cnt S) ∧
    Aside0 (∀ j, j < i → S ((N q0).getD j 0) = true) ∧ Aside0 (OwnI wr.heap.size wx (.slice A3 (N q0).length d3) (N q0)) ∧ Aside0 (∀ k, s6.ownBlock = some k → ∀ k', (Value.slice A3 (N q0).length d3).ownBlock = some k' → k ≠ k') ∧ Aside0 (Below w.heap.size w wx)) (fun _ s23 _ => (N q0).length - (intOf s23).toNat)
   case atStart => exact ⟨0, Q0, S, rfl, Nat.zero_le _, HQ3, HS3, HI, HK, HL, ⟨fun j hj => absurd hj (Nat.not_lt_zero _)⟩, HO3, HNE3, HB3⟩
   case round =>
    obtain ⟨i, Q, S, rfl, hi, HQi, HSi, HIi, HKi, HLi, HD, HOi, HNE, HBi⟩ := hrel
    have HWI : Aside0 (w.heap.size + 1 ≤ wr.heap.size) := ⟨by obtain ⟨g9, o9, c9, -, h1, h2, -⟩ := HQi.out; omega⟩
    by_cases hlt : i < (N q0).length
    ·obtain ⟨A_, c_, e_, -, hcc⟩ := HOi.out.read
     cases e_
     obtain ⟨ad, y, e1, hcell, HY⟩ := ReadI.get hcc hlt
     cases e1
     have hmem : y ∈ N q0 := mem_at hlt HY.out
     have hyd := (HND.out q0).1 y hmem
     have HYD := Aside0.mk hyd
     have hw : (Lit.int .i64 y).wf = true := wfI (by omega) (by omega)
     have HW := Aside0.mk hw
     have HM := Aside0.mk hmem
     clear hcc hmem hyd hw
     cases hsy : S y with
     | true =>
      have HSY := Aside0.mk hsy
      clear hsy
      go_wp2_with (first | (at_lookup; refine look_set rfl (.tmp 27) (.tmp 28) rfl rfl rfl HSi.out HW.out ?_; rw [HSY.out]))
      go_roundw
      case rel => exact ⟨i + 1, Q, S, by go_num, by omega, HQi, HSi, HIi, HKi, HLi, ⟨fun j hj => by
       rcases Nat.lt_succ_iff_lt_or_eq.1 hj with h | rfl
       ·exact HD.out j h
       ·rw [HY.out]; exact HSY.out⟩, HOi, HNE, HBi⟩
      case measure => simp [intOf]; omega
     | false =>
      have HSY := Aside0.mk hsy
      clear hsy
      have HCA := Aside0.mk (cnt_add HSY.out HYD.out.1 HYD.out.2)
      have HCL := Aside0.mk (cnt_le (fun z => z == y || S z))
      go_wp2_with (first | (at_lookup; refine look_set rfl (.tmp 27) (.tmp 28) rfl rfl rfl HSi.out HW.out ?_; rw [HSY.out]) | (at_mapUpdate; refine put_set rfl rfl (.tmp 31) (.tmp 32) _ rfl rfl rfl rfl HSi.out HW.out (by have := cnt_le S; omega) ?_; intro w5 hs5 hg5; have HS5 := Aside0.mk hs5; have HQ5 := Aside0.mk (HQi.out.other hg5 (fun k hk e => by have h1 := HQi.out.base k hk; injection e with e; omega)); have HO5 := Aside0.mk (HOi.out.grown hg5 (fun k hk e => by have h1 := HOi.out.base k hk; have h2 := HWR.out; injection e with e; omega)); have HB5 := Aside0.mk (HBi.out.trans (below_grown hg5 (Nat.le_refl _) HBi.out.size)); have HZ5 : Aside0 (w.heap.size + 1 ≤ w5.heap.size) := ⟨by have h1 := HWI.out; have h2 := hg5.size; omega⟩; clear hs5 hg5) | ((with_reducible refine gate_builtin (b := .append) (xs := #[.tmp 33, .tmp 35]) rfl ?_); refine app_ownO (w0 := w5) (w.heap.size + 1) rfl (.tmp 33) (.tmp 35) rfl u6 (q0 :: Q) y rfl rfl HQ5.out (Below.refl _ _) HZ5.out (by have := HLi.out; have := cnt_le S; omega) ?_; intro v6 w6 ho6 hb6 hg6 hat6; have HQ6 := Aside0.mk ho6; have HB6 := Aside0.mk hb6; have HG6 := Aside0.mk hg6; have HA6 := Aside0.mk hat6; clear ho6 hb6 hg6 hat6))
      go_roundw
      case rel =>
       refine ⟨i + 1, Q ++ [y], fun z => z == y || S z, by go_num, by omega, ⟨HQ6.out⟩, ⟨?_⟩, ⟨HIi.out.add (by simp) HM.out⟩, ⟨?_⟩, ⟨?_⟩, ⟨fun j hj => ?_⟩, ⟨?_⟩, ⟨?_⟩, ⟨?_⟩⟩
       ·rw [HCA.out]
        exact HS5.out.grown HG6.out (fun e => by have := HQ5.out.base _ e.symm; omega)
       ·have h1 := HKi.out
        have h2 := HCA.out
        have h3 := HCL.out
        simp only [List.length_cons, List.length_append, List.length_nil] at h1 ⊢
        omega
       ·have h1 := HLi.out
        have h2 := HCA.out
        simp only [List.length_cons, List.length_append, List.length_nil] at h1 ⊢
        omega
       ·rcases Nat.lt_succ_iff_lt_or_eq.1 hj with h | rfl
        ·show (_ == y || S _) = true
         rw [HD.out j h, Bool.or_true]
        ·rw [HY.out]; simp
       ·exact HO5.out.grown HG6.out (fun k hk e => HNE.out k e.symm k hk rfl)
       ·intro k hk k' hk'
        rcases HA6.out with e | ⟨b9, e, hb9⟩
        ·exact HNE.out k (by rw [← e]; exact hk) k' hk'
        ·have h1 := HO5.out.lt k' hk'
         rw [e] at hk
         injection hk with hk
         omega
       ·exact HB5.out.trans (HB6.out.mono (Nat.le_succ _))
      case measure => simp [intOf]; omega
    ·have HALL : Aside0 (∀ y ∈ N q0, S y = true) := ⟨fun y hy => by
      obtain ⟨j, hj, rfl⟩ := List.getElem_of_mem hy
      have := HD.out j (by omega)
      simpa [List.getD_eq_getElem?_getD, hj] using this⟩
     obtain ⟨u9, hsl, ho9, -⟩ := HQi.out.tail
     have HO9 := Aside0.mk ho9
     clear ho9
     go_wp2
     go_roundg (gk - 1)
     case measure => omega
     case rel => exact ⟨S, Q, HO9, HSi, ⟨HIi.out.pop HALL.out⟩, ⟨by have := HKi.out; simp only [List.length_cons] at this; omega⟩, ⟨by have := HLi.out; simp only [List.length_cons] at this; omega⟩, HBi⟩
set_option maxRecDepth 100000 in
set_option maxHeartbeats 2000000 in
theorem isAcyclic1 (w : World) (b : Nat) (v : Value) (ps : List (Int × Int)) (hv : ReadP w v ps) (hd : PsDom ps) (h0 : w.cell? ⟨b, 0, none⟩ = some v) :
  PredP w (.func (.func 339) #[] #[.pointer (some ⟨b, 0, none⟩)]) (fun p => !reachB (nextOf ps) p.1 p.1) (fun p => 1 ≤ p.1 ∧ p.1 ≤ 63) := by
 refine ⟨_, _, _, rfl, Enters.mk' Tryz.func339 rfl rfl, fun w0 x y hb hx => ?_⟩
 show Calls _ _ #[_, _] _ _
 obtain ⟨w1, hw1⟩ : ∃ w1, w1 = w0 := ⟨_, rfl⟩
 rw [← hw1] at hb ⊢
 clear hw1
 obtain ⟨w2, hw2⟩ : ∃ w2, w2 = w1.alloc (.cells #[.int .i64 x, .int .i64 y] 72) := ⟨_, rfl⟩
 have hB2 : Below w1.heap.size w1 w2 := by rw [hw2]; exact Below.alloc (Below.refl _ _) (Nat.le_refl _) _
 have cl := pw_cell_below hB2 (pw_cell_below hb h0)
 have c0 : w2.cell? ⟨w1.heap.size, 0, none⟩ = some (.int .i64 x) := by rw [hw2]; simp
 have HB := Aside0.mk hB2
 have HW : Aside0 ((Lit.int .i64 x).wf = true) := ⟨wfI (by omega) (by omega)⟩
 have HBE := Aside0.mk (fun W (h : Below w2.heap.size w2 W) => behind v ps x W (ReadP.below hv (hb.trans ((hB2.trans (h.mono hB2.size)).mono hb.size))) hd)
 obtain ⟨A2, d2, rfl, hl2, -⟩ := id hv
 have hmx : Tryz.prog.follows .mixedOrders = true := by kernel_rfl
 clear hb h0 hB2 hv hx
 go_enter Tryz.func339, Tryz.ntmps339
 go_wp2
 rw [← hw2]
 clear hw2
 refine wp_region_g Bl (fun w => (Below.refl _ w).drew) (fun _ _ _ => Bl.trans) (fun i => match i with | 0 => fun v _ => v = .slice A2 ps.length d2 | 1 => fun v _ => v = .pointer (some ⟨w1.heap.size, 0, none⟩) | 2 => fun v _ => v = .int .i64 x | 3 => fun v W => ∃ b k, v = .map (some b) ∧ SetI (reachB (nextOf ps) x) b k W | 4 => fun v _ => v = .pointer (some ⟨w1.heap.size, 0, none⟩) | 5 => fun v _ => v = .int .i64 x | 6 => fun v _ => v = .bool (reachB (nextOf ps) x x) | 7 => fun v _ => v = .bool (!reachB (nextOf ps) x x) | 8 => fun v _ => v = .bool (!reachB (nextOf ps) x x) | _ => fun _ _ => True)
  [0, 0, 2, 7, 0, 16, 63, 127, 255] hmx (by kernel_rfl) ?st ?steps ?rest
 case st =>
  intro i v w1_ w2_ hb
  match i with
  | 0 | 1 | 2 | 4 | 5 | 6 | 7 | 8 => exact id
  | 3 => exact fun ⟨b, k, e, h⟩ => ⟨b, k, e, h.below hb⟩
  | n + 9 => exact id
 case steps =>
  refine ⟨?_, ?_, ?_, ?_, ?_, ?_, ?_, ?_, ?_, trivial⟩
  ·intro s w_ hb hd hq R hR
   generalize hA : putAll _ 0 s _ = A
   clear hq
   have cl_ := pw_cell_below hb cl
   have hR' := hR (.slice A2 ps.length d2) _ (Below.refl _ _) rfl
   clear hR hd
   refine opGives_value ?_ hR'
   subst hA
   simp only [dsOf, List.map_cons, List.map_nil, Option.getD_some, putAll, Act.put, List.setIfInBounds_toArray, List.set_cons_zero, List.set_cons_succ]
   go_simp
  ·intro s w_ hb hd hq R hR
   generalize hA : putAll _ 0 s _ = A
   clear hq
   have hR' := hR (.pointer (some ⟨w1.heap.size, 0, none⟩)) _ (Below.refl _ _) rfl
   clear hR hd
   refine opGives_value ?_ hR'
   subst hA
   simp only [dsOf, List.map_cons, List.map_nil, Option.getD_some, putAll, Act.put, List.setIfInBounds_toArray, List.set_cons_zero, List.set_cons_succ]
   go_simp
  ·intro s w_ hb hd hq R hR
   generalize hA : putAll _ 0 s _ = A
   have e1 : s 1 = _ := hd 1 (by kernel_rfl)
   clear hq
   have c0_ := pw_cell_below hb c0
   have hR' := hR (.int .i64 x) _ (Below.refl _ _) rfl
   clear hR hd
   refine opGives_value ?_ hR'
   subst hA
   simp only [dsOf, List.map_cons, List.map_nil, Option.getD_some, putAll, Act.put, List.setIfInBounds_toArray, List.set_cons_zero, List.set_cons_succ]
   go_simp
  ·intro s w_ hb hd hq R hR
   generalize hA : putAll _ 0 s _ = A
   have e0 : s 0 = _ := hd 0 (by kernel_rfl)
   have e2 : s 2 = _ := hd 2 (by kernel_rfl)
   clear hq
   refine opGives_call (f := 234) (args := #[.slice A2 ps.length d2, .int .i64 x]) ?_ ?_
   ·subst hA
    clear hR hd
    simp only [dsOf, List.map_cons, List.map_nil, Option.getD_some, putAll, Act.put, List.setIfInBounds_toArray, List.set_cons_zero, List.set_cons_succ]
    go_simp
   clear hA A hd
   refine (HBE.out w_ hb).mono ?_
   rintro e w3_ ⟨b, k, rfl, hs, hb3⟩
   exact ⟨_, rfl, hR _ _ hb3 ⟨b, k, rfl, hs⟩⟩
  ·intro s w_ hb hd hq R hR
   generalize hA : putAll _ 0 s _ = A
   clear hq
   have hR' := hR (.pointer (some ⟨w1.heap.size, 0, none⟩)) _ (Below.refl _ _) rfl
   clear hR hd
   refine opGives_value ?_ hR'
   subst hA
   simp only [dsOf, List.map_cons, List.map_nil, Option.getD_some, putAll, Act.put, List.setIfInBounds_toArray, List.set_cons_zero, List.set_cons_succ]
   go_simp
  ·intro s w_ hb hd hq R hR
   generalize hA : putAll _ 0 s _ = A
   have e4 : s 4 = _ := hd 4 (by kernel_rfl)
   clear hq
   have c0_ := pw_cell_below hb c0
   have hR' := hR (.int .i64 x) _ (Below.refl _ _) rfl
   clear hR hd
   refine opGives_value ?_ hR'
   subst hA
   simp only [dsOf, List.map_cons, List.map_nil, Option.getD_some, putAll, Act.put, List.setIfInBounds_toArray, List.set_cons_zero, List.set_cons_succ]
   go_simp
  ·intro s w_ hb hd hq R hR
   generalize hA : putAll _ 0 s _ = A
   obtain ⟨b3_, k3_, e3, h3_⟩ : ∃ b k, s 3 = .map (some b) ∧ SetI (reachB (nextOf ps) x) b k w_ := hd 3 (by kernel_rfl)
   have e5 : s 5 = _ := hd 5 (by kernel_rfl)
   clear hq
   have hlk := h3_.look HW.out
   have hR' := hR (.bool (reachB (nextOf ps) x x)) _ (Below.refl _ _) rfl
   clear hR hd
   refine opGives_value ?_ hR'
   subst hA
   simp only [dsOf, List.map_cons, List.map_nil, Option.getD_some, putAll, Act.put, List.setIfInBounds_toArray, List.set_cons_zero, List.set_cons_succ]
   go_simp
  ·intro s w_ hb hd hq R hR
   generalize hA : putAll _ 0 s _ = A
   have e6 : s 6 = _ := hd 6 (by kernel_rfl)
   clear hq
   have hR' := hR (.bool (!reachB (nextOf ps) x x)) _ (Below.refl _ _) rfl
   clear hR hd
   refine opGives_value ?_ hR'
   subst hA
   simp only [dsOf, List.map_cons, List.map_nil, Option.getD_some, putAll, Act.put, List.setIfInBounds_toArray, List.set_cons_zero, List.set_cons_succ]
   go_simp
  ·intro s w_ hb hd hq R hR
   generalize hA : putAll _ 0 s _ = A
   have e7 : s 7 = _ := hd 7 (by kernel_rfl)
   clear hq
   have hR' := hR (.bool (!reachB (nextOf ps) x x)) _ (Below.refl _ _) rfl
   clear hR hd
   refine opGives_value ?_ hR'
   subst hA
   simp only [dsOf, List.map_cons, List.map_nil, Option.getD_some, putAll, Act.put, List.setIfInBounds_toArray, List.set_cons_zero, List.set_cons_succ]
   go_simp
 case rest =>
  intro s9 w9 hb hv
  have e8_ : s9 8 = _ := hv 8 (by decide)
  simp only [dsOf, List.map_cons, List.map_nil, Option.getD_some, putAll, Act.put, List.setIfInBounds_toArray, List.set_cons_zero, List.set_cons_succ]
  rw [e8_]
  clear hv e8_
  go_wp2
  go_ret
  exact ⟨rfl, HB.out.trans (Below.mono hb HB.out.size)⟩
set_option maxRecDepth 100000 in
set_option maxHeartbeats 2000000 in
theorem isAcyclic (n : Nat) (ku : Value) (xs : List Int) (v : Value) (ps : List (Int × Int)) (w : World) (hk : ReadI w ku xs) (hv : ReadP w v ps) (hd : PsDom ps) :
  Calls Tryz.prog 245 #[cx n ku, v] w fun e w' => e = .returned (.bool (acyB ps)) ∧ Below w.heap.size w w' := by
 obtain ⟨wb, hwb⟩ : ∃ wb, wb = w.alloc (.cells #[.int .i64 n, ku] 26) := ⟨_, rfl⟩
 obtain ⟨w1, hw1⟩ : ∃ w1, w1 = wb.alloc (.cells #[v] 51) := ⟨_, rfl⟩
 have hsb : wb.heap.size = w.heap.size + 1 := by rw [hwb]; simp
 have hBb : Below w.heap.size w wb := by rw [hwb]; exact Below.alloc (Below.refl _ _) (Nat.le_refl _) _
 have hB1 : Below wb.heap.size wb w1 := by rw [hw1]; exact Below.alloc (Below.refl _ _) (Nat.le_refl _) _
 have hB : Below w.heap.size w w1 := hBb.trans (hB1.mono hBb.size)
 have cv : w1.cell? ⟨w.heap.size + 1, 0, none⟩ = some v := by rw [hw1, ← hsb]; simp
 have HB := Aside0.mk hB
 have HM := Aside0.mk (areAllP v ps _ _ _ w1 (hv.below hB) (isAcyclic1 w1 (w.heap.size + 1) v ps (hv.below hB) hd cv) (fun q hq => (hd q hq).1))
 obtain ⟨A1, d1, rfl, -⟩ := id hk
 obtain ⟨A2, d2, rfl, -⟩ := id hv
 subst hwb
 clear hk hv hd hsb hBb hB1 hB
 go_enter Tryz.func245, Tryz.ntmps245
 go_wp2_with (first | (go_at_call 246; rw [← hw1]; clear hw1; refine HM.out.mono ?_; rintro e w2 ⟨rfl, hb⟩))
 go_ret
 exact ⟨rfl, HB.out.trans (hb.mono HB.out.size)⟩
theorem ReadS.one' {W : World} {u : Value} {p : List Int} (h : ReadI W u p) : ReadS (W.alloc (.cells #[u] 24)) (.slice (some ⟨W.heap.size, 0, none⟩) 1 1) [p] := by
 refine ⟨_, 1, rfl, by simp, fun i xs hi => ?_⟩
 cases i with
 | zero =>
  simp at hi
  subst hi
  exact ⟨_, u, rfl, by rw [add_mk]; exact blk_cell (blk_new W _) 0, h.below (Below.alloc (Below.refl _ _) (Nat.le_refl _) _)⟩
 | succ i => simp at hi
/-- what BoundaryOf answers -/
def ansBoundaryOf (a : Int) (xs l : List Int) : List Int × Int := if codeChn a xs l = 0 then (bndL l, 0) else ([], codeChn a xs l)
theorem below_pos : ∀ f, f < 64 → ∀ x ∈ below f, 1 ≤ x := by decide +kernel
theorem bnd_zero {l : List Int} (h : ∀ x ∈ l, 0 ≤ x ∧ x ≤ 63) : (bndB l).testBit 0 = false := by
 have key : ∀ (l : List Int) (m : Nat), (∀ x ∈ l, 0 ≤ x ∧ x ≤ 63) → m.testBit 0 = false → (l.foldl (fun m x => m ^^^ bitsI (below x.toNat)) m).testBit 0 = false := by
  intro l
  induction l with
  | nil => intro m _ hm; exact hm
  | cons a r ih =>
   intro m h hm
   have ha := h a List.mem_cons_self
   rw [List.foldl_cons]
   refine ih _ (fun x hx => h x (List.mem_cons_of_mem _ hx)) ?_
   have hb := below_bd a.toNat (by omega)
   rw [Nat.testBit_xor, hm, bits_test (below_asc _ (by omega)) (fun x hx => (hb x hx).1)]
   have : ¬ ((0 : Nat) : Int) ∈ below a.toNat := fun h0 => by have := below_pos a.toNat (by omega) _ h0; omega
   rw [decide_eq_false this]; rfl
 exact key l 0 h (by simp)
set_option maxRecDepth 100000 in
set_option maxHeartbeats 2000000 in
theorem implBoundaryOf (a : Int) (ku : Value) (xs : List Int) (v : Value) (l : List Int) (w : World) (hk : ReadI w ku xs) (hv : ReadI w v l) :
  Calls Tryz.prog 47 #[cx a ku, v] w fun e w' => ∃ u, e = .returned (.tuple #[u, .int .i64 (ansBoundaryOf a xs l).2]) ∧ OwnI w.heap.size w' u (ansBoundaryOf a xs l).1 ∧ Below w.heap.size w w' := by
 obtain ⟨wb, hwb⟩ : ∃ wb, wb = w.alloc (.cells #[.int .i64 a, ku] 26) := ⟨_, rfl⟩
 obtain ⟨w1, hw1⟩ : ∃ w1, w1 = wb.alloc (.cells #[v] 24) := ⟨_, rfl⟩
 have hsb : wb.heap.size = w.heap.size + 1 := by rw [hwb]; simp
 have hBb : Below w.heap.size w wb := by rw [hwb]; exact Below.alloc (Below.refl _ _) (Nat.le_refl _) _
 have hB1 : Below wb.heap.size wb w1 := by rw [hw1]; exact Below.alloc (Below.refl _ _) (Nat.le_refl _) _
 have hB : Below w.heap.size w w1 := hBb.trans (hB1.mono hBb.size)
 have HB := Aside0.mk hB
 have HK := Aside0.mk (hk.below hB)
 have HV := Aside0.mk (hv.below hB)
 have HS := Aside0.mk (ReadS.one' (hv.below hBb))
 rw [← hw1, hsb] at HS
 obtain ⟨A1, d1, rfl, -⟩ := id hk
 obtain ⟨A2, d2, rfl, -⟩ := id hv
 clear hk hv hB hBb hB1 hsb
 subst hwb
 obtain ⟨q, hq⟩ : ∃ q, q = codeChn a xs l := ⟨_, rfl⟩
 have HQ := Aside0.mk hq
 by_cases h0 : q = 0
 ·have h0' := hq.symm.trans h0
  obtain ⟨n, rfl, hcn, hch⟩ := codeChn_zero h0'
  obtain ⟨hasc, hbd⟩ := chain_dom hcn hch
  have hbd0 : ∀ x ∈ l, 0 ≤ x ∧ x ≤ 63 := fun x hx => by have := hbd x hx; omega
  have HA : Aside0 (ansBoundaryOf n xs l = (listI (bndB l), 0)) := ⟨by unfold ansBoundaryOf; rw [if_pos h0', bnd_law hbd0]⟩
  have HD := Aside0.mk hbd0
  have HLB := Aside0.mk (list_bits hasc hbd0)
  have HBD := Aside0.mk hbd
  have HZ := Aside0.mk (bnd_zero hbd0)
  subst h0
  clear hcn hch hasc hbd hbd0 h0' hq
  go_enter Tryz.func47, Tryz.ntmps47
  go_wp2_with (first | (go_at_call 163; rw [← hw1]; clear hw1; refine (chainCode n _ xs _ l _ HK.out HS.out).mono ?_; rintro e w2 ⟨rfl, hb⟩; rw [← HQ.out]; have HB2 := Aside0.mk hb; clear hb) | (go_at_call 166; refine (chainOf _ l _ (HV.out.below HB2.out) HD.out).mono ?_; rintro e w3 ⟨rfl, hb⟩; have HB3 := Aside0.mk (HB2.out.trans (hb.mono HB2.out.size)); clear hb) | (go_at_call 182; refine (boundary (bitsI l) l HLB.out (bitsI_lt HD.out) HBD.out _).mono ?_; rintro e w4 ⟨rfl, hb⟩; have HB4 := Aside0.mk (HB3.out.trans (hb.mono HB3.out.size)); clear hb) | (go_at_call 167; refine (chainList (bndB l) (bndB_lt HD.out) HZ.out _).mono ?_; rintro e w5 ⟨u, rfl, ho, hb⟩; have HO := Aside0.mk ho; obtain ⟨A5, d5, rfl, -⟩ := ho.read; have HB5 := Aside0.mk (HB4.out.trans (hb.mono HB4.out.size)); clear ho hb))
  go_ret2
  have h1 := HB.out.size
  have h2 := HB4.out.size
  exact ⟨_, by rw [HA.out]; rfl, by rw [HA.out]; exact HO.out.lower (by omega), HB.out.trans (HB5.out.mono HB.out.size)⟩
 ·have HA : Aside0 (ansBoundaryOf a xs l = ([], q)) := ⟨by unfold ansBoundaryOf; rw [← hq, if_neg h0]⟩
  have hqb : (q != 0) = true := by simpa using h0
  clear h0 hq
  go_enter Tryz.func47, Tryz.ntmps47
  go_wp2_with (first | (go_at_call 163; rw [← hw1]; clear hw1; refine (chainCode a _ xs _ l _ HK.out HS.out).mono ?_; rintro e w2 ⟨rfl, hb⟩; rw [← HQ.out]; have HB2 := Aside0.mk hb; clear hb))
  go_ret2
  exact ⟨_, by rw [HA.out]; rfl, by rw [HA.out]; exact OwnI.nil _ _, HB.out.trans (HB2.out.mono HB.out.size)⟩
theorem pushB_snoc (p : Int × Int) (m : Nat) : ∀ l : List (Int × Int), pushB (l ++ [p]) m = pushB l m ^^^ (if m.testBit p.1.toNat then 2 ^ p.2.toNat else 0)
 | [] => by rw [List.nil_append, pushB_cons]; simp [pushB]
 | q :: r => by rw [List.cons_append, pushB_cons, pushB_cons, pushB_snoc p m r, Nat.xor_assoc]
theorem take_pair {ps : List (Int × Int)} {i : Nat} {x y : Int} (h : ps[i]? = some (x, y)) : ps.take (i + 1) = ps.take i ++ [(x, y)] := by
 have hlt := (List.getElem?_eq_some_iff.1 h)
 rw [List.take_succ_eq_append_getElem hlt.1, hlt.2]
theorem e64 : (2 : Nat) ^ 64 = 18446744073709551616 := by decide
theorem pushB_ltU {ps : List (Int × Int)} (hd : PsDom ps) (m : Nat) : pushB ps m < 18446744073709551616 := by rw [← e64]; exact pushB_lt hd m
theorem bndB_ltU (m : Nat) : bndB (listI m) < 18446744073709551616 := by rw [← e64]; exact bndB_lt2 m
theorem xor_ltU {a b : Nat} (h : a < 18446744073709551616) (k : b < 18446744073709551616) : a ^^^ b < 18446744073709551616 := by rw [← e64] at h k ⊢; exact Nat.xor_lt_two_pow h k
theorem flowB_ltU {ps : List (Int × Int)} (hd : PsDom ps) {m : Nat} (hm : m < 18446744073709551616) : flowB ps m < 18446744073709551616 := by rw [← e64] at hm ⊢; exact flowB_lt hd hm
theorem PsDom.take {ps : List (Int × Int)} (h : PsDom ps) (i : Nat) : PsDom (ps.take i) := fun p hp => h p (List.mem_of_mem_take hp)
set_option maxRecDepth 100000 in
set_option maxHeartbeats 2000000 in
theorem push (v : Value) (ps : List (Int × Int)) (m : Nat) (w : World) (hv : ReadP w v ps) (hd : PsDom ps) (hm : m < 18446744073709551616) :
  Calls Tryz.prog 288 #[v, .int .u64 m] w fun e w' => e = .returned (.int .u64 (pushB ps m : Nat)) ∧ Below w.heap.size w w' := by
 have HV := Aside0.mk hv
 have HD := Aside0.mk hd
 obtain ⟨A2, d2, rfl, hl2, -⟩ := id hv
 clear hv hd
 go_enter Tryz.func288, Tryz.ntmps288
 go_wp2
 go_loopw [5, 10] (fun s5 s10 wr => ∃ i : Nat, s10 = .int .i64 i ∧ i ≤ ps.length ∧ s5 = .int .u64 (pushB (ps.take i) m : Nat) ∧ Aside0 (Below w.heap.size w wr)) (fun _ s10 _ => ps.length - (intOf s10).toNat)
 case atStart => exact ⟨0, rfl, Nat.zero_le _, rfl, ⟨Below.refl _ _⟩⟩
 case round =>
  obtain ⟨i, rfl, hi, rfl, HB⟩ := hrel
  by_cases hlt : i < ps.length
  ·obtain ⟨gb, x, y, rfl, hxy, hc0, hc1⟩ := ReadP.get (HV.out.below HB.out) hlt
   have hxd := HD.out (x, y) (List.mem_of_getElem? hxy)
   simp only at hxd
   obtain ⟨xn, rfl⟩ : ∃ xn : Nat, x = xn := ⟨x.toNat, by omega⟩
   obtain ⟨yn, rfl⟩ : ∃ yn : Nat, y = yn := ⟨y.toNat, by omega⟩
   have hiI : (i : Int) < (ps.length : Int) := by omega
   have hsh := powu yn (by omega)
   have hmny : min yn 64 = yn := by omega
   have hmnx : min xn 64 = xn := by omega
   have hpp : 2 ^ yn < 18446744073709551616 := Nat.pow_lt_pow_right (a := 2) (by decide) (show yn < 64 by omega)
   have hbit := shr_bit m xn hm
   have HT : Aside0 (pushB (ps.take (i + 1)) m = pushB (ps.take i) m ^^^ (if m.testBit xn then 2 ^ yn else 0)) := ⟨by rw [take_pair hxy, pushB_snoc]; rfl⟩
   have hS : pushB (ps.take i) m < 18446744073709551616 := pushB_ltU (HD.out.take i) m
   obtain ⟨S, hSe⟩ : ∃ S, S = pushB (ps.take i) m := ⟨_, rfl⟩
   rw [← hSe] at hS HT ⊢
   obtain ⟨P, hP⟩ : ∃ P, P = 2 ^ yn := ⟨_, rfl⟩
   rw [← hP] at hsh hpp HT
   have hxor := xor_u64 S P hS hpp
   have HB2 : ∀ o, Aside0 (Below w.heap.size w (wr.alloc o)) := fun o => ⟨HB.out.alloc HB.out.size o⟩
   clear hSe hP hxy hxd
   cases hb : m.testBit xn with
   | true =>
    rw [hb, if_pos rfl] at hbit HT
    go_wp2
    go_roundw
    case rel => exact ⟨i + 1, by go_num, by omega, by rw [HT.out], HB2 _⟩
    case measure => simp [intOf]; omega
   | false =>
    rw [hb, if_neg (by decide)] at hbit HT
    go_wp2
    go_roundw
    case rel => exact ⟨i + 1, by go_num, by omega, by rw [HT.out, Nat.xor_zero], HB2 _⟩
    case measure => simp [intOf]; omega
  ·have e : i = ps.length := by omega
   have HE := Aside0.mk e
   clear e
   go_wp2
   go_ret
   exact ⟨by rw [HE.out, List.take_length]; rfl, HB.out⟩
theorem boundaryW (m : Nat) (hm : m < 18446744073709551616) (hp : ∀ x ∈ listI m, 1 ≤ x ∧ x ≤ 63) (w : World) :
  Calls Tryz.prog 182 #[.int .u64 m] w fun e w' => e = .returned (.int .u64 (bndB (listI m) : Nat)) ∧ Below w.heap.size w w' := boundary m (listI m) rfl hm hp w
set_option maxRecDepth 100000 in
set_option maxHeartbeats 2000000 in
theorem flow (v : Value) (ps : List (Int × Int)) (m : Nat) (w : World) (hv : ReadP w v ps) (hd : PsDom ps) (hm : m < 18446744073709551616) (h0 : m.testBit 0 = false) :
  Calls Tryz.prog 165 #[v, .int .u64 m] w fun e w' => e = .returned (.int .u64 (flowB ps m : Nat)) ∧ Below w.heap.size w w' := by
 have hp := pushB_ltU hd m
 have hb := bndB_ltU m
 have hb2 := bndB_ltU (pushB ps m)
 have hp2 := pushB_ltU hd (bndB (listI m))
 have HP1 := Aside0.mk (fun W (h : Below w.heap.size w W) => push v ps m W (hv.below h) hd hm)
 have HP2 := Aside0.mk (fun W (h : Below w.heap.size w W) => push v ps (bndB (listI m)) W (hv.below h) hd hb)
 have HB1 := Aside0.mk (boundaryW m hm (listI_pos h0))
 have HB2 := Aside0.mk (boundaryW (pushB ps m) hp (listI_pos (pushB_zero hd m)))
 have HF : Aside0 (flowB ps m = (m ^^^ bndB (listI (pushB ps m))) ^^^ pushB ps (bndB (listI m))) := ⟨rfl⟩
 obtain ⟨A2, d2, rfl, hl2, -⟩ := id hv
 obtain ⟨P1, hP1⟩ : ∃ P, P = pushB ps m := ⟨_, rfl⟩
 rw [← hP1] at HP1 HB2 HF hb2
 obtain ⟨B1, hB1⟩ : ∃ P, P = bndB (listI m) := ⟨_, rfl⟩
 rw [← hB1] at HB1 HP2 HF hp2
 obtain ⟨B2, hB2⟩ : ∃ P, P = bndB (listI P1) := ⟨_, rfl⟩
 rw [← hB2] at HB2 HF hb2
 obtain ⟨P2, hP2⟩ : ∃ P, P = pushB ps B1 := ⟨_, rfl⟩
 rw [← hP2] at HP2 HF hp2
 have hx1 := xor_u64 m B2 hm hb2
 have hx1l := xor_ltU hm hb2
 obtain ⟨X1, hX1⟩ : ∃ P, P = m ^^^ B2 := ⟨_, rfl⟩
 rw [← hX1] at hx1 hx1l HF
 have hx2 := xor_u64 X1 P2 hx1l hp2
 clear hv hd hm h0 hp hb hP1 hB1 hB2 hP2 hX1 hx1l hp2 hb2
 go_enter Tryz.func165, Tryz.ntmps165
 go_wp2_with (first | (go_at_call 288; refine Aside0.out ?_))
 refine Aside0.mk ?_
 with_reducible refine (HP1.out _ (Below.refl _ _)).mono ?_
 rintro e w2 ⟨rfl, hb⟩
 have HW2 := Aside0.mk hb
 clear hb
 go_wp2_with (first | (go_at_call 182; refine Aside0.out ?_))
 refine Aside0.mk ?_
 with_reducible refine (HB2.out _).mono ?_
 rintro e w3 ⟨rfl, hb⟩
 have HW3 := Aside0.mk (HW2.out.trans (hb.mono HW2.out.size))
 clear hb
 go_wp2_with (first | (go_at_call 182; refine Aside0.out ?_))
 refine Aside0.mk ?_
 with_reducible refine (HB1.out _).mono ?_
 rintro e w4 ⟨rfl, hb⟩
 have HW4 := Aside0.mk (HW3.out.trans (hb.mono HW3.out.size))
 clear hb
 go_wp2_with (first | (go_at_call 288; refine Aside0.out ?_))
 refine Aside0.mk ?_
 with_reducible refine (HP2.out _ HW4.out).mono ?_
 rintro e w5 ⟨rfl, hb⟩
 have HW5 := Aside0.mk (HW4.out.trans (hb.mono HW4.out.size))
 clear hb
 go_wp2
 go_ret
 exact ⟨by rw [HF.out]; rfl, HW5.out⟩
set_option maxRecDepth 100000 in
set_option maxHeartbeats 2000000 in
theorem acyclicCode (a : Int) (ku : Value) (xs : List Int) (v : Value) (ps : List (Int × Int)) (r : Bool) (w : World) (hk : ReadI w ku xs) (hv : ReadP w v ps) :
  Calls Tryz.prog 164 #[cx a ku, v, .bool r] w fun e w' => e = .returned (.int .i64 (if cxOk a xs then (if r && pOk xs ps then (if acyB ps then 0 else 5) else 2) else 1)) ∧ Below w.heap.size w w' := by
 obtain ⟨w1, hw1⟩ : ∃ w1, w1 = w.alloc (.cells #[.int .i64 a, ku] 26) := ⟨_, rfl⟩
 have hB : Below w.heap.size w w1 := by rw [hw1]; exact Below.alloc (Below.refl _ _) (Nat.le_refl _) _
 have c0 : w1.cell? ⟨w.heap.size, 0, none⟩ = some (.int .i64 a) := by rw [hw1]; simp
 have c1 : w1.cell? ⟨w.heap.size, 1, none⟩ = some ku := by rw [hw1]; simp
 have HB := Aside0.mk hB
 have HM := Aside0.mk (pairingCode a ku xs v ps r w1 (hk.below hB) (hv.below hB))
 have HS := Aside0.mk (fun (n : Nat) (hd : PsDom ps) W (h : Below w1.heap.size w1 W) => isAcyclic n ku xs v ps W ((hk.below hB).below h) (ReadP.below (hv.below hB) h) hd)
 obtain ⟨A1, d1, rfl, -⟩ := id hk
 obtain ⟨A2, d2, rfl, -⟩ := id hv
 clear hk hv hB
 cases hx : cxOk a xs with
 | false =>
  rw [hx] at HM
  clear hx
  go_enter Tryz.func164, Tryz.ntmps164
  go_wp2_with (first | (go_at_call 176; rw [← hw1]; clear hw1; refine HM.out.mono ?_; rintro e w2 ⟨rfl, hb⟩; have HB2 := Aside0.mk hb; clear hb))
  go_ret
  exact ⟨rfl, HB.out.trans (HB2.out.mono HB.out.size)⟩
 | true =>
  rw [hx] at HM
  obtain ⟨n, rfl, hc, -⟩ := cxOk_cx hx
  cases hp : (r && pOk xs ps) with
  | false =>
   rw [hp] at HM
   clear hp hx hc
   go_enter Tryz.func164, Tryz.ntmps164
   go_wp2_with (first | (go_at_call 176; rw [← hw1]; clear hw1; refine HM.out.mono ?_; rintro e w2 ⟨rfl, hb⟩; have HB2 := Aside0.mk hb; clear hb))
   go_ret
   exact ⟨rfl, HB.out.trans (HB2.out.mono HB.out.size)⟩
  | true =>
   rw [hp] at HM
   have hp2 : pOk xs ps = true := by rw [Bool.and_eq_true] at hp; exact hp.2
   have HS2 := Aside0.mk (HS.out n (pOk_dom hc hp2))
   obtain ⟨q, hq⟩ : ∃ q, q = acyB ps := ⟨_, rfl⟩
   rw [← hq] at HS2 ⊢
   clear hp hp2 hx hc HS hq
   cases q with
   | true =>
    go_enter Tryz.func164, Tryz.ntmps164
    go_wp2_with (first | (go_at_call 176; rw [← hw1]; clear hw1; refine HM.out.mono ?_; rintro e w2 ⟨rfl, hb⟩; have HB2 := Aside0.mk hb; replace c0 := pw_cell_below hb c0; replace c1 := pw_cell_below hb c1; clear hb) | (go_at_call 245; refine (HS2.out _ HB2.out).mono ?_; rintro e w3 ⟨rfl, hb⟩; have HB3 := Aside0.mk (HB2.out.trans (hb.mono HB2.out.size)); clear hb))
    go_ret
    exact ⟨rfl, HB.out.trans (HB3.out.mono HB.out.size)⟩
   | false =>
    go_enter Tryz.func164, Tryz.ntmps164
    go_wp2_with (first | (go_at_call 176; rw [← hw1]; clear hw1; refine HM.out.mono ?_; rintro e w2 ⟨rfl, hb⟩; have HB2 := Aside0.mk hb; replace c0 := pw_cell_below hb c0; replace c1 := pw_cell_below hb c1; clear hb) | (go_at_call 245; refine (HS2.out _ HB2.out).mono ?_; rintro e w3 ⟨rfl, hb⟩; have HB3 := Aside0.mk (HB2.out.trans (hb.mono HB2.out.size)); clear hb))
    go_ret
    exact ⟨rfl, HB.out.trans (HB3.out.mono HB.out.size)⟩
/-- one number, as a list of the call's own -/
theorem OwnI.single {b : Nat} (W : World) (x : Int) (hb : b ≤ W.heap.size) : OwnI b (W.alloc (.cells #[.int .i64 x] 2)) (.slice (some ⟨W.heap.size, 0, none⟩) 1 1) [x] := by
 have h := own_lit W b 2 .i64 [x] hb (by simp)
 exact OwnI.of_row (b := b) h (Nat.le_refl _)
end Go.Proofs.YtomofijniefelaaGreat.H
