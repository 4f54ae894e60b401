/- Gradient steps, and what they reach: the reference. No face comes back to itself: the reference's l02Acyclic. Desks, by the program and by the reference. -/
import Derived.Test.YtomofijniefelaaGreatKFnFlows1
import Derived.Test.YtomofijniefelaaGreatKFnFlows2
import Derived.Test.YtomofijniefelaaGreatKFnFlows3
import Derived.Test.YtomofijniefelaaGreatKFnFlows4
import Derived.Test.YtomofijniefelaaGreatKFnFlows5
import Derived.Test.YtomofijniefelaaGreatKFnFlows6
import Derived.Test.YtomofijniefelaaGreatKFnFlows7
import Derived.Test.YtomofijniefelaaGreatKFnFlows8
import Derived.Test.YtomofijniefelaaGreatKFnFlows9
import Derived.Test.YtomofijniefelaaGreatKFnFlows10
import Derived.Test.YtomofijniefelaaGreatKFnFlows11

namespace Go.Proofs.YtomofijniefelaaGreat.H
open Go.RowKit Go.Proofs.YtomofijniefelaaGreatW.PrintWords Go.Proofs.YtomofijniefelaaGreatW.PrintLast
set_option linter.unusedVariables false
set_option linter.unusedSimpArgs false
theorem filter_take_hit {p : Int → Bool} {l : List Int} {i : Nat} {y : Int} (h : i < l.length) (hy : l.getD i 0 = y) (hp : p y = true) : (l.take (i + 1)).filter p = (l.take i).filter p ++ [y] := by
 rw [take_get h hy, List.filter_append]; simp [hp]
theorem filter_take_miss {p : Int → Bool} {l : List Int} {i : Nat} {y : Int} (h : i < l.length) (hy : l.getD i 0 = y) (hp : p y = false) : (l.take (i + 1)).filter p = (l.take i).filter p := by
 rw [take_get h hy, List.filter_append]; simp [hp]
set_option maxRecDepth 100000 in
set_option maxHeartbeats 2000000 in
theorem specNext (v : Value) (ps : List (Int × Int)) (a : Int) (w : World) (hv : ReadP w v ps) (hd : PsDom ps) :
  Calls Tryz.prog 332 #[v, .int .i64 a] w fun e w' => ∃ u, e = .returned u ∧ OwnI w.heap.size w' u (nextOf ps a) ∧ Below w.heap.size w w' := by
 have HH := Aside0.mk (specHigh v ps a w hv)
 have hh := high_dom hd a
 obtain ⟨A2, d2, rfl, hl2, -⟩ := id hv
 obtain ⟨h, hhe⟩ : ∃ h, h = highTo ps a := ⟨_, rfl⟩
 rw [← hhe] at HH hh
 by_cases h0 : h = 0
 ·have HN : Aside0 (nextOf ps a = []) := ⟨by unfold nextOf; rw [← hhe, if_pos h0]⟩
  rw [h0] at HH
  clear hv hd hh hhe h0
  go_enter Tryz.func332, Tryz.ntmps332
  go_wp2_with (first | (go_at_call 253; refine HH.out.mono ?_; rintro e w2 ⟨rfl, hb⟩; have HB2 := Aside0.mk hb; clear hb))
  go_ret
  exact ⟨_, rfl, by rw [HN.out]; exact OwnI.empty w2 HB2.out.size, Below.alloc HB2.out HB2.out.size _⟩
 ·obtain ⟨f, rfl⟩ : ∃ f : Nat, h = f := ⟨h.toNat, by omega⟩
  have hf : f ≤ 63 := by omega
  have hf0 : ((f : Int) == 0) = false := by rw [beq_eq_false_iff_ne]; exact h0
  have HN : Aside0 (nextOf ps a = (below f).filter fun z => !(z == a)) := ⟨by unfold nextOf; rw [← hhe, if_neg h0, Int.toNat_natCast]⟩
  have hbl := (below_dom f (by omega)).2
  clear hv hd hh hhe h0
  go_enter Tryz.func332, Tryz.ntmps332
  go_wp2_with (first | (go_at_call 253; refine HH.out.mono ?_; rintro e w2 ⟨rfl, hb⟩; have HB2 := Aside0.mk hb; clear hb) | (go_at_call 285; refine (specBelow f hf _).mono ?_; rintro e w3 ⟨u3, rfl, ho, hb⟩; obtain ⟨A3, d3, rfl, -⟩ := ho.read; have HO3 := Aside0.mk ho; have HB3 := Aside0.mk (show Below w.heap.size w w3 from (Below.alloc HB2.out HB2.out.size _).trans (hb.mono (by have := HB2.out.size; simp; omega))); have HE3 := Aside0.mk (show OwnI w.heap.size w3 (.slice (some ⟨w2.heap.size, 0, none⟩) 0 0) [] from OwnI.below (OwnI.empty w2 HB2.out.size) hb); have HNE3 : Aside0 (∀ k, (Value.slice (some ⟨w2.heap.size, 0, none⟩) 0 0).ownBlock = some k → ∀ k', (Value.slice A3 (below f).length d3).ownBlock = some k' → k ≠ k') := ⟨fun k hk k' hk' => by have h1 := ho.base k' hk'; simp at h1; simp [Value.ownBlock] at hk; omega⟩; clear ho hb))
  go_loopw [6, 8] (fun s6 s8 wr => ∃ i : Nat, s8 = .int .i64 i ∧ i ≤ (below f).length ∧ Aside0 (OwnI w.heap.size wr s6 (((below f).take i).filter fun z => !(z == a))) ∧ Aside0 (OwnI w.heap.size wr (.slice A3 (below f).length d3) (below f)) ∧ Aside0 (∀ k, s6.ownBlock = some k → ∀ k', (Value.slice A3 (below f).length d3).ownBlock = some k' → k ≠ k') ∧ Aside0 (Below w.heap.size w wr)) (fun _ s8 _ => (below f).length - (intOf s8).toNat)
  case atStart => exact ⟨0, rfl, Nat.zero_le _, HE3, ⟨OwnI.lower HO3.out (by have := HB2.out.size; simp; omega)⟩, HNE3, HB3⟩
  case round =>
   obtain ⟨i, rfl, hi, HO, HL, HNE, HB⟩ := hrel
   by_cases hlt : i < (below f).length
   ·obtain ⟨A_, c_, e_, -, hcc⟩ := HL.out.read
    cases e_
    obtain ⟨ad, y, e1, hcell, HY⟩ := ReadI.get hcc hlt
    cases e1
    have hlI : (i : Int) < ((below f).length : Int) := by omega
    clear hcc
    cases hq : (y == a) with
    | true =>
     have hq' : (y != a) = false := by rw [bne, hq]; rfl
     have HF := Aside0.mk (filter_take_miss (p := fun z => !(z == a)) hlt HY.out (by rw [hq]; rfl))
     clear hq
     go_wp2
     go_roundw
     case rel => exact ⟨i + 1, by go_num, by omega, ⟨by rw [HF.out]; exact HO.out⟩, HL, HNE, HB⟩
     case measure => simp [intOf]; omega
    | false =>
     have hq' : (y != a) = true := by rw [bne, hq]; rfl
     have HF := Aside0.mk (filter_take_hit (p := fun z => !(z == a)) hlt HY.out (by rw [hq]; rfl))
     have HLE := Aside0.mk (List.length_filter_le (fun z => !(z == a)) ((below f).take i))
     clear hq
     go_wp2_with (first | ((with_reducible refine gate_builtin (b := .append) (xs := #[.tmp 30, .tmp 35]) rfl ?_); refine app_own (w0 := w) w.heap.size rfl (.tmp 30) (.tmp 35) rfl u6 _ y rfl rfl HO.out HB.out HB.out.size (by have := HLE.out; simp only [List.length_take] at this; omega) ?_; intro v6 w6 ho6 hb6 hg6 hat6; have HO6 := Aside0.mk ho6; have HB6 := Aside0.mk hb6; have HG6 := Aside0.mk hg6; have HA6 := Aside0.mk hat6; clear ho6 hb6 hg6 hat6))
     go_roundw
     case rel =>
      refine ⟨i + 1, by go_num, by omega, ⟨by rw [HF.out]; exact HO6.out⟩, ⟨HL.out.grown HG6.out (fun k hk e => HNE.out k e.symm k hk rfl)⟩, ⟨?_⟩, HB6⟩
      intro k hk k' hk'
      rcases HA6.out with e | ⟨b9, e, hb9⟩
      ·exact HNE.out k (by rw [← e]; exact hk) k' hk'
      ·have h1 := HL.out.lt k' hk'
       rw [e] at hk
       injection hk with hk
       omega
     case measure => simp [intOf]; omega
   ·have e : i = (below f).length := by omega
    have HE := Aside0.mk e
    clear e
    go_wp2
    go_ret
    refine ⟨_, rfl, ?_, HB.out⟩
    have := HO.out
    rw [HE.out, List.take_length] at this
    rw [HN.out]
    exact this
/-- a set as bools -/
def SetB (S : Int → Bool) (b : Nat) (w : World) (v : Value) : Prop := ∃ bs : List Bool, bs.length = 64 ∧ OwnB b w v bs ∧ ∀ i : Nat, i < 64 → bs.getD i false = S i
theorem setB_start {b : Nat} {w : World} {v : Value} (h : OwnB b w v (List.replicate 64 false)) : SetB (fun _ => false) b w v :=
 ⟨_, by rw [List.length_replicate], h, fun i hi => by rw [List.getD_eq_getElem?_getD, List.getElem?_replicate, if_pos hi]; rfl⟩
theorem SetB.below {S : Int → Bool} {b : Nat} {w w' : World} {v : Value} (h : SetB S b w v) (hb : Below w.heap.size w w') : SetB S b w' v := by
 obtain ⟨bs, h1, h2, h3⟩ := h
 exact ⟨bs, h1, h2.below hb, h3⟩
theorem SetB.congr {S S' : Int → Bool} {b : Nat} {w : World} {v : Value} (h : SetB S b w v) (e : ∀ x, S x = S' x) : SetB S' b w v := by
 obtain ⟨bs, h1, h2, h3⟩ := h
 exact ⟨bs, h1, h2, fun i hi => (h3 i hi).trans (e i)⟩
theorem SetB.base {S : Int → Bool} {b : Nat} {w : World} {v : Value} (h : SetB S b w v) : ∀ k, v.ownBlock = some k → b ≤ k := by
 obtain ⟨bs, h1, h2, h3⟩ := h
 exact h2.base
theorem SetB.lt {S : Int → Bool} {b : Nat} {w : World} {v : Value} (h : SetB S b w v) : ∀ k, v.ownBlock = some k → k < w.heap.size := by
 obtain ⟨bs, h1, h2, h3⟩ := h
 exact h2.lt
theorem SetB.grown {S : Int → Bool} {b g c : Nat} {w w' : World} {row : Option Nat} (h : SetB S b w (.slice (some ⟨g, 0, none⟩) 64 c)) (hg : w.grownBy w' row) (hn : some g ≠ row) : SetB S b w' (.slice (some ⟨g, 0, none⟩) 64 c) := by
 obtain ⟨bs, h1, h2, h3⟩ := h
 exact ⟨bs, h1, h2.grown hg (fun k hk => (show k = g by simpa [Value.ownBlock] using hk.symm) ▸ hn), h3⟩
theorem SetB.look {S : Int → Bool} {b g c : Nat} {w : World} (h : SetB S b w (.slice (some ⟨g, 0, none⟩) 64 c)) {i : Nat} (hi : i < 64) : w.cell? ⟨g, i, none⟩ = some (.bool (S i)) := by
 obtain ⟨bs, h1, h2, h3⟩ := h
 rw [(h2.cell hi).1, h3 i hi]
section
variable {P : Program} {ops : Array Oper} {rest : List Oper} {o : Oper} {a : Act} {Q : Exit → Act → World → Prop}
theorem SetB.put {S : Int → Bool} {b g c : Nat} {W : World} (h : SetB S b W (.slice (some ⟨g, 0, none⟩) 64 c)) (hgd : o.guard = none) {p : Tmp} {v : Operand} (ho : o.op = .store 4 (.tmp p) v) (hN : o.dst = none)
  (i : Nat) (hi : i < 64) (hp : a.eval (.tmp p) = .pointer (some ⟨g, i, none⟩)) (hv : a.eval v = .bool true)
  (hK : ∀ w', SetB (fun z => z == (i : Int) || S z) b w' (.slice (some ⟨g, 0, none⟩) 64 c) → W.grownBy w' (some g) → wpList Tryz.prog ops Q rest a w') : wpList Tryz.prog ops Q (o :: rest) a W := by
 obtain ⟨bs, h1, h2, h3⟩ := h
 refine store_bool (w0 := W) hgd ho hN i true h2 hi hp hv (fun w' ho' hg hb => hK w' ⟨bs.set i true, by rw [List.length_set]; exact h1, ho', fun j hj => ?_⟩ hg)
 rw [List.getD_eq_getElem?_getD, List.getElem?_set]
 show _ = ((j : Int) == (i : Int) || S j)
 by_cases e : i = j
 ·subst e
  rw [if_pos rfl, if_pos (by omega)]
  simp
 ·rw [if_neg e, ← List.getD_eq_getElem?_getD, h3 j hj, show ((j : Int) == (i : Int)) = false from by rw [beq_eq_false_iff_ne]; omega, Bool.false_or]
end
theorem own_blk' (A : Option Addr) (n n' : Nat) {c : Nat} : (Value.slice A n c).ownBlock = (Value.slice A n' c).ownBlock := by cases A <;> rfl
set_option maxRecDepth 100000 in
set_option maxHeartbeats 4000000 in
theorem specReached (v : Value) (ps : List (Int × Int)) (a : Int) (w : World) (hv : ReadP w v ps) (hd : PsDom ps) :
  Calls Tryz.prog 237 #[v, .int .i64 a] w fun e w' => ∃ g c, e = .returned (.slice (some ⟨g, 0, none⟩) 64 c) ∧ SetB (reachB (nextOf ps) a) w.heap.size w' (.slice (some ⟨g, 0, none⟩) 64 c) ∧ Below w.heap.size w w' := by
 obtain ⟨N, hN⟩ : ∃ N, N = nextOf ps := ⟨_, rfl⟩
 have HND := Aside0.mk (fun x => (by rw [hN]; exact next_dom hd x : (∀ y ∈ N x, 0 ≤ y ∧ y < 64) ∧ (N x).length ≤ 6))
 have HNX := Aside0.mk (fun W x (h : Below w.heap.size w W) => hN ▸ specNext v ps x W (ReadP.below hv h) hd)
 have HN := Aside0.mk hN
 obtain ⟨A2, d2, rfl, hl2, -⟩ := id hv
 have hmx : Tryz.prog.follows .mixedOrders = true := by kernel_rfl
 clear hv hN hd
 go_enter Tryz.func237, Tryz.ntmps237
 go_wp2
 refine wp_region_g Bl (fun w => (Below.refl _ w).drew) (fun _ _ _ => Bl.trans) (fun i => match i with | 0 => fun v W => OwnB w.heap.size W v (List.replicate 64 false) | 1 => fun v _ => v = .slice A2 ps.length d2 | 2 => fun v _ => v = .int .i64 a | 3 => fun v W => OwnI w.heap.size W v (N a) | 4 => fun v W => OwnB w.heap.size W v (List.replicate 64 false) | 5 => fun v W => OwnI w.heap.size W v (N a) | _ => fun _ _ => True)
  [0, 0, 0, 6, 15, 31] hmx (by kernel_rfl) ?st ?steps ?rest
 case st =>
  intro i v w1_ w2_ hb
  match i with
  | 1 | 2 => exact id
  | 0 => exact fun h => h.below hb
  | 3 => exact fun h => OwnI.below h hb
  | 4 => exact fun h => h.below hb
  | 5 => exact fun h => OwnI.below h hb
  | n + 6 => exact id
 case steps =>
  refine ⟨?_, ?_, ?_, ?_, ?_, ?_, trivial⟩
  ·intro s w_ hb hd hq R hR
   generalize hA : putAll _ 0 s _ = A
   clear hq
   have hR' := hR (.slice (some ⟨w_.heap.size, 0, none⟩) 64 64) _ (Below.alloc (Below.refl _ _) (Nat.le_refl _) _) (OwnB.made w_ 64 (by decide) (Below.size hb))
   have hrun : (Instr.makeSlice 181 (.int .i64 64) (.int .i64 64)).run Tryz.prog w_ = _ := run_makeB 64 (by decide) w_
   clear hR hd
   refine opGives_value ?_ hR'
   subst hA
   simp only [dsOf, List.map_cons, List.map_nil, Option.getD_some, putAll, Act.put, List.setIfInBounds_toArray, List.set_cons_zero, List.set_cons_succ]
   go_simp
  ·intro s w_ hb hd hq R hR
   generalize hA : putAll _ 0 s _ = A
   clear hq
   have hR' := hR (.slice A2 ps.length d2) _ (Below.refl _ _) rfl
   clear hR hd
   refine opGives_value ?_ hR'
   subst hA
   simp only [dsOf, List.map_cons, List.map_nil, Option.getD_some, putAll, Act.put, List.setIfInBounds_toArray, List.set_cons_zero, List.set_cons_succ]
   go_simp
  ·intro s w_ hb hd hq R hR
   generalize hA : putAll _ 0 s _ = A
   clear hq
   have hR' := hR (.int .i64 a) _ (Below.refl _ _) rfl
   clear hR hd
   refine opGives_value ?_ hR'
   subst hA
   simp only [dsOf, List.map_cons, List.map_nil, Option.getD_some, putAll, Act.put, List.setIfInBounds_toArray, List.set_cons_zero, List.set_cons_succ]
   go_simp
  ·intro s w_ hb hd hq R hR
   generalize hA : putAll _ 0 s _ = A
   have e1 : s 1 = _ := hd 1 (by kernel_rfl)
   have e2 : s 2 = _ := hd 2 (by kernel_rfl)
   clear hq
   refine opGives_call (f := 332) (args := #[.slice A2 ps.length d2, .int .i64 a]) ?_ ?_
   ·subst hA
    clear hR hd
    simp only [dsOf, List.map_cons, List.map_nil, Option.getD_some, putAll, Act.put, List.setIfInBounds_toArray, List.set_cons_zero, List.set_cons_succ]
    go_simp
   clear hA A hd
   refine (HNX.out w_ a (Below.mono hb (Nat.le_refl _))).mono ?_
   rintro e w3_ ⟨u, rfl, ho, hb3⟩
   exact ⟨_, rfl, hR _ _ hb3 (OwnI.lower ho (Below.size hb))⟩
  ·intro s w_ hb hd hq R hR
   generalize hA : putAll _ 0 s _ = A
   have o0_ : OwnB w.heap.size w_ (s 0) (List.replicate 64 false) := hd 0 (by kernel_rfl)
   obtain ⟨g0_, k0_, e0, -⟩ := o0_.form (by simp)
   rw [List.length_replicate] at e0
   rw [e0] at o0_
   clear hq
   have hR' := hR (.slice (some ⟨g0_, 0, none⟩) 64 k0_) _ (Below.refl _ _) o0_
   clear hR hd
   refine opGives_value ?_ hR'
   subst hA
   simp only [dsOf, List.map_cons, List.map_nil, Option.getD_some, putAll, Act.put, List.setIfInBounds_toArray, List.set_cons_zero, List.set_cons_succ]
   go_simp
  ·intro s w_ hb hd hq R hR
   generalize hA : putAll _ 0 s _ = A
   have o3_ : OwnI w.heap.size w_ (s 3) (N a) := hd 3 (by kernel_rfl)
   obtain ⟨A3_, d3_, e3, -⟩ := o3_.read
   rw [e3] at o3_
   clear hq
   have hR' := hR (.slice A3_ (N a).length d3_) _ (Below.refl _ _) o3_
   clear hR hd
   refine opGives_value ?_ hR'
   subst hA
   simp only [dsOf, List.map_cons, List.map_nil, Option.getD_some, putAll, Act.put, List.setIfInBounds_toArray, List.set_cons_zero, List.set_cons_succ]
   go_simp
 case rest =>
  intro s9 w9 hb hv
  have o4_ : OwnB w.heap.size w9 (s9 4) (List.replicate 64 false) := hv 4 (by decide)
  obtain ⟨g4_, k4_, e4_, hg4a_, hg4b_⟩ := o4_.form (by simp)
  rw [List.length_replicate] at e4_
  rw [e4_] at o4_
  have o5_ : OwnI w.heap.size w9 (s9 5) (N a) := hv 5 (by decide)
  obtain ⟨A5_, d5_, e5_, -⟩ := o5_.read
  rw [e5_] at o5_
  simp only [dsOf, List.map_cons, List.map_nil, Option.getD_some, putAll, Act.put, List.setIfInBounds_toArray, List.set_cons_zero, List.set_cons_succ]
  rw [e4_, e5_]
  clear hv e4_ e5_
  have HNE : Aside0 (∀ k, (Value.slice A5_ (N a).length d5_).ownBlock = some k → k ≠ g4_) := ⟨fun k hk e => by
   rcases own_type_ne (Kd.own_of_R o5_) (Kd.own_of_R o4_) (by decide) with h | h
   ·rw [h] at hk; cases hk
   ·exact h (by rw [hk, e]; simp [Value.ownBlock])⟩
  have HO5 := Aside0.mk o5_
  have HS4 := Aside0.mk (setB_start o4_)
  have HB4 := Aside0.mk (show Below w.heap.size w w9 from hb)
  have hNa := (HND.out a).2
  clear o5_ o4_ hb hg4a_ hg4b_
  go_wp2
  go_loopg [6] 454 (fun k s6 wr => ∃ S T, Aside0 (OwnI w.heap.size wr s6 T) ∧ Aside0 (SetB S w.heap.size wr (.slice (some ⟨g4_, 0, none⟩) 64 k4_)) ∧ Aside0 (SI N a S T) ∧ Aside0 (∀ z ∈ T, 0 ≤ z ∧ z < 64) ∧ Aside0 ((64 - cnt S) * 7 + T.length ≤ k) ∧ Aside0 (k ≤ 454) ∧ Aside0 (∀ k, s6.ownBlock = some k → k ≠ g4_) ∧ Aside0 (Below w.heap.size w wr))
  case atStart => exact ⟨_, _, HO5, HS4, ⟨SI.start N a⟩, ⟨(HND.out a).1⟩, ⟨by rw [cnt_none]; omega⟩, ⟨Nat.le_refl _⟩, HNE, HB4⟩
  case round =>
   obtain ⟨S, T, HO, HS, HI, HD, HK, HK9, HNEr, HBr⟩ := hrel
   rcases List.eq_nil_or_concat T with hT | ⟨T0, x, hT⟩
   ·subst hT
    obtain ⟨A6, d6, rfl, -⟩ := HO.out.read
    go_wp2
    go_ret
    refine ⟨_, _, rfl, HS.out.congr (fun x => ?_), HBr.out⟩
    rw [← HN.out]
    exact reach_of (fun x => (HND.out x).1) (fun x => (HND.out x).2) HI.out.fin x
   ·rw [List.concat_eq_append] at hT
    obtain ⟨m, hm⟩ : ∃ m, m = T0.length := ⟨_, rfl⟩
    have hTl : T.length = m + 1 := by rw [hT, hm]; simp
    obtain ⟨g6, c6, rfl, hb6, hl6, -⟩ := Kd.R_form HO.out (by omega)
    rw [hTl] at HO HNEr ⊢
    have hxd := HD.out x (by rw [hT]; simp)
    obtain ⟨xn, rfl⟩ : ∃ xn : Nat, x = xn := ⟨x.toNat, by omega⟩
    have hxn : xn < 64 := by omega
    have hmI : (m : Int) < 454 := by have h1 := HK.out; have h2 := HK9.out; omega
    have hcx : wr.cell? ⟨g6, m, none⟩ = some (.int .i64 (xn : Nat)) := by
     obtain ⟨A_, c_, e_, -, hcc⟩ := HO.out.read
     rw [hTl] at e_ hcc
     cases e_
     obtain ⟨ad, e1, hcell⟩ := ReadI.at_ (xs := T) (by rw [hTl]; exact hcc) (i := m) (by omega)
     cases e1
     rw [add_mk] at hcell
     rw [hcell, hT, List.getD_eq_getElem?_getD, List.getElem?_append_right (by omega), hm]
     simp
    have hcm := HS.out.look hxn
    have hc6 : (m : Int) ≤ (c6 : Int) := by
     obtain ⟨A_, c_, e_, hle, -⟩ := HO.out.read
     injection e_ with _ _ e3_
     omega
    have HE : Aside0 (∀ z, z ∈ T ↔ z = (xn : Int) ∨ z ∈ T0) := ⟨fun z => by rw [hT]; simp [or_comm]⟩
    have hkk : 1 ≤ gk := by have := HK.out; omega
    have HC : Aside0 (OwnI w.heap.size wr (.slice (some ⟨g6, 0, none⟩) m c6) T0) := ⟨by have h1 := HO.out.cut (i := m) (by omega); rwa [show T.take m = T0 by rw [hT, hm, List.take_left]] at h1⟩
    have HM := Aside0.mk hm
    have HTL := Aside0.mk hTl
    clear hm hT hTl hb6 hl6
    cases hs : S xn with
    | true =>
     rw [hs] at hcm
     have HSX := Aside0.mk hs
     clear hs
     go_wp2
     go_roundg (gk - 1)
     case measure => omega
     case rel => exact ⟨S, T0, HC, HS, ⟨HI.out.skip HE.out HSX.out⟩, ⟨fun z hz => HD.out z ((HE.out z).2 (.inr hz))⟩, ⟨by have h1 := HK.out; have h2 := HTL.out; have h3 := HM.out; omega⟩, ⟨by have := HK9.out; omega⟩, ⟨fun k hk => HNEr.out k (by rw [own_blk' _ _ m]; exact hk)⟩, HBr⟩
    | false =>
     rw [hs] at hcm
     have HSX := Aside0.mk hs
     clear hs
     have HCA := Aside0.mk (cnt_add HSX.out (by omega) (by omega))
     have HCL := Aside0.mk (cnt_le (fun z => z == (xn : Int) || S z))
     have hNx := (HND.out xn).2
     go_wp2_with (first | ((with_reducible refine gate_store (t := 4) (p := 32) rfl ?_); refine HS.out.put rfl (p := 32) rfl rfl xn hxn rfl rfl ?_; intro w5 hs5 hg5; have HS5 := Aside0.mk hs5; have HB5 := Aside0.mk (HBr.out.trans (below_grown hg5 (HS.out.base _ rfl) HBr.out.size)); have HC5 := Aside0.mk (HC.out.grown hg5 (fun k hk e => HNEr.out k (by rw [own_blk' _ _ m]; exact hk) (by injection e))); clear hs5 hg5) | (go_at_call 332; refine (HNX.out _ _ HB5.out).mono ?_; rintro e w6 ⟨u6, rfl, ho, hb⟩; obtain ⟨A6, d6, rfl, -, hr6⟩ := ho.read; have HR6 := Aside0.mk hr6; have HS6 := Aside0.mk (HS5.out.below hb); have HC6 := Aside0.mk (OwnI.below HC5.out hb); have HB6 := Aside0.mk (HB5.out.trans (hb.mono HB5.out.size)); clear ho hb hr6) | ((with_reducible refine gate_builtin (b := .append) (xs := #[.tmp 33, .tmp 36]) rfl ?_); refine Kd.R_append_row (Value.int .i64) (0 : Int) (w0 := w) w.heap.size rfl (.tmp 33) (.tmp 36) 24 2 (.int .i64 0) 8 rfl Tryz.underlying24 info64 rfl (by decide) (.slice (some ⟨g6, 0, none⟩) m c6) T0 (N xn) A6 (N xn).length d6 (fun _ => True) rfl rfl (fun _ _ => trivial) HC6.out HR6.out HB6.out HB6.out.size (by have := HM.out; omega) ?_; intro v7 w7 ho7 hb7 hg7 hat7; have HO7 := Aside0.mk ho7; have HB7 := Aside0.mk hb7; have HG7 := Aside0.mk hg7; have HA7 := Aside0.mk hat7; clear ho7 hb7 hg7 hat7))
     go_roundg (gk - 1)
     case measure => omega
     case rel =>
      refine ⟨fun z => z == (xn : Int) || S z, T0 ++ N xn, HO7, ⟨HS6.out.grown HG7.out (fun e => HNEr.out g4_ (by rw [own_blk' _ _ m]; exact e.symm) rfl)⟩, ⟨HI.out.mark HE.out (fun z => by rw [List.mem_append]; exact or_comm)⟩, ⟨fun z hz => ?_⟩, ⟨?_⟩, ⟨by have := HK9.out; omega⟩, ⟨?_⟩, HB7⟩
      ·rcases List.mem_append.1 hz with hz | hz
       ·exact HD.out z ((HE.out z).2 (.inr hz))
       ·exact (HND.out xn).1 z hz
      ·have h1 := HK.out
       have h2 := HTL.out
       have h3 := HM.out
       have h4 := HCA.out
       have h5 := HCL.out
       rw [List.length_append]
       omega
      ·intro k hk
       rcases HA7.out with e | ⟨b9, e, hb9⟩
       ·exact HNEr.out k (by rw [own_blk' _ _ m, ← e]; exact hk)
       ·rw [e] at hk
        injection hk with hk
        have := HS6.out.lt g4_ rfl
        omega
theorem SetB.lower {S : Int → Bool} {b : Nat} {w : World} {v : Value} (h : SetB S b w v) : SetB S 0 w v := by
 obtain ⟨bs, h1, h2, h3⟩ := h
 exact ⟨bs, h1, h2.lower (Nat.zero_le _), h3⟩
theorem acy_false {ps : List (Int × Int)} {i : Nat} {x y : Int} (h : ps[i]? = some (x, y)) (hr : reachB (nextOf ps) x x = true) : acyB ps = false := by
 unfold acyB
 rw [List.all_eq_false]
 exact ⟨_, List.mem_of_getElem? h, by rw [hr]; decide⟩
theorem acy_true {ps : List (Int × Int)} (h : ∀ j p, j < ps.length → ps[j]? = some p → reachB (nextOf ps) p.1 p.1 = false) : acyB ps = true := by
 unfold acyB
 rw [List.all_eq_true]
 intro p hp
 obtain ⟨j, hj⟩ := List.mem_iff_getElem?.1 hp
 rw [h j p (List.getElem?_eq_some_iff.1 hj).1 hj]; rfl
set_option maxRecDepth 100000 in
set_option maxHeartbeats 4000000 in
theorem specAcyclic (v : Value) (ps : List (Int × Int)) (w : World) (hv : ReadP w v ps) (hd : PsDom ps) :
  Calls Tryz.prog 181 #[v] w fun e w' => e = .returned (.bool (acyB ps)) ∧ Below w.heap.size w w' := by
 have HV := Aside0.mk hv
 have HD := Aside0.mk hd
 have HRX := Aside0.mk (fun x W (h : Below w.heap.size w W) => specReached v ps x W (ReadP.below hv h) hd)
 obtain ⟨A2, d2, rfl, hl2, -⟩ := id hv
 have hmx : Tryz.prog.follows .mixedOrders = true := by kernel_rfl
 clear hv hd
 go_enter Tryz.func181, Tryz.ntmps181
 go_wp2
 go_loopw [3] (fun s3 wr => ∃ i : Nat, s3 = .int .i64 i ∧ i ≤ ps.length ∧ Aside0 (∀ j p, j < i → ps[j]? = some p → reachB (nextOf ps) p.1 p.1 = false) ∧ Aside0 (Below w.heap.size w wr)) (fun s3 _ => ps.length - (intOf s3).toNat)
 case atStart => exact ⟨0, rfl, Nat.zero_le _, ⟨fun j p h => absurd h (Nat.not_lt_zero _)⟩, ⟨Below.refl _ _⟩⟩
 case round =>
  obtain ⟨iv, rfl, hi, HN, HB⟩ := hrel
  by_cases hlt : iv < ps.length
  ·obtain ⟨gb, x, y, rfl, hxy, hc0, hc1⟩ := ReadP.get (HV.out.below HB.out) hlt
   have hxd := (HD.out (x, y) (List.mem_of_getElem? hxy)).1
   obtain ⟨xn, rfl⟩ : ∃ xn : Nat, x = xn := ⟨x.toNat, by simp only at hxd; omega⟩
   have hxn : xn < 64 := by simp only at hxd; omega
   have hxI : (xn : Int) < 64 := by omega
   have hiI : (iv : Int) < (ps.length : Int) := by omega
   have HXY := Aside0.mk hxy
   have HRC := Aside0.mk (fun W (h : Below wr.heap.size wr W) => HRX.out (xn : Nat) W (HB.out.trans (h.mono HB.out.size)))
   obtain ⟨r, hr⟩ : ∃ r, r = reachB (nextOf ps) (xn : Nat) (xn : Nat) := ⟨_, rfl⟩
   have HR := Aside0.mk hr
   clear hxy hxd hc1 hr
   go_wp2
   refine wp_region_g Bl (fun w => (Below.refl _ w).drew) (fun _ _ _ => Bl.trans) (fun i => match i with | 0 => fun v _ => v = .slice (some ⟨gb, 0, none⟩) ps.length d2 | 1 => fun v _ => v = .slice (some ⟨gb, 0, none⟩) ps.length d2 | 2 => fun v _ => v = .int .i64 (iv : Nat) | 3 => fun v _ => v = .pointer (some ⟨gb, iv * 2, none⟩) | 4 => fun v _ => v = .pointer (some ⟨gb, iv * 2, none⟩) | 5 => fun v _ => v = .int .i64 (xn : Nat) | 6 => fun v W => ∃ g c, v = .slice (some ⟨g, 0, none⟩) 64 c ∧ SetB (reachB (nextOf ps) (xn : Nat)) 0 W (.slice (some ⟨g, 0, none⟩) 64 c) | 7 => fun v _ => v = .slice (some ⟨gb, 0, none⟩) ps.length d2 | 8 => fun v _ => v = .int .i64 (iv : Nat) | 9 => fun v _ => v = .pointer (some ⟨gb, iv * 2, none⟩) | 10 => fun v _ => v = .pointer (some ⟨gb, iv * 2, none⟩) | 11 => fun v _ => v = .int .i64 (xn : Nat) | 12 => fun v W => ∃ g c, v = .pointer (some ⟨g, xn, none⟩) ∧ SetB (reachB (nextOf ps) (xn : Nat)) 0 W (.slice (some ⟨g, 0, none⟩) 64 c) | 13 => fun v _ => v = .bool ((reachB (nextOf ps) (xn : Nat)) (xn : Nat)) | _ => fun _ _ => True)
    [0, 0, 0, 6, 14, 30, 63, 0, 0, 384, 896, 1920, 4095, 8191] hmx (by kernel_rfl) ?st ?steps ?rest
   case st =>
    intro i v w1_ w2_ hb
    match i with
    | 0 | 1 | 2 | 3 | 4 | 5 | 7 | 8 | 9 | 10 | 11 | 13 => exact id
    | 6 => exact fun ⟨g, c, e, h⟩ => ⟨g, c, e, h.below hb⟩
    | 12 => exact fun ⟨g, c, e, h⟩ => ⟨g, c, e, h.below hb⟩
    | n + 14 => exact id
   case steps =>
    refine ⟨?_, ?_, ?_, ?_, ?_, ?_, ?_, ?_, ?_, ?_, ?_, ?_, ?_, ?_, trivial⟩
    ·intro s w_ hb hd hq R hR
     generalize hA : putAll _ 0 s _ = A
     clear hq
     have hR' := hR (.slice (some ⟨gb, 0, none⟩) ps.length d2) _ (Below.refl _ _) rfl
     clear hR hd
     refine opGives_value ?_ hR'
     subst hA
     simp only [dsOf, List.map_cons, List.map_nil, Option.getD_some, putAll, Act.put, List.setIfInBounds_toArray, List.set_cons_zero, List.set_cons_succ]
     go_simp
    ·intro s w_ hb hd hq R hR
     generalize hA : putAll _ 0 s _ = A
     clear hq
     have hR' := hR (.slice (some ⟨gb, 0, none⟩) ps.length d2) _ (Below.refl _ _) rfl
     clear hR hd
     refine opGives_value ?_ hR'
     subst hA
     simp only [dsOf, List.map_cons, List.map_nil, Option.getD_some, putAll, Act.put, List.setIfInBounds_toArray, List.set_cons_zero, List.set_cons_succ]
     go_simp
    ·intro s w_ hb hd hq R hR
     generalize hA : putAll _ 0 s _ = A
     clear hq
     have hR' := hR (.int .i64 (iv : Nat)) _ (Below.refl _ _) rfl
     clear hR hd
     refine opGives_value ?_ hR'
     subst hA
     simp only [dsOf, List.map_cons, List.map_nil, Option.getD_some, putAll, Act.put, List.setIfInBounds_toArray, List.set_cons_zero, List.set_cons_succ]
     go_simp
    ·intro s w_ hb hd hq R hR
     generalize hA : putAll _ 0 s _ = A
     have e1 : s 1 = _ := hd 1 (by kernel_rfl)
     have e2 : s 2 = _ := hd 2 (by kernel_rfl)
     clear hq
     have hR' := hR (.pointer (some ⟨gb, iv * 2, none⟩)) _ (Below.refl _ _) rfl
     clear hR hd
     refine opGives_value ?_ hR'
     subst hA
     simp only [dsOf, List.map_cons, List.map_nil, Option.getD_some, putAll, Act.put, List.setIfInBounds_toArray, List.set_cons_zero, List.set_cons_succ]
     go_simp
    ·intro s w_ hb hd hq R hR
     generalize hA : putAll _ 0 s _ = A
     have e3 : s 3 = _ := hd 3 (by kernel_rfl)
     clear hq
     have hR' := hR (.pointer (some ⟨gb, iv * 2, none⟩)) _ (Below.refl _ _) rfl
     clear hR hd
     refine opGives_value ?_ hR'
     subst hA
     simp only [dsOf, List.map_cons, List.map_nil, Option.getD_some, putAll, Act.put, List.setIfInBounds_toArray, List.set_cons_zero, List.set_cons_succ]
     go_simp
    ·intro s w_ hb hd hq R hR
     generalize hA : putAll _ 0 s _ = A
     have e4 : s 4 = _ := hd 4 (by kernel_rfl)
     clear hq
     have c0_ := pw_cell_below hb hc0
     have hR' := hR (.int .i64 (xn : Nat)) _ (Below.refl _ _) rfl
     clear hR hd
     refine opGives_value ?_ hR'
     subst hA
     simp only [dsOf, List.map_cons, List.map_nil, Option.getD_some, putAll, Act.put, List.setIfInBounds_toArray, List.set_cons_zero, List.set_cons_succ]
     go_simp
    ·intro s w_ hb hd hq R hR
     generalize hA : putAll _ 0 s _ = A
     have e0 : s 0 = _ := hd 0 (by kernel_rfl)
     have e5 : s 5 = _ := hd 5 (by kernel_rfl)
     clear hq
     refine opGives_call (f := 237) (args := #[.slice (some ⟨gb, 0, none⟩) ps.length d2, .int .i64 (xn : Nat)]) ?_ ?_
     ·subst hA
      clear hR hd
      simp only [dsOf, List.map_cons, List.map_nil, Option.getD_some, putAll, Act.put, List.setIfInBounds_toArray, List.set_cons_zero, List.set_cons_succ]
      go_simp
     clear hA A hd
     refine (HRC.out w_ (Below.mono hb (Nat.le_refl _))).mono ?_
     rintro e w3_ ⟨g, c, rfl, hs, hb3⟩
     exact ⟨_, rfl, hR _ _ hb3 ⟨g, c, rfl, hs.lower⟩⟩
    ·intro s w_ hb hd hq R hR
     generalize hA : putAll _ 0 s _ = A
     clear hq
     have hR' := hR (.slice (some ⟨gb, 0, none⟩) ps.length d2) _ (Below.refl _ _) rfl
     clear hR hd
     refine opGives_value ?_ hR'
     subst hA
     simp only [dsOf, List.map_cons, List.map_nil, Option.getD_some, putAll, Act.put, List.setIfInBounds_toArray, List.set_cons_zero, List.set_cons_succ]
     go_simp
    ·intro s w_ hb hd hq R hR
     generalize hA : putAll _ 0 s _ = A
     clear hq
     have hR' := hR (.int .i64 (iv : Nat)) _ (Below.refl _ _) rfl
     clear hR hd
     refine opGives_value ?_ hR'
     subst hA
     simp only [dsOf, List.map_cons, List.map_nil, Option.getD_some, putAll, Act.put, List.setIfInBounds_toArray, List.set_cons_zero, List.set_cons_succ]
     go_simp
    ·intro s w_ hb hd hq R hR
     generalize hA : putAll _ 0 s _ = A
     have e7 : s 7 = _ := hd 7 (by kernel_rfl)
     have e8 : s 8 = _ := hd 8 (by kernel_rfl)
     clear hq
     have hR' := hR (.pointer (some ⟨gb, iv * 2, none⟩)) _ (Below.refl _ _) rfl
     clear hR hd
     refine opGives_value ?_ hR'
     subst hA
     simp only [dsOf, List.map_cons, List.map_nil, Option.getD_some, putAll, Act.put, List.setIfInBounds_toArray, List.set_cons_zero, List.set_cons_succ]
     go_simp
    ·intro s w_ hb hd hq R hR
     generalize hA : putAll _ 0 s _ = A
     have e9 : s 9 = _ := hd 9 (by kernel_rfl)
     clear hq
     have hR' := hR (.pointer (some ⟨gb, iv * 2, none⟩)) _ (Below.refl _ _) rfl
     clear hR hd
     refine opGives_value ?_ hR'
     subst hA
     simp only [dsOf, List.map_cons, List.map_nil, Option.getD_some, putAll, Act.put, List.setIfInBounds_toArray, List.set_cons_zero, List.set_cons_succ]
     go_simp
    ·intro s w_ hb hd hq R hR
     generalize hA : putAll _ 0 s _ = A
     have e10 : s 10 = _ := hd 10 (by kernel_rfl)
     clear hq
     have c0_ := pw_cell_below hb hc0
     have hR' := hR (.int .i64 (xn : Nat)) _ (Below.refl _ _) rfl
     clear hR hd
     refine opGives_value ?_ hR'
     subst hA
     simp only [dsOf, List.map_cons, List.map_nil, Option.getD_some, putAll, Act.put, List.setIfInBounds_toArray, List.set_cons_zero, List.set_cons_succ]
     go_simp
    ·intro s w_ hb hd hq R hR
     generalize hA : putAll _ 0 s _ = A
     obtain ⟨g6_, c6_, e6, h6_⟩ : ∃ g c, s 6 = .slice (some ⟨g, 0, none⟩) 64 c ∧ SetB (reachB (nextOf ps) (xn : Nat)) 0 w_ (.slice (some ⟨g, 0, none⟩) 64 c) := hd 6 (by kernel_rfl)
     have e11 : s 11 = _ := hd 11 (by kernel_rfl)
     clear hq
     have hR' := hR (.pointer (some ⟨g6_, xn, none⟩)) _ (Below.refl _ _) ⟨g6_, c6_, rfl, h6_⟩
     clear hR hd
     refine opGives_value ?_ hR'
     subst hA
     simp only [dsOf, List.map_cons, List.map_nil, Option.getD_some, putAll, Act.put, List.setIfInBounds_toArray, List.set_cons_zero, List.set_cons_succ]
     go_simp
    ·intro s w_ hb hd hq R hR
     generalize hA : putAll _ 0 s _ = A
     obtain ⟨g12_, c12_, e12, h12_⟩ : ∃ g c, s 12 = .pointer (some ⟨g, xn, none⟩) ∧ SetB (reachB (nextOf ps) (xn : Nat)) 0 w_ (.slice (some ⟨g, 0, none⟩) 64 c) := hd 12 (by kernel_rfl)
     clear hq
     have cl_ := h12_.look hxn
     have hR' := hR (.bool ((reachB (nextOf ps) (xn : Nat)) (xn : Nat))) _ (Below.refl _ _) rfl
     clear hR hd
     refine opGives_value ?_ hR'
     subst hA
     simp only [dsOf, List.map_cons, List.map_nil, Option.getD_some, putAll, Act.put, List.setIfInBounds_toArray, List.set_cons_zero, List.set_cons_succ]
     go_simp
   case rest =>
    intro s9 w9 hb hv
    have e13_ : s9 13 = _ := hv 13 (by decide)
    simp only [dsOf, List.map_cons, List.map_nil, Option.getD_some, putAll, Act.put, List.setIfInBounds_toArray, List.set_cons_zero, List.set_cons_succ]
    rw [e13_]
    clear hv e13_
    rw [← HR.out]
    cases r with
    | true =>
     go_wp2
     go_ret
     exact ⟨by rw [acy_false HXY.out HR.out.symm]; rfl, HB.out.trans (Below.mono hb HB.out.size)⟩
    | false =>
     go_wp2
     go_roundw
     case rel => exact ⟨iv + 1, by go_num, by omega, ⟨fun j p hj hp => by
      rcases Nat.lt_succ_iff_lt_or_eq.1 hj with h | rfl
      ·exact HN.out j p h hp
      ·rw [HXY.out] at hp; cases hp; exact HR.out.symm⟩, ⟨HB.out.trans (Below.mono hb HB.out.size)⟩⟩
     case measure => simp [intOf]; omega
  ·have e : iv = ps.length := by omega
   have HE := Aside0.mk e
   clear e
   go_wp2
   go_ret
   exact ⟨by rw [acy_true (fun j p hj hp => HN.out j p (by rw [HE.out]; exact hj) hp)]; rfl, HB.out⟩
end Go.Proofs.YtomofijniefelaaGreat.H
