/- Draws of two complexes and a map: DrawImageComplex, DrawIsSimplicial. As wp_region_w; one assignment among the stores, that waits for no more than they do. -/
import Derived.Test.YtomofijniefelaaGreatKFnMaps1
import Derived.Test.YtomofijniefelaaGreatKFnMaps2
import Derived.Test.YtomofijniefelaaGreatKFnMaps3
import Derived.Test.YtomofijniefelaaGreatKFnMaps4
import Derived.Test.YtomofijniefelaaGreatKFnMaps5
import Derived.Test.YtomofijniefelaaGreatKFnMaps6
import Derived.Test.YtomofijniefelaaGreatKFnMaps7
import Derived.Test.YtomofijniefelaaGreatKFnMaps8
import Derived.Test.YtomofijniefelaaGreatKFnMaps9
import Derived.Test.YtomofijniefelaaGreatKFnMaps10
import Derived.Test.YtomofijniefelaaGreatKFnMaps11
import Derived.Test.YtomofijniefelaaGreatKFnMaps12
import Derived.Test.YtomofijniefelaaGreatKFnMaps13
import Derived.Test.YtomofijniefelaaGreatKFnMaps14
import Derived.Test.YtomofijniefelaaGreatKFnMaps15

namespace Go.Proofs.YtomofijniefelaaGreat.H
open Go.RowKit Go.Proofs.YtomofijniefelaaGreatW.PrintWords Go.Proofs.YtomofijniefelaaGreatW.PrintLast
set_option linter.unusedVariables false
set_option linter.unusedSimpArgs false
/-- a draw of two complexes and a map, out of a code -/
def MapDraw (w : World) (e : Ending) (w' : World) : Prop := ∃ (a b : Int) (u z lv : Value) (ys zs p : List Int), e = .returned (.tuple #[.agg #[.int .i64 a, u], .agg #[.int .i64 b, z], lv]) ∧ OwnI w.heap.size w' u ys ∧ OwnI w.heap.size w' z zs ∧ OwnI w.heap.size w' lv p ∧ Rc a ys ∧ Rc b zs ∧ p.length ≤ 7 ∧ (∀ x ∈ p, -1 ≤ x ∧ x ≤ 6) ∧ Below w.heap.size w w'
def DrawsMap (f : FuncId) : Prop := ∀ (v : Value) (n : Nat) (w : World), n ≤ 4096 → ReadY w v n → Calls Tryz.prog f #[v] w (MapDraw w)
set_option maxRecDepth 100000 in
set_option maxHeartbeats 4000000 in
theorem drawImageComplex : DrawsMap 10 := by
 intro v nb w hn hv
 obtain ⟨w1, hw1⟩ : ∃ w1, w1 = (w.alloc C0).alloc C0 := ⟨_, rfl⟩
 have hB : Below w.heap.size w w1 := by rw [hw1]; exact ((Below.refl _ w).alloc (Nat.le_refl _) _).alloc (by simp) _
 have hsz : w1.heap.size = w.heap.size + 2 := by rw [hw1]; simp
 have hk0 : w1.heap[w.heap.size]? = some C0 := by
  rw [hw1]; exact blk_below (heap_alloc_new w _) (Below.alloc (Below.refl _ _) (Nat.le_refl _) _)
 have hk1 : w1.heap[w.heap.size + 1]? = some C0 := by
  rw [hw1]; have h := heap_alloc_new (w.alloc C0) C0
  rw [World.size_alloc] at h
  exact h
 have HB1 := Aside0.mk hB
 have HZ := Aside0.mk hsz
 have HK0 := Aside0.mk hk0
 have HK1 := Aside0.mk hk1
 have HFR := Aside0.mk (srcFrom v nb hn w1 (hv.below hB))
 have hmx : Tryz.prog.follows .mixedOrders = true := by kernel_rfl
 clear hv hB hk0 hk1 hsz
 go_enter Tryz.func10, Tryz.ntmps10
 go_wp2_with (first | (go_at_call 117; rw [← hw1]; clear hw1; refine HFR.out.mono ?_; rintro e w2 ⟨rfl, hs, hb⟩; have HS2 := Aside0.mk hs; have HB2 := Aside0.mk hb; clear hs hb) | (go_at_call 116; refine Aside0.out ?_))
 refine Aside0.mk ?_
 with_reducible refine (drawWith w1.heap.size w2 HS2.out).mono ?_
 rintro e w3 ⟨a, b, u, z, lv, ys, zs, p, rfl, hu, hz, hp, hra, hrb, hpl, hpb, hd⟩
 obtain ⟨Au, cu, rfl, -⟩ := id hu.read
 obtain ⟨Az, cz, rfl, -⟩ := id hz.read
 obtain ⟨Ap, cp, rfl, -⟩ := id hp.read
 have hB3 : Below w1.heap.size w1 w3 := HB2.out.trans (below_grown hd.1 (Nat.le_refl _) HB2.out.size)
 obtain ⟨w4, hw4⟩ : ∃ w4, w4 = (w3.alloc (.cells #[.int .i64 a, .slice Au ys.length cu] 26)).alloc (.cells #[.int .i64 b, .slice Az zs.length cz] 26) := ⟨_, rfl⟩
 have hb4 : Below w3.heap.size w3 w4 := by rw [hw4]; exact ((Below.refl _ w3).alloc (Nat.le_refl _) _).alloc (by simp) _
 have h5 : w4.heap[w3.heap.size]? = some (.cells #[.int .i64 a, .slice Au ys.length cu] 26) := by
  rw [hw4]; exact blk_below (heap_alloc_new w3 _) (Below.alloc (Below.refl _ _) (Nat.le_refl _) _)
 have h6 : w4.heap[w3.heap.size + 1]? = some (.cells #[.int .i64 b, .slice Az zs.length cz] 26) := by
  rw [hw4]; have h := heap_alloc_new (w3.alloc (.cells #[.int .i64 a, .slice Au ys.length cu] 26)) (.cells #[.int .i64 b, .slice Az zs.length cz] 26)
  rw [World.size_alloc] at h
  exact h
 have hB4 : Below w1.heap.size w1 w4 := hB3.trans (hb4.mono hB3.size)
 have hz0 := HZ.out
 have hs3 := hB3.size
 have HB4 := Aside0.mk hB4
 have H5 := Aside0.mk h5
 have H6 := Aside0.mk h6
 have HC := Aside0.mk (blk_up hB4 (by omega) HK0.out)
 have HC1 := Aside0.mk (blk_up hB4 (by omega) HK1.out)
 have HU := Aside0.mk ((hu.below hb4).lower (b' := w.heap.size) (by have := HB2.out.size; omega))
 have HV2 := Aside0.mk ((hz.below hb4).lower (b' := w.heap.size) (by have := HB2.out.size; omega))
 have HP := Aside0.mk ((hp.below hb4).lower (b' := w.heap.size) (by have := HB2.out.size; omega))
 have HRA := Aside0.mk hra
 have HRB := Aside0.mk hrb
 have HPL := Aside0.mk hpl
 have HPB := Aside0.mk hpb
 clear hu hz hp hra hrb hpl hpb hd hB3 hb4 h5 h6 hB4
 obtain ⟨k, hk⟩ : ∃ k, k = w3.heap.size := ⟨_, rfl⟩
 rw [← hk] at H5 H6 hs3
 go_upto_region 2 with (fail)
 rw [← hw4, ← hk]
 clear hw4 hk
 obtain ⟨L, hL⟩ : ∃ L : List Ent, L = [⟨3, w.heap.size, a, .slice Au ys.length cu⟩, ⟨4, w.heap.size + 1, b, .slice Az zs.length cz⟩] := ⟨_, rfl⟩
 have hm : ∀ e, e ∈ L ↔ e = ⟨3, w.heap.size, a, .slice Au ys.length cu⟩ ∨ e = ⟨4, w.heap.size + 1, b, .slice Az zs.length cz⟩ := fun e => by rw [hL]; simp only [List.mem_cons, List.not_mem_nil, or_false]
 have hc0 : ∀ e ∈ L, w4.heap[e.k]? = some C0 := fun e he => by
  rcases (hm e).1 he with rfl | rfl
  ·exact HC.out
  ·exact HC1.out
 have hlo : ∀ e ∈ L, w.heap.size ≤ e.k ∧ e.k < w.heap.size + 2 := fun e he => by
  rcases (hm e).1 he with rfl | rfl <;> exact ⟨by simp, by simp⟩
 have hu1 : ∀ e ∈ L, ∀ e' ∈ L, e'.k = e.k → e' = e := fun e he e' he' hq => by
  rcases (hm e).1 he with rfl | rfl <;> rcases (hm e').1 he' with rfl | rfl <;> first | rfl | (simp at hq)
 have hu2 : ∀ e ∈ L, ∀ e' ∈ L, e'.j = e.j → e' = e := fun e he e' he' hq => by
  rcases (hm e).1 he with rfl | rfl <;> rcases (hm e').1 he' with rfl | rfl <;> first | rfl | (simp at hq)
 have HM := Aside0.mk hm
 have HC0 := Aside0.mk hc0
 have HLO := Aside0.mk hlo
 have HU1 := Aside0.mk hu1
 have HU2 := Aside0.mk hu2
 clear hL hm hc0 hlo hu1 hu2
 refine wp_region_w 3 5 (by decide) (fun i => !(i == 3) && !(i == 4)) (fun i => match i with | 0 => fun v => v = .agg #[.int .i64 a, .slice Au ys.length cu] | 1 => fun v => v = .agg #[.int .i64 b, .slice Az zs.length cz] | 2 => fun v => v = .slice Ap p.length cp | _ => fun _ => True)
  (fun b _ W => CO w4 L b W) [0, 0, 0, 1, 11, 31] hmx (by kernel_rfl) ?start ?stay ?steps ?stores ?rest
 case start =>
  intro b s hb
  exact CO.start HC0.out hb
 case stay =>
  intro i b s v w1_ hq hI
  refine hI.quiet (fun e he => ?_)
  simp only [Bool.and_eq_true, Bool.not_eq_true', beq_eq_false_iff_ne, Bool.true_and] at hq
  rcases (HM.out e).1 he with rfl | rfl <;> first | exact fun h => hq.1 h.symm | exact fun h => hq.2 h.symm | exact fun h => hq.1.1 h.symm | exact fun h => hq.1.2 h.symm | exact fun h => hq h.symm
 case steps =>
  refine ⟨?_, ?_, ?_, trivial⟩
  ·intro s b_ w_ hI hbi hd hq R hR hN
   generalize hA : putAll _ 0 s _ = A
   clear hq
   refine stepG_on rfl ?_
   have hkb := hI.blk H5.out (fun e he => by have := (HLO.out e he).2; omega)
   have k0 := blk_cell hkb 0
   have k1 := blk_cell hkb 1
   clear hkb
   have hR' := hR rfl (.agg #[.int .i64 a, .slice Au ys.length cu]) rfl
   clear hR hN hd
   refine opGives_value ?_ hR'
   subst hA
   simp only [dsOf, List.take, List.map_cons, List.map_nil, Option.getD_some, putAll, Act.put, List.setIfInBounds_toArray, List.set_cons_zero, List.set_cons_succ]
   go_simp
  ·intro s b_ w_ hI hbi hd hq R hR hN
   generalize hA : putAll _ 0 s _ = A
   clear hq
   refine stepG_on rfl ?_
   have hkb := hI.blk H6.out (fun e he => by have := (HLO.out e he).2; omega)
   have k0 := blk_cell hkb 0
   have k1 := blk_cell hkb 1
   clear hkb
   have hR' := hR rfl (.agg #[.int .i64 b, .slice Az zs.length cz]) rfl
   clear hR hN hd
   refine opGives_value ?_ hR'
   subst hA
   simp only [dsOf, List.take, List.map_cons, List.map_nil, Option.getD_some, putAll, Act.put, List.setIfInBounds_toArray, List.set_cons_zero, List.set_cons_succ]
   go_simp
  ·intro s b_ w_ hI hbi hd hq R hR hN
   generalize hA : putAll _ 0 s _ = A
   clear hq
   refine stepG_on rfl ?_
   have hR' := hR rfl (.slice Ap p.length cp) rfl
   clear hR hN hd
   refine opGives_value ?_ hR'
   subst hA
   simp only [dsOf, List.take, List.map_cons, List.map_nil, Option.getD_some, putAll, Act.put, List.setIfInBounds_toArray, List.set_cons_zero, List.set_cons_succ]
   go_simp
 case stores =>
  intro i o h1 h2 ho s b_ w_ hI hbi hd
  match i, h1, h2, ho, hbi, hd with
  | 3, h1, h2, ho, hbi, hd =>
   cases ho
   refine ⟨rfl, ?_⟩
   have e0 : s 0 = _ := (hd 0 (by decide) (by kernel_rfl)).2 (by decide) rfl
   have he : (⟨3, w.heap.size, a, .slice Au ys.length cu⟩ : Ent) ∈ L := (HM.out _).2 (by simp)
   have hk := hI.out _ he
   rw [hbi, if_neg (by decide)] at hk
   have c00 : w_.cell? ⟨w.heap.size, 0, none⟩ = some (.int .i64 0) := blk_cell hk 0
   have c01 : w_.cell? ⟨w.heap.size, 1, none⟩ = some (.slice none 0 0) := blk_cell hk 1
   have f00 : w_.frozen? ⟨w.heap.size, 0, none⟩ = false := blk_frozen hk 0
   have f01 : w_.frozen? ⟨w.heap.size, 1, none⟩ = false := blk_frozen hk 1
   generalize hA : putAll _ 0 s _ = A
   refine ⟨(w_.setCell ⟨w.heap.size, 0, none⟩ (.int .i64 a)).setCell ⟨w.heap.size, 1, none⟩ (.slice Au ys.length cu), ?_, ?_⟩
   ·subst hA
    simp only [dsOf, List.take, List.map_cons, List.map_nil, Option.getD_some, putAll, Act.put, List.setIfInBounds_toArray, List.set_cons_zero, List.set_cons_succ]
    clear hd
    go_simp
   ·exact hI.put he hbi (HU1.out _ he) (HU2.out _ he)
  | 4, h1, h2, ho, hbi, hd =>
   cases ho
   refine ⟨rfl, ?_⟩
   have e1 : s 1 = _ := (hd 1 (by decide) (by kernel_rfl)).2 (by decide) rfl
   have he : (⟨4, w.heap.size + 1, b, .slice Az zs.length cz⟩ : Ent) ∈ L := (HM.out _).2 (by simp)
   have hk := hI.out _ he
   rw [hbi, if_neg (by decide)] at hk
   have c00 : w_.cell? ⟨w.heap.size + 1, 0, none⟩ = some (.int .i64 0) := blk_cell hk 0
   have c01 : w_.cell? ⟨w.heap.size + 1, 1, none⟩ = some (.slice none 0 0) := blk_cell hk 1
   have f00 : w_.frozen? ⟨w.heap.size + 1, 0, none⟩ = false := blk_frozen hk 0
   have f01 : w_.frozen? ⟨w.heap.size + 1, 1, none⟩ = false := blk_frozen hk 1
   generalize hA : putAll _ 0 s _ = A
   refine ⟨(w_.setCell ⟨w.heap.size + 1, 0, none⟩ (.int .i64 b)).setCell ⟨w.heap.size + 1, 1, none⟩ (.slice Az zs.length cz), ?_, ?_⟩
   ·subst hA
    simp only [dsOf, List.take, List.map_cons, List.map_nil, Option.getD_some, putAll, Act.put, List.setIfInBounds_toArray, List.set_cons_zero, List.set_cons_succ]
    clear hd
    go_simp
   ·exact hI.put he hbi (HU1.out _ he) (HU2.out _ he)
  | n + 5, h1, h2, ho, hbi, hd => exact absurd h2 (by omega)
 case rest =>
  intro sf b_ wf hI hb hv
  have e0_ : sf 0 = _ := hv 0 (by decide) rfl
  have e1_ : sf 1 = _ := hv 1 (by decide) rfl
  have e2_ : sf 2 = _ := hv 2 (by decide) rfl
  simp only [dsOf, List.take, List.map_cons, List.map_nil, Option.getD_some, putAll, Act.put, List.setIfInBounds_toArray, List.set_cons_zero, List.set_cons_succ]
  clear hv
  have hk3 := hI.out _ ((HM.out ⟨3, w.heap.size, a, .slice Au ys.length cu⟩).2 (by simp))
  rw [hb 3 (by decide), if_pos rfl] at hk3
  have HF3 := Aside0.mk hk3
  clear hk3
  have hk4 := hI.out _ ((HM.out ⟨4, w.heap.size + 1, b, .slice Az zs.length cz⟩).2 (by simp))
  rw [hb 4 (by decide), if_pos rfl] at hk4
  have HF4 := Aside0.mk hk4
  clear hk4
  have HCO := Aside0.mk hI
  rw [e2_]
  clear hb hI e0_ e1_ e2_
  simp only [List.drop]
  unfold tailList
  refine .inl ?_
  refine opGives_value (v := .slice Ap p.length cp) (w' := wf) ?_ ?_
  ·go_simp
  simp only [List.drop, Act.put, List.setIfInBounds_toArray, List.set_cons_zero, List.set_cons_succ]
  unfold tailList
  go_wp2
  refine bodyPost_ret (results_cct rfl _ _ w.heap.size (w.heap.size + 1) 26 26 #[.int .i64 a, .slice Au ys.length cu] #[.int .i64 b, .slice Az zs.length cz] (0, 0) (0, 0) _ _ rfl HF3.out Tryz.underlying26 rfl (by kernel_rfl) rfl HF4.out Tryz.underlying26 rfl (by kernel_rfl)) rfl ?_
  exact ⟨a, b, .slice Au ys.length cu, .slice Az zs.length cz, .slice Ap p.length cp, ys, zs, p, rfl, HCO.out.own HU.out HC0.out, HCO.out.own HV2.out HC0.out, HCO.out.own HP.out HC0.out, HRA.out, HRB.out, HPL.out, HPB.out, HCO.out.below (HB1.out.trans (HB4.out.mono HB1.out.size)) (Nat.le_trans HB1.out.size HB4.out.size) (fun e he => (HLO.out e he).1)⟩
set_option maxRecDepth 100000 in
set_option maxHeartbeats 4000000 in
theorem drawIsSimplicial : DrawsMap 29 := by
 intro v nb w hn hv
 obtain ⟨w1, hw1⟩ : ∃ w1, w1 = (w.alloc C0).alloc C0 := ⟨_, rfl⟩
 have hB : Below w.heap.size w w1 := by rw [hw1]; exact ((Below.refl _ w).alloc (Nat.le_refl _) _).alloc (by simp) _
 have hsz : w1.heap.size = w.heap.size + 2 := by rw [hw1]; simp
 have hk0 : w1.heap[w.heap.size]? = some C0 := by
  rw [hw1]; exact blk_below (heap_alloc_new w _) (Below.alloc (Below.refl _ _) (Nat.le_refl _) _)
 have hk1 : w1.heap[w.heap.size + 1]? = some C0 := by
  rw [hw1]; have h := heap_alloc_new (w.alloc C0) C0
  rw [World.size_alloc] at h
  exact h
 have HB1 := Aside0.mk hB
 have HZ := Aside0.mk hsz
 have HK0 := Aside0.mk hk0
 have HK1 := Aside0.mk hk1
 have HFR := Aside0.mk (srcFrom v nb hn w1 (hv.below hB))
 have hmx : Tryz.prog.follows .mixedOrders = true := by kernel_rfl
 clear hv hB hk0 hk1 hsz
 go_enter Tryz.func29, Tryz.ntmps29
 go_wp2_with (first | (go_at_call 117; rw [← hw1]; clear hw1; refine HFR.out.mono ?_; rintro e w2 ⟨rfl, hs, hb⟩; have HS2 := Aside0.mk hs; have HB2 := Aside0.mk hb; clear hs hb) | (go_at_call 116; refine Aside0.out ?_))
 refine Aside0.mk ?_
 with_reducible refine (drawWith w1.heap.size w2 HS2.out).mono ?_
 rintro e w3 ⟨a, b, u, z, lv, ys, zs, p, rfl, hu, hz, hp, hra, hrb, hpl, hpb, hd⟩
 obtain ⟨Au, cu, rfl, -⟩ := id hu.read
 obtain ⟨Az, cz, rfl, -⟩ := id hz.read
 obtain ⟨Ap, cp, rfl, -⟩ := id hp.read
 have hB3 : Below w1.heap.size w1 w3 := HB2.out.trans (below_grown hd.1 (Nat.le_refl _) HB2.out.size)
 obtain ⟨w4, hw4⟩ : ∃ w4, w4 = (w3.alloc (.cells #[.int .i64 a, .slice Au ys.length cu] 26)).alloc (.cells #[.int .i64 b, .slice Az zs.length cz] 26) := ⟨_, rfl⟩
 have hb4 : Below w3.heap.size w3 w4 := by rw [hw4]; exact ((Below.refl _ w3).alloc (Nat.le_refl _) _).alloc (by simp) _
 have h5 : w4.heap[w3.heap.size]? = some (.cells #[.int .i64 a, .slice Au ys.length cu] 26) := by
  rw [hw4]; exact blk_below (heap_alloc_new w3 _) (Below.alloc (Below.refl _ _) (Nat.le_refl _) _)
 have h6 : w4.heap[w3.heap.size + 1]? = some (.cells #[.int .i64 b, .slice Az zs.length cz] 26) := by
  rw [hw4]; have h := heap_alloc_new (w3.alloc (.cells #[.int .i64 a, .slice Au ys.length cu] 26)) (.cells #[.int .i64 b, .slice Az zs.length cz] 26)
  rw [World.size_alloc] at h
  exact h
 have hB4 : Below w1.heap.size w1 w4 := hB3.trans (hb4.mono hB3.size)
 have hz0 := HZ.out
 have hs3 := hB3.size
 have HB4 := Aside0.mk hB4
 have H5 := Aside0.mk h5
 have H6 := Aside0.mk h6
 have HC := Aside0.mk (blk_up hB4 (by omega) HK0.out)
 have HC1 := Aside0.mk (blk_up hB4 (by omega) HK1.out)
 have HU := Aside0.mk ((hu.below hb4).lower (b' := w.heap.size) (by have := HB2.out.size; omega))
 have HV2 := Aside0.mk ((hz.below hb4).lower (b' := w.heap.size) (by have := HB2.out.size; omega))
 have HP := Aside0.mk ((hp.below hb4).lower (b' := w.heap.size) (by have := HB2.out.size; omega))
 have HRA := Aside0.mk hra
 have HRB := Aside0.mk hrb
 have HPL := Aside0.mk hpl
 have HPB := Aside0.mk hpb
 clear hu hz hp hra hrb hpl hpb hd hB3 hb4 h5 h6 hB4
 obtain ⟨k, hk⟩ : ∃ k, k = w3.heap.size := ⟨_, rfl⟩
 rw [← hk] at H5 H6 hs3
 go_upto_region 2 with (fail)
 rw [← hw4, ← hk]
 clear hw4 hk
 obtain ⟨L, hL⟩ : ∃ L : List Ent, L = [⟨3, w.heap.size, a, .slice Au ys.length cu⟩, ⟨4, w.heap.size + 1, b, .slice Az zs.length cz⟩] := ⟨_, rfl⟩
 have hm : ∀ e, e ∈ L ↔ e = ⟨3, w.heap.size, a, .slice Au ys.length cu⟩ ∨ e = ⟨4, w.heap.size + 1, b, .slice Az zs.length cz⟩ := fun e => by rw [hL]; simp only [List.mem_cons, List.not_mem_nil, or_false]
 have hc0 : ∀ e ∈ L, w4.heap[e.k]? = some C0 := fun e he => by
  rcases (hm e).1 he with rfl | rfl
  ·exact HC.out
  ·exact HC1.out
 have hlo : ∀ e ∈ L, w.heap.size ≤ e.k ∧ e.k < w.heap.size + 2 := fun e he => by
  rcases (hm e).1 he with rfl | rfl <;> exact ⟨by simp, by simp⟩
 have hu1 : ∀ e ∈ L, ∀ e' ∈ L, e'.k = e.k → e' = e := fun e he e' he' hq => by
  rcases (hm e).1 he with rfl | rfl <;> rcases (hm e').1 he' with rfl | rfl <;> first | rfl | (simp at hq)
 have hu2 : ∀ e ∈ L, ∀ e' ∈ L, e'.j = e.j → e' = e := fun e he e' he' hq => by
  rcases (hm e).1 he with rfl | rfl <;> rcases (hm e').1 he' with rfl | rfl <;> first | rfl | (simp at hq)
 have HM := Aside0.mk hm
 have HC0 := Aside0.mk hc0
 have HLO := Aside0.mk hlo
 have HU1 := Aside0.mk hu1
 have HU2 := Aside0.mk hu2
 clear hL hm hc0 hlo hu1 hu2
 refine wp_region_w 3 5 (by decide) (fun i => !(i == 3) && !(i == 4)) (fun i => match i with | 0 => fun v => v = .agg #[.int .i64 a, .slice Au ys.length cu] | 1 => fun v => v = .agg #[.int .i64 b, .slice Az zs.length cz] | 2 => fun v => v = .slice Ap p.length cp | _ => fun _ => True)
  (fun b _ W => CO w4 L b W) [0, 0, 0, 1, 11, 31] hmx (by kernel_rfl) ?start ?stay ?steps ?stores ?rest
 case start =>
  intro b s hb
  exact CO.start HC0.out hb
 case stay =>
  intro i b s v w1_ hq hI
  refine hI.quiet (fun e he => ?_)
  simp only [Bool.and_eq_true, Bool.not_eq_true', beq_eq_false_iff_ne, Bool.true_and] at hq
  rcases (HM.out e).1 he with rfl | rfl <;> first | exact fun h => hq.1 h.symm | exact fun h => hq.2 h.symm | exact fun h => hq.1.1 h.symm | exact fun h => hq.1.2 h.symm | exact fun h => hq h.symm
 case steps =>
  refine ⟨?_, ?_, ?_, trivial⟩
  ·intro s b_ w_ hI hbi hd hq R hR hN
   generalize hA : putAll _ 0 s _ = A
   clear hq
   refine stepG_on rfl ?_
   have hkb := hI.blk H5.out (fun e he => by have := (HLO.out e he).2; omega)
   have k0 := blk_cell hkb 0
   have k1 := blk_cell hkb 1
   clear hkb
   have hR' := hR rfl (.agg #[.int .i64 a, .slice Au ys.length cu]) rfl
   clear hR hN hd
   refine opGives_value ?_ hR'
   subst hA
   simp only [dsOf, List.take, List.map_cons, List.map_nil, Option.getD_some, putAll, Act.put, List.setIfInBounds_toArray, List.set_cons_zero, List.set_cons_succ]
   go_simp
  ·intro s b_ w_ hI hbi hd hq R hR hN
   generalize hA : putAll _ 0 s _ = A
   clear hq
   refine stepG_on rfl ?_
   have hkb := hI.blk H6.out (fun e he => by have := (HLO.out e he).2; omega)
   have k0 := blk_cell hkb 0
   have k1 := blk_cell hkb 1
   clear hkb
   have hR' := hR rfl (.agg #[.int .i64 b, .slice Az zs.length cz]) rfl
   clear hR hN hd
   refine opGives_value ?_ hR'
   subst hA
   simp only [dsOf, List.take, List.map_cons, List.map_nil, Option.getD_some, putAll, Act.put, List.setIfInBounds_toArray, List.set_cons_zero, List.set_cons_succ]
   go_simp
  ·intro s b_ w_ hI hbi hd hq R hR hN
   generalize hA : putAll _ 0 s _ = A
   clear hq
   refine stepG_on rfl ?_
   have hR' := hR rfl (.slice Ap p.length cp) rfl
   clear hR hN hd
   refine opGives_value ?_ hR'
   subst hA
   simp only [dsOf, List.take, List.map_cons, List.map_nil, Option.getD_some, putAll, Act.put, List.setIfInBounds_toArray, List.set_cons_zero, List.set_cons_succ]
   go_simp
 case stores =>
  intro i o h1 h2 ho s b_ w_ hI hbi hd
  match i, h1, h2, ho, hbi, hd with
  | 3, h1, h2, ho, hbi, hd =>
   cases ho
   refine ⟨rfl, ?_⟩
   have e0 : s 0 = _ := (hd 0 (by decide) (by kernel_rfl)).2 (by decide) rfl
   have he : (⟨3, w.heap.size, a, .slice Au ys.length cu⟩ : Ent) ∈ L := (HM.out _).2 (by simp)
   have hk := hI.out _ he
   rw [hbi, if_neg (by decide)] at hk
   have c00 : w_.cell? ⟨w.heap.size, 0, none⟩ = some (.int .i64 0) := blk_cell hk 0
   have c01 : w_.cell? ⟨w.heap.size, 1, none⟩ = some (.slice none 0 0) := blk_cell hk 1
   have f00 : w_.frozen? ⟨w.heap.size, 0, none⟩ = false := blk_frozen hk 0
   have f01 : w_.frozen? ⟨w.heap.size, 1, none⟩ = false := blk_frozen hk 1
   generalize hA : putAll _ 0 s _ = A
   refine ⟨(w_.setCell ⟨w.heap.size, 0, none⟩ (.int .i64 a)).setCell ⟨w.heap.size, 1, none⟩ (.slice Au ys.length cu), ?_, ?_⟩
   ·subst hA
    simp only [dsOf, List.take, List.map_cons, List.map_nil, Option.getD_some, putAll, Act.put, List.setIfInBounds_toArray, List.set_cons_zero, List.set_cons_succ]
    clear hd
    go_simp
   ·exact hI.put he hbi (HU1.out _ he) (HU2.out _ he)
  | 4, h1, h2, ho, hbi, hd =>
   cases ho
   refine ⟨rfl, ?_⟩
   have e1 : s 1 = _ := (hd 1 (by decide) (by kernel_rfl)).2 (by decide) rfl
   have he : (⟨4, w.heap.size + 1, b, .slice Az zs.length cz⟩ : Ent) ∈ L := (HM.out _).2 (by simp)
   have hk := hI.out _ he
   rw [hbi, if_neg (by decide)] at hk
   have c00 : w_.cell? ⟨w.heap.size + 1, 0, none⟩ = some (.int .i64 0) := blk_cell hk 0
   have c01 : w_.cell? ⟨w.heap.size + 1, 1, none⟩ = some (.slice none 0 0) := blk_cell hk 1
   have f00 : w_.frozen? ⟨w.heap.size + 1, 0, none⟩ = false := blk_frozen hk 0
   have f01 : w_.frozen? ⟨w.heap.size + 1, 1, none⟩ = false := blk_frozen hk 1
   generalize hA : putAll _ 0 s _ = A
   refine ⟨(w_.setCell ⟨w.heap.size + 1, 0, none⟩ (.int .i64 b)).setCell ⟨w.heap.size + 1, 1, none⟩ (.slice Az zs.length cz), ?_, ?_⟩
   ·subst hA
    simp only [dsOf, List.take, List.map_cons, List.map_nil, Option.getD_some, putAll, Act.put, List.setIfInBounds_toArray, List.set_cons_zero, List.set_cons_succ]
    clear hd
    go_simp
   ·exact hI.put he hbi (HU1.out _ he) (HU2.out _ he)
  | n + 5, h1, h2, ho, hbi, hd => exact absurd h2 (by omega)
 case rest =>
  intro sf b_ wf hI hb hv
  have e0_ : sf 0 = _ := hv 0 (by decide) rfl
  have e1_ : sf 1 = _ := hv 1 (by decide) rfl
  have e2_ : sf 2 = _ := hv 2 (by decide) rfl
  simp only [dsOf, List.take, List.map_cons, List.map_nil, Option.getD_some, putAll, Act.put, List.setIfInBounds_toArray, List.set_cons_zero, List.set_cons_succ]
  clear hv
  have hk3 := hI.out _ ((HM.out ⟨3, w.heap.size, a, .slice Au ys.length cu⟩).2 (by simp))
  rw [hb 3 (by decide), if_pos rfl] at hk3
  have HF3 := Aside0.mk hk3
  clear hk3
  have hk4 := hI.out _ ((HM.out ⟨4, w.heap.size + 1, b, .slice Az zs.length cz⟩).2 (by simp))
  rw [hb 4 (by decide), if_pos rfl] at hk4
  have HF4 := Aside0.mk hk4
  clear hk4
  have HCO := Aside0.mk hI
  rw [e2_]
  clear hb hI e0_ e1_ e2_
  simp only [List.drop]
  unfold tailList
  refine .inl ?_
  refine opGives_value (v := .slice Ap p.length cp) (w' := wf) ?_ ?_
  ·go_simp
  simp only [List.drop, Act.put, List.setIfInBounds_toArray, List.set_cons_zero, List.set_cons_succ]
  unfold tailList
  go_wp2
  refine bodyPost_ret (results_cct rfl _ _ w.heap.size (w.heap.size + 1) 26 26 #[.int .i64 a, .slice Au ys.length cu] #[.int .i64 b, .slice Az zs.length cz] (0, 0) (0, 0) _ _ rfl HF3.out Tryz.underlying26 rfl (by kernel_rfl) rfl HF4.out Tryz.underlying26 rfl (by kernel_rfl)) rfl ?_
  exact ⟨a, b, .slice Au ys.length cu, .slice Az zs.length cz, .slice Ap p.length cp, ys, zs, p, rfl, HCO.out.own HU.out HC0.out, HCO.out.own HV2.out HC0.out, HCO.out.own HP.out HC0.out, HRA.out, HRB.out, HPL.out, HPB.out, HCO.out.below (HB1.out.trans (HB4.out.mono HB1.out.size)) (Nat.le_trans HB1.out.size HB4.out.size) (fun e he => (HLO.out e he).1)⟩
theorem wp_region_x {P : Program} {id : Nat} {Q : Exit → Act → World → Prop} {a : Act} {w : World} {l : List Oper} (k1 k m : Nat) (d : Tmp) (v0 : Value) (hkk : k1 ≤ k) (hkm : k1 ≤ m ∧ m < k) (qt : Nat → Bool) (V : Nat → Value → Prop) (I : (Nat → Bool) → (Nat → Value) → World → Prop) (B : List Nat) (hm : P.follows .mixedOrders = true) (hok : tailOkW l B a.tmps.size k1 k = true) (hdm : (decide (d ∉ dsOf (l.take k1)) && decide (d < a.tmps.size) && (l[m]?.map fun o => o.dst == some d).getD false) = true)
  (hI0 : ∀ b s, (∀ i, b i = false) → I b s w.drew)
  (hI : ∀ i b s v w1, qt i = true → I b s w1 → I (markU b i) (upd s i v) w1)
  (hIm : ∀ b s w1, I b s w1 → I (markU b m) s w1)
  (hs : ∀ x, uSteps qt V I P (l.take k1) B (a.put (some d) x) 0 (l.take k1))
  (hmv : ∀ o, l[m]? = some o → ∀ x s b w1, I b s w1 → b m = false → (∀ j, j < m → (B.getD m 0).testBit j = true → b j = true ∧ (j < k1 → qt j = true → V j (s j))) → opGives P o (putAll (dsOf (l.take k1)) 0 s (a.put (some d) x)).eval w1 (fun v w2 => v = v0 ∧ w2 = w1))
  (ht : ∀ i o, k1 ≤ i → i < k → i ≠ m → l[i]? = some o → ∀ x s b w1, I b s w1 → b i = false → (∀ j, j < i → (B.getD i 0).testBit j = true → b j = true ∧ (j < k1 → qt j = true → V j (s j))) → o.dst = none ∧ ∃ w', (execOp (putAll (dsOf (l.take k1)) 0 s (a.put (some d) x)).eval o).run P w1 = .ok .skip w' ∧ I (markU b i) s w')
  (hend : ∀ s b w1, I b s w1 → (∀ i, i < k → b i = true) → (∀ i, i < k1 → qt i = true → V i (s i)) → tailList P Q (l.drop k) (putAll (dsOf (l.take k1)) 0 s (a.put (some d) v0)) w1) : (Code.region id l.toArray true).wp P Q a w := by
 simp only [Bool.and_eq_true] at hdm
 obtain ⟨⟨hd1, hd2⟩, hd3⟩ := hdm
 have hd1 : d ∉ dsOf (l.take k1) := of_decide_eq_true hd1
 have hd2 : d < a.tmps.size := of_decide_eq_true hd2
 simp only [tailOkW, Bool.and_eq_true] at hok
 obtain ⟨⟨⟨⟨⟨⟨⟨⟨hk, h1⟩, h0⟩, h2⟩, h3⟩, h4⟩, h5⟩, hBt⟩, hBd⟩ := hok
 have hk : k < l.length := of_decide_eq_true hk
 have hnd : (dsOf (l.take k1)).Nodup := of_decide_eq_true h2
 have hBt : ∀ i j, i < l.length → k ≤ i → j < i → (B.getD i 0).testBit j = true := by
  intro i j hi hki hj
  have := List.all_eq_true.1 hBt i (List.mem_range.2 hi)
  rw [decide_eq_false (by omega), Bool.false_or] at this
  exact List.all_eq_true.1 this j (List.mem_range.2 hj)
 have hBd : ∀ i j, i < k → j < l.length → (B.getD i 0).testBit j = true → j < i := by
  intro i j hi hj hij
  have := List.all_eq_true.1 (List.all_eq_true.1 hBd i (List.mem_range.2 hi)) j (List.mem_range.2 hj)
  rw [hij, Bool.not_true, Bool.or_false] at this
  exact of_decide_eq_true this
 have hTl : (rtab .any l.toArray).2.length = l.length := by rw [rtab_length]; simp
 have hdl : ∀ i, i < k1 → (l.take k1)[i]? = l[i]? := fun i hi => by rw [List.getElem?_take_of_lt hi]
 have hlt : (l.take k1).length = k1 := by rw [List.length_take]; omega
 have hds : ∀ (i : Nat) (o : Oper), i < k1 → l[i]? = some o → o.dst = some ((dsOf (l.take k1))[i]?.getD 0) ∧ (dsOf (l.take k1))[i]? = some (o.dst.getD 0) := by
  intro i o hi ho
  have ho' : (l.take k1)[i]? = some o := (hdl i hi).trans ho
  have e : (dsOf (l.take k1))[i]? = some (o.dst.getD 0) := by unfold dsOf; rw [List.getElem?_map, ho']; rfl
  refine ⟨?_, e⟩
  have := List.all_eq_true.1 h1 o (List.mem_of_getElem? ho')
  rw [e]
  cases hd : o.dst with
  | none => rw [hd] at this; cases this
  | some d => rfl
 have hrange : ∀ j, j < l.length → (List.range l.length).contains j = true := fun j hj => by simpa using hj
 refine wp_region_last_drew (S := fun _ => True) (ds := []) hm trivial (fun _ => ?_)
 refine inv_ (T := rtab .any l.toArray) (B := B) (List.range l.length) (fun b a' w' => (b k = false → ∃ s x, a' = putAll (dsOf (l.take k1)) 0 s (a.put (some d) x) ∧ (b m = true → x = v0) ∧ I b s w' ∧ (∀ i, i < k1 → b i = true → qt i = true → V i (s i)) ∧ ∀ i, i < k1 → b i = false → s i = (a.tmps[(dsOf (l.take k1))[i]?.getD 0]?).getD undef) ∧ (∀ n, k < n → n ≤ l.length → (∀ j, j < n → b j = true) → (∀ j, n ≤ j → j < l.length → b j = false) → tailList P Q (l.drop n) a' w')) rfl h4 h5 ?_ ?_ ?_ ?_
 ·rw [hTl, Bool.and_eq_true, beq_iff_eq, beq_iff_eq]
  refine ⟨?_, by simp⟩
  apply List.ext_getElem
  ·simp [lof]
  ·intro i hi1 hi2
   have hi : i < l.length := by simpa [lof] using hi1
   simp [lof, hi]
 ·refine ⟨fun _ => ⟨fun k' => (a.tmps[(dsOf (l.take k1))[k']?.getD 0]?).getD undef, (a.tmps[d]?).getD undef, ?_, (fun h => by cases h), hI0 _ _ (fun _ => rfl), (fun _ _ h => by cases h), fun _ _ _ => rfl⟩, fun n hn _ hj _ => by have := hj 0 (by omega); cases this⟩
  have ha : a.put (some d) ((a.tmps[d]?).getD undef) = a := putAll_self [d] 0 (fun _ => (a.tmps[d]?).getD undef) a (fun j e hj => by
   cases j with
   | zero =>
    obtain rfl : d = e := by simpa using hj
    simp [hd2]
   | succ j => cases hj)
  rw [ha]
  refine (putAll_self _ _ _ _ (fun j d hj => ?_)).symm
  have hd := List.all_eq_true.1 h3 d (List.mem_of_getElem? hj)
  have hd' : d < a.tmps.size := of_decide_eq_true hd
  simp [hj, hd']
 ·intro i hi b a' w' ⟨hA, hT⟩ hbi hon hoff
  have hil : i < l.length := List.mem_range.1 hi
  have ho : l[i]? = some l[i] := List.getElem?_eq_getElem hil
  refine ⟨l[i], by simp, fun K hK => ?_⟩
  have hK' := Shut.out hK
  have hg : l[i].guard = none := by
   have := List.all_eq_true.1 h0 l[i] (List.mem_of_getElem? ho)
   cases hq : l[i].guard with
   | none => rfl
   | some g => rw [hq] at this; cases this
  rw [if_pos (by simp [Region.wanted, hg])]
  have hon' : ∀ j, j < l.length → (B.getD i 0).testBit j = true → b j = true := fun j hj hb => hon j (by rw [hrange j hj, hb]; rfl)
  have hoff' : ∀ d, d < l.length → (B.getD d 0).testBit i = true → b d = false := fun d hd hb => hoff d (by rw [hrange d hd, hb]; rfl)
  by_cases hik0 : i < k
  ·have hbk : b k = false := hoff' k hk (hBt k i hk (Nat.le_refl _) hik0)
   obtain ⟨s, x, rfl, hxm, hIb, hvs, hq0⟩ := hA hbk
   have hup : up b i = markU b i := by
    funext j
    by_cases hji : j = i
    ·subst hji; rw [up_self, markU_self]
    ·rw [up_ne hji, markU_ne b hji]
   by_cases hik : i < k1
   ··
     have hfin : ∀ v w2, I (markU b i) (upd s i v) w2 → (qt i = true → V i v) → K ((putAll (dsOf (l.take k1)) 0 s (a.put (some d) x)).put l[i].dst v) w2 := by
      intro v w2 hI2 hV2
      rw [(hds i _ hik ho).1, (hds i _ hik ho).2, Option.getD_some, putAll_put _ _ _ _ _ _ _ hnd (Nat.zero_le _) (by rw [Nat.sub_zero]; exact (hds i _ hik ho).2)]
      refine hK' _ _ ⟨fun _ => ⟨upd s i v, x, rfl, (fun h => hxm (by rw [up_ne (by omega)] at h; exact h)), by rw [hup]; exact hI2, fun j hj hbj hqj => ?_, fun j hj hbj => ?_⟩, fun n hn hnl hj _ => ?_⟩
      ·by_cases hji : j = i
       ·subst hji; rw [upd_self]; exact hV2 hqj
       ·rw [upd_ne s v hji]; rw [up_ne hji] at hbj
        exact hvs j hj hbj hqj
      ·have hji : j ≠ i := by
        rintro rfl
        rw [up_self] at hbj
        cases hbj
       rw [upd_ne s v hji]; rw [up_ne hji] at hbj
       exact hq0 j hj hbj
      ·have := hj k hn
       rw [up_ne (by omega), hbk] at this
       cases this
     have hst := uSteps_at (l.take k1) 0 (hs x) i _ ((hdl i hik).trans ho) s b w' hIb (by rw [Nat.zero_add]; exact hbi) (fun j hj => by
      rw [Nat.zero_add] at hj
      have h6 := Bool.and_eq_true _ _ ▸ hj
      have h7 : j < k1 := by have := of_decide_eq_true h6.1; rw [hlt] at this; exact this
      have h8 : b j = true := hon' j (by omega) h6.2
      exact ⟨h8, hvs j h7 h8⟩) (fun j hj => by
      rw [Nat.zero_add] at hj
      have h6 := Bool.and_eq_true _ _ ▸ hj
      have h7 : j < k1 := by have := of_decide_eq_true h6.1; rw [hlt] at this; exact this
      rw [hq0 j h7 (hoff' j (by omega) h6.2)]
      have hjl : j < l.length := by omega
      have hj2 := (hds j _ h7 (List.getElem?_eq_getElem hjl)).2
      rw [hj2, Option.getD_some]
      have hne : d ≠ l[j].dst.getD 0 := fun h => hd1 (by rw [h]; exact List.mem_of_getElem? hj2)
      simp [Act.put, Array.getElem?_setIfInBounds_ne hne]) (fun v w2 => K ((putAll (dsOf (l.take k1)) 0 s (a.put (some d) x)).put l[i].dst v) w2) (fun hqi v hvi => by
      rw [Nat.zero_add] at hqi hvi
      exact hfin v w' (hI i b s v w' hqi hIb) (fun _ => hvi)) (fun hqi v w2 hI2 => by
      rw [Nat.zero_add] at hqi hI2
      exact hfin v w2 hI2 (fun h => by rw [hqi] at h; cases h))
     unfold stepG at hst
     rw [if_pos (by simp [Region.wanted, hg])] at hst
     exact opGives_wp hst
   ·by_cases him : i = m
    ·subst him
     have hdst : l[i].dst = some d := by
      rw [ho] at hd3
      simpa using hd3
     have hg2 := hmv _ ho x s b w' hIb hbi (fun j hj hb => by
      have h8 : b j = true := hon' j (by omega) hb
      exact ⟨h8, fun h1 h2 => hvs j h1 h8 h2⟩)
     refine opGives_wp (opGives_mono hg2 (fun v w2 hq => ?_))
     obtain ⟨rfl, rfl⟩ := hq
     rw [hdst, putAll_out _ _ _ _ _ _ hd1, put_put]
     refine hK' _ _ ⟨fun _ => ⟨s, v, rfl, (fun _ => rfl), by rw [hup]; exact hIm b s _ hIb, fun j hj hbj hqj => ?_, fun j hj hbj => ?_⟩, fun n hn hnl hj _ => ?_⟩
     ·rw [up_ne (by omega)] at hbj; exact hvs j hj hbj hqj
     ·rw [up_ne (by omega)] at hbj; exact hq0 j hj hbj
     ·have := hj k hn
      rw [up_ne (by omega), hbk] at this
      cases this
    ·obtain ⟨e0, w2, e1, e2⟩ := ht i _ (by omega) hik0 him ho x s b w' hIb hbi (fun j hj hb => by
      have h8 : b j = true := hon' j (by omega) hb
      exact ⟨h8, fun h1 h2 => hvs j h1 h8 h2⟩)
     unfold Oper.wp
     rw [e1]
     refine hK' _ _ ⟨fun _ => ⟨s, x, by rw [e0]; rfl, (fun h => hxm (by rw [up_ne (Ne.symm him)] at h; exact h)), by rw [hup]; exact e2, fun j hj hbj hqj => ?_, fun j hj hbj => ?_⟩, fun n hn hnl hj _ => ?_⟩
     ·rw [up_ne (by omega)] at hbj; exact hvs j hj hbj hqj
     ·rw [up_ne (by omega)] at hbj; exact hq0 j hj hbj
     ·have := hj k hn
      rw [up_ne (by omega), hbk] at this
      cases this
  ·have hall : ∀ j, j < i → b j = true := fun j hj => hon' j (by omega) (hBt i j hil (by omega) hj)
   have hnone : ∀ j, i ≤ j → j < l.length → b j = false := by
    intro j hj hjl
    by_cases hji : j = i
    ·subst hji; exact hbi
    ·exact hoff' j hjl (hBt j i hjl (by omega) (by omega))
   have htl : tailList P Q (l.drop i) a' w' := by
    by_cases hki : i = k
    ·subst hki
     obtain ⟨s, x, rfl, hxm, hIb, hvs, -⟩ := hA hbi
     rw [hxm (hall m (by omega))]
     exact hend s b w' hIb (fun j hj => hall j hj) (fun j hj => hvs j hj (hall j (by omega)))
    ·exact hT i (by omega) (by omega) hall hnone
   rw [List.drop_eq_getElem_cons hil] at htl
   have hnext : ∀ a2 w2, tailList P Q (l.drop (i + 1)) a2 w2 → K a2 w2 := by
    intro a2 w2 hq
    refine hK' _ _ ⟨fun h => ?_, fun n hn hnl hj hj2 => ?_⟩
    ·by_cases hki : i = k
     ·subst hki; rw [up_self] at h; cases h
     ·rw [up_ne (by omega)] at h
      have := hall k (by omega)
      rw [h] at this; cases this
    ·have hni : n = i + 1 := by
      by_cases h6 : n ≤ i
      ·have := hj2 i h6 hil
       rw [up_self] at this; cases this
      ·by_cases h7 : i + 1 < n
       ·have := hj (i + 1) h7
        rw [up_ne (by omega), hnone (i + 1) (by omega) (by omega)] at this
        cases this
       ·omega
     subst hni
     exact hq
   rcases htl with htl | ⟨w2, h1, h2⟩
   ·refine opGives_wp (opGives_mono htl (fun v w2 hq => hnext _ _ hq))
   ·unfold Oper.wp
    rw [h1]
    exact hnext _ _ h2
 ·intro b a' w' hall ⟨hA, hT⟩
  have := hT l.length hk (Nat.le_refl _) (fun j hj => hall j (hrange j hj)) (fun j h1 h2 => by omega)
  rw [List.drop_length] at this
  exact this
end Go.Proofs.YtomofijniefelaaGreat.H
