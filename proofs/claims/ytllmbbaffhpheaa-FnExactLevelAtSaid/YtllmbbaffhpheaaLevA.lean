/- LevelAt of the reference, joined. -/
import Derived.Test.YtllmbbaffhpheaaLevL
namespace Go.Proofs.Ytllmbbaffhpheaa.H
open Go.RowKit Go.Proofs.YtllmbbaffhpheaaW.PrintWords Go.Proofs.YtllmbbaffhpheaaW.PrintLast Go.Proofs.YtllmbbaffhpheaaW.PrintMore
set_option linter.unusedVariables false
set_option linter.unusedSimpArgs false

theorem codeFun_miss {a : Int} {xs : List Int} {r : Bool} {fs : List (List Int)} (h : codeFun a xs true fs ≠ 0) : codeFun a xs r fs = codeFun a xs true fs := by
  unfold codeFun at h ⊢
  generalize cxOk a xs = c1 at h ⊢
  generalize fs.all (isFun xs.length) = c2 at h ⊢
  revert h
  revert c1 c2 r
  decide
theorem codeFun_hit {a : Int} {xs : List Int} {r : Bool} {fs : List (List Int)} (h : codeFun a xs true fs = 0) : codeFun a xs r fs = if r then 0 else 2 := by
  unfold codeFun at h ⊢
  generalize cxOk a xs = c1 at h ⊢
  generalize fs.all (isFun xs.length) = c2 at h ⊢
  revert h
  revert c1 c2 r
  decide

set_option maxRecDepth 100000 in
set_option maxHeartbeats 2000000 in
theorem specLevelAt (a : Int) (ku : Value) (xs : List Int) (v : Value) (f : List Int) (c : Int) (w : World) (hk : ReadI w ku xs) (hv : ReadI w v f) :
    Calls Try.prog 36 #[cx a ku, v, .int .i64 c] w fun e w' => ∃ u, e = .returned (.tuple #[.agg #[.int .i64 (ansLevelAt a xs f c).1.1, u], .int .i64 (ansLevelAt a xs f c).2]) ∧ OwnI w.heap.size w' u (ansLevelAt a xs f c).1.2 ∧ Below w.heap.size w w' := by
  obtain ⟨wa, hwa⟩ : ∃ wa, wa = w.alloc (.cells #[.int .i64 a, ku] 28) := ⟨_, rfl⟩
  obtain ⟨wb, hwb⟩ : ∃ wb, wb = wa.alloc (.cells #[.int .i64 0, .slice none 0 0] 28) := ⟨_, rfl⟩
  obtain ⟨w1, hw1⟩ : ∃ w1, w1 = wb.alloc (.cells #[v] 22) := ⟨_, rfl⟩
  have hsa : wa.heap.size = w.heap.size + 1 := by rw [hwa]; simp
  have hsb : wb.heap.size = w.heap.size + 1 + 1 := by rw [hwb]; simp [hsa]
  have hs1 : w1.heap.size = w.heap.size + 1 + 1 + 1 := by rw [hw1]; simp [hsb]
  have hBa : Below w.heap.size w wa := by rw [hwa]; exact Below.alloc (Below.refl _ _) (Nat.le_refl _) _
  have hBb : Below wa.heap.size wa wb := by rw [hwb]; exact Below.alloc (Below.refl _ _) (Nat.le_refl _) _
  have hB1 : Below wb.heap.size wb w1 := by rw [hw1]; exact Below.alloc (Below.refl _ _) (Nat.le_refl _) _
  have hBab : Below w.heap.size w wb := hBa.trans (hBb.mono hBa.size)
  have hBa1 : Below wa.heap.size wa w1 := hBb.trans (hB1.mono hBb.size)
  have hB : Below w.heap.size w w1 := hBa.trans (hBa1.mono hBa.size)
  have c0 : w1.cell? ⟨w.heap.size, 0, none⟩ = some (.int .i64 a) := pw_cell_below hBa1 (by rw [hwa]; simp)
  have c1 : w1.cell? ⟨w.heap.size, 1, none⟩ = some ku := pw_cell_below hBa1 (by rw [hwa]; simp)
  have c0b : wb.cell? ⟨w.heap.size, 0, none⟩ = some (.int .i64 a) := pw_cell_below hBb (by rw [hwa]; simp)
  have c1b : wb.cell? ⟨w.heap.size, 1, none⟩ = some ku := pw_cell_below hBb (by rw [hwa]; simp)
  have hk1 : w1.heap[w.heap.size + 1]? = some (.cells #[.int .i64 0, .slice none 0 0] 28) := by rw [hw1]; refine blk_alloc ?_ _; rw [hwb, ← hsa]; exact blk_new _ _
  have HBK := Aside0.mk hk1
  have HB := Aside0.mk hB
  have hsz := Aside0.mk hs1
  have HK := Aside0.mk (hk.below hB)
  have HV := Aside0.mk (hv.below hB)
  have HS := Aside0.mk (ReadS.one' (hv.below hBab))
  rw [← hw1, hsb] at HS
  obtain ⟨A1, d1, rfl, -⟩ := id hk
  obtain ⟨A2, d2, rfl, -⟩ := id hv
  clear hk hv hB hBa hBb hB1 hBab hBa1 hk1 hs1 hsa hsb
  subst hwa
  subst hwb
  have HI : Aside0 ((decide (-1000 ≤ c) && decide (c ≤ 1000)) = isVal c) := ⟨rfl⟩
  obtain ⟨q, hq⟩ : ∃ q, q = codeFun a xs true [f] := ⟨_, rfl⟩
  have HQ := Aside0.mk hq
  by_cases h0 : q = 0
  · have h0' := hq.symm.trans h0
    obtain ⟨n, rfl, hcn, hbl, hfl, -⟩ := codeFun_zero h0'
    have HN := Aside0.mk hcn
    have HL := Aside0.mk hfl
    cases hv : isVal c with
    | true =>
      have HA : Aside0 (ansLevelAt n xs f c = (((n : Int), xs.filter (madeAt (levTo xs f c xs.length))), 0)) := ⟨by unfold ansLevelAt; rw [codeFun_hit h0', hv]; rfl⟩
      subst h0
      clear hcn hbl hfl h0' hq
      go_enter Try.func36, Try.ntmps36
      go_wp2_with (first | (go_at_call 74; rw [← hw1]; clear hw1 c0b c1b; refine (specFunCode n _ xs _ f _ HK.out HS.out).mono ?_; rintro e w2 ⟨rfl, hb⟩; rw [← HQ.out]; have c0 := pw_cell_below hb c0; have c1 := pw_cell_below hb c1; have HB2 := Aside0.mk hb; clear hb) | (go_at_call 69; refine (specIn _ _ _ _).mono ?_; rintro e w3 ⟨rfl, hb⟩; rw [HI.out, hv]; have c0 := pw_cell_below hb c0; have c1 := pw_cell_below hb c1; have HB3 := Aside0.mk (HB2.out.trans (hb.mono HB2.out.size)); clear hb) | (go_at_call 75; refine (specLevel n _ xs _ f c _ (HK.out.below HB3.out) (HV.out.below HB3.out) HN.out HL.out).mono ?_; rintro e w6 ⟨u, rfl, ho, hb6⟩; obtain ⟨A4, d4, rfl, -⟩ := ho.read; have HO := Aside0.mk ho; have HK2 := Aside0.mk (blk_below (blk_below HBK.out HB3.out) hb6); have c60 : w6.cell? ⟨w.heap.size + 1, 0, none⟩ = some (.int .i64 0) := blk_cell HK2.out 0; have c61 : w6.cell? ⟨w.heap.size + 1, 1, none⟩ = some (.slice none 0 0) := blk_cell HK2.out 1; have f60 : w6.frozen? ⟨w.heap.size + 1, 0, none⟩ = false := blk_frozen HK2.out 0; have f61 : w6.frozen? ⟨w.heap.size + 1, 1, none⟩ = false := blk_frozen HK2.out 1; have HB6 := Aside0.mk hb6; clear ho hb6))
      refine bodyPost_ret (results_ct rfl _ _ (w.heap.size + 1) 28 #[.int .i64 n, .slice A4 (xs.filter (madeAt (levTo xs f c xs.length))).length d4] (0, 0) _ rfl (by refine blk_put (cs := #[.int .i64 n, .slice none 0 0]) ?_ 1 _ rfl; refine blk_put (cs := #[.int .i64 0, .slice none 0 0]) ?_ 0 _ rfl; exact HK2.out) Try.underlying28 rfl (by kernel_rfl)) rfl ?_
      have hsz := hsz.out
      have hs5 := HB3.out.size
      have hb := HB.out.trans ((HB3.out.trans (HB6.out.mono HB3.out.size)).mono HB.out.size)
      refine ⟨.slice A4 (xs.filter (madeAt (levTo xs f c xs.length))).length d4, by rw [HA.out]; rfl, ?_, (hb.setCell (by simp) _).setCell (by simp) _⟩
      have hbs := HO.out.base
      have ho := HO.out.lower (b' := w.heap.size) (by omega)
      rw [HA.out]
      exact (ho.grown (set_grown' _ (w.heap.size + 1) _ _) (fun j hj e => by have := hbs _ hj; cases e; omega)).grown (set_grown' _ (w.heap.size + 1) _ _) (fun j hj e => by have := hbs _ hj; cases e; omega)
    | false =>
      have HA : Aside0 (ansLevelAt n xs f c = ((0, []), 2)) := ⟨by unfold ansLevelAt; rw [codeFun_hit h0', hv]; rfl⟩
      subst h0
      clear hcn hbl hfl h0' hq
      go_enter Try.func36, Try.ntmps36
      go_wp2_with (first | (go_at_call 74; rw [← hw1]; clear hw1 c0b c1b; refine (specFunCode n _ xs _ f _ HK.out HS.out).mono ?_; rintro e w2 ⟨rfl, hb⟩; rw [← HQ.out]; have HB2 := Aside0.mk hb; clear hb) | (go_at_call 69; refine (specIn _ _ _ _).mono ?_; rintro e w6 ⟨rfl, hb⟩; rw [HI.out, hv]; have HB3 := Aside0.mk (HB2.out.trans (hb.mono HB2.out.size)); have HK2 := Aside0.mk (blk_below HBK.out HB3.out); have c60 : w6.cell? ⟨w.heap.size + 1, 0, none⟩ = some (.int .i64 0) := blk_cell HK2.out 0; have c61 : w6.cell? ⟨w.heap.size + 1, 1, none⟩ = some (.slice none 0 0) := blk_cell HK2.out 1; have f60 : w6.frozen? ⟨w.heap.size + 1, 0, none⟩ = false := blk_frozen HK2.out 0; have f61 : w6.frozen? ⟨w.heap.size + 1, 1, none⟩ = false := blk_frozen HK2.out 1; clear hb))
      refine bodyPost_ret (results_ct rfl _ _ (w.heap.size + 1) 28 #[.int .i64 0, .slice none 0 0] (0, 0) _ rfl (by refine blk_put (cs := #[.int .i64 0, .slice none 0 0]) ?_ 1 _ rfl; refine blk_put (cs := #[.int .i64 0, .slice none 0 0]) ?_ 0 _ rfl; exact HK2.out) Try.underlying28 rfl (by kernel_rfl)) rfl ?_
      have hb := HB.out.trans (HB3.out.mono HB.out.size)
      exact ⟨.slice none 0 0, by rw [HA.out]; rfl, by rw [HA.out]; exact OwnI.nil _ _, (hb.setCell (by simp) _).setCell (by simp) _⟩
  · have HA : Aside0 (ansLevelAt a xs f c = ((0, []), q)) := ⟨by unfold ansLevelAt; rw [codeFun_miss (by rw [← hq]; exact h0), ← hq, if_neg h0]⟩
    have hqb : (q == 0) = false := by simpa using h0
    have hqn : (q != 0) = true := by simpa using h0
    clear h0 hq
    go_enter Try.func36, Try.ntmps36
    go_wp2_with (first | (go_at_call 74; rw [← hw1]; clear hw1 c0b c1b; refine (specFunCode a _ xs _ f _ HK.out HS.out).mono ?_; rintro e w6 ⟨rfl, hb⟩; rw [← HQ.out]; have HB3 := Aside0.mk hb; have HK2 := Aside0.mk (blk_below HBK.out hb); have c60 : w6.cell? ⟨w.heap.size + 1, 0, none⟩ = some (.int .i64 0) := blk_cell HK2.out 0; have c61 : w6.cell? ⟨w.heap.size + 1, 1, none⟩ = some (.slice none 0 0) := blk_cell HK2.out 1; have f60 : w6.frozen? ⟨w.heap.size + 1, 0, none⟩ = false := blk_frozen HK2.out 0; have f61 : w6.frozen? ⟨w.heap.size + 1, 1, none⟩ = false := blk_frozen HK2.out 1; clear hb))
    refine bodyPost_ret (results_ct rfl _ _ (w.heap.size + 1) 28 #[.int .i64 0, .slice none 0 0] (0, 0) _ rfl (by refine blk_put (cs := #[.int .i64 0, .slice none 0 0]) ?_ 1 _ rfl; refine blk_put (cs := #[.int .i64 0, .slice none 0 0]) ?_ 0 _ rfl; exact HK2.out) Try.underlying28 rfl (by kernel_rfl)) rfl ?_
    have hb := HB.out.trans (HB3.out.mono HB.out.size)
    exact ⟨.slice none 0 0, by rw [HA.out]; rfl, by rw [HA.out]; exact OwnI.nil _ _, (hb.setCell (by simp) _).setCell (by simp) _⟩
end Go.Proofs.Ytllmbbaffhpheaa.H
