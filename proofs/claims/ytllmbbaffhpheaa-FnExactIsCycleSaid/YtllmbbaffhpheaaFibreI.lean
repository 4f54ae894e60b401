/- OpenFibre of the program. -/
import Derived.Test.YtllmbbaffhpheaaFibre
namespace Go.Proofs.Ytllmbbaffhpheaa.H
open Go.RowKit Go.Proofs.YtllmbbaffhpheaaW.PrintWords Go.Proofs.YtllmbbaffhpheaaW.PrintLast Go.Proofs.YtllmbbaffhpheaaW.PrintMore
set_option linter.unusedVariables false
set_option linter.unusedSimpArgs false

set_option maxRecDepth 100000 in
set_option maxHeartbeats 1000000 in
theorem implOpenFibre (a : Int) (ku : Value) (xs : List Int) (b : Int) (lu : Value) (ys : List Int) (v : Value) (f : List Int) (g : Int) (w : World) (hk : ReadI w ku xs) (hl : ReadI w lu ys) (hv : ReadI w v f) :
    Calls Try.prog 46 #[cx a ku, cx b lu, v, .int .i64 g] w fun e w' => ∃ u, e = .returned (.tuple #[u, .int .i64 (ansOpenFibre a xs b ys f g).2]) ∧ OwnI w.heap.size w' u (ansOpenFibre a xs b ys f g).1 ∧ Below w.heap.size w w' := by
  obtain ⟨w0, hw0⟩ : ∃ w0, w0 = (w.alloc (.cells #[.int .i64 a, ku] 28)).alloc (.cells #[.int .i64 b, lu] 28) := ⟨_, rfl⟩
  obtain ⟨w1, hw1⟩ : ∃ w1, w1 = w0.alloc (.cells #[.int .i64 g] 2) := ⟨_, rfl⟩
  obtain ⟨w2, hw2⟩ : ∃ w2, w2 = w1.alloc (.cells #[v] 22) := ⟨_, rfl⟩
  have hs0 : w0.heap.size = w.heap.size + 1 + 1 := by rw [hw0]; simp
  have hs1 : w1.heap.size = w.heap.size + 1 + 1 + 1 := by rw [hw1]; simp [hs0]
  have hB0 : Below w.heap.size w w0 := by rw [hw0]; exact ((Below.refl _ w).alloc (Nat.le_refl _) _).alloc (by simp) _
  have hB1 : Below w0.heap.size w0 w1 := by rw [hw1]; exact Below.alloc (Below.refl _ _) (Nat.le_refl _) _
  have hB2 : Below w1.heap.size w1 w2 := by rw [hw2]; exact Below.alloc (Below.refl _ _) (Nat.le_refl _) _
  have hB02 : Below w0.heap.size w0 w2 := hB1.trans (hB2.mono hB1.size)
  have hB : Below w.heap.size w w2 := hB0.trans (hB02.mono hB0.size)
  have c0 : w2.cell? ⟨w.heap.size, 0, none⟩ = some (.int .i64 a) := pw_cell_below hB02 (by rw [hw0]; simp)
  have c1 : w2.cell? ⟨w.heap.size, 1, none⟩ = some ku := pw_cell_below hB02 (by rw [hw0]; simp)
  have c2 : w2.cell? ⟨w.heap.size + 1, 0, none⟩ = some (.int .i64 b) := pw_cell_below hB02 (by rw [hw0]; simp)
  have c3 : w2.cell? ⟨w.heap.size + 1, 1, none⟩ = some lu := pw_cell_below hB02 (by rw [hw0]; simp)
  have c4 : w2.cell? ⟨w.heap.size + 1 + 1, 0, none⟩ = some (.int .i64 g) := pw_cell_below hB2 (by rw [hw1, ← hs0]; simp)
  have HK := Aside0.mk (hk.below hB)
  have HL := Aside0.mk (hl.below hB)
  have HV := Aside0.mk (hv.below hB)
  have HS := Aside0.mk (ReadS.one' ((hv.below hB0).below hB1))
  rw [← hw2, hs1] at HS
  have HB := Aside0.mk hB
  have hsz := hB.size
  have c0a : w1.cell? ⟨w.heap.size, 0, none⟩ = some (.int .i64 a) := pw_cell_below hB1 (by rw [hw0]; simp)
  have c1a : w1.cell? ⟨w.heap.size, 1, none⟩ = some ku := pw_cell_below hB1 (by rw [hw0]; simp)
  have c2a : w1.cell? ⟨w.heap.size + 1, 0, none⟩ = some (.int .i64 b) := pw_cell_below hB1 (by rw [hw0]; simp)
  have c3a : w1.cell? ⟨w.heap.size + 1, 1, none⟩ = some lu := pw_cell_below hB1 (by rw [hw0]; simp)
  obtain ⟨A1, d1, rfl, -⟩ := id hk
  obtain ⟨A2, d2, rfl, -⟩ := id hl
  obtain ⟨A3, d3, rfl, -⟩ := id hv
  have HM := Aside0.mk (simplicialCode a b _ _ xs ys _ _ (decide (g ∈ ys)) [f] w2 HK.out HL.out (fun _ h => by
    obtain ⟨m, rfl, hm, -⟩ := cxOk_cx h
    exact openThunk w2 _ _ m _ ys g HL.out hm c2 c3 c4) ⟨_, _, _, rfl⟩ HS.out)
  clear hk hl hv hB hB0 hB1 hB2 hB02
  subst hw0
  obtain ⟨q, hq⟩ : ∃ q, q = codeSimp a b xs ys [f] (decide (g ∈ ys)) := ⟨_, rfl⟩
  by_cases h0 : q = 0
  · have h0' := hq.symm.trans h0
    obtain ⟨n, m, rfl, rfl, hcn, hcm, hmp, -, -⟩ := codeSimp_zero' h0'
    have HA : Aside0 (ansOpenFibre n xs m ys f g = (xs.filter (opAt f g), 0)) := ⟨by unfold ansOpenFibre; rw [if_pos h0']⟩
    have HN := Aside0.mk hcn
    have HC := Aside0.mk hcm
    have HF := Aside0.mk (hmp f (by simp))
    have HQ := Aside0.mk h0'
    clear hcn hcm hmp hq h0 h0'
    go_enter Try.func46, Try.ntmps46
    go_wp2_with (first | (go_at_call 55; rw [← hw1, ← hw2]; clear hw1 hw2 c0a c1a c2a c3a; refine HM.out.mono ?_; rintro e w3 ⟨rfl, hb⟩; rw [HQ.out]; have c0 := pw_cell_below hb c0; have c1 := pw_cell_below hb c1; have c4 := pw_cell_below hb c4; have HB3 := Aside0.mk hb; clear hb) | (go_at_call 91; refine (openFibre n m _ xs _ f g _ (HK.out.below HB3.out) (HV.out.below HB3.out) HN.out HC.out.hi HF.out).mono ?_; rintro e w4 ⟨u, rfl, ho, hb4⟩; obtain ⟨A4, d4, rfl, -⟩ := ho.read; have HO := Aside0.mk ho; clear ho))
    go_ret2
    have := HB.out
    have := HB3.out
    exact ⟨_, by rw [HA.out]; rfl, by rw [HA.out]; exact HO.out.lower (Nat.le_trans hsz HB3.out.size), by (repeat (first | (with_reducible exact Below.refl _ _) | (with_reducible assumption) | (with_reducible refine below_step ?_ (by assumption)) | (with_reducible apply below_alloc) | (with_reducible apply below_drewN)))⟩
  · have HA : Aside0 (ansOpenFibre a xs b ys f g = ([], q)) := ⟨by unfold ansOpenFibre; rw [← hq, if_neg h0]⟩
    have hqb : (q != 0) = true := by simpa using h0
    have HQ := Aside0.mk hq
    clear hq h0
    go_enter Try.func46, Try.ntmps46
    go_wp2_with (first | (go_at_call 55; rw [← hw1, ← hw2]; clear hw1 hw2 c0a c1a c2a c3a; refine HM.out.mono ?_; rintro e w3 ⟨rfl, hb⟩; rw [← HQ.out]))
    go_ret2
    exact ⟨_, by rw [HA.out]; rfl, by rw [HA.out]; exact OwnI.nil _ _, by have := HB.out; (repeat (first | (with_reducible exact Below.refl _ _) | (with_reducible assumption) | (with_reducible refine below_step ?_ (by assumption)) | (with_reducible apply below_alloc) | (with_reducible apply below_drewN)))⟩
end Go.Proofs.Ytllmbbaffhpheaa.H
