/- IsMap of the program and of the reference. -/
import Derived.Test.YteeanddkkmelnaaMapC
namespace Go.Proofs.Yteeanddkkmelnaa.H
open Go.RowKit Go.Proofs.YteeanddkkmelnaaW.PrintWords Go.Proofs.YteeanddkkmelnaaW.PrintLast Go.Proofs.YteeanddkkmelnaaW.PrintMore
set_option linter.unusedVariables false
set_option linter.unusedSimpArgs false

/-- what IsMap answers -/
def ansIsMap (a : Int) (xs : List Int) (b : Int) (ys f : List Int) : Bool × Int := if cxOk a xs && cxOk b ys then (mapOk a.toNat b.toNat f, 0) else (false, 1)
theorem codeMap_nil (a b : Int) (xs ys : List Int) : codeMap a b xs ys [] true = if cxOk a xs && cxOk b ys then 0 else 1 := by unfold codeMap; rfl

set_option maxHeartbeats 1000000 in
theorem implIsMap (a : Int) (ku : Value) (xs : List Int) (b : Int) (lu : Value) (ys : List Int) (v : Value) (f : List Int) (w : World) (hk : ReadI w ku xs) (hl : ReadI w lu ys) (hv : ReadI w v f) :
    Calls Try.prog 19 #[cx a ku, cx b lu, v] w fun e w' => e = .returned (.tuple #[.bool (ansIsMap a xs b ys f).1, .int .i64 (ansIsMap a xs b ys f).2]) ∧ Below w.heap.size w w' := by
  obtain ⟨w1, hw1⟩ : ∃ w1, w1 = (w.alloc (.cells #[.int .i64 a, ku] 35)).alloc (.cells #[.int .i64 b, lu] 35) := ⟨_, rfl⟩
  have hB : Below w.heap.size w w1 := by rw [hw1]; exact ((Below.refl _ w).alloc (Nat.le_refl _) _).alloc (by simp) _
  have c0 : w1.cell? ⟨w.heap.size, 0, none⟩ = some (.int .i64 a) := by rw [hw1]; simp
  have c1 : w1.cell? ⟨w.heap.size, 1, none⟩ = some ku := by rw [hw1]; simp
  have c2 : w1.cell? ⟨w.heap.size + 1, 0, none⟩ = some (.int .i64 b) := by rw [hw1]; simp
  have c3 : w1.cell? ⟨w.heap.size + 1, 1, none⟩ = some lu := by rw [hw1]; simp
  have HK := Aside0.mk (hk.below hB)
  have HL := Aside0.mk (hl.below hB)
  have HV := Aside0.mk (hv.below hB)
  have HB := Aside0.mk hB
  obtain ⟨A1, d1, rfl, -⟩ := id hk
  obtain ⟨A2, d2, rfl, -⟩ := id hl
  obtain ⟨A3, d3, rfl, -⟩ := id hv
  clear hk hl hv hB
  have HM := Aside0.mk (mapCode a b _ _ xs ys _ _ true [] w1 HK.out HL.out (fun _ _ => alwaysB w1) ⟨_, _, _, rfl⟩ (ReadS.nil w1))
  cases h1 : (cxOk a xs && cxOk b ys) with
  | false =>
    have HA : Aside0 (ansIsMap a xs b ys f = (false, 1)) := ⟨by unfold ansIsMap; rw [h1]; rfl⟩
    have hcd : codeMap a b xs ys [] true = 1 := by rw [codeMap_nil, h1]; rfl
    go_enter Try.func19, Try.ntmps19
    go_wp2_with (first | (rw [← hw1]; clear hw1; go_at_call 34; refine HM.out.mono ?_; rintro e w2 ⟨rfl, hb⟩; rw [hcd]))
    go_ret2
    exact ⟨by rw [HA.out]; rfl, by have := HB.out; (repeat (first | (with_reducible exact Below.refl _ _) | (with_reducible assumption) | (with_reducible refine below_step ?_ (by assumption)) | (with_reducible apply below_alloc) | (with_reducible apply below_drewN)))⟩
  | true =>
    have hcd : codeMap a b xs ys [] true = 0 := by rw [codeMap_nil, h1]; rfl
    have hx := h1
    rw [Bool.and_eq_true] at hx
    obtain ⟨n, rfl, hcn, -⟩ := cxOk_cx hx.1
    obtain ⟨m, rfl, hcm, -⟩ := cxOk_cx hx.2
    have hn := hcn.hi
    have hm := hcm.hi
    have HA : Aside0 (ansIsMap n xs m ys f = (mapOk n m f, 0)) := ⟨by unfold ansIsMap; rw [h1]; rfl⟩
    clear hx hcn hcm h1
    go_enter Try.func19, Try.ntmps19
    go_wp2_with (first | (rw [← hw1]; clear hw1; go_at_call 34; refine HM.out.mono ?_; rintro e w2 ⟨rfl, hb⟩; rw [hcd]; have c0 := pw_cell_below hb c0; have c1 := pw_cell_below hb c1; have c2 := pw_cell_below hb c2; have c3 := pw_cell_below hb c3; have HB2 := Aside0.mk hb; clear hb) | (go_at_call 36; refine (isMap n m hn hm _ _ _ f _ (HV.out.below HB2.out)).mono ?_; rintro e w3 ⟨rfl, hb3⟩))
    go_ret2
    exact ⟨by rw [HA.out]; rfl, by have := HB.out; have := HB2.out; (repeat (first | (with_reducible exact Below.refl _ _) | (with_reducible assumption) | (with_reducible refine below_step ?_ (by assumption)) | (with_reducible apply below_alloc) | (with_reducible apply below_drewN)))⟩

set_option maxHeartbeats 1000000 in
theorem specIsMap (a : Int) (ku : Value) (xs : List Int) (b : Int) (lu : Value) (ys : List Int) (v : Value) (f : List Int) (w : World) (hk : ReadI w ku xs) (hl : ReadI w lu ys) (hv : ReadI w v f) :
    Calls Try.prog 17 #[cx a ku, cx b lu, v] w fun e w' => e = .returned (.tuple #[.bool (ansIsMap a xs b ys f).1, .int .i64 (ansIsMap a xs b ys f).2]) ∧ Below w.heap.size w w' := by
  obtain ⟨w1, hw1⟩ : ∃ w1, w1 = (w.alloc (.cells #[.int .i64 a, ku] 35)).alloc (.cells #[.int .i64 b, lu] 35) := ⟨_, rfl⟩
  have hB : Below w.heap.size w w1 := by rw [hw1]; exact ((Below.refl _ w).alloc (Nat.le_refl _) _).alloc (by simp) _
  have c0 : w1.cell? ⟨w.heap.size, 0, none⟩ = some (.int .i64 a) := by rw [hw1]; simp
  have c1 : w1.cell? ⟨w.heap.size, 1, none⟩ = some ku := by rw [hw1]; simp
  have c2 : w1.cell? ⟨w.heap.size + 1, 0, none⟩ = some (.int .i64 b) := by rw [hw1]; simp
  have c3 : w1.cell? ⟨w.heap.size + 1, 1, none⟩ = some lu := by rw [hw1]; simp
  have HK := Aside0.mk (hk.below hB)
  have HL := Aside0.mk (hl.below hB)
  have HV := Aside0.mk (hv.below hB)
  have HB := Aside0.mk hB
  obtain ⟨A1, d1, rfl, -⟩ := id hk
  obtain ⟨A2, d2, rfl, -⟩ := id hl
  obtain ⟨A3, d3, rfl, -⟩ := id hv
  clear hk hl hv hB
  cases h1 : cxOk a xs with
  | false =>
    have HA : Aside0 (ansIsMap a xs b ys f = (false, 1)) := ⟨by unfold ansIsMap; rw [h1]; rfl⟩
    go_enter Try.func17, Try.ntmps17
    go_wp2_with (first | (rw [← hw1]; clear hw1; go_at_call 32; refine (specIs _ _ xs _ HK.out).mono ?_; rintro e w2 ⟨rfl, hb⟩; rw [h1]))
    go_ret2
    exact ⟨by rw [HA.out]; rfl, by have := HB.out; (repeat (first | (with_reducible exact Below.refl _ _) | (with_reducible assumption) | (with_reducible refine below_step ?_ (by assumption)) | (with_reducible apply below_alloc) | (with_reducible apply below_drewN)))⟩
  | true =>
    obtain ⟨n, rfl, hcn, -⟩ := cxOk_cx h1
    have hn := hcn.hi
    clear hcn
    cases h2 : cxOk b ys with
    | false =>
      have HA : Aside0 (ansIsMap n xs b ys f = (false, 1)) := ⟨by unfold ansIsMap; rw [h1, h2]; rfl⟩
      go_enter Try.func17, Try.ntmps17
      go_wp2_with (first | (rw [← hw1]; clear hw1; go_at_call 32; refine (specIs _ _ xs _ HK.out).mono ?_; rintro e w2 ⟨rfl, hb⟩; rw [h1]; have c2 := pw_cell_below hb c2; have c3 := pw_cell_below hb c3) | (go_at_call 32; refine (specIs _ _ ys _ (HL.out.below ?hx)).mono ?_; (case hx => (repeat (first | (with_reducible exact Below.refl _ _) | (with_reducible assumption) | (with_reducible refine below_step ?_ (by assumption)) | (with_reducible apply below_alloc) | (with_reducible apply below_drewN)))); rintro e w2 ⟨rfl, hb⟩; rw [h2]))
      go_ret2
      exact ⟨by rw [HA.out]; rfl, by have := HB.out; (repeat (first | (with_reducible exact Below.refl _ _) | (with_reducible assumption) | (with_reducible refine below_step ?_ (by assumption)) | (with_reducible apply below_alloc) | (with_reducible apply below_drewN)))⟩
    | true =>
      obtain ⟨m, rfl, hcm, -⟩ := cxOk_cx h2
      have hm := hcm.hi
      have HA : Aside0 (ansIsMap n xs m ys f = (mapOk n m f, 0)) := ⟨by unfold ansIsMap; rw [h1, h2]; rfl⟩
      clear hcm
      go_enter Try.func17, Try.ntmps17
      go_wp2_with (first | (rw [← hw1]; clear hw1; go_at_call 32; refine (specIs _ _ xs _ HK.out).mono ?_; rintro e w2 ⟨rfl, hb⟩; rw [h1]; have c0 := pw_cell_below hb c0; have c1 := pw_cell_below hb c1; have c2 := pw_cell_below hb c2; have c3 := pw_cell_below hb c3; have HB2 := Aside0.mk hb; clear hb) | (go_at_call 32; refine (specIs _ _ ys _ (HL.out.below HB2.out)).mono ?_; rintro e w3 ⟨rfl, hb⟩; rw [h2]; have c0 := pw_cell_below hb c0; have c1 := pw_cell_below hb c1; have c2 := pw_cell_below hb c2; have c3 := pw_cell_below hb c3; have HB3 := Aside0.mk (HB2.out.trans (hb.mono HB2.out.size)); clear hb) | (go_at_call 33; refine (specMap n m hn hm _ _ _ f _ (HV.out.below HB3.out)).mono ?_; rintro e w4 ⟨rfl, hb4⟩))
      go_ret2
      exact ⟨by rw [HA.out]; rfl, by have := HB.out; have := HB3.out; (repeat (first | (with_reducible exact Below.refl _ _) | (with_reducible assumption) | (with_reducible refine below_step ?_ (by assumption)) | (with_reducible apply below_alloc) | (with_reducible apply below_drewN)))⟩
end Go.Proofs.Yteeanddkkmelnaa.H
