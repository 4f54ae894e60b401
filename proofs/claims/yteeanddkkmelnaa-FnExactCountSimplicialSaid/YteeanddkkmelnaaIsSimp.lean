/- IsSimplicial of the program and of the reference. -/
import Derived.Test.YteeanddkkmelnaaSimp
namespace Go.Proofs.Yteeanddkkmelnaa.H
open Go.RowKit Go.Proofs.YteeanddkkmelnaaW.PrintWords Go.Proofs.YteeanddkkmelnaaW.PrintLast Go.Proofs.YteeanddkkmelnaaW.PrintMore
set_option linter.unusedVariables false
set_option linter.unusedSimpArgs false

/-- what IsSimplicial answers -/
def ansIsSimplicial (a : Int) (xs : List Int) (b : Int) (ys p : List Int) : Bool × Int := if cxOk a xs && cxOk b ys then (if mapOk a.toNat b.toNat p then (simpOk xs ys p, 0) else (false, 2)) else (false, 1)
theorem codeMap_one (a b : Int) (xs ys p : List Int) : codeMap a b xs ys [p] true = if cxOk a xs && cxOk b ys then (if mapOk a.toNat b.toNat p then 0 else 2) else 1 := by
  unfold codeMap
  simp
theorem ReadS.one {W : World} {u : Value} {p : List Int} (h : ReadI W u p) : ReadS (W.alloc (.cells #[u] 22)) (.slice (some ⟨W.heap.size, 0, none⟩) 1 1) [p] := by
  refine ⟨_, 1, rfl, by simp, fun i xs hi => ?_⟩
  cases i with
  | zero =>
    simp at hi
    subst hi
    exact ⟨_, u, rfl, by simp [Addr.add], h.below (Below.alloc (Below.refl _ _) (Nat.le_refl _) _)⟩
  | succ i => simp at hi

set_option maxHeartbeats 1000000 in
theorem implIsSimplicial (a : Int) (ku : Value) (xs : List Int) (b : Int) (lu : Value) (ys : List Int) (v : Value) (f : List Int) (w : World) (hk : ReadI w ku xs) (hl : ReadI w lu ys) (hv : ReadI w v f) :
    Calls Try.prog 22 #[cx a ku, cx b lu, v] w fun e w' => e = .returned (.tuple #[.bool (ansIsSimplicial a xs b ys f).1, .int .i64 (ansIsSimplicial a xs b ys f).2]) ∧ Below w.heap.size w w' := by
  obtain ⟨w1, hw1⟩ : ∃ w1, w1 = ((w.alloc (.cells #[.int .i64 a, ku] 35)).alloc (.cells #[.int .i64 b, lu] 35)) := ⟨_, rfl⟩
  obtain ⟨w2, hw2⟩ : ∃ w2, w2 = w1.alloc (.cells #[v] 22) := ⟨_, rfl⟩
  have hs1 : w1.heap.size = w.heap.size + 1 + 1 := by rw [hw1]; simp
  have hB1 : Below w.heap.size w w1 := by rw [hw1]; exact ((Below.refl _ w).alloc (Nat.le_refl _) _).alloc (by simp) _
  have hB : Below w.heap.size w w2 := by rw [hw2]; exact hB1.alloc (by omega) _
  have c0 : w2.cell? ⟨w.heap.size, 0, none⟩ = some (.int .i64 a) := by rw [hw2]; exact pw_cell_below (Below.alloc (Below.refl _ _) (Nat.le_refl _) _) (by rw [hw1]; simp)
  have c1 : w2.cell? ⟨w.heap.size, 1, none⟩ = some ku := by rw [hw2]; exact pw_cell_below (Below.alloc (Below.refl _ _) (Nat.le_refl _) _) (by rw [hw1]; simp)
  have c2 : w2.cell? ⟨w.heap.size + 1, 0, none⟩ = some (.int .i64 b) := by rw [hw2]; exact pw_cell_below (Below.alloc (Below.refl _ _) (Nat.le_refl _) _) (by rw [hw1]; simp)
  have c3 : w2.cell? ⟨w.heap.size + 1, 1, none⟩ = some lu := by rw [hw2]; exact pw_cell_below (Below.alloc (Below.refl _ _) (Nat.le_refl _) _) (by rw [hw1]; simp)
  have HK := Aside0.mk (hk.below hB)
  have HL := Aside0.mk (hl.below hB)
  have HV := Aside0.mk (hv.below hB)
  have HS := Aside0.mk (ReadS.one (hv.below hB1))
  rw [← hw2, hs1] at HS
  have HB := Aside0.mk hB
  obtain ⟨A1, d1, rfl, -⟩ := id hk
  obtain ⟨A2, d2, rfl, -⟩ := id hl
  obtain ⟨A3, d3, rfl, -⟩ := id hv
  clear hk hl hv hB hB1 hs1
  subst hw1
  have HM := Aside0.mk (mapCode a b _ _ xs ys _ _ true [f] w2 HK.out HL.out (fun _ _ => alwaysB w2) ⟨_, _, _, rfl⟩ HS.out)
  cases h1 : (cxOk a xs && cxOk b ys) with
  | false =>
    have HA : Aside0 (ansIsSimplicial a xs b ys f = (false, 1)) := ⟨by unfold ansIsSimplicial; rw [h1]; rfl⟩
    have hcd : codeMap a b xs ys [f] true = 1 := by rw [codeMap_one, h1]; rfl
    go_enter Try.func22, Try.ntmps22
    go_wp2_with (first | (rw [← hw2]; clear hw2; go_at_call 34; refine HM.out.mono ?_; rintro e w3 ⟨rfl, hb⟩; rw [hcd]))
    go_ret2
    exact ⟨by rw [HA.out]; rfl, by have := HB.out; (repeat (first | (with_reducible exact Below.refl _ _) | (with_reducible assumption) | (with_reducible refine below_step ?_ (by assumption)) | (with_reducible apply below_alloc) | (with_reducible apply below_drewN)))⟩
  | true =>
    have hx := h1
    rw [Bool.and_eq_true] at hx
    obtain ⟨n, rfl, hcn, -⟩ := cxOk_cx hx.1
    obtain ⟨m, rfl, hcm, -⟩ := cxOk_cx hx.2
    cases h2 : mapOk n m f with
    | false =>
      have HA : Aside0 (ansIsSimplicial n xs m ys f = (false, 2)) := ⟨by unfold ansIsSimplicial; rw [h1, Int.toNat_natCast, Int.toNat_natCast, h2]; rfl⟩
      have hcd : codeMap n m xs ys [f] true = 2 := by rw [codeMap_one, h1, Int.toNat_natCast, Int.toNat_natCast, h2]; rfl
      clear hx hcn hcm h1 h2
      go_enter Try.func22, Try.ntmps22
      go_wp2_with (first | (rw [← hw2]; clear hw2; go_at_call 34; refine HM.out.mono ?_; rintro e w3 ⟨rfl, hb⟩; rw [hcd]))
      go_ret2
      exact ⟨by rw [HA.out]; rfl, by have := HB.out; (repeat (first | (with_reducible exact Below.refl _ _) | (with_reducible assumption) | (with_reducible refine below_step ?_ (by assumption)) | (with_reducible apply below_alloc) | (with_reducible apply below_drewN)))⟩
    | true =>
      have HA : Aside0 (ansIsSimplicial n xs m ys f = (simpOk xs ys f, 0)) := ⟨by unfold ansIsSimplicial; rw [h1, Int.toNat_natCast, Int.toNat_natCast, h2]; rfl⟩
      have hcd : codeMap n m xs ys [f] true = 0 := by rw [codeMap_one, h1, Int.toNat_natCast, Int.toNat_natCast, h2]; rfl
      have HN := Aside0.mk hcn
      have HM2 := Aside0.mk hcm
      have HP := Aside0.mk (mapOk_mp h2)
      clear hx hcn hcm h1 h2
      go_enter Try.func22, Try.ntmps22
      go_wp2_with (first | (rw [← hw2]; clear hw2; go_at_call 34; refine HM.out.mono ?_; rintro e w3 ⟨rfl, hb⟩; rw [hcd]; have c0 := pw_cell_below hb c0; have c1 := pw_cell_below hb c1; have c2 := pw_cell_below hb c2; have c3 := pw_cell_below hb c3; have HB2 := Aside0.mk hb; clear hb) | (go_at_call 38; refine (isSimplicial n m _ _ _ xs ys f _ (HK.out.below HB2.out) (HL.out.below HB2.out) (HV.out.below HB2.out) HN.out HM2.out HP.out).mono ?_; rintro e w4 ⟨rfl, hb4⟩))
      go_ret2
      exact ⟨by rw [HA.out]; rfl, by have := HB.out; have := HB2.out; (repeat (first | (with_reducible exact Below.refl _ _) | (with_reducible assumption) | (with_reducible refine below_step ?_ (by assumption)) | (with_reducible apply below_alloc) | (with_reducible apply below_drewN)))⟩

set_option maxHeartbeats 1000000 in
theorem specIsSimplicial (a : Int) (ku : Value) (xs : List Int) (b : Int) (lu : Value) (ys : List Int) (v : Value) (f : List Int) (w : World) (hk : ReadI w ku xs) (hl : ReadI w lu ys) (hv : ReadI w v f) :
    Calls Try.prog 21 #[cx a ku, cx b lu, v] w fun e w' => e = .returned (.tuple #[.bool (ansIsSimplicial a xs b ys f).1, .int .i64 (ansIsSimplicial a xs b ys f).2]) ∧ Below w.heap.size w w' := by
  obtain ⟨w1, hw1⟩ : ∃ w1, w1 = (w.alloc (.cells #[.int .i64 a, ku] 35)).alloc (.cells #[.int .i64 b, lu] 35) := ⟨_, rfl⟩
  have hB : Below w.heap.size w w1 := by rw [hw1]; exact ((Below.refl _ w).alloc (Nat.le_refl _) _).alloc (by simp) _
  have c0 : w1.cell? ⟨w.heap.size, 0, none⟩ = some (.int .i64 a) := by rw [hw1]; simp
  have c1 : w1.cell? ⟨w.heap.size, 1, none⟩ = some ku := by rw [hw1]; simp
  have c2 : w1.cell? ⟨w.heap.size + 1, 0, none⟩ = some (.int .i64 b) := by rw [hw1]; simp
  have c3 : w1.cell? ⟨w.heap.size + 1, 1, none⟩ = some lu := by rw [hw1]; simp
  have HK := Aside0.mk (hk.below hB)
  have HL := Aside0.mk (hl.below hB)
  have HV := Aside0.mk (hv.below hB)
  have HB := Aside0.mk hB
  obtain ⟨A1, d1, rfl, -⟩ := id hk
  obtain ⟨A2, d2, rfl, -⟩ := id hl
  obtain ⟨A3, d3, rfl, -⟩ := id hv
  clear hk hl hv hB
  cases h1 : cxOk a xs with
  | false =>
    have HA : Aside0 (ansIsSimplicial a xs b ys f = (false, 1)) := ⟨by unfold ansIsSimplicial; rw [h1]; rfl⟩
    go_enter Try.func21, Try.ntmps21
    go_wp2_with (first | (rw [← hw1]; clear hw1; go_at_call 32; refine (specIs _ _ xs _ HK.out).mono ?_; rintro e w2 ⟨rfl, hb⟩; rw [h1]))
    go_ret2
    exact ⟨by rw [HA.out]; rfl, by have := HB.out; (repeat (first | (with_reducible exact Below.refl _ _) | (with_reducible assumption) | (with_reducible refine below_step ?_ (by assumption)) | (with_reducible apply below_alloc) | (with_reducible apply below_drewN)))⟩
  | true =>
    obtain ⟨n, rfl, hcn, -⟩ := cxOk_cx h1
    cases h2 : cxOk b ys with
    | false =>
      have HA : Aside0 (ansIsSimplicial n xs b ys f = (false, 1)) := ⟨by unfold ansIsSimplicial; rw [h1, h2]; rfl⟩
      go_enter Try.func21, Try.ntmps21
      go_wp2_with (first | (rw [← hw1]; clear hw1; go_at_call 32; refine (specIs _ _ xs _ HK.out).mono ?_; rintro e w2 ⟨rfl, hb⟩; rw [h1]; have c2 := pw_cell_below hb c2; have c3 := pw_cell_below hb c3) | (go_at_call 32; refine (specIs _ _ ys _ (HL.out.below ?hx)).mono ?_; (case hx => (repeat (first | (with_reducible exact Below.refl _ _) | (with_reducible assumption) | (with_reducible refine below_step ?_ (by assumption)) | (with_reducible apply below_alloc) | (with_reducible apply below_drewN)))); rintro e w2 ⟨rfl, hb⟩; rw [h2]))
      go_ret2
      exact ⟨by rw [HA.out]; rfl, by have := HB.out; (repeat (first | (with_reducible exact Below.refl _ _) | (with_reducible assumption) | (with_reducible refine below_step ?_ (by assumption)) | (with_reducible apply below_alloc) | (with_reducible apply below_drewN)))⟩
    | true =>
      obtain ⟨m, rfl, hcm, -⟩ := cxOk_cx h2
      have hn := hcn.hi
      have hm := hcm.hi
      cases h3 : mapOk n m f with
      | false =>
        have HA : Aside0 (ansIsSimplicial n xs m ys f = (false, 2)) := ⟨by unfold ansIsSimplicial; rw [h1, h2, Int.toNat_natCast, Int.toNat_natCast, h3]; rfl⟩
        clear hcn hcm
        go_enter Try.func21, Try.ntmps21
        go_wp2_with (first | (rw [← hw1]; clear hw1; go_at_call 32; refine (specIs _ _ xs _ HK.out).mono ?_; rintro e w2 ⟨rfl, hb⟩; rw [h1]; have c0 := pw_cell_below hb c0; have c1 := pw_cell_below hb c1; have c2 := pw_cell_below hb c2; have c3 := pw_cell_below hb c3; have HB2 := Aside0.mk hb; clear hb) | (go_at_call 32; refine (specIs _ _ ys _ (HL.out.below HB2.out)).mono ?_; rintro e w3 ⟨rfl, hb⟩; rw [h2]; have c0 := pw_cell_below hb c0; have c1 := pw_cell_below hb c1; have c2 := pw_cell_below hb c2; have c3 := pw_cell_below hb c3; have HB3 := Aside0.mk (HB2.out.trans (hb.mono HB2.out.size)); clear hb) | (go_at_call 33; refine (specMap n m hn hm _ _ _ f _ (HV.out.below HB3.out)).mono ?_; rintro e w4 ⟨rfl, hb4⟩; rw [h3]))
        go_ret2
        exact ⟨by rw [HA.out]; rfl, by have := HB.out; have := HB3.out; (repeat (first | (with_reducible exact Below.refl _ _) | (with_reducible assumption) | (with_reducible refine below_step ?_ (by assumption)) | (with_reducible apply below_alloc) | (with_reducible apply below_drewN)))⟩
      | true =>
        have HA : Aside0 (ansIsSimplicial n xs m ys f = (simpOk xs ys f, 0)) := ⟨by unfold ansIsSimplicial; rw [h1, h2, Int.toNat_natCast, Int.toNat_natCast, h3]; rfl⟩
        have HN := Aside0.mk hcn
        have HM2 := Aside0.mk hcm
        have HP := Aside0.mk (mapOk_mp h3)
        clear hcn hcm
        go_enter Try.func21, Try.ntmps21
        go_wp2_with (first | (rw [← hw1]; clear hw1; go_at_call 32; refine (specIs _ _ xs _ HK.out).mono ?_; rintro e w2 ⟨rfl, hb⟩; rw [h1]; have c0 := pw_cell_below hb c0; have c1 := pw_cell_below hb c1; have c2 := pw_cell_below hb c2; have c3 := pw_cell_below hb c3; have HB2 := Aside0.mk hb; clear hb) | (go_at_call 32; refine (specIs _ _ ys _ (HL.out.below HB2.out)).mono ?_; rintro e w3 ⟨rfl, hb⟩; rw [h2]; have c0 := pw_cell_below hb c0; have c1 := pw_cell_below hb c1; have c2 := pw_cell_below hb c2; have c3 := pw_cell_below hb c3; have HB3 := Aside0.mk (HB2.out.trans (hb.mono HB2.out.size)); clear hb) | (go_at_call 33; refine (specMap n m hn hm _ _ _ f _ (HV.out.below HB3.out)).mono ?_; rintro e w4 ⟨rfl, hb⟩; rw [h3]; have c0 := pw_cell_below hb c0; have c1 := pw_cell_below hb c1; have c2 := pw_cell_below hb c2; have c3 := pw_cell_below hb c3; have HB4 := Aside0.mk (HB3.out.trans (hb.mono HB3.out.size)); clear hb) | (go_at_call 37; refine (specSimplicial n m _ _ _ xs ys f _ (HK.out.below HB4.out) (HL.out.below HB4.out) (HV.out.below HB4.out) HN.out HM2.out HP.out).mono ?_; rintro e w5 ⟨rfl, hb5⟩))
        go_ret2
        exact ⟨by rw [HA.out]; rfl, by have := HB.out; have := HB4.out; (repeat (first | (with_reducible exact Below.refl _ _) | (with_reducible assumption) | (with_reducible refine below_step ?_ (by assumption)) | (with_reducible apply below_alloc) | (with_reducible apply below_drewN)))⟩
end Go.Proofs.Yteeanddkkmelnaa.H
