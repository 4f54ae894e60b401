/- The codes for simplicial maps. -/
import Derived.Test.YtllmbbaffhpheaaSimp
namespace Go.Proofs.Ytllmbbaffhpheaa.H
open Go.RowKit Go.Proofs.YtllmbbaffhpheaaW.PrintWords Go.Proofs.YtllmbbaffhpheaaW.PrintLast Go.Proofs.YtllmbbaffhpheaaW.PrintMore
set_option linter.unusedVariables false
set_option linter.unusedSimpArgs false

/-- the code for simplicial maps -/
def codeSimp (a b : Int) (xs ys : List Int) (fs : List (List Int)) (r : Bool) : Int :=
  if cxOk a xs && cxOk b ys then (if fs.all (mapOk a.toNat b.toNat) && r then (if fs.all (simpOk xs ys) then 0 else 5) else 2) else 1
theorem codeSimp_map {a b : Int} {xs ys : List Int} {fs : List (List Int)} {r : Bool} : codeMap a b xs ys fs r ≠ 0 → codeSimp a b xs ys fs r = codeMap a b xs ys fs r := by
  unfold codeSimp codeMap
  split
  · split
    · intro h; exact absurd rfl h
    · intro _; rfl
  · intro _; rfl
theorem codeMap_zero {a b : Int} {xs ys : List Int} {fs : List (List Int)} {r : Bool} (h : codeMap a b xs ys fs r = 0) : ∃ n m : Nat, a = n ∧ b = m ∧ Cx n xs ∧ Cx m ys ∧ (∀ f ∈ fs, Mp n m f) ∧ r = true ∧ codeSimp a b xs ys fs r = if fs.all (simpOk xs ys) then 0 else 5 := by
  unfold codeMap at h
  unfold codeSimp
  cases h1 : (cxOk a xs && cxOk b ys) with
  | false => rw [h1] at h; simp at h
  | true =>
    rw [h1] at h
    have hx := h1
    rw [Bool.and_eq_true] at hx
    obtain ⟨n, rfl, hcn, -⟩ := cxOk_cx hx.1
    obtain ⟨m, rfl, hcm, -⟩ := cxOk_cx hx.2
    cases h2 : (fs.all (mapOk (n : Int).toNat (m : Int).toNat) && r) with
    | false => rw [h2] at h; simp at h
    | true =>
      have h3 := h2
      rw [Bool.and_eq_true, List.all_eq_true] at h3
      exact ⟨n, m, rfl, rfl, hcn, hcm, fun f hf => mapOk_mp (h3.1 f hf), h3.2, rfl⟩

set_option maxHeartbeats 1000000 in
theorem simplicialCode1 (w : World) (bk bl : Nat) (n m : Nat) (ku lu : Value) (xs ys : List Int) (hk : ReadI w ku xs) (hl : ReadI w lu ys) (hn : Cx n xs) (hm : Cx m ys) (h0 : w.cell? ⟨bk, 0, none⟩ = some (.int .i64 n)) (h1 : w.cell? ⟨bk, 1, none⟩ = some ku) (h2 : w.cell? ⟨bl, 0, none⟩ = some (.int .i64 m)) (h3 : w.cell? ⟨bl, 1, none⟩ = some lu) :
    PredS w (.func (.func 104) #[] #[.pointer (some ⟨bk, 0, none⟩), .pointer (some ⟨bl, 0, none⟩)]) (simpOk xs ys) (Mp n m) := by
  refine ⟨_, _, _, rfl, Enters.mk' Try.func104 rfl rfl, fun w1 u f hb hx hp => ?_⟩
  have c0 := pw_cell_below hb h0
  have c1 := pw_cell_below hb h1
  have c2 := pw_cell_below hb h2
  have c3 := pw_cell_below hb h3
  have HC := Aside0.mk (isSimplicial n m ku lu u xs ys f w1 (hk.below hb) (hl.below hb) hx hn hm hp)
  obtain ⟨A1, d1, rfl, -⟩ := id hk
  obtain ⟨A2, d2, rfl, -⟩ := id hl
  clear hb h0 h1 h2 h3 hx hk hl hn hm hp
  show Calls _ _ #[_, _, _] _ _
  go_enter Try.func104, Try.ntmps104
  go_wp2_with (first | (go_at_call 63; refine HC.out.mono ?_; rintro e w' ⟨rfl, hb⟩))
  go_ret
  exact ⟨rfl, by (repeat (first | (with_reducible exact Below.refl _ _) | (with_reducible assumption) | (with_reducible refine below_step ?_ (by assumption)) | (with_reducible apply below_alloc) | (with_reducible apply below_drewN)))⟩

set_option maxHeartbeats 2000000 in
theorem simplicialCode (a b : Int) (ku lu : Value) (xs ys : List Int) (fv lv : Value) (r : Bool) (fs : List (List Int)) (w : World) (hk : ReadI w ku xs) (hl : ReadI w lu ys) (hf : cxOk a xs = true → cxOk b ys = true → ThunkB w fv r) (hfv : ∃ g first caps, fv = .func (.func g) first caps) (hs : ReadS w lv fs) :
    Calls Try.prog 55 #[cx a ku, cx b lu, fv, lv] w fun e w' => e = .returned (.int .i64 (codeSimp a b xs ys fs r)) ∧ Below w.heap.size w w' := by
  obtain ⟨w1, hw1⟩ : ∃ w1, w1 = (w.alloc (.cells #[.int .i64 a, ku] 28)).alloc (.cells #[.int .i64 b, lu] 28) := ⟨_, rfl⟩
  have hB : Below w.heap.size w w1 := by rw [hw1]; exact ((Below.refl _ w).alloc (Nat.le_refl _) _).alloc (by simp) _
  have c0 : w1.cell? ⟨w.heap.size, 0, none⟩ = some (.int .i64 a) := by rw [hw1]; simp
  have c1 : w1.cell? ⟨w.heap.size, 1, none⟩ = some ku := by rw [hw1]; simp
  have c2 : w1.cell? ⟨w.heap.size + 1, 0, none⟩ = some (.int .i64 b) := by rw [hw1]; simp
  have c3 : w1.cell? ⟨w.heap.size + 1, 1, none⟩ = some lu := by rw [hw1]; simp
  have HK := Aside0.mk (hk.below hB)
  have HL := Aside0.mk (hl.below hB)
  have HS := Aside0.mk (hs.below hB)
  have HB := Aside0.mk hB
  have HM := Aside0.mk (mapCode a b _ _ xs ys fv lv r fs w1 HK.out HL.out (fun x y => (hf x y).below hB) hfv HS.out)
  obtain ⟨A1, d1, rfl, -⟩ := id hk
  obtain ⟨A2, d2, rfl, -⟩ := id hl
  obtain ⟨A3, d3, rfl, -⟩ := id hs
  obtain ⟨g, first, caps, rfl⟩ := hfv
  clear hk hl hs hf hB
  by_cases h0 : codeMap a b xs ys fs r = 0
  · obtain ⟨n, m, rfl, rfl, hcn, hcm, hmp, hr, hcs⟩ := codeMap_zero h0
    have HN := Aside0.mk hcn
    have HM2 := Aside0.mk hcm
    have HP := Aside0.mk hmp
    have HA := Aside0.mk hcs
    clear hcn hcm hmp hcs hr
    cases h3 : fs.all (simpOk xs ys) with
    | false =>
      rw [h3] at HA
      go_enter Try.func55, Try.ntmps55
      go_wp2_with (first | (rw [← hw1]; clear hw1; go_at_call 102; refine HM.out.mono ?_; rintro e w2 ⟨rfl, hb⟩; rw [h0]; have c0 := pw_cell_below hb c0; have c1 := pw_cell_below hb c1; have c2 := pw_cell_below hb c2; have c3 := pw_cell_below hb c3; have HB2 := Aside0.mk hb; clear hb; have HP1 := Aside0.mk (simplicialCode1 _ _ _ n m _ _ xs ys (HK.out.below HB2.out) (HL.out.below HB2.out) HN.out HM2.out c0 c1 c2 c3)) | (go_at_call 103; refine (areAllS _ _ _ _ _ _ (HS.out.below HB2.out) HP1.out HP.out).mono ?_; rintro e w3 ⟨rfl, hb3⟩; rw [h3]))
      go_ret
      exact ⟨by rw [HA.out]; rfl, by have := HB.out; have := HB2.out; (repeat (first | (with_reducible exact Below.refl _ _) | (with_reducible assumption) | (with_reducible refine below_step ?_ (by assumption)) | (with_reducible apply below_alloc) | (with_reducible apply below_drewN)))⟩
    | true =>
      rw [h3] at HA
      go_enter Try.func55, Try.ntmps55
      go_wp2_with (first | (rw [← hw1]; clear hw1; go_at_call 102; refine HM.out.mono ?_; rintro e w2 ⟨rfl, hb⟩; rw [h0]; have c0 := pw_cell_below hb c0; have c1 := pw_cell_below hb c1; have c2 := pw_cell_below hb c2; have c3 := pw_cell_below hb c3; have HB2 := Aside0.mk hb; clear hb; have HP1 := Aside0.mk (simplicialCode1 _ _ _ n m _ _ xs ys (HK.out.below HB2.out) (HL.out.below HB2.out) HN.out HM2.out c0 c1 c2 c3)) | (go_at_call 103; refine (areAllS _ _ _ _ _ _ (HS.out.below HB2.out) HP1.out HP.out).mono ?_; rintro e w3 ⟨rfl, hb3⟩; rw [h3]))
      go_ret
      exact ⟨by rw [HA.out]; rfl, by have := HB.out; have := HB2.out; (repeat (first | (with_reducible exact Below.refl _ _) | (with_reducible assumption) | (with_reducible refine below_step ?_ (by assumption)) | (with_reducible apply below_alloc) | (with_reducible apply below_drewN)))⟩
  · have HA := Aside0.mk (codeSimp_map h0)
    obtain ⟨q, hq⟩ : ∃ q, q = codeMap a b xs ys fs r := ⟨_, rfl⟩
    rw [← hq] at h0 HA
    have hqb : (q != 0) = true := by simpa using h0
    have HQ := Aside0.mk hq
    clear hq h0
    go_enter Try.func55, Try.ntmps55
    go_wp2_with (first | (rw [← hw1]; clear hw1; go_at_call 102; refine HM.out.mono ?_; rintro e w2 ⟨rfl, hb⟩; rw [← HQ.out]))
    go_ret
    exact ⟨by rw [HA.out]; rfl, by have := HB.out; (repeat (first | (with_reducible exact Below.refl _ _) | (with_reducible assumption) | (with_reducible refine below_step ?_ (by assumption)) | (with_reducible apply below_alloc) | (with_reducible apply below_drewN)))⟩

set_option maxHeartbeats 1000000 in
theorem specCode (a : Int) (ku : Value) (xs : List Int) (b : Int) (lu : Value) (ys : List Int) (v : Value) (f : List Int) (w : World) (hk : ReadI w ku xs) (hl : ReadI w lu ys) (hv : ReadI w v f) :
    Calls Try.prog 52 #[cx a ku, cx b lu, v] w fun e w' => e = .returned (.int .i64 (codeSimp a b xs ys [f] true)) ∧ Below w.heap.size w w' := by
  obtain ⟨w1, hw1⟩ : ∃ w1, w1 = (w.alloc (.cells #[.int .i64 a, ku] 28)).alloc (.cells #[.int .i64 b, lu] 28) := ⟨_, rfl⟩
  have hB : Below w.heap.size w w1 := by rw [hw1]; exact ((Below.refl _ w).alloc (Nat.le_refl _) _).alloc (by simp) _
  have c0 : w1.cell? ⟨w.heap.size, 0, none⟩ = some (.int .i64 a) := by rw [hw1]; simp
  have c1 : w1.cell? ⟨w.heap.size, 1, none⟩ = some ku := by rw [hw1]; simp
  have c2 : w1.cell? ⟨w.heap.size + 1, 0, none⟩ = some (.int .i64 b) := by rw [hw1]; simp
  have c3 : w1.cell? ⟨w.heap.size + 1, 1, none⟩ = some lu := by rw [hw1]; simp
  have HK := Aside0.mk (hk.below hB)
  have HL := Aside0.mk (hl.below hB)
  have HV := Aside0.mk (hv.below hB)
  have HB := Aside0.mk hB
  obtain ⟨A1, d1, rfl, -⟩ := id hk
  obtain ⟨A2, d2, rfl, -⟩ := id hl
  obtain ⟨A3, d3, rfl, -⟩ := id hv
  clear hk hl hv hB
  cases h1 : cxOk a xs with
  | false =>
    have HA : Aside0 (codeSimp a b xs ys [f] true = 1) := ⟨by unfold codeSimp; rw [h1]; rfl⟩
    go_enter Try.func52, Try.ntmps52
    go_wp2_with (first | (rw [← hw1]; clear hw1; go_at_call 64; refine (specIs _ _ xs _ HK.out).mono ?_; rintro e w2 ⟨rfl, hb⟩; rw [h1]))
    go_ret
    exact ⟨by rw [HA.out]; rfl, by have := HB.out; (repeat (first | (with_reducible exact Below.refl _ _) | (with_reducible assumption) | (with_reducible refine below_step ?_ (by assumption)) | (with_reducible apply below_alloc) | (with_reducible apply below_drewN)))⟩
  | true =>
    obtain ⟨n, rfl, hcn, -⟩ := cxOk_cx h1
    cases h2 : cxOk b ys with
    | false =>
      have HA : Aside0 (codeSimp n b xs ys [f] true = 1) := ⟨by unfold codeSimp; rw [h1, h2]; rfl⟩
      go_enter Try.func52, Try.ntmps52
      go_wp2_with (first | (rw [← hw1]; clear hw1; go_at_call 64; refine (specIs _ _ xs _ HK.out).mono ?_; rintro e w2 ⟨rfl, hb⟩; rw [h1]; have c2 := pw_cell_below hb c2; have c3 := pw_cell_below hb c3) | (go_at_call 64; refine (specIs _ _ ys _ (HL.out.below ?hx)).mono ?_; (case hx => (repeat (first | (with_reducible exact Below.refl _ _) | (with_reducible assumption) | (with_reducible refine below_step ?_ (by assumption)) | (with_reducible apply below_alloc) | (with_reducible apply below_drewN)))); rintro e w2 ⟨rfl, hb⟩; rw [h2]))
      go_ret
      exact ⟨by rw [HA.out]; rfl, by have := HB.out; (repeat (first | (with_reducible exact Below.refl _ _) | (with_reducible assumption) | (with_reducible refine below_step ?_ (by assumption)) | (with_reducible apply below_alloc) | (with_reducible apply below_drewN)))⟩
    | true =>
      obtain ⟨m, rfl, hcm, -⟩ := cxOk_cx h2
      have hn := hcn.hi
      have hm := hcm.hi
      cases h3 : mapOk n m f with
      | false =>
        have HA : Aside0 (codeSimp n m xs ys [f] true = 2) := ⟨by unfold codeSimp; simp [h1, h2, h3]⟩
        clear hcn hcm
        go_enter Try.func52, Try.ntmps52
        go_wp2_with (first | (rw [← hw1]; clear hw1; go_at_call 64; refine (specIs _ _ xs _ HK.out).mono ?_; rintro e w2 ⟨rfl, hb⟩; rw [h1]; have c0 := pw_cell_below hb c0; have c1 := pw_cell_below hb c1; have c2 := pw_cell_below hb c2; have c3 := pw_cell_below hb c3; have HB2 := Aside0.mk hb; clear hb) | (go_at_call 64; refine (specIs _ _ ys _ (HL.out.below HB2.out)).mono ?_; rintro e w3 ⟨rfl, hb⟩; rw [h2]; have c0 := pw_cell_below hb c0; have c1 := pw_cell_below hb c1; have c2 := pw_cell_below hb c2; have c3 := pw_cell_below hb c3; have HB3 := Aside0.mk (HB2.out.trans (hb.mono HB2.out.size)); clear hb) | (go_at_call 100; refine (specMap n m hn hm _ _ _ f _ (HV.out.below HB3.out)).mono ?_; rintro e w4 ⟨rfl, hb4⟩; rw [h3]))
        go_ret
        exact ⟨by rw [HA.out]; rfl, by have := HB.out; have := HB3.out; (repeat (first | (with_reducible exact Below.refl _ _) | (with_reducible assumption) | (with_reducible refine below_step ?_ (by assumption)) | (with_reducible apply below_alloc) | (with_reducible apply below_drewN)))⟩
      | true =>
        have HN := Aside0.mk hcn
        have HM2 := Aside0.mk hcm
        have HP := Aside0.mk (mapOk_mp h3)
        clear hcn hcm
        cases h4 : simpOk xs ys f with
        | false =>
          have HA : Aside0 (codeSimp n m xs ys [f] true = 5) := ⟨by unfold codeSimp; simp [h1, h2, h3, h4]⟩
          go_enter Try.func52, Try.ntmps52
          go_wp2_with (first | (rw [← hw1]; clear hw1; go_at_call 64; refine (specIs _ _ xs _ HK.out).mono ?_; rintro e w2 ⟨rfl, hb⟩; rw [h1]; have c0 := pw_cell_below hb c0; have c1 := pw_cell_below hb c1; have c2 := pw_cell_below hb c2; have c3 := pw_cell_below hb c3; have HB2 := Aside0.mk hb; clear hb) | (go_at_call 64; refine (specIs _ _ ys _ (HL.out.below HB2.out)).mono ?_; rintro e w3 ⟨rfl, hb⟩; rw [h2]; have c0 := pw_cell_below hb c0; have c1 := pw_cell_below hb c1; have c2 := pw_cell_below hb c2; have c3 := pw_cell_below hb c3; have HB3 := Aside0.mk (HB2.out.trans (hb.mono HB2.out.size)); clear hb) | (go_at_call 100; refine (specMap n m hn hm _ _ _ f _ (HV.out.below HB3.out)).mono ?_; rintro e w4 ⟨rfl, hb⟩; rw [h3]; have c0 := pw_cell_below hb c0; have c1 := pw_cell_below hb c1; have c2 := pw_cell_below hb c2; have c3 := pw_cell_below hb c3; have HB4 := Aside0.mk (HB3.out.trans (hb.mono HB3.out.size)); clear hb) | (go_at_call 101; refine (specSimplicial n m _ _ _ xs ys f _ (HK.out.below HB4.out) (HL.out.below HB4.out) (HV.out.below HB4.out) HN.out HM2.out HP.out).mono ?_; rintro e w5 ⟨rfl, hb5⟩; rw [h4]))
          go_ret
          exact ⟨by rw [HA.out]; rfl, by have := HB.out; have := HB4.out; (repeat (first | (with_reducible exact Below.refl _ _) | (with_reducible assumption) | (with_reducible refine below_step ?_ (by assumption)) | (with_reducible apply below_alloc) | (with_reducible apply below_drewN)))⟩
        | true =>
          have HA : Aside0 (codeSimp n m xs ys [f] true = 0) := ⟨by unfold codeSimp; simp [h1, h2, h3, h4]⟩
          go_enter Try.func52, Try.ntmps52
          go_wp2_with (first | (rw [← hw1]; clear hw1; go_at_call 64; refine (specIs _ _ xs _ HK.out).mono ?_; rintro e w2 ⟨rfl, hb⟩; rw [h1]; have c0 := pw_cell_below hb c0; have c1 := pw_cell_below hb c1; have c2 := pw_cell_below hb c2; have c3 := pw_cell_below hb c3; have HB2 := Aside0.mk hb; clear hb) | (go_at_call 64; refine (specIs _ _ ys _ (HL.out.below HB2.out)).mono ?_; rintro e w3 ⟨rfl, hb⟩; rw [h2]; have c0 := pw_cell_below hb c0; have c1 := pw_cell_below hb c1; have c2 := pw_cell_below hb c2; have c3 := pw_cell_below hb c3; have HB3 := Aside0.mk (HB2.out.trans (hb.mono HB2.out.size)); clear hb) | (go_at_call 100; refine (specMap n m hn hm _ _ _ f _ (HV.out.below HB3.out)).mono ?_; rintro e w4 ⟨rfl, hb⟩; rw [h3]; have c0 := pw_cell_below hb c0; have c1 := pw_cell_below hb c1; have c2 := pw_cell_below hb c2; have c3 := pw_cell_below hb c3; have HB4 := Aside0.mk (HB3.out.trans (hb.mono HB3.out.size)); clear hb) | (go_at_call 101; refine (specSimplicial n m _ _ _ xs ys f _ (HK.out.below HB4.out) (HL.out.below HB4.out) (HV.out.below HB4.out) HN.out HM2.out HP.out).mono ?_; rintro e w5 ⟨rfl, hb5⟩; rw [h4]))
          go_ret
          exact ⟨by rw [HA.out]; rfl, by have := HB.out; have := HB4.out; (repeat (first | (with_reducible exact Below.refl _ _) | (with_reducible assumption) | (with_reducible refine below_step ?_ (by assumption)) | (with_reducible apply below_alloc) | (with_reducible apply below_drewN)))⟩
end Go.Proofs.Ytllmbbaffhpheaa.H
