/- The code for maps; IsMap. -/
import Derived.Test.YtllmbbaffhpheaaMap
import Derived.Test.YtllmbbaffhpheaaHofS
namespace Go.Proofs.Ytllmbbaffhpheaa.H
open Go.RowKit Go.Proofs.YtllmbbaffhpheaaW.PrintWords Go.Proofs.YtllmbbaffhpheaaW.PrintLast Go.Proofs.YtllmbbaffhpheaaW.PrintMore
set_option linter.unusedVariables false
set_option linter.unusedSimpArgs false

/-- a function value of nothing that answers b -/
def ThunkB (w : World) (fv : Value) (b : Bool) : Prop :=
  ∃ g first caps, fv = .func (.func g) first caps ∧ Enters g ∧ ∀ w1, Below w.heap.size w w1 → Calls Try.prog g (first ++ #[] ++ caps) w1 fun e w2 => e = .returned (.bool b) ∧ Below w1.heap.size w1 w2
theorem ThunkB.below {w w' : World} {fv : Value} {b : Bool} (h : ThunkB w fv b) (hb : Below w.heap.size w w') : ThunkB w' fv b := by
  obtain ⟨g, first, caps, rfl, hent, hp⟩ := h
  exact ⟨g, first, caps, rfl, hent, fun w1 h1 => hp w1 (hb.trans (h1.mono hb.size))⟩

theorem always (w : World) : Calls Try.prog 56 #[] w fun e w' => e = .returned (.bool true) ∧ Below w.heap.size w w' := by
  go_enter Try.func56, Try.ntmps56
  go_wp2
  go_ret
  exact ⟨rfl, Below.refl _ _⟩
theorem alwaysB (w : World) : ThunkB w (.func (.func 56) #[] #[]) true :=
  ⟨_, _, _, rfl, Enters.mk' Try.func56 rfl rfl, fun w1 _ => always w1⟩

set_option maxHeartbeats 1000000 in
theorem mapCode1 (w : World) (bk bl : Nat) (n m : Nat) (ku lu : Value) (hn : n ≤ 6) (hm : m ≤ 6) (h0 : w.cell? ⟨bk, 0, none⟩ = some (.int .i64 n)) (h1 : w.cell? ⟨bk, 1, none⟩ = some ku) (h2 : w.cell? ⟨bl, 0, none⟩ = some (.int .i64 m)) (h3 : w.cell? ⟨bl, 1, none⟩ = some lu) :
    PredS w (.func (.func 134) #[] #[.pointer (some ⟨bk, 0, none⟩), .pointer (some ⟨bl, 0, none⟩)]) (mapOk n m) (fun _ => True) := by
  refine ⟨_, _, _, rfl, Enters.mk' Try.func134 rfl rfl, fun w1 u xs hb hx _ => ?_⟩
  have c0 := pw_cell_below hb h0
  have c1 := pw_cell_below hb h1
  have c2 := pw_cell_below hb h2
  have c3 := pw_cell_below hb h3
  have HX := Aside0.mk hx
  clear hb h0 h1 h2 h3 hx
  show Calls _ _ #[_, _, _] _ _
  go_enter Try.func134, Try.ntmps134
  go_wp2_with (first | (go_at_call 62; refine (isMap n m hn hm _ _ _ xs _ HX.out).mono ?_; rintro e w' ⟨rfl, hb⟩))
  go_ret
  exact ⟨rfl, by (repeat (first | (with_reducible exact Below.refl _ _) | (with_reducible assumption) | (with_reducible refine below_step ?_ (by assumption)) | (with_reducible apply below_alloc) | (with_reducible apply below_drewN)))⟩

/-- the code for maps -/
def codeMap (a b : Int) (xs ys : List Int) (fs : List (List Int)) (r : Bool) : Int :=
  if cxOk a xs && cxOk b ys then (if fs.all (mapOk a.toNat b.toNat) && r then 0 else 2) else 1

set_option maxHeartbeats 2000000 in
theorem mapCode (a b : Int) (ku lu : Value) (xs ys : List Int) (fv lv : Value) (r : Bool) (fs : List (List Int)) (w : World) (hk : ReadI w ku xs) (hl : ReadI w lu ys) (hf : cxOk a xs = true → cxOk b ys = true → ThunkB w fv r) (hfv : ∃ g first caps, fv = .func (.func g) first caps) (hs : ReadS w lv fs) :
    Calls Try.prog 102 #[cx a ku, cx b lu, fv, lv] w fun e w' => e = .returned (.int .i64 (codeMap a b xs ys fs r)) ∧ Below w.heap.size w w' := by
  obtain ⟨w1, hw1⟩ : ∃ w1, w1 = (w.alloc (.cells #[.int .i64 a, ku] 28)).alloc (.cells #[.int .i64 b, lu] 28) := ⟨_, rfl⟩
  have hB : Below w.heap.size w w1 := by rw [hw1]; exact ((Below.refl _ w).alloc (Nat.le_refl _) _).alloc (by simp) _
  have c0 : w1.cell? ⟨w.heap.size, 0, none⟩ = some (.int .i64 a) := by rw [hw1]; simp
  have c1 : w1.cell? ⟨w.heap.size, 1, none⟩ = some ku := by rw [hw1]; simp
  have c2 : w1.cell? ⟨w.heap.size + 1, 0, none⟩ = some (.int .i64 b) := by rw [hw1]; simp
  have c3 : w1.cell? ⟨w.heap.size + 1, 1, none⟩ = some lu := by rw [hw1]; simp
  have HK := Aside0.mk (hk.below hB)
  have HL := Aside0.mk (hl.below hB)
  have HS := Aside0.mk (hs.below hB)
  have HB := Aside0.mk hB
  obtain ⟨A1, d1, rfl, -⟩ := id hk
  obtain ⟨A2, d2, rfl, -⟩ := id hl
  obtain ⟨A3, d3, rfl, -⟩ := id hs
  obtain ⟨g, first, caps, rfl⟩ := hfv
  have HF := Aside0.mk hf
  clear hk hl hs hf hB
  cases h1 : cxOk a xs with
  | false =>
    have HA : Aside0 (codeMap a b xs ys fs r = 1) := ⟨by unfold codeMap; rw [h1]; rfl⟩
    go_enter Try.func102, Try.ntmps102
    go_wp2_with (first | (rw [← hw1]; clear hw1; go_at_call 61; refine (isComplex _ _ xs _ HK.out).mono ?_; rintro e w2 ⟨rfl, hb⟩; rw [h1]))
    go_ret
    exact ⟨by rw [HA.out]; rfl, by have := HB.out; (repeat (first | (with_reducible exact Below.refl _ _) | (with_reducible assumption) | (with_reducible refine below_step ?_ (by assumption)) | (with_reducible apply below_alloc) | (with_reducible apply below_drewN)))⟩
  | true =>
    obtain ⟨n, rfl, hcn, -⟩ := cxOk_cx h1
    cases h2 : cxOk b ys with
    | false =>
      have HA : Aside0 (codeMap n b xs ys fs r = 1) := ⟨by unfold codeMap; rw [h1, h2]; rfl⟩
      go_enter Try.func102, Try.ntmps102
      go_wp2_with (first | (rw [← hw1]; clear hw1; go_at_call 61; refine (isComplex _ _ xs _ HK.out).mono ?_; rintro e w2 ⟨rfl, hb⟩; rw [h1]; have c2 := pw_cell_below hb c2; have c3 := pw_cell_below hb c3) | (go_at_call 61; refine (isComplex _ _ ys _ (HL.out.below ?hx)).mono ?_; (case hx => (repeat (first | (with_reducible exact Below.refl _ _) | (with_reducible assumption) | (with_reducible refine below_step ?_ (by assumption)) | (with_reducible apply below_alloc) | (with_reducible apply below_drewN)))); rintro e w2 ⟨rfl, hb⟩; rw [h2]))
      go_ret
      exact ⟨by rw [HA.out]; rfl, by have := HB.out; (repeat (first | (with_reducible exact Below.refl _ _) | (with_reducible assumption) | (with_reducible refine below_step ?_ (by assumption)) | (with_reducible apply below_alloc) | (with_reducible apply below_drewN)))⟩
    | true =>
      obtain ⟨m, rfl, hcm, -⟩ := cxOk_cx h2
      obtain ⟨g', first', caps', e3, hent, hp⟩ := HF.out h1 h2
      cases e3
      have HP := Aside0.mk hp
      have hn := hcn.hi
      have hm := hcm.hi
      clear hp HF hcn hcm
      unfold Enters at hent
      cases h3 : fs.all (mapOk n m) with
      | false =>
        have HA : Aside0 (codeMap n m xs ys fs r = 2) := ⟨by unfold codeMap; rw [h1, h2, Int.toNat_natCast, Int.toNat_natCast, h3]; rfl⟩
        go_enter Try.func102, Try.ntmps102
        go_wp2_with (first | (rw [← hw1]; clear hw1; go_at_call 61; refine (isComplex _ _ xs _ HK.out).mono ?_; rintro e w2 ⟨rfl, hb⟩; rw [h1]; have c0 := pw_cell_below hb c0; have c1 := pw_cell_below hb c1; have c2 := pw_cell_below hb c2; have c3 := pw_cell_below hb c3; have HB2 := Aside0.mk hb; clear hb) | (go_at_call 61; refine (isComplex _ _ ys _ (HL.out.below HB2.out)).mono ?_; rintro e w3 ⟨rfl, hb⟩; rw [h2]; have c0 := pw_cell_below hb c0; have c1 := pw_cell_below hb c1; have c2 := pw_cell_below hb c2; have c3 := pw_cell_below hb c3; have HB3 := Aside0.mk (HB2.out.trans (hb.mono HB2.out.size)); clear hb; have HP1 := Aside0.mk (mapCode1 _ _ _ n m _ _ hn hm c0 c1 c2 c3)) | (go_at_call 103; refine (areAllS _ _ _ _ _ _ (HS.out.below HB3.out) HP1.out (fun _ _ => trivial)).mono ?_; rintro e w4 ⟨rfl, hb4⟩; rw [h3]))
        go_ret
        exact ⟨by rw [HA.out]; rfl, by have := HB.out; have := HB3.out; (repeat (first | (with_reducible exact Below.refl _ _) | (with_reducible assumption) | (with_reducible refine below_step ?_ (by assumption)) | (with_reducible apply below_alloc) | (with_reducible apply below_drewN)))⟩
      | true =>
        cases r with
        | false =>
          have HA : Aside0 (codeMap n m xs ys fs false = 2) := ⟨by unfold codeMap; rw [h1, h2, Int.toNat_natCast, Int.toNat_natCast, h3]; rfl⟩
          go_enter Try.func102, Try.ntmps102
          go_wp2_with (first | (rw [← hw1]; clear hw1; go_at_call 61; refine (isComplex _ _ xs _ HK.out).mono ?_; rintro e w2 ⟨rfl, hb⟩; rw [h1]; have c0 := pw_cell_below hb c0; have c1 := pw_cell_below hb c1; have c2 := pw_cell_below hb c2; have c3 := pw_cell_below hb c3; have HB2 := Aside0.mk hb; clear hb) | (go_at_call 61; refine (isComplex _ _ ys _ (HL.out.below HB2.out)).mono ?_; rintro e w3 ⟨rfl, hb⟩; rw [h2]; have c0 := pw_cell_below hb c0; have c1 := pw_cell_below hb c1; have c2 := pw_cell_below hb c2; have c3 := pw_cell_below hb c3; have HB3 := Aside0.mk (HB2.out.trans (hb.mono HB2.out.size)); clear hb; have HP1 := Aside0.mk (mapCode1 _ _ _ n m _ _ hn hm c0 c1 c2 c3)) | (go_at_call 103; refine (areAllS _ _ _ _ _ _ (HS.out.below HB3.out) HP1.out (fun _ _ => trivial)).mono ?_; rintro e w4 ⟨rfl, hb4⟩; rw [h3]; have HB4 := Aside0.mk (HB.out.trans ((HB3.out.trans (hb4.mono HB3.out.size)).mono HB.out.size))) | (refine (HP.out _ HB4.out).mono ?_; rintro e w5 ⟨rfl, hb5⟩))
          go_ret
          exact ⟨by rw [HA.out]; rfl, by have := HB4.out; (repeat (first | (with_reducible exact Below.refl _ _) | (with_reducible assumption) | (with_reducible refine below_step ?_ (by assumption)) | (with_reducible apply below_alloc) | (with_reducible apply below_drewN)))⟩
        | true =>
          have HA : Aside0 (codeMap n m xs ys fs true = 0) := ⟨by unfold codeMap; rw [h1, h2, Int.toNat_natCast, Int.toNat_natCast, h3]; rfl⟩
          go_enter Try.func102, Try.ntmps102
          go_wp2_with (first | (rw [← hw1]; clear hw1; go_at_call 61; refine (isComplex _ _ xs _ HK.out).mono ?_; rintro e w2 ⟨rfl, hb⟩; rw [h1]; have c0 := pw_cell_below hb c0; have c1 := pw_cell_below hb c1; have c2 := pw_cell_below hb c2; have c3 := pw_cell_below hb c3; have HB2 := Aside0.mk hb; clear hb) | (go_at_call 61; refine (isComplex _ _ ys _ (HL.out.below HB2.out)).mono ?_; rintro e w3 ⟨rfl, hb⟩; rw [h2]; have c0 := pw_cell_below hb c0; have c1 := pw_cell_below hb c1; have c2 := pw_cell_below hb c2; have c3 := pw_cell_below hb c3; have HB3 := Aside0.mk (HB2.out.trans (hb.mono HB2.out.size)); clear hb; have HP1 := Aside0.mk (mapCode1 _ _ _ n m _ _ hn hm c0 c1 c2 c3)) | (go_at_call 103; refine (areAllS _ _ _ _ _ _ (HS.out.below HB3.out) HP1.out (fun _ _ => trivial)).mono ?_; rintro e w4 ⟨rfl, hb4⟩; rw [h3]; have HB4 := Aside0.mk (HB.out.trans ((HB3.out.trans (hb4.mono HB3.out.size)).mono HB.out.size))) | (refine (HP.out _ HB4.out).mono ?_; rintro e w5 ⟨rfl, hb5⟩))
          go_ret
          exact ⟨by rw [HA.out]; rfl, by have := HB4.out; (repeat (first | (with_reducible exact Below.refl _ _) | (with_reducible assumption) | (with_reducible refine below_step ?_ (by assumption)) | (with_reducible apply below_alloc) | (with_reducible apply below_drewN)))⟩
end Go.Proofs.Ytllmbbaffhpheaa.H
