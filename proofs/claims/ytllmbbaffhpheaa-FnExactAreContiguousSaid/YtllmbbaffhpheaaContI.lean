/- AreContiguous of the program. -/
import Derived.Test.YtllmbbaffhpheaaSCode
namespace Go.Proofs.Ytllmbbaffhpheaa.H
open Go.RowKit Go.Proofs.YtllmbbaffhpheaaW.PrintWords Go.Proofs.YtllmbbaffhpheaaW.PrintLast Go.Proofs.YtllmbbaffhpheaaW.PrintMore
set_option linter.unusedVariables false
set_option linter.unusedSimpArgs false

/-- both images of a face lie in one -/
def contAt (ys f g : List Int) (x : Int) : Bool := decide (((img x.toNat f ||| img x.toNat g : Nat) : Int) ∈ ys)
/-- what AreContiguous answers -/
def ansAreContiguous (a : Int) (xs : List Int) (b : Int) (ys f g : List Int) : Bool × Int :=
  if codeSimp a b xs ys [f, g] true = 0 then (xs.all (contAt ys f g), 0) else (false, codeSimp a b xs ys [f, g] true)
theorem codeSimp_zero {a b : Int} {xs ys : List Int} {fs : List (List Int)} {r : Bool} (h : codeSimp a b xs ys fs r = 0) : ∃ n m : Nat, a = n ∧ b = m ∧ Cx n xs ∧ Cx m ys ∧ (∀ f ∈ fs, Mp n m f) ∧ (∀ f ∈ fs, simpOk xs ys f = true) ∧ r = true := by
  by_cases h0 : codeMap a b xs ys fs r = 0
  · obtain ⟨n, m, rfl, rfl, h1, h2, h3, h4, h5⟩ := codeMap_zero h0
    refine ⟨n, m, rfl, rfl, h1, h2, h3, ?_, h4⟩
    rw [h5] at h
    split at h
    · next h6 => exact List.all_eq_true.1 h6
    · cases h
  · rw [codeSimp_map h0] at h
    exact absurd h h0
theorem img_lt {f : Nat} {p : List Int} (hp : ∀ x ∈ p, 0 ≤ x ∧ x ≤ 5) : img f p < 64 := imgTo_lt hp _

set_option maxHeartbeats 2000000 in
theorem areCont1 (w : World) (bl bf bg : Nat) (n m : Nat) (lu u v : Value) (ys f g : List Int) (hn : n ≤ 6) (hl : ReadI w lu ys) (hu : ReadI w u f) (hv : ReadI w v g) (hc : Cx m ys) (hf : Mp n m f) (hg : Mp n m g) (h0 : w.cell? ⟨bl, 0, none⟩ = some (.int .i64 m)) (h1 : w.cell? ⟨bl, 1, none⟩ = some lu) (h2 : w.cell? ⟨bf, 0, none⟩ = some u) (h3 : w.cell? ⟨bg, 0, none⟩ = some v) :
    PredI w (.func (.func 58) #[] #[.pointer (some ⟨bl, 0, none⟩), .pointer (some ⟨bf, 0, none⟩), .pointer (some ⟨bg, 0, none⟩)]) (contAt ys f g) (fun x => 0 ≤ x ∧ x < ((2 ^ n : Nat) : Int)) := by
  refine ⟨_, _, _, rfl, Enters.mk' Try.func58 rfl rfl, fun w1 x hb hx => ?_⟩
  obtain ⟨z, rfl⟩ : ∃ z : Nat, x = z := ⟨x.toNat, by omega⟩
  have hz1 : z < 2 ^ f.length := by rw [hf.len]; omega
  have hz2 : z < 2 ^ g.length := by rw [hg.len]; omega
  have c0 := pw_cell_below hb h0
  have c1 := pw_cell_below hb h1
  have c2 := pw_cell_below hb h2
  have c3 := pw_cell_below hb h3
  have HL := Aside0.mk (hl.below hb)
  have HU := Aside0.mk (hu.below hb)
  have HV := Aside0.mk (hv.below hb)
  obtain ⟨A1, d1, rfl, -⟩ := id hl
  obtain ⟨A2, d2, rfl, -⟩ := id hu
  obtain ⟨A3, d3, rfl, -⟩ := id hv
  have hlf : f.length ≤ 6 := by rw [hf.len]; exact hn
  have hlg : g.length ≤ 6 := by rw [hg.len]; exact hn
  have HI : Aside0 (∀ x : Ext w1, Calls Try.prog 60 #[.int .i64 z, .slice A2 f.length d2] x.1 fun e w' => e = .returned (.int .i64 (img z f : Nat)) ∧ Below x.1.heap.size x.1 w') := ⟨fun x => imageOf z _ f x.1 (HU.out.below x.2) hlf hz1 (hf.bd5 hc.hi)⟩
  have HJ : Aside0 (∀ x : Ext w1, Calls Try.prog 60 #[.int .i64 z, .slice A3 g.length d3] x.1 fun e w' => e = .returned (.int .i64 (img z g : Nat)) ∧ Below x.1.heap.size x.1 w') := ⟨fun x => imageOf z _ g x.1 (HV.out.below x.2) hlg hz2 (hg.bd5 hc.hi)⟩
  have HH : Aside0 (∀ x : Ext w1, Calls Try.prog 59 #[cx m (.slice A1 ys.length d1), .int .i64 ((img z f ||| img z g : Nat) : Int)] x.1 fun e w' => e = .returned (.bool (contAt ys f g z)) ∧ Below x.1.heap.size x.1 w') := ⟨fun x => has m _ ys _ x.1 (HL.out.below x.2) hc.asc (by have := hc.len; omega)⟩
  have x0 : ∀ x : Ext w1, x.1.cell? ⟨bl, 0, none⟩ = some (.int .i64 m) := fun x => Ext.cell c0 x
  have x1 : ∀ x : Ext w1, x.1.cell? ⟨bl, 1, none⟩ = some (.slice A1 ys.length d1) := fun x => Ext.cell c1 x
  have x2 : ∀ x : Ext w1, x.1.cell? ⟨bf, 0, none⟩ = some (.slice A2 f.length d2) := fun x => Ext.cell c2 x
  have x3 : ∀ x : Ext w1, x.1.cell? ⟨bg, 0, none⟩ = some (.slice A3 g.length d3) := fun x => Ext.cell c3 x
  have l1 := img_lt (f := z) (hf.bd5 hc.hi)
  have l2 := img_lt (f := z) (hg.bd5 hc.hi)
  have hor := or_i64 (img z f) (img z g) (by omega) (by omega)
  clear hb h0 h1 h2 h3 hx hl hu hv hc hf hg c0 c1 c2 c3 hz1 hz2 hlf hlg HL HU HV l1 l2
  generalize contAt ys f g z = r at *
  generalize img z f ||| img z g = t at *
  generalize img z f = t1 at *
  generalize img z g = t2 at *
  show Calls _ _ #[_, _, _, _] _ _
  go_enter Try.func58, Try.ntmps58
  go_wp2
  refine wp_region_ext (by kernel_rfl) (by kernel_rfl) ?_
  repeat (go_big_quiet_step ((first | (go_at_call 60; with_reducible exact Calls.ext_of (HI.out _)) | (go_at_call 60; with_reducible exact Calls.ext_of (HJ.out _)) | (go_at_call 59; exact Calls.ext_of (HH.out _)))))
  refine wpQuiet_nil ?_
  rintro _ ⟨x, rfl⟩
  have hbx := x.2
  go_wp2
  go_ret
  exact ⟨rfl, by (repeat (first | (with_reducible exact Below.refl _ _) | (with_reducible assumption) | (with_reducible refine below_step ?_ (by assumption)) | (with_reducible apply below_alloc) | (with_reducible apply below_drewN)))⟩

theorem ReadS.two {W : World} {u v : Value} {f g : List Int} (h : ReadI W u f) (h' : ReadI W v g) : ReadS (W.alloc (.cells #[u, v] 22)) (.slice (some ⟨W.heap.size, 0, none⟩) 2 2) [f, g] := by
  have hb : Below W.heap.size W (W.alloc (.cells #[u, v] 22)) := Below.alloc (Below.refl _ _) (Nat.le_refl _) _
  refine ⟨_, 2, rfl, by simp, fun i xs hi => ?_⟩
  match i, hi with
  | 0, hi =>
    simp at hi
    subst hi
    exact ⟨_, u, rfl, by rw [add_mk]; exact blk_cell (blk_new W _) 0, h.below hb⟩
  | 1, hi =>
    simp at hi
    subst hi
    exact ⟨_, v, rfl, by rw [add_mk]; exact blk_cell (blk_new W _) 1, h'.below hb⟩

set_option maxHeartbeats 2000000 in
theorem implAreContiguous (a : Int) (ku : Value) (xs : List Int) (b : Int) (lu : Value) (ys : List Int) (u : Value) (f : List Int) (v : Value) (g : List Int) (w : World) (hk : ReadI w ku xs) (hl : ReadI w lu ys) (hu : ReadI w u f) (hv : ReadI w v g) :
    Calls Try.prog 19 #[cx a ku, cx b lu, u, v] w fun e w' => e = .returned (.tuple #[.bool (ansAreContiguous a xs b ys f g).1, .int .i64 (ansAreContiguous a xs b ys f g).2]) ∧ Below w.heap.size w w' := by
  obtain ⟨w0, hw0⟩ : ∃ w0, w0 = (w.alloc (.cells #[.int .i64 a, ku] 28)).alloc (.cells #[.int .i64 b, lu] 28) := ⟨_, rfl⟩
  obtain ⟨w1, hw1⟩ : ∃ w1, w1 = (w0.alloc (.cells #[u] 22)).alloc (.cells #[v] 22) := ⟨_, rfl⟩
  obtain ⟨w2, hw2⟩ : ∃ w2, w2 = w1.alloc (.cells #[u, v] 22) := ⟨_, rfl⟩
  have hs0 : w0.heap.size = w.heap.size + 1 + 1 := by rw [hw0]; simp
  have hs1 : w1.heap.size = w.heap.size + 1 + 1 + 1 + 1 := by rw [hw1]; simp [hs0]
  have hB0 : Below w.heap.size w w0 := by rw [hw0]; exact ((Below.refl _ w).alloc (Nat.le_refl _) _).alloc (by simp) _
  have hB1 : Below w0.heap.size w0 w1 := by rw [hw1]; exact ((Below.refl _ w0).alloc (Nat.le_refl _) _).alloc (by simp) _
  have hB2 : Below w1.heap.size w1 w2 := by rw [hw2]; exact Below.alloc (Below.refl _ _) (Nat.le_refl _) _
  have hB02 : Below w0.heap.size w0 w2 := hB1.trans (hB2.mono hB1.size)
  have hB : Below w.heap.size w w2 := hB0.trans (hB02.mono hB0.size)
  have c0 : w2.cell? ⟨w.heap.size, 0, none⟩ = some (.int .i64 a) := pw_cell_below hB02 (by rw [hw0]; simp)
  have c1 : w2.cell? ⟨w.heap.size, 1, none⟩ = some ku := pw_cell_below hB02 (by rw [hw0]; simp)
  have c2 : w2.cell? ⟨w.heap.size + 1, 0, none⟩ = some (.int .i64 b) := pw_cell_below hB02 (by rw [hw0]; simp)
  have c3 : w2.cell? ⟨w.heap.size + 1, 1, none⟩ = some lu := pw_cell_below hB02 (by rw [hw0]; simp)
  have c4 : w2.cell? ⟨w.heap.size + 1 + 1, 0, none⟩ = some u := pw_cell_below hB2 (by rw [hw1, ← hs0]; simp)
  have c5 : w2.cell? ⟨w.heap.size + 1 + 1 + 1, 0, none⟩ = some v := pw_cell_below hB2 (by rw [hw1, ← hs0]; simp)
  have c4a : w1.cell? ⟨w.heap.size + 1 + 1, 0, none⟩ = some u := by rw [hw1, ← hs0]; simp
  have c5a : w1.cell? ⟨w.heap.size + 1 + 1 + 1, 0, none⟩ = some v := by rw [hw1, ← hs0]; simp
  have c0a : w1.cell? ⟨w.heap.size, 0, none⟩ = some (.int .i64 a) := pw_cell_below hB1 (by rw [hw0]; simp)
  have c1a : w1.cell? ⟨w.heap.size, 1, none⟩ = some ku := pw_cell_below hB1 (by rw [hw0]; simp)
  have c2a : w1.cell? ⟨w.heap.size + 1, 0, none⟩ = some (.int .i64 b) := pw_cell_below hB1 (by rw [hw0]; simp)
  have c3a : w1.cell? ⟨w.heap.size + 1, 1, none⟩ = some lu := pw_cell_below hB1 (by rw [hw0]; simp)
  have HK := Aside0.mk (hk.below hB)
  have HL := Aside0.mk (hl.below hB)
  have HU := Aside0.mk (hu.below hB)
  have HV := Aside0.mk (hv.below hB)
  have HS := Aside0.mk (ReadS.two ((hu.below hB0).below hB1) ((hv.below hB0).below hB1))
  rw [← hw2, hs1] at HS
  have HB := Aside0.mk hB
  obtain ⟨A1, d1, rfl, -⟩ := id hk
  obtain ⟨A2, d2, rfl, -⟩ := id hl
  obtain ⟨A3, d3, rfl, -⟩ := id hu
  obtain ⟨A4, d4, rfl, -⟩ := id hv
  have HM := Aside0.mk (simplicialCode a b _ _ xs ys _ _ true [f, g] w2 HK.out HL.out (fun _ _ => alwaysB w2) ⟨_, _, _, rfl⟩ HS.out)
  clear hk hl hu hv hB hB0 hB1 hB2 hB02
  subst hw0
  by_cases h0 : codeSimp a b xs ys [f, g] true = 0
  · obtain ⟨n, m, rfl, rfl, hcn, hcm, hmp, -, -⟩ := codeSimp_zero h0
    have HA : Aside0 (ansAreContiguous n xs m ys f g = (xs.all (contAt ys f g), 0)) := ⟨by unfold ansAreContiguous; rw [if_pos h0]⟩
    have HN := Aside0.mk hcn
    have HC := Aside0.mk hcm
    have HF := Aside0.mk (hmp f (by simp))
    have HG := Aside0.mk (hmp g (by simp))
    have HD : Aside0 (∀ x ∈ xs, 0 ≤ x ∧ x < ((2 ^ n : Nat) : Int)) := ⟨fun x hx => by have := hcn.bd x hx; omega⟩
    clear hcn hcm hmp
    go_enter Try.func19, Try.ntmps19
    go_wp2_with (first | (go_at_call 55; rw [← hw1, ← hw2]; clear hw1 hw2 c0a c1a c2a c3a c4a c5a; refine HM.out.mono ?_; rintro e w3 ⟨rfl, hb⟩; rw [h0]; have c0 := pw_cell_below hb c0; have c1 := pw_cell_below hb c1; have c2 := pw_cell_below hb c2; have c3 := pw_cell_below hb c3; have c4 := pw_cell_below hb c4; have c5 := pw_cell_below hb c5; have HB3 := Aside0.mk hb; clear hb; have HP := Aside0.mk (areCont1 _ _ _ _ n m _ _ _ ys f g HN.out.hi (HL.out.below HB3.out) (HU.out.below HB3.out) (HV.out.below HB3.out) HC.out HF.out HG.out c2 c3 c4 c5)) | (go_at_call 57; refine (areAll _ _ _ _ _ _ (HK.out.below HB3.out) HP.out HD.out).mono ?_; rintro e w4 ⟨rfl, hb4⟩))
    go_ret2
    exact ⟨by rw [HA.out]; rfl, by have := HB.out; have := HB3.out; (repeat (first | (with_reducible exact Below.refl _ _) | (with_reducible assumption) | (with_reducible refine below_step ?_ (by assumption)) | (with_reducible apply below_alloc) | (with_reducible apply below_drewN)))⟩
  · obtain ⟨q, hq⟩ : ∃ q, q = codeSimp a b xs ys [f, g] true := ⟨_, rfl⟩
    have HA : Aside0 (ansAreContiguous a xs b ys f g = (false, q)) := ⟨by unfold ansAreContiguous; rw [if_neg h0, hq]⟩
    rw [← hq] at h0
    have hqb : (q != 0) = true := by simpa using h0
    have HQ := Aside0.mk hq
    clear hq h0
    go_enter Try.func19, Try.ntmps19
    go_wp2_with (first | (go_at_call 55; rw [← hw1, ← hw2]; clear hw1 hw2 c0a c1a c2a c3a c4a c5a; refine HM.out.mono ?_; rintro e w3 ⟨rfl, hb⟩; rw [← HQ.out]))
    go_ret2
    exact ⟨by rw [HA.out]; rfl, by have := HB.out; (repeat (first | (with_reducible exact Below.refl _ _) | (with_reducible assumption) | (with_reducible refine below_step ?_ (by assumption)) | (with_reducible apply below_alloc) | (with_reducible apply below_drewN)))⟩
end Go.Proofs.Ytllmbbaffhpheaa.H
