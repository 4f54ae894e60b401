/- ImageComplex of the program. ImageComplex of the reference, joined. A region of open order whose last operations come one behind the other. append(v, p) as one operation of a region of open order. FibreOf of the reference. -/
import Derived.Deep.AppendLies
import Derived.Test.YtomofijniefelaaGreatKFnMaps1
import Derived.Test.YtomofijniefelaaGreatKFnMaps2
import Derived.Test.YtomofijniefelaaGreatKFnMaps3
import Derived.Test.YtomofijniefelaaGreatKFnMaps4
import Derived.Test.YtomofijniefelaaGreatKFnMaps5
import Derived.Test.YtomofijniefelaaGreatKFnMaps6

namespace Go.Proofs.YtomofijniefelaaGreat.H
open Go.RowKit Go.Proofs.YtomofijniefelaaGreatW.PrintWords Go.Proofs.YtomofijniefelaaGreatW.PrintLast
set_option linter.unusedVariables false
set_option linter.unusedSimpArgs false
/-- what ImageComplex answers -/
def ansImageComplex (a : Int) (xs : List Int) (b : Int) (ys f : List Int) : (Int × List Int) × Int :=
 if codeSimp a b xs ys [f] true = 0 then ((b, thL (imAt xs f) (2 ^ b.toNat)), 0) else ((0, []), codeSimp a b xs ys [f] true)
set_option maxRecDepth 100000 in
set_option maxHeartbeats 1000000 in
theorem image11 (w : World) (bf bg : Nat) (n m : Nat) (u : Value) (xs f : List Int) (g : Int) (hu : ReadI w u f) (hc : Cx n xs) (hm : m ≤ 6) (hf : Mp n m f) (h0 : w.cell? ⟨bf, 0, none⟩ = some u) (h1 : w.cell? ⟨bg, 0, none⟩ = some (.int .i64 g)) :
  PredI w (.func (.func 123) #[] #[.pointer (some ⟨bf, 0, none⟩), .pointer (some ⟨bg, 0, none⟩)]) (opAt f g) (fun x => x ∈ xs) := by
 refine ⟨_, _, _, rfl, Enters.mk' Tryz.func123 rfl rfl, fun w1 x hb hx => ?_⟩
 obtain ⟨z, rfl, hz, -⟩ := cx_dom hc hf hx
 have c0 := pw_cell_below hb h0
 have c1 := pw_cell_below hb h1
 have HU := Aside0.mk (hu.below hb)
 have hlf : f.length ≤ 6 := by rw [hf.len]; exact hc.hi
 obtain ⟨A1, d1, rfl, -⟩ := id hu
 have HI : Aside0 (∀ x : Ext w1, Calls Tryz.prog 124 #[.int .i64 z, .slice A1 f.length d1] x.1 fun e w' => e = .returned (.int .i64 (img z f : Nat)) ∧ Below x.1.heap.size x.1 w') := ⟨fun x => imageOf z _ f x.1 (HU.out.below x.2) hlf hz (hf.bd5 hm)⟩
 have x0 : ∀ x : Ext w1, x.1.cell? ⟨bf, 0, none⟩ = some (.slice A1 f.length d1) := fun x => Ext.cell c0 x
 have x1 : ∀ x : Ext w1, x.1.cell? ⟨bg, 0, none⟩ = some (.int .i64 g) := fun x => Ext.cell c1 x
 have HO : Aside0 (opAt f g (z : Int) = (((img z f : Nat) : Int) == g)) := ⟨rfl⟩
 clear hb h0 h1 hx hu hc hf hz hlf HU c0 c1
 generalize img z f = t at *
 show Calls _ _ #[_, _, _] _ _
 go_enter Tryz.func123, Tryz.ntmps123
 go_wp2
 refine wp_region_ext (by kernel_rfl) (by kernel_rfl) ?_
 repeat (go_big_quiet_step ((first | (go_at_call 124; exact Calls.ext_of (HI.out _)))))
 refine wpQuiet_nil ?_
 rintro _ ⟨x, rfl⟩
 have hbx := x.2
 go_wp2
 go_ret
 exact ⟨by rw [HO.out]; rfl, by (repeat (first | (with_reducible exact Below.refl _ _) | (with_reducible assumption) | (with_reducible refine below_step ?_ (by assumption)) | (with_reducible apply below_alloc) | (with_reducible apply below_drewN)))⟩
set_option maxRecDepth 100000 in
set_option maxHeartbeats 1000000 in
theorem image1 (w : World) (bk bf : Nat) (n m : Nat) (ku u : Value) (xs f : List Int) (hk : ReadI w ku xs) (hu : ReadI w u f) (hc : Cx n xs) (hm : m ≤ 6) (hf : Mp n m f) (h0 : w.cell? ⟨bk, 0, none⟩ = some (.int .i64 n)) (h1 : w.cell? ⟨bk, 1, none⟩ = some ku) (h2 : w.cell? ⟨bf, 0, none⟩ = some u) :
  PredI w (.func (.func 121) #[] #[.pointer (some ⟨bk, 0, none⟩), .pointer (some ⟨bf, 0, none⟩)]) (imAt xs f) (fun g => 1 ≤ g ∧ g < ((2 ^ m : Nat) : Int)) := by
 refine ⟨_, _, _, rfl, Enters.mk' Tryz.func121 rfl rfl, fun w1 x hb hx => ?_⟩
 obtain ⟨w2, hw2⟩ : ∃ w2, w2 = w1.alloc (.cells #[.int .i64 x] 2) := ⟨_, rfl⟩
 have hb2 : Below w1.heap.size w1 w2 := by rw [hw2]; exact Below.alloc (Below.refl _ _) (Nat.le_refl _) _
 have hb02 := hb.trans (hb2.mono hb.size)
 have c0 := pw_cell_below hb h0
 have c1 := pw_cell_below hb h1
 have c2 := pw_cell_below hb02 h2
 have c3 : w2.cell? ⟨w1.heap.size, 0, none⟩ = some (.int .i64 x) := by rw [hw2]; simp
 have HP := Aside0.mk (image11 w2 bf w1.heap.size n m u xs f x (hu.below hb02) hc hm hf c2 c3)
 have HK := Aside0.mk (hk.below hb02)
 have HB2 := Aside0.mk hb2
 have HI : Aside0 (imAt xs f x = xs.any (opAt f x)) := ⟨rfl⟩
 obtain ⟨A1, d1, rfl, -⟩ := id hk
 have c1b : (w1.alloc (.cells #[.int .i64 x] 2)).cell? ⟨bk, 1, none⟩ = some (.slice A1 xs.length d1) := by rw [← hw2]; exact pw_cell_below hb2 c1
 clear hb h0 h1 h2 hk hu hc hf hx hb2 hb02 c2 c3
 show Calls _ _ #[_, _, _] _ _
 go_enter Tryz.func121, Tryz.ntmps121
 go_wp2_with (first | (go_at_call 122; rw [← hw2]; clear hw2 c1b; refine (containsFunc _ xs _ (opAt f x) (fun y => y ∈ xs) _ HK.out HP.out (fun _ h => h)).mono ?_; rintro e w3 ⟨rfl, hb3⟩))
 go_ret
 exact ⟨by rw [HI.out]; rfl, HB2.out.trans (hb3.mono HB2.out.size)⟩
set_option maxRecDepth 100000 in
set_option maxHeartbeats 1000000 in
theorem implImageComplex (a : Int) (ku : Value) (xs : List Int) (b : Int) (lu : Value) (ys : List Int) (v : Value) (f : List Int) (w : World) (hk : ReadI w ku xs) (hl : ReadI w lu ys) (hv : ReadI w v f) :
  Calls Tryz.prog 11 #[cx a ku, cx b lu, v] w fun e w' => ∃ u, e = .returned (.tuple #[.agg #[.int .i64 (ansImageComplex a xs b ys f).1.1, u], .int .i64 (ansImageComplex a xs b ys f).2]) ∧ OwnI w.heap.size w' u (ansImageComplex a xs b ys f).1.2 ∧ Below w.heap.size w w' := by
 obtain ⟨w0, hw0⟩ : ∃ w0, w0 = (w.alloc (.cells #[.int .i64 a, ku] 26)).alloc (.cells #[.int .i64 b, lu] 26) := ⟨_, rfl⟩
 obtain ⟨w1, hw1⟩ : ∃ w1, w1 = w0.alloc (.cells #[v] 24) := ⟨_, rfl⟩
 obtain ⟨w3, hw3⟩ : ∃ w3, w3 = w1.alloc (.cells #[.int .i64 0, .slice none 0 0] 26) := ⟨_, rfl⟩
 obtain ⟨w4, hw4⟩ : ∃ w4, w4 = w3.alloc (.cells #[v] 24) := ⟨_, rfl⟩
 have hs0 : w0.heap.size = w.heap.size + 1 + 1 := by rw [hw0]; simp
 have hs1 : w1.heap.size = w.heap.size + 1 + 1 + 1 := by rw [hw1]; simp [hs0]
 have hs3 : w3.heap.size = w.heap.size + 1 + 1 + 1 + 1 := by rw [hw3]; simp [hs1]
 have hB0 : Below w.heap.size w w0 := by rw [hw0]; exact ((Below.refl _ w).alloc (Nat.le_refl _) _).alloc (by simp) _
 have hB1 : Below w0.heap.size w0 w1 := by rw [hw1]; exact Below.alloc (Below.refl _ _) (Nat.le_refl _) _
 have hB3 : Below w1.heap.size w1 w3 := by rw [hw3]; exact Below.alloc (Below.refl _ _) (Nat.le_refl _) _
 have hB4 : Below w3.heap.size w3 w4 := by rw [hw4]; exact Below.alloc (Below.refl _ _) (Nat.le_refl _) _
 have hB14 : Below w1.heap.size w1 w4 := hB3.trans (hB4.mono hB3.size)
 have hB04 : Below w0.heap.size w0 w4 := hB1.trans (hB14.mono hB1.size)
 have hB03 : Below w0.heap.size w0 w3 := hB1.trans (hB3.mono hB1.size)
 have hB : Below w.heap.size w w4 := hB0.trans (hB04.mono hB0.size)
 have c0 : w4.cell? ⟨w.heap.size, 0, none⟩ = some (.int .i64 a) := pw_cell_below hB04 (by rw [hw0]; simp)
 have c1 : w4.cell? ⟨w.heap.size, 1, none⟩ = some ku := pw_cell_below hB04 (by rw [hw0]; simp)
 have c2 : w4.cell? ⟨w.heap.size + 1, 0, none⟩ = some (.int .i64 b) := pw_cell_below hB04 (by rw [hw0]; simp)
 have c3 : w4.cell? ⟨w.heap.size + 1, 1, none⟩ = some lu := pw_cell_below hB04 (by rw [hw0]; simp)
 have c4 : w4.cell? ⟨w.heap.size + 1 + 1, 0, none⟩ = some v := pw_cell_below hB14 (by rw [hw1, ← hs0]; simp)
 have hk4 : w4.heap[w.heap.size + 1 + 1 + 1]? = some (.cells #[.int .i64 0, .slice none 0 0] 26) := by rw [hw4]; refine blk_alloc ?_ _; rw [hw3, ← hs1]; exact blk_new _ _
 have HK := Aside0.mk (hk.below hB)
 have HL := Aside0.mk (hl.below hB)
 have HV := Aside0.mk (hv.below hB)
 have HS := Aside0.mk (ReadS.one' ((hv.below hB0).below hB03))
 rw [← hw4, hs3] at HS
 have HB := Aside0.mk hB
 have HBK := Aside0.mk hk4
 have hsz : Aside0 (w4.heap.size = w.heap.size + 5) := ⟨by rw [hw4]; simp [hs3]⟩
 have c0a : w3.cell? ⟨w.heap.size, 0, none⟩ = some (.int .i64 a) := pw_cell_below hB03 (by rw [hw0]; simp)
 have c1a : w3.cell? ⟨w.heap.size, 1, none⟩ = some ku := pw_cell_below hB03 (by rw [hw0]; simp)
 have c2a : w3.cell? ⟨w.heap.size + 1, 0, none⟩ = some (.int .i64 b) := pw_cell_below hB03 (by rw [hw0]; simp)
 have c3a : w3.cell? ⟨w.heap.size + 1, 1, none⟩ = some lu := pw_cell_below hB03 (by rw [hw0]; simp)
 have c4a : w3.cell? ⟨w.heap.size + 1 + 1, 0, none⟩ = some v := pw_cell_below hB3 (by rw [hw1, ← hs0]; simp)
 obtain ⟨A1, d1, rfl, -⟩ := id hk
 obtain ⟨A2, d2, rfl, -⟩ := id hl
 obtain ⟨A3, d3, rfl, -⟩ := id hv
 have HM := Aside0.mk (simplicialCode a b _ _ xs ys _ _ true [f] w4 HK.out HL.out (fun _ _ => alwaysB w4) ⟨_, _, _, rfl⟩ HS.out)
 clear hk hl hv hB hB0 hB1 hB3 hB4 hB14 hB04 hB03 hk4
 subst hw0
 obtain ⟨q, hq⟩ : ∃ q, q = codeSimp a b xs ys [f] true := ⟨_, rfl⟩
 by_cases h0 : q = 0
 ·have h0' := hq.symm.trans h0
  obtain ⟨n, m, rfl, rfl, hcn, hcm, hmp, -, -⟩ := codeSimp_zero' h0'
  have HA : Aside0 (ansImageComplex n xs m ys f = (((m : Int), thL (imAt xs f) (2 ^ m)), 0)) := ⟨by unfold ansImageComplex; rw [if_pos h0']; rfl⟩
  have HN := Aside0.mk hcn
  have HC := Aside0.mk hcm
  have HF := Aside0.mk (hmp f (by simp))
  have HQ := Aside0.mk h0'
  have HP := Aside0.mk (fun (wz : World) (hbz : Below w4.heap.size w4 wz) => image1 wz w.heap.size (w.heap.size + 1 + 1) n m _ _ xs f (HK.out.below hbz) (HV.out.below hbz) hcn hcm.hi (hmp f (by simp)) (pw_cell_below hbz c0) (pw_cell_below hbz c1) (pw_cell_below hbz c4))
  clear hcn hcm hmp hq h0 h0'
  go_enter Tryz.func11, Tryz.ntmps11
  go_wp2_with (first | (go_at_call 118; rw [← hw1, ← hw3, ← hw4]; clear hw1 hw3 hw4 c0a c1a c2a c3a c4a; refine HM.out.mono ?_; rintro e w5 ⟨rfl, hb⟩; rw [HQ.out]; have c2 := pw_cell_below hb c2; have c3 := pw_cell_below hb c3; have HB3 := Aside0.mk hb; clear hb) | (go_at_call 120; refine (those m HC.out.hi _ _ _ (HP.out _ HB3.out)).mono ?_; rintro e w6 ⟨u, rfl, ho, hb6⟩; obtain ⟨A4, d4, rfl, -⟩ := ho.read; have HO := Aside0.mk ho; have HK2 := Aside0.mk (blk_below (blk_below HBK.out HB3.out) hb6); have c60 : w6.cell? ⟨w.heap.size + 1 + 1 + 1, 0, none⟩ = some (.int .i64 0) := blk_cell HK2.out 0; have c61 : w6.cell? ⟨w.heap.size + 1 + 1 + 1, 1, none⟩ = some (.slice none 0 0) := blk_cell HK2.out 1; have f60 : w6.frozen? ⟨w.heap.size + 1 + 1 + 1, 0, none⟩ = false := blk_frozen HK2.out 0; have f61 : w6.frozen? ⟨w.heap.size + 1 + 1 + 1, 1, none⟩ = false := blk_frozen HK2.out 1; have HB6 := Aside0.mk hb6; clear ho hb6))
  refine bodyPost_ret (results_ct rfl _ _ (w.heap.size + 1 + 1 + 1) 26 #[.int .i64 m, .slice A4 (thL (imAt xs f) (2 ^ m)).length d4] (0, 0) _ rfl (by refine blk_put (cs := #[.int .i64 m, .slice none 0 0]) ?_ 1 _ rfl; refine blk_put (cs := #[.int .i64 0, .slice none 0 0]) ?_ 0 _ rfl; exact HK2.out) Tryz.underlying26 rfl (by kernel_rfl)) rfl ?_
  have hsz := hsz.out
  have hs5 := HB3.out.size
  have hb := HB.out.trans ((HB3.out.trans (HB6.out.mono HB3.out.size)).mono HB.out.size)
  refine ⟨.slice A4 (thL (imAt xs f) (2 ^ m)).length d4, by rw [HA.out]; rfl, ?_, (hb.setCell (by simp; omega) _).setCell (by simp; omega) _⟩
  have hbs := HO.out.base
  have ho := HO.out.lower (b' := w.heap.size) (by omega)
  rw [HA.out]
  exact (ho.grown (set_grown' _ (w.heap.size + 1 + 1 + 1) _ _) (fun j hj e => by have := hbs _ hj; cases e; omega)).grown (set_grown' _ (w.heap.size + 1 + 1 + 1) _ _) (fun j hj e => by have := hbs _ hj; cases e; omega)
 ·have HA : Aside0 (ansImageComplex a xs b ys f = ((0, []), q)) := ⟨by unfold ansImageComplex; rw [← hq, if_neg h0]⟩
  have hqb : (q != 0) = true := by simpa using h0
  have HQ := Aside0.mk hq
  clear hq h0
  go_enter Tryz.func11, Tryz.ntmps11
  go_wp2_with (first | (go_at_call 118; rw [← hw1, ← hw3, ← hw4]; clear hw1 hw3 hw4 c0a c1a c2a c3a c4a; refine HM.out.mono ?_; rintro e w5 ⟨rfl, hb⟩; rw [← HQ.out]; have HB3 := Aside0.mk hb; have HK2 := Aside0.mk (blk_below HBK.out hb); have c60 : w5.cell? ⟨w.heap.size + 1 + 1 + 1, 0, none⟩ = some (.int .i64 0) := blk_cell HK2.out 0; have c61 : w5.cell? ⟨w.heap.size + 1 + 1 + 1, 1, none⟩ = some (.slice none 0 0) := blk_cell HK2.out 1; have f60 : w5.frozen? ⟨w.heap.size + 1 + 1 + 1, 0, none⟩ = false := blk_frozen HK2.out 0; have f61 : w5.frozen? ⟨w.heap.size + 1 + 1 + 1, 1, none⟩ = false := blk_frozen HK2.out 1; clear hb))
  refine bodyPost_ret (results_ct rfl _ _ (w.heap.size + 1 + 1 + 1) 26 #[.int .i64 0, .slice none 0 0] (0, 0) _ rfl (by refine blk_put (cs := #[.int .i64 0, .slice none 0 0]) ?_ 1 _ rfl; refine blk_put (cs := #[.int .i64 0, .slice none 0 0]) ?_ 0 _ rfl; exact HK2.out) Tryz.underlying26 rfl (by kernel_rfl)) rfl ?_
  have hsz := hsz.out
  have hb := HB.out.trans (HB3.out.mono HB.out.size)
  exact ⟨.slice none 0 0, by rw [HA.out]; rfl, by rw [HA.out]; exact OwnI.nil _ _, (hb.setCell (by simp; omega) _).setCell (by simp; omega) _⟩
set_option maxRecDepth 100000 in
set_option maxHeartbeats 2000000 in
theorem specImageComplex (a : Int) (ku : Value) (xs : List Int) (b : Int) (lu : Value) (ys : List Int) (v : Value) (f : List Int) (w : World) (hk : ReadI w ku xs) (hl : ReadI w lu ys) (hv : ReadI w v f) :
  Calls Tryz.prog 12 #[cx a ku, cx b lu, v] w fun e w' => ∃ u, e = .returned (.tuple #[.agg #[.int .i64 (ansImageComplex a xs b ys f).1.1, u], .int .i64 (ansImageComplex a xs b ys f).2]) ∧ OwnI w.heap.size w' u (ansImageComplex a xs b ys f).1.2 ∧ Below w.heap.size w w' := by
 obtain ⟨w0, hw0⟩ : ∃ w0, w0 = (w.alloc (.cells #[.int .i64 a, ku] 26)).alloc (.cells #[.int .i64 b, lu] 26) := ⟨_, rfl⟩
 obtain ⟨w1, hw1⟩ : ∃ w1, w1 = w0.alloc (.cells #[.int .i64 0, .slice none 0 0] 26) := ⟨_, rfl⟩
 have hs0 : w0.heap.size = w.heap.size + 1 + 1 := by rw [hw0]; simp
 have hs1 : w1.heap.size = w.heap.size + 1 + 1 + 1 := by rw [hw1]; simp [hs0]
 have hB0 : Below w.heap.size w w0 := by rw [hw0]; exact ((Below.refl _ w).alloc (Nat.le_refl _) _).alloc (by simp) _
 have hB1 : Below w0.heap.size w0 w1 := by rw [hw1]; exact Below.alloc (Below.refl _ _) (Nat.le_refl _) _
 have hB : Below w.heap.size w w1 := hB0.trans (hB1.mono hB0.size)
 have c0 : w1.cell? ⟨w.heap.size, 0, none⟩ = some (.int .i64 a) := pw_cell_below hB1 (by rw [hw0]; simp)
 have c1 : w1.cell? ⟨w.heap.size, 1, none⟩ = some ku := pw_cell_below hB1 (by rw [hw0]; simp)
 have c2 : w1.cell? ⟨w.heap.size + 1, 0, none⟩ = some (.int .i64 b) := pw_cell_below hB1 (by rw [hw0]; simp)
 have c3 : w1.cell? ⟨w.heap.size + 1, 1, none⟩ = some lu := pw_cell_below hB1 (by rw [hw0]; simp)
 have hk1 : w1.heap[w.heap.size + 1 + 1]? = some (.cells #[.int .i64 0, .slice none 0 0] 26) := by rw [hw1, ← hs0]; exact blk_new _ _
 have HK := Aside0.mk (hk.below hB)
 have HL := Aside0.mk (hl.below hB)
 have HV := Aside0.mk (hv.below hB)
 have HB := Aside0.mk hB
 have HBK := Aside0.mk hk1
 have hsz := Aside0.mk hs1
 obtain ⟨A2, d2, rfl, -⟩ := id hl
 obtain ⟨A3, d3, rfl, -⟩ := id hv
 obtain ⟨A1, d1, rfl, hcc, hr⟩ := hk.below hB
 have HR := Aside0.mk hr
 clear hk hl hv hB hB0 hB1 hk1 hr hs1 hs0 hcc
 subst hw0
 obtain ⟨q, hq⟩ : ∃ q, q = codeSimp a b xs ys [f] true := ⟨_, rfl⟩
 by_cases h0 : q = 0
 ·have h0' := hq.symm.trans h0
  obtain ⟨n, m, rfl, rfl, hcn, hcm, hmp, -, -⟩ := codeSimp_zero' h0'
  have HA : Aside0 (ansImageComplex n xs m ys f = (((m : Int), thL (madeAt (imgs f xs)) (2 ^ m)), 0)) := ⟨by unfold ansImageComplex; rw [if_pos h0', Int.toNat_natCast, thL_congr (p' := madeAt (imgs f xs)) (fun q hq1 _ => im_made hcn (codeSimp_below h0') q hq1)]⟩
  have HN := Aside0.mk hcn
  have HC := Aside0.mk hcm
  have HF := Aside0.mk (hmp f (by simp))
  have HQ := Aside0.mk h0'
  have hl63 := hcn.len
  have hlen : xs.length ≤ 9223372036854775807 := by omega
  clear hcn hcm hmp hq h0 h0'
  go_enter Tryz.func12, Tryz.ntmps12
  go_wp2_with (first | (go_at_call 125; rw [← hw1]; clear hw1; refine (specCode n _ xs m _ ys _ f _ HK.out HL.out HV.out).mono ?_; rintro e w3 ⟨rfl, hb⟩; rw [HQ.out]; have c0 := pw_cell_below hb c0; have c1 := pw_cell_below hb c1; have c2 := pw_cell_below hb c2; have HB3 := Aside0.mk hb; have HBK3 := Aside0.mk (blk_below HBK.out hb); clear hb))
  go_loopw [9, 10] (fun s9 s10 wr => ∃ i : Nat, s10 = .int .i64 i ∧ i ≤ xs.length ∧ Aside0 (OwnI w3.heap.size wr s9 (imgs f (xs.take i))) ∧ Aside0 (Below w3.heap.size w3 wr)) (fun _ s10 _ => xs.length - (intOf s10).toNat)
  case atStart => exact ⟨0, rfl, Nat.zero_le _, ⟨OwnI.empty w3 (Nat.le_refl _)⟩, ⟨Below.alloc (Below.refl _ _) (Nat.le_refl _) _⟩⟩
  case round =>
   obtain ⟨i, rfl, hi, HO, HBw⟩ := hrel
   have c0 := pw_cell_below HBw.out c0
   have c1 := pw_cell_below HBw.out c1
   have c2 := pw_cell_below HBw.out c2
   have HB13 := Aside0.mk (HB3.out.trans (HBw.out.mono HB3.out.size))
   by_cases hlt : i < xs.length
   ·obtain ⟨ad, y, rfl, hcell, HY⟩ := ReadI.get (Kd.C_below HR.out HB13.out) hlt
    obtain ⟨z, rfl, hz1, hz2⟩ := cx_dom HN.out HF.out (mem_at hlt HY.out)
    have HT : Aside0 (imgs f (xs.take (i + 1)) = imgs f (xs.take i) ++ [((img z f : Nat) : Int)]) := ⟨by unfold imgs; rw [take_get hlt HY.out, List.map_append]; rfl⟩
    have hlf : f.length ≤ 6 := by rw [HF.out.len]; exact HN.out.hi
    have HI := Aside0.mk (specMoved z hz2 _ f wr (HV.out.below HB13.out) hlf (HF.out.bd5 HC.out.hi))
    have hll : (imgs f (xs.take i)).length ≤ 63 := by unfold imgs; rw [List.length_map, List.length_take]; omega
    clear hz1 hlf
    obtain ⟨t, ht⟩ : ∃ t, t = img z f := ⟨_, rfl⟩
    rw [← ht] at HI HT
    clear ht
    go_wp2_with (first | (go_at_call 126; refine HI.out.mono ?_; rintro e w5 ⟨rfl, hb5⟩; have HO5 := Aside0.mk (OwnI.below HO.out hb5); have HB5 := Aside0.mk (HBw.out.trans (hb5.mono HBw.out.size)); clear hb5) | (at_builtin; refine app_own (w0 := w3) w3.heap.size rfl (.tmp 27) (.tmp 35) rfl _ (imgs f (xs.take i)) t rfl rfl HO5.out HB5.out HB5.out.size ?hl ?_; (case hl => omega); intro v1 w6 ho hb hg hat; have HO1 := Aside0.mk ho; have HB1 := Aside0.mk hb; clear ho hb hg hat))
    go_roundw
    case rel => exact ⟨i + 1, by go_num, by omega, ⟨by rw [HT.out]; exact HO1.out⟩, HB1⟩
    case measure => simp [intOf]; omega
   ·have e : i = xs.length := by omega
    have HE := Aside0.mk e
    obtain ⟨Av, cv, rfl, -⟩ := HO.out.read
    have HRD : Aside0 (ReadI wr (.slice Av (imgs f (xs.take i)).length cv) (imgs f xs)) := ⟨by have := HO.out.read; rw [e, List.take_length] at this ⊢; exact this⟩
    have HSS : Aside0 (∀ s ∈ imgs f xs, ∃ z : Nat, s = z ∧ z < 64) := ⟨fun s hs => by
     unfold imgs at hs
     obtain ⟨x, hx, rfl⟩ := List.mem_map.1 hs
     exact ⟨_, rfl, img_lt63 (HF.out.bd5 HC.out.hi)⟩⟩
    clear e
    go_wp2_with (first | (go_at_call 127; refine (specMade m HC.out.hi _ (imgs f xs) _ HRD.out HSS.out).mono ?_; rintro e w6 ⟨u, rfl, ho, hb6⟩; obtain ⟨A4, d4, rfl, -⟩ := ho.read; have HO6 := Aside0.mk ho; have HB6 := Aside0.mk (HB13.out.trans (hb6.mono HB13.out.size)); have HK2 := Aside0.mk (blk_below (blk_below HBK3.out HBw.out) hb6); have hwz := hb6.size; have c60 : w6.cell? ⟨w.heap.size + 1 + 1, 0, none⟩ = some (.int .i64 0) := blk_cell HK2.out 0; have c61 : w6.cell? ⟨w.heap.size + 1 + 1, 1, none⟩ = some (.slice none 0 0) := blk_cell HK2.out 1; have f60 : w6.frozen? ⟨w.heap.size + 1 + 1, 0, none⟩ = false := blk_frozen HK2.out 0; have f61 : w6.frozen? ⟨w.heap.size + 1 + 1, 1, none⟩ = false := blk_frozen HK2.out 1; clear ho hb6))
    refine bodyPost_ret (results_ct rfl _ _ (w.heap.size + 1 + 1) 26 #[.int .i64 m, .slice A4 (thL (madeAt (imgs f xs)) (2 ^ m)).length d4] (0, 0) _ rfl (by refine blk_put (cs := #[.int .i64 m, .slice none 0 0]) ?_ 1 _ rfl; refine blk_put (cs := #[.int .i64 0, .slice none 0 0]) ?_ 0 _ rfl; exact HK2.out) Tryz.underlying26 rfl (by kernel_rfl)) rfl ?_
    have hsz := hsz.out
    have hs5 := HB13.out.size
    have hb := HB.out.trans (HB6.out.mono HB.out.size)
    refine ⟨.slice A4 (thL (madeAt (imgs f xs)) (2 ^ m)).length d4, by rw [HA.out]; rfl, ?_, (hb.setCell (by simp; omega) _).setCell (by simp; omega) _⟩
    have ho := HO6.out
    have hbs := ho.base
    have ho := ho.lower (b' := w.heap.size) (by omega)
    rw [HA.out]
    exact (ho.grown (set_grown' _ (w.heap.size + 1 + 1) _ _) (fun j hj e => by have := hbs _ hj; cases e; omega)).grown (set_grown' _ (w.heap.size + 1 + 1) _ _) (fun j hj e => by have := hbs _ hj; cases e; omega)
 ·have HA : Aside0 (ansImageComplex a xs b ys f = ((0, []), q)) := ⟨by unfold ansImageComplex; rw [← hq, if_neg h0]⟩
  have hqb : (q != 0) = true := by simpa using h0
  have HQ := Aside0.mk hq
  clear hq h0
  go_enter Tryz.func12, Tryz.ntmps12
  go_wp2_with (first | (go_at_call 125; rw [← hw1]; clear hw1; refine (specCode a _ xs b _ ys _ f _ HK.out HL.out HV.out).mono ?_; rintro e w3 ⟨rfl, hb⟩; rw [← HQ.out]; have HB3 := Aside0.mk hb; have HK2 := Aside0.mk (blk_below HBK.out hb); have c60 : w3.cell? ⟨w.heap.size + 1 + 1, 0, none⟩ = some (.int .i64 0) := blk_cell HK2.out 0; have c61 : w3.cell? ⟨w.heap.size + 1 + 1, 1, none⟩ = some (.slice none 0 0) := blk_cell HK2.out 1; have f60 : w3.frozen? ⟨w.heap.size + 1 + 1, 0, none⟩ = false := blk_frozen HK2.out 0; have f61 : w3.frozen? ⟨w.heap.size + 1 + 1, 1, none⟩ = false := blk_frozen HK2.out 1; clear hb))
  refine bodyPost_ret (results_ct rfl _ _ (w.heap.size + 1 + 1) 26 #[.int .i64 0, .slice none 0 0] (0, 0) _ rfl (by refine blk_put (cs := #[.int .i64 0, .slice none 0 0]) ?_ 1 _ rfl; refine blk_put (cs := #[.int .i64 0, .slice none 0 0]) ?_ 0 _ rfl; exact HK2.out) Tryz.underlying26 rfl (by kernel_rfl)) rfl ?_
  have hsz := hsz.out
  have hb := HB.out.trans (HB3.out.mono HB.out.size)
  exact ⟨.slice none 0 0, by rw [HA.out]; rfl, by rw [HA.out]; exact OwnI.nil _ _, (hb.setCell (by simp; omega) _).setCell (by simp; omega) _⟩
/-- the operations one behind the other -/
def tailList (P : Program) (Q : Exit → Act → World → Prop) : List Oper → Act → World → Prop
 | [], a, w => Q .normal a w
 | o :: r, a, w => opGives P o a.eval w (fun v w' => tailList P Q r (a.put o.dst v) w') ∨ ∃ w', (execOp a.eval o).run P w = .ok .skip w' ∧ tailList P Q r (a.put o.dst undef) w'
def tailOk (l : List Oper) (B : List Nat) (n k : Nat) : Bool :=
 decide (k < l.length) && (l.take k).all (fun o => o.dst.isSome) && l.all (fun o => o.guard.isNone) && decide (dsOf (l.take k)).Nodup && (dsOf (l.take k)).all (fun d => decide (d < n)) &&
 waitsOk (rtab .any l.toArray).2 B && baseOk (rtab .any l.toArray).2 (List.range l.length) &&
 (List.range l.length).all (fun i => decide (i < k) || (List.range i).all fun j => (B.getD i 0).testBit j) &&
 (List.range k).all (fun i => (List.range l.length).all fun j => decide (j < i) || !(B.getD i 0).testBit j)
theorem opGives_mono {P : Program} {o : Oper} {A : Act} {w : World} {R : Value → World → Prop} {K : Act → World → Prop} (h : opGives P o A.eval w R) (hR : ∀ v w', R v w' → K (A.put o.dst v) w') : opGives P o A.eval w fun v w' => K (A.put o.dst v) w' := by
 unfold opGives at h ⊢
 split
 ·next h1 => rw [h1] at h; exact hR _ _ h
 ·next f args w' h1 =>
  rw [h1] at h
  exact Calls.mono h fun e w'' ⟨v, e1, e2⟩ => ⟨v, e1, hR _ _ e2⟩
 ·next h1 h2 =>
  split at h
  ·next v w' h3 => exact (h1 _ _ h3).elim
  ·next f args w' h3 => exact (h2 _ _ _ h3).elim
  ·exact h
theorem wp_region_tail {P : Program} {id : Nat} {Q : Exit → Act → World → Prop} {a : Act} {w : World} {l : List Oper} (k : Nat) (V : Nat → Value → World → Prop) (B : List Nat) (hm : P.follows .mixedOrders = true) (hok : tailOk l B a.tmps.size k = true)
  (hV : ∀ i v w1 w2, Below w1.heap.size w1 w2 → V i v w1 → V i v w2)
  (hs : phiSteps P (l.take k) B V a w 0 (l.take k))
  (hend : ∀ s w1, Below w.heap.size w w1 → (∀ i, i < k → V i (s i) w1) → tailList P Q (l.drop k) (putAll (dsOf (l.take k)) 0 s a) w1) : (Code.region id l.toArray true).wp P Q a w := by
 simp only [tailOk, Bool.and_eq_true] at hok
 obtain ⟨⟨⟨⟨⟨⟨⟨⟨hk, h1⟩, h0⟩, h2⟩, h3⟩, h4⟩, h5⟩, hBt⟩, hBd⟩ := hok
 have hk : k < l.length := of_decide_eq_true hk
 have hnd : (dsOf (l.take k)).Nodup := of_decide_eq_true h2
 have hBt : ∀ i j, i < l.length → k ≤ i → j < i → (B.getD i 0).testBit j = true := by
  intro i j hi hki hj
  have := List.all_eq_true.1 hBt i (List.mem_range.2 hi)
  rw [decide_eq_false (by omega), Bool.false_or] at this
  exact List.all_eq_true.1 this j (List.mem_range.2 hj)
 have hBd : ∀ i j, i < k → j < l.length → (B.getD i 0).testBit j = true → j < i := by
  intro i j hi hj hij
  have := List.all_eq_true.1 (List.all_eq_true.1 hBd i (List.mem_range.2 hi)) j (List.mem_range.2 hj)
  rw [hij, Bool.not_true, Bool.or_false] at this
  exact of_decide_eq_true this
 have hTl : (rtab .any l.toArray).2.length = l.length := by rw [rtab_length]; simp
 have hdl : ∀ i, i < k → (l.take k)[i]? = l[i]? := fun i hi => by rw [List.getElem?_take_of_lt hi]
 have hlt : (l.take k).length = k := by rw [List.length_take]; omega
 have hds : ∀ (i : Nat) (o : Oper), i < k → l[i]? = some o → o.dst = some ((dsOf (l.take k))[i]?.getD 0) ∧ (dsOf (l.take k))[i]? = some (o.dst.getD 0) := by
  intro i o hi ho
  have ho' : (l.take k)[i]? = some o := (hdl i hi).trans ho
  have e : (dsOf (l.take k))[i]? = some (o.dst.getD 0) := by unfold dsOf; rw [List.getElem?_map, ho']; rfl
  refine ⟨?_, e⟩
  have := List.all_eq_true.1 h1 o (List.mem_of_getElem? ho')
  rw [e]
  cases hd : o.dst with
  | none => rw [hd] at this; cases this
  | some d => rfl
 have hrange : ∀ j, j < l.length → (List.range l.length).contains j = true := fun j hj => by simpa using hj
 refine wp_region_last_drew (S := fun _ => True) (ds := []) hm trivial (fun _ => ?_)
 refine inv_ (T := rtab .any l.toArray) (B := B) (List.range l.length) (fun b a' w' => (b k = false → ∃ s, a' = putAll (dsOf (l.take k)) 0 s a ∧ Below w.heap.size w w' ∧ ∀ i, i < k → b i = true → V i (s i) w') ∧ (∀ n, k < n → n ≤ l.length → (∀ j, j < n → b j = true) → (∀ j, n ≤ j → j < l.length → b j = false) → tailList P Q (l.drop n) a' w')) rfl h4 h5 ?_ ?_ ?_ ?_
 ·rw [hTl, Bool.and_eq_true, beq_iff_eq, beq_iff_eq]
  refine ⟨?_, by simp⟩
  apply List.ext_getElem
  ·simp [lof]
  ·intro i hi1 hi2
   have hi : i < l.length := by simpa [lof] using hi1
   simp [lof, hi]
 ·refine ⟨fun _ => ⟨fun k' => (a.tmps[(dsOf (l.take k))[k']?.getD 0]?).getD undef, ?_, (Below.refl _ _).drew, fun _ _ h => by cases h⟩, fun n hn _ hj _ => by have := hj 0 (by omega); cases this⟩
  refine (putAll_self _ _ _ _ (fun j d hj => ?_)).symm
  have hd := List.all_eq_true.1 h3 d (List.mem_of_getElem? hj)
  have hd' : d < a.tmps.size := of_decide_eq_true hd
  simp [hj, hd']
 ·intro i hi b a' w' ⟨hA, hT⟩ hbi hon hoff
  have hil : i < l.length := List.mem_range.1 hi
  have ho : l[i]? = some l[i] := List.getElem?_eq_getElem hil
  refine ⟨l[i], by simp, fun K hK => ?_⟩
  have hK' := Shut.out hK
  have hg : l[i].guard = none := by
   have := List.all_eq_true.1 h0 l[i] (List.mem_of_getElem? ho)
   cases hq : l[i].guard with
   | none => rfl
   | some g => rw [hq] at this; cases this
  rw [if_pos (by simp [Region.wanted, hg])]
  have hon' : ∀ j, j < l.length → (B.getD i 0).testBit j = true → b j = true := fun j hj hb => hon j (by rw [hrange j hj, hb]; rfl)
  have hoff' : ∀ d, d < l.length → (B.getD d 0).testBit i = true → b d = false := fun d hd hb => hoff d (by rw [hrange d hd, hb]; rfl)
  by_cases hik : i < k
  ·have hbk : b k = false := hoff' k hk (hBt k i hk (Nat.le_refl _) hik)
   obtain ⟨s, rfl, hbw, hvs⟩ := hA hbk
   have hst := phiSteps_at (l.take k) 0 hs i _ ((hdl i hik).trans ho)
   rw [Nat.zero_add] at hst
   refine opGives_wp (hst s w' hbw (fun j hj => ?_) _ (fun v w2 hb2 hv => ?_))
   ·have hj1 := (Bool.and_eq_true _ _ ▸ hj : _ ∧ _)
    have hjk : j < k := by have := hj1.1; rw [hlt] at this; simpa using this
    exact hvs j hjk (hon' j (by omega) hj1.2)
   ·rw [(hds i _ hik ho).1, (hds i _ hik ho).2, Option.getD_some, putAll_put _ _ _ _ _ _ _ hnd (Nat.zero_le _) (by rw [Nat.sub_zero]; exact (hds i _ hik ho).2)]
    refine hK' _ _ ⟨fun _ => ⟨upd s i v, rfl, hbw.trans (hb2.mono hbw.size), fun j hj hbj => ?_⟩, fun n hn hnl hj _ => ?_⟩
    ·by_cases hji : j = i
     ·subst hji; rw [show upd s j v j = v by simp [upd]]; exact hv
     ·rw [up_ne hji] at hbj; rw [show upd s i v j = s j by simp [upd, hji]]
      exact hV _ _ _ _ hb2 (hvs j hj hbj)
    ·have := hj k hn
     rw [up_ne (by omega), hbk] at this
     cases this
  ·have hall : ∀ j, j < i → b j = true := fun j hj => hon' j (by omega) (hBt i j hil (by omega) hj)
   have hnone : ∀ j, i ≤ j → j < l.length → b j = false := by
    intro j hj hjl
    by_cases hji : j = i
    ·subst hji; exact hbi
    ·exact hoff' j hjl (hBt j i hjl (by omega) (by omega))
   have htl : tailList P Q (l.drop i) a' w' := by
    by_cases hki : i = k
    ·subst hki
     obtain ⟨s, rfl, hbw, hvs⟩ := hA hbi
     exact hend s w' hbw (fun j hj => hvs j hj (hall j hj))
    ·exact hT i (by omega) (by omega) hall hnone
   rw [List.drop_eq_getElem_cons hil] at htl
   have hnext : ∀ a2 w2, tailList P Q (l.drop (i + 1)) a2 w2 → K a2 w2 := by
    intro a2 w2 hq
    refine hK' _ _ ⟨fun h => ?_, fun n hn hnl hj hj2 => ?_⟩
    ·by_cases hki : i = k
     ·subst hki; rw [up_self] at h; cases h
     ·rw [up_ne (by omega)] at h
      have := hall k (by omega)
      rw [h] at this; cases this
    ·have hni : n = i + 1 := by
      by_cases h6 : n ≤ i
      ·have := hj2 i h6 hil
       rw [up_self] at this; cases this
      ·by_cases h7 : i + 1 < n
       ·have := hj (i + 1) h7
        rw [up_ne (by omega), hnone (i + 1) (by omega) (by omega)] at this
        cases this
       ·omega
     subst hni
     exact hq
   rcases htl with htl | ⟨w2, h1, h2⟩
   ·refine opGives_wp (opGives_mono htl (fun v w2 hq => hnext _ _ hq))
   ·unfold Oper.wp
    rw [h1]
    exact hnext _ _ h2
 ·intro b a' w' hall ⟨hA, hT⟩
  have := hT l.length hk (Nat.le_refl _) (fun j hj => hall j (hrange j hj)) (fun j h1 h2 => by omega)
  rw [List.drop_length] at this
  exact this
/-- into the kit's own word -/
theorem OwnI.row {b : Nat} {w : World} {v : Value} {xs : List Int} (h : OwnI b w v xs) : w.ownsRow b 2 1 v xs.length (xs.map (Value.int .i64)) := by
 obtain ⟨-, inner, ho, hl, hr⟩ := h
 have e : inner = xs.map (Value.int .i64) := by
  refine List.ext_getElem? (fun j => ?_)
  by_cases hj : j < xs.length
  ·have h3 : List.take 1 (List.drop (j * 1) inner) = [Value.int .i64 xs[j]] := hr j xs[j] (List.getElem?_eq_getElem hj)
   rw [Nat.mul_one] at h3
   have h2 : (List.take 1 (List.drop j inner))[0]? = some (Value.int .i64 xs[j]) := by rw [h3]; rfl
   rw [List.getElem?_take_of_lt (by decide), List.getElem?_drop] at h2
   rw [Nat.add_zero] at h2
   rw [h2, List.getElem?_map, List.getElem?_eq_getElem hj]; rfl
  ·have hl' : inner.length = xs.length * 1 := hl
   rw [List.getElem?_eq_none (by rw [hl']; omega), List.getElem?_eq_none (by rw [List.length_map]; omega)]
 rw [← e]
 exact ho
set_option maxRecDepth 100000 in
theorem append_gives {o : Oper} {ev : Operand → Value} {W : World} (base : Nat) (s x : Operand) (ho : o.op = .call { callee := .builtin .append, args := #[s, x], argTypes := #[24, 24] })
  (v : Value) (xs : List Int) (p : Int) (b c : Nat) (hs : ev s = v) (hx : ev x = .slice (some ⟨b, 0, none⟩) 1 c) (hc : W.cell? ⟨b, 0, none⟩ = some (.int .i64 p))
  (HO : OwnI base W v xs) (hbase : base ≤ W.heap.size) (hl : xs.length < 17592186044416) {R : Value → World → Prop}
  (h : ∀ v1 w1, OwnI base w1 v1 (xs ++ [p]) → W.grownBy w1 v.ownBlock → (v1.ownBlock = v.ownBlock ∨ v1.ownBlock = some W.heap.size) → R v1 w1) : opGives Tryz.prog o ev W R := by
 obtain ⟨i64, hi, hii⟩ : ∃ i, Tryz.prog.info? 2 = some i ∧ (i.zero, i.size, i.bytes) = (some (Value.int .i64 0), 1, 8) := by
  have h64 := info64
  cases hi : Tryz.prog.info? 2 with
  | none => rw [hi] at h64; cases h64
  | some i => rw [hi] at h64; exact ⟨i, rfl, Option.some.inj h64⟩
 have hi0 : i64.zero = some (Value.int .i64 0) := (Prod.mk.inj hii).1
 have hi1 : i64.size = 1 := (Prod.mk.inj (Prod.mk.inj hii).2).1
 have hi2 : i64.bytes = 8 := (Prod.mk.inj (Prod.mk.inj hii).2).2
 obtain ⟨v', w', hr, h2, h3, -, h5⟩ := run_append_own_at (P := Tryz.prog) W base 24 o.type 2 _ (.int .i64 0) 1 8 Tryz.underlying24 hi hi0 hi1 hi2 rfl (by decide) v xs.length (xs.map (Value.int .i64)) HO.row ⟨b, 0, none⟩ 1 c [.int .i64 p] rfl
  (fun j u hj => by
   cases j with
   | zero => cases hj; exact hc
   | succ j => cases hj) (fun u hu => by rw [List.mem_singleton] at hu; subst hu; rfl) (by simp only [maxLen]; omega) (by omega) hbase
 refine opGives_value (w' := w') (v := v') ?_ (h v' w' (OwnI.of_row (b := base) (by rw [List.length_append, List.map_append]; exact h2) (Nat.le_refl _)) h3 h5)
 unfold execOp
 simp only [ho, resolve, invoke, builtin, Sem.run_bind, Sem.run_pure, Result.andThen_ok, List.map_toArray, List.map_cons, List.map_nil, hs, hx, hr]
set_option maxRecDepth 100000 in
set_option maxHeartbeats 2000000 in
theorem specFibreOf (a : Int) (ku : Value) (xs : List Int) (b : Int) (lu : Value) (ys : List Int) (v : Value) (f : List Int) (g : Int) (w : World) (hk : ReadI w ku xs) (hl : ReadI w lu ys) (hv : ReadI w v f) :
  Calls Tryz.prog 20 #[cx a ku, cx b lu, v, .int .i64 g] w fun e w' => ∃ u, e = .returned (.tuple #[.agg #[.int .i64 (ansFibreOf a xs b ys f g).1.1, u], .int .i64 (ansFibreOf a xs b ys f g).2]) ∧ OwnI w.heap.size w' u (ansFibreOf a xs b ys f g).1.2 ∧ Below w.heap.size w w' := by
 obtain ⟨w0, hw0⟩ : ∃ w0, w0 = (w.alloc (.cells #[.int .i64 a, ku] 26)).alloc (.cells #[.int .i64 b, lu] 26) := ⟨_, rfl⟩
 obtain ⟨w1, hw1⟩ : ∃ w1, w1 = w0.alloc (.cells #[.int .i64 0, .slice none 0 0] 26) := ⟨_, rfl⟩
 have hs0 : w0.heap.size = w.heap.size + 1 + 1 := by rw [hw0]; simp
 have hs1 : w1.heap.size = w.heap.size + 1 + 1 + 1 := by rw [hw1]; simp [hs0]
 have hB0 : Below w.heap.size w w0 := by rw [hw0]; exact ((Below.refl _ w).alloc (Nat.le_refl _) _).alloc (by simp) _
 have hB1 : Below w0.heap.size w0 w1 := by rw [hw1]; exact Below.alloc (Below.refl _ _) (Nat.le_refl _) _
 have hB : Below w.heap.size w w1 := hB0.trans (hB1.mono hB0.size)
 have c0 : w1.cell? ⟨w.heap.size, 0, none⟩ = some (.int .i64 a) := pw_cell_below hB1 (by rw [hw0]; simp)
 have c1 : w1.cell? ⟨w.heap.size, 1, none⟩ = some ku := pw_cell_below hB1 (by rw [hw0]; simp)
 have c2 : w1.cell? ⟨w.heap.size + 1, 0, none⟩ = some (.int .i64 b) := pw_cell_below hB1 (by rw [hw0]; simp)
 have c3 : w1.cell? ⟨w.heap.size + 1, 1, none⟩ = some lu := pw_cell_below hB1 (by rw [hw0]; simp)
 have hk1 : w1.heap[w.heap.size + 1 + 1]? = some (.cells #[.int .i64 0, .slice none 0 0] 26) := by rw [hw1, ← hs0]; exact blk_new _ _
 have HK := Aside0.mk (hk.below hB)
 have HL := Aside0.mk (hl.below hB)
 have HV := Aside0.mk (hv.below hB)
 have HB := Aside0.mk hB
 have HBK := Aside0.mk hk1
 have hsz := Aside0.mk hs1
 obtain ⟨A2, d2, rfl, -⟩ := id hl
 obtain ⟨A3, d3, rfl, -⟩ := id hv
 obtain ⟨A1, d1, rfl, hcc, hr⟩ := hk.below hB
 have HR := Aside0.mk hr
 clear hk hl hv hB hB0 hB1 hk1 hr hs1 hs0 hcc
 subst hw0
 obtain ⟨q, hq⟩ : ∃ q, q = codeSimp a b xs ys [f] (decide (g ∈ ys)) := ⟨_, rfl⟩
 by_cases h0 : q = 0
 ·have h0' := hq.symm.trans h0
  obtain ⟨n, m, rfl, rfl, hcn, hcm, hmp, -, hgy⟩ := codeSimp_zero' h0'
  have hgm : g ∈ ys := of_decide_eq_true hgy
  have hgb := hcm.bd g hgm
  obtain ⟨k, rfl⟩ : ∃ k : Nat, g = k := ⟨g.toNat, by omega⟩
  have hk6 : k < 64 := by have := pw6 hcm.hi; omega
  have HA : Aside0 (ansFibreOf n xs m ys f k = (((n : Int), xs.filter (inAt f k)), 0)) := ⟨by unfold ansFibreOf; rw [if_pos h0']; rfl⟩
  have HN := Aside0.mk hcn
  have HC := Aside0.mk hcm
  have HF := Aside0.mk (hmp f (by simp))
  have HQ := Aside0.mk h0'
  have HK6 := Aside0.mk hk6
  have hl63 := hcn.len
  have hmx : Tryz.prog.follows .mixedOrders = true := by kernel_rfl
  have hlen : xs.length ≤ 9223372036854775807 := by omega
  clear hcn hcm hmp hq h0 h0' hgy hgm hgb hk6
  go_enter Tryz.func20, Tryz.ntmps20
  go_wp2_with (first | (go_at_call 143; rw [← hw1]; clear hw1; refine (specOver n _ xs m _ ys _ f k _ HK.out HL.out HV.out).mono ?_; rintro e w3 ⟨rfl, hb⟩; rw [HQ.out]; have c0 := pw_cell_below hb c0; have c1 := pw_cell_below hb c1; have c2 := pw_cell_below hb c2; have HB3 := Aside0.mk hb; have HBK3 := Aside0.mk (blk_below HBK.out hb); clear hb))
  go_loopw [12] (fun s12 wr => ∃ i : Nat, s12 = .int .i64 i ∧ i ≤ xs.length ∧ (∃ s, Aside0 (wr.heap[w3.heap.size + 1]? = some (.cells #[.int .i64 n, s] 26)) ∧ Aside0 (OwnI w3.heap.size wr s ((xs.take i).filter (inAt f k))) ∧ Aside0 (∀ j, s.ownBlock = some j → j ≠ w3.heap.size + 1)) ∧ Aside0 (Below w3.heap.size w3 wr)) (fun s12 _ => xs.length - (intOf s12).toNat)
  case atStart =>
   refine ⟨0, rfl, Nat.zero_le _, ⟨_, ⟨by simpa using blk_new (w3.alloc (.cells #[] 2)) _⟩, ⟨(OwnI.empty w3 (Nat.le_refl _)).below (Below.alloc (Below.refl _ _) (Nat.le_refl _) _)⟩, ⟨fun j hj e => ?_⟩⟩, ⟨(Below.alloc (Below.refl _ _) (Nat.le_refl _) _).alloc (by simp) _⟩⟩
   have : w3.heap.size = j := by simpa [Value.ownBlock] using hj
   omega
  case round =>
   obtain ⟨i, rfl, hi, ⟨sv, HKb, HO, HNE⟩, HBw⟩ := hrel
   have c0 := pw_cell_below HBw.out c0
   have c1 := pw_cell_below HBw.out c1
   obtain ⟨Av, cv, rfl, -⟩ := HO.out.read
   have hll : ((xs.take i).filter (inAt f k)).length ≤ 63 := Nat.le_trans (List.length_filter_le _ _) (by rw [List.length_take]; omega)
   have HB13 := Aside0.mk (HB3.out.trans (HBw.out.mono HB3.out.size))
   by_cases hlt : i < xs.length
   ·obtain ⟨ad, y, rfl, hcell, HY⟩ := ReadI.get (Kd.C_below HR.out HB13.out) hlt
    obtain ⟨z, rfl, hz1, hz2⟩ := cx_dom HN.out HF.out (mem_at hlt HY.out)
    have HT := Aside0.mk (filter_take (inAt f k) hlt HY.out)
    have hlf : f.length ≤ 6 := by rw [HF.out.len]; exact HN.out.hi
    have HI := Aside0.mk (specMoved z hz2 _ f wr (HV.out.below HB13.out) hlf (HF.out.bd5 HC.out.hi))
    have himg := img_lt63 (f := z) (HF.out.bd5 HC.out.hi)
    have hand := and_i64 (img z f) k (by omega) (by have := HK6.out; omega)
    have HFX : Aside0 ((((img z f &&& k : Nat) : Int) == ((img z f : Nat) : Int)) = inAt f k (z : Int)) := ⟨by
     unfold inAt
     rw [Int.toNat_natCast, Bool.eq_iff_iff, beq_iff_eq, decide_eq_true_eq]; omega⟩
    clear hz1 hlf himg
    obtain ⟨t, ht⟩ : ∃ t, t = img z f := ⟨_, rfl⟩
    rw [← ht] at HI HFX hand
    clear ht
    cases hfx : (((t &&& k : Nat) : Int) == (t : Int)) with
    | true =>
     have HXX := Aside0.mk hfx
     go_wp2_with (first | (go_at_call 126; refine HI.out.mono ?_; rintro e w5 ⟨rfl, hb5⟩; have HO5 := Aside0.mk (OwnI.below HO.out hb5); have HKb5 := Aside0.mk (blk_below HKb.out hb5); have HB5 := Aside0.mk (HBw.out.trans (hb5.mono HBw.out.size)); have c0 := pw_cell_below hb5 c0; have c1 := pw_cell_below hb5 c1; have hcell := pw_cell_below hb5 hcell; clear hb5))
     refine wp_region_tail 8 (fun j => match j with | 0 => fun v _ => v = .pointer (some ⟨w3.heap.size + 1, 1, none⟩) | 1 => fun v _ => v = .slice Av ((xs.take i).filter (inAt f k)).length cv | 2 => fun v _ => v = .pointer (some ⟨w.heap.size, 1, none⟩) | 3 => fun v _ => v = .slice (some ad) xs.length d1 | 4 => fun v _ => v = .int .i64 i | 5 => fun v _ => v = .pointer (some (ad.add i)) | 6 => fun v _ => v = .int .i64 z | 7 => fun v W => ∃ b, v = .slice (some ⟨b, 0, none⟩) 1 1 ∧ W.cell? ⟨b, 0, none⟩ = some (.int .i64 z) | _ => fun _ _ => True) [0, 1, 0, 4, 0, 28, 60, 124, 255, 511, 1023] hmx (by kernel_rfl) ?st ?steps ?rest
     case st =>
      intro j v w1_ w2_ hb
      match j with
      | 0 | 1 | 2 | 3 | 4 | 5 | 6 => exact id
      | 7 => exact fun ⟨b, e, h⟩ => ⟨b, e, pw_cell_below hb h⟩
      | n + 8 => exact id
     case steps =>
      refine ⟨?_, ?_, ?_, ?_, ?_, ?_, ?_, ?_, trivial⟩
      ·intro s w_ hb hd R hR
       generalize hA : putAll _ 0 s _ = A
       have hR' := hR (.pointer (some ⟨w3.heap.size + 1, 1, none⟩)) _ (Below.refl _ _) (rfl)
       clear hR hd
       refine opGives_value ?_ hR'
       subst hA
       simp only [dsOf, List.take, List.map_cons, List.map_nil, Option.getD_some, putAll, Act.put, List.setIfInBounds_toArray, List.set_cons_zero, List.set_cons_succ]
       go_simp
      ·intro s w_ hb hd R hR
       generalize hA : putAll _ 0 s _ = A
       have e0 : s 0 = _ := hd 0 (by kernel_rfl)
       have c11 : w_.cell? ⟨w3.heap.size + 1, 1, none⟩ = some (.slice Av ((xs.take i).filter (inAt f k)).length cv) := blk_cell (blk_below HKb5.out hb) 1
       have hR' := hR (.slice Av ((xs.take i).filter (inAt f k)).length cv) _ (Below.refl _ _) (rfl)
       clear hR hd
       refine opGives_value ?_ hR'
       subst hA
       simp only [dsOf, List.take, List.map_cons, List.map_nil, Option.getD_some, putAll, Act.put, List.setIfInBounds_toArray, List.set_cons_zero, List.set_cons_succ]
       go_simp
      ·intro s w_ hb hd R hR
       generalize hA : putAll _ 0 s _ = A
       have hR' := hR (.pointer (some ⟨w.heap.size, 1, none⟩)) _ (Below.refl _ _) (rfl)
       clear hR hd
       refine opGives_value ?_ hR'
       subst hA
       simp only [dsOf, List.take, List.map_cons, List.map_nil, Option.getD_some, putAll, Act.put, List.setIfInBounds_toArray, List.set_cons_zero, List.set_cons_succ]
       go_simp
      ·intro s w_ hb hd R hR
       generalize hA : putAll _ 0 s _ = A
       have e2 : s 2 = _ := hd 2 (by kernel_rfl)
       have c1 := pw_cell_below hb c1
       have hR' := hR (.slice (some ad) xs.length d1) _ (Below.refl _ _) (rfl)
       clear hR hd
       refine opGives_value ?_ hR'
       subst hA
       simp only [dsOf, List.take, List.map_cons, List.map_nil, Option.getD_some, putAll, Act.put, List.setIfInBounds_toArray, List.set_cons_zero, List.set_cons_succ]
       go_simp
      ·intro s w_ hb hd R hR
       generalize hA : putAll _ 0 s _ = A
       have hR' := hR (.int .i64 i) _ (Below.refl _ _) (rfl)
       clear hR hd
       refine opGives_value ?_ hR'
       subst hA
       simp only [dsOf, List.take, List.map_cons, List.map_nil, Option.getD_some, putAll, Act.put, List.setIfInBounds_toArray, List.set_cons_zero, List.set_cons_succ]
       go_simp
      ·intro s w_ hb hd R hR
       generalize hA : putAll _ 0 s _ = A
       have e3 : s 3 = _ := hd 3 (by kernel_rfl)
       have e4 : s 4 = _ := hd 4 (by kernel_rfl)
       have hR' := hR (.pointer (some (ad.add i))) _ (Below.refl _ _) (rfl)
       clear hR hd
       refine opGives_value ?_ hR'
       subst hA
       simp only [dsOf, List.take, List.map_cons, List.map_nil, Option.getD_some, putAll, Act.put, List.setIfInBounds_toArray, List.set_cons_zero, List.set_cons_succ]
       go_simp
      ·intro s w_ hb hd R hR
       generalize hA : putAll _ 0 s _ = A
       have e5 : s 5 = _ := hd 5 (by kernel_rfl)
       have hcell := pw_cell_below hb hcell
       have hR' := hR (.int .i64 z) _ (Below.refl _ _) (rfl)
       clear hR hd
       refine opGives_value ?_ hR'
       subst hA
       simp only [dsOf, List.take, List.map_cons, List.map_nil, Option.getD_some, putAll, Act.put, List.setIfInBounds_toArray, List.set_cons_zero, List.set_cons_succ]
       go_simp
      ·intro s w_ hb hd R hR
       generalize hA : putAll _ 0 s _ = A
       have e6 : s 6 = _ := hd 6 (by kernel_rfl)
       have hR' := hR (.slice (some ⟨w_.heap.size, 0, none⟩) 1 1) (w_.alloc (.cells #[.int .i64 z] 2)) (Below.alloc (Below.refl _ _) (Nat.le_refl _) _) ⟨_, rfl, by simp⟩
       clear hR hd
       refine opGives_value ?_ hR'
       subst hA
       simp only [dsOf, List.take, List.map_cons, List.map_nil, Option.getD_some, putAll, Act.put, List.setIfInBounds_toArray, List.set_cons_zero, List.set_cons_succ]
       go_simp
     case rest =>
      intro s w6 hb hv
      have e1 : s 1 = _ := hv 1 (by decide)
      obtain ⟨b7, e7, hc7⟩ : ∃ b, s 7 = .slice (some ⟨b, 0, none⟩) 1 1 ∧ w6.cell? ⟨b, 0, none⟩ = some (.int .i64 z) := hv 7 (by decide)
      have HO6 := Aside0.mk (OwnI.below HO5.out hb)
      have HKb6 := Aside0.mk (blk_below HKb5.out hb)
      have HB6 := Aside0.mk (HB5.out.trans (hb.mono HB5.out.size))
      clear hv hb
      simp only [dsOf, List.take, List.map_cons, List.map_nil, Option.getD_some, putAll, Act.put, List.setIfInBounds_toArray, List.set_cons_zero, List.set_cons_succ]
      refine .inl (append_gives w3.heap.size (.tmp 47) (.tmp 53) rfl (.slice Av ((xs.take i).filter (inAt f k)).length cv) ((xs.take i).filter (inAt f k)) z b7 1 e1 e7 hc7 HO6.out HB6.out.size (by omega) ?_)
      intro v1 w7 ho hg hat
      have hne : some (w3.heap.size + 1) ≠ (Value.slice Av ((xs.take i).filter (inAt f k)).length cv).ownBlock := fun e => HNE.out _ e.symm rfl
      have HKb7 := Aside0.mk ((hg.block _ (blk_lt HKb6.out) hne).trans HKb6.out)
      have HB7 := Aside0.mk (HB6.out.grown hg HB6.out.size (fun j hj => HO6.out.base j hj))
      have HNE7 : Aside0 (∀ j, v1.ownBlock = some j → j ≠ w3.heap.size + 1) := ⟨fun j hj => by
       rcases hat with hat | hat
       ·rw [hat] at hj; exact HNE.out j hj
       ·rw [hat] at hj; have := blk_lt HKb6.out; cases hj; omega⟩
      have HO7 := Aside0.mk ho
      obtain ⟨A7, d7, rfl, -⟩ := ho.read
      have c71 : w7.cell? ⟨w3.heap.size + 1, 1, none⟩ = some (.slice Av ((xs.take i).filter (inAt f k)).length cv) := blk_cell HKb7.out 1
      have f71 : w7.frozen? ⟨w3.heap.size + 1, 1, none⟩ = false := blk_frozen HKb7.out 1
      clear ho hg hat hne
      simp only [List.drop, Act.put, List.setIfInBounds_toArray, List.set_cons_zero, List.set_cons_succ]
      refine .inl (opGives_value (v := .pointer (some ⟨w3.heap.size + 1, 1, none⟩)) (w' := w7) (by go_simp) ?_)
      simp only [List.drop, Act.put, List.setIfInBounds_toArray, List.set_cons_zero, List.set_cons_succ]
      refine .inr ⟨w7.setCell ⟨w3.heap.size + 1, 1, none⟩ (.slice A7 ((xs.take i).filter (inAt f k) ++ [(z : Int)]).length d7), by go_simp, ?_⟩
      simp only [List.drop, Act.put, List.setIfInBounds_toArray, List.set_cons_zero, List.set_cons_succ]
      unfold tailList
      go_wp2
      go_roundw
      case rel =>
       have h6 := HO7.out
       have h7 := HNE7.out
       rw [List.length_append, List.length_singleton] at h6 h7
       refine ⟨i + 1, by go_num, by omega, ⟨_, ⟨blk_put HKb7.out 1 _ rfl⟩, ⟨?_⟩, ⟨h7⟩⟩, ⟨HB7.out.setCell (by simp) _⟩⟩
       rw [HT.out, ← HFX.out, HXX.out, if_pos rfl]
       exact h6.grown (set_grown' _ (w3.heap.size + 1) _ _) (fun j hj e => by have := h7 j hj; cases e; omega)
      case measure => simp [intOf]; omega
    | false =>
     have HXX := Aside0.mk hfx
     go_wp2_with (first | (go_at_call 126; refine HI.out.mono ?_; rintro e w5 ⟨rfl, hb5⟩; have HO5 := Aside0.mk (OwnI.below HO.out hb5); have HKb5 := Aside0.mk (blk_below HKb.out hb5); have HB5 := Aside0.mk (HBw.out.trans (hb5.mono HBw.out.size)); clear hb5))
     go_roundw
     case rel => exact ⟨i + 1, by go_num, by omega, ⟨_, HKb5, ⟨by rw [HT.out, ← HFX.out, HXX.out, if_neg (by decide)]; exact HO5.out⟩, HNE⟩, HB5⟩
     case measure => simp [intOf]; omega
   ·have e : i = xs.length := by omega
    have HE := Aside0.mk e
    clear e
    have HK2 := Aside0.mk (blk_below HBK3.out HBw.out)
    have c10 : wr.cell? ⟨w3.heap.size + 1, 0, none⟩ = some (.int .i64 n) := blk_cell HKb.out 0
    have c11 : wr.cell? ⟨w3.heap.size + 1, 1, none⟩ = some (.slice Av ((xs.take i).filter (inAt f k)).length cv) := blk_cell HKb.out 1
    have c60 : wr.cell? ⟨w.heap.size + 1 + 1, 0, none⟩ = some (.int .i64 0) := blk_cell HK2.out 0
    have c61 : wr.cell? ⟨w.heap.size + 1 + 1, 1, none⟩ = some (.slice none 0 0) := blk_cell HK2.out 1
    have f60 : wr.frozen? ⟨w.heap.size + 1 + 1, 0, none⟩ = false := blk_frozen HK2.out 0
    have f61 : wr.frozen? ⟨w.heap.size + 1 + 1, 1, none⟩ = false := blk_frozen HK2.out 1
    go_wp2
    refine bodyPost_ret (results_ct rfl _ _ (w.heap.size + 1 + 1) 26 #[.int .i64 n, .slice Av ((xs.take i).filter (inAt f k)).length cv] (0, 0) _ rfl (by refine blk_put (cs := #[.int .i64 n, .slice none 0 0]) ?_ 1 _ rfl; refine blk_put (cs := #[.int .i64 0, .slice none 0 0]) ?_ 0 _ rfl; exact HK2.out) Tryz.underlying26 rfl (by kernel_rfl)) rfl ?_
    have hsz := hsz.out
    have hs5 := HB3.out.size
    have hb := HB.out.trans (HB13.out.mono HB.out.size)
    refine ⟨.slice Av ((xs.take i).filter (inAt f k)).length cv, by rw [HA.out]; rfl, ?_, (hb.setCell (by simp; omega) _).setCell (by simp; omega) _⟩
    have ho := HO.out
    have hbs := ho.base
    have ho := ho.lower (b' := w.heap.size) (by omega)
    rw [HA.out]
    rw [HE.out, List.take_length] at ho hbs ⊢
    exact (ho.grown (set_grown' _ (w.heap.size + 1 + 1) _ _) (fun j hj e => by have := hbs _ hj; cases e; omega)).grown (set_grown' _ (w.heap.size + 1 + 1) _ _) (fun j hj e => by have := hbs _ hj; cases e; omega)
 ·have HA : Aside0 (ansFibreOf a xs b ys f g = ((0, []), q)) := ⟨by unfold ansFibreOf; rw [← hq, if_neg h0]⟩
  have hqb : (q != 0) = true := by simpa using h0
  have HQ := Aside0.mk hq
  clear hq h0
  go_enter Tryz.func20, Tryz.ntmps20
  go_wp2_with (first | (go_at_call 143; rw [← hw1]; clear hw1; refine (specOver a _ xs b _ ys _ f g _ HK.out HL.out HV.out).mono ?_; rintro e w3 ⟨rfl, hb⟩; rw [← HQ.out]; have HB3 := Aside0.mk hb; have HK2 := Aside0.mk (blk_below HBK.out hb); have c60 : w3.cell? ⟨w.heap.size + 1 + 1, 0, none⟩ = some (.int .i64 0) := blk_cell HK2.out 0; have c61 : w3.cell? ⟨w.heap.size + 1 + 1, 1, none⟩ = some (.slice none 0 0) := blk_cell HK2.out 1; have f60 : w3.frozen? ⟨w.heap.size + 1 + 1, 0, none⟩ = false := blk_frozen HK2.out 0; have f61 : w3.frozen? ⟨w.heap.size + 1 + 1, 1, none⟩ = false := blk_frozen HK2.out 1; clear hb))
  refine bodyPost_ret (results_ct rfl _ _ (w.heap.size + 1 + 1) 26 #[.int .i64 0, .slice none 0 0] (0, 0) _ rfl (by refine blk_put (cs := #[.int .i64 0, .slice none 0 0]) ?_ 1 _ rfl; refine blk_put (cs := #[.int .i64 0, .slice none 0 0]) ?_ 0 _ rfl; exact HK2.out) Tryz.underlying26 rfl (by kernel_rfl)) rfl ?_
  have hsz := hsz.out
  have hb := HB.out.trans (HB3.out.mono HB.out.size)
  exact ⟨.slice none 0 0, by rw [HA.out]; rfl, by rw [HA.out]; exact OwnI.nil _ _, (hb.setCell (by simp; omega) _).setCell (by simp; omega) _⟩
end Go.Proofs.YtomofijniefelaaGreat.H
