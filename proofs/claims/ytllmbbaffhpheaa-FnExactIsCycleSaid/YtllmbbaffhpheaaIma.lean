/- ImageComplex of the program. -/
import Derived.Test.YtllmbbaffhpheaaSub
namespace Go.Proofs.Ytllmbbaffhpheaa.H
open Go.RowKit Go.Proofs.YtllmbbaffhpheaaW.PrintWords Go.Proofs.YtllmbbaffhpheaaW.PrintLast Go.Proofs.YtllmbbaffhpheaaW.PrintMore
set_option linter.unusedVariables false
set_option linter.unusedSimpArgs false

/-- what ImageComplex answers -/
def ansImageComplex (a : Int) (xs : List Int) (b : Int) (ys f : List Int) : (Int × List Int) × Int :=
  if codeSimp a b xs ys [f] true = 0 then ((b, thL (imAt xs f) (2 ^ b.toNat)), 0) else ((0, []), codeSimp a b xs ys [f] true)
theorem lenImageComplex (a : Int) (xs : List Int) (b : Int) (ys f : List Int) : (ansImageComplex a xs b ys f).1.2.length ≤ 1073741824 := by
  unfold ansImageComplex
  split
  · next h =>
    obtain ⟨n, m, -, rfl, -, hc, -⟩ := codeSimp_zero' h
    have := pw6 hc.hi
    exact Nat.le_trans (thL_len _ _) (by rw [Int.toNat_natCast]; omega)
  · simp

set_option maxRecDepth 100000 in
set_option maxHeartbeats 1000000 in
theorem image11 (w : World) (bf bg : Nat) (n m : Nat) (u : Value) (xs f : List Int) (g : Int) (hu : ReadI w u f) (hc : Cx n xs) (hm : m ≤ 6) (hf : Mp n m f) (h0 : w.cell? ⟨bf, 0, none⟩ = some u) (h1 : w.cell? ⟨bg, 0, none⟩ = some (.int .i64 g)) :
    PredI w (.func (.func 99) #[] #[.pointer (some ⟨bf, 0, none⟩), .pointer (some ⟨bg, 0, none⟩)]) (opAt f g) (fun x => x ∈ xs) := by
  refine ⟨_, _, _, rfl, Enters.mk' Try.func99 rfl rfl, fun w1 x hb hx => ?_⟩
  obtain ⟨z, rfl, hz, -⟩ := cx_dom hc hf hx
  have c0 := pw_cell_below hb h0
  have c1 := pw_cell_below hb h1
  have HU := Aside0.mk (hu.below hb)
  have hlf : f.length ≤ 6 := by rw [hf.len]; exact hc.hi
  obtain ⟨A1, d1, rfl, -⟩ := id hu
  have HI : Aside0 (∀ x : Ext w1, Calls Try.prog 60 #[.int .i64 z, .slice A1 f.length d1] x.1 fun e w' => e = .returned (.int .i64 (img z f : Nat)) ∧ Below x.1.heap.size x.1 w') := ⟨fun x => imageOf z _ f x.1 (HU.out.below x.2) hlf hz (hf.bd5 hm)⟩
  have x0 : ∀ x : Ext w1, x.1.cell? ⟨bf, 0, none⟩ = some (.slice A1 f.length d1) := fun x => Ext.cell c0 x
  have x1 : ∀ x : Ext w1, x.1.cell? ⟨bg, 0, none⟩ = some (.int .i64 g) := fun x => Ext.cell c1 x
  have HO : Aside0 (opAt f g (z : Int) = (((img z f : Nat) : Int) == g)) := ⟨rfl⟩
  clear hb h0 h1 hx hu hc hf hz hlf HU c0 c1
  generalize img z f = t at *
  show Calls _ _ #[_, _, _] _ _
  go_enter Try.func99, Try.ntmps99
  go_wp2
  refine wp_region_ext (by kernel_rfl) (by kernel_rfl) ?_
  repeat (go_big_quiet_step ((first | (go_at_call 60; exact Calls.ext_of (HI.out _)))))
  refine wpQuiet_nil ?_
  rintro _ ⟨x, rfl⟩
  have hbx := x.2
  go_wp2
  go_ret
  exact ⟨by rw [HO.out]; rfl, by (repeat (first | (with_reducible exact Below.refl _ _) | (with_reducible assumption) | (with_reducible refine below_step ?_ (by assumption)) | (with_reducible apply below_alloc) | (with_reducible apply below_drewN)))⟩

set_option maxRecDepth 100000 in
set_option maxHeartbeats 1000000 in
theorem image1 (w : World) (bk bf : Nat) (n m : Nat) (ku u : Value) (xs f : List Int) (hk : ReadI w ku xs) (hu : ReadI w u f) (hc : Cx n xs) (hm : m ≤ 6) (hf : Mp n m f) (h0 : w.cell? ⟨bk, 0, none⟩ = some (.int .i64 n)) (h1 : w.cell? ⟨bk, 1, none⟩ = some ku) (h2 : w.cell? ⟨bf, 0, none⟩ = some u) :
    PredI w (.func (.func 97) #[] #[.pointer (some ⟨bk, 0, none⟩), .pointer (some ⟨bf, 0, none⟩)]) (imAt xs f) (fun g => 1 ≤ g ∧ g < ((2 ^ m : Nat) : Int)) := by
  refine ⟨_, _, _, rfl, Enters.mk' Try.func97 rfl rfl, fun w1 x hb hx => ?_⟩
  obtain ⟨w2, hw2⟩ : ∃ w2, w2 = w1.alloc (.cells #[.int .i64 x] 2) := ⟨_, rfl⟩
  have hb2 : Below w1.heap.size w1 w2 := by rw [hw2]; exact Below.alloc (Below.refl _ _) (Nat.le_refl _) _
  have hb02 := hb.trans (hb2.mono hb.size)
  have c0 := pw_cell_below hb h0
  have c1 := pw_cell_below hb h1
  have c2 := pw_cell_below hb02 h2
  have c3 : w2.cell? ⟨w1.heap.size, 0, none⟩ = some (.int .i64 x) := by rw [hw2]; simp
  have HP := Aside0.mk (image11 w2 bf w1.heap.size n m u xs f x (hu.below hb02) hc hm hf c2 c3)
  have HK := Aside0.mk (hk.below hb02)
  have HB2 := Aside0.mk hb2
  have HI : Aside0 (imAt xs f x = xs.any (opAt f x)) := ⟨rfl⟩
  obtain ⟨A1, d1, rfl, -⟩ := id hk
  have c1b : (w1.alloc (.cells #[.int .i64 x] 2)).cell? ⟨bk, 1, none⟩ = some (.slice A1 xs.length d1) := by rw [← hw2]; exact pw_cell_below hb2 c1
  clear hb h0 h1 h2 hk hu hc hf hx hb2 hb02 c2 c3
  show Calls _ _ #[_, _, _] _ _
  go_enter Try.func97, Try.ntmps97
  go_wp2_with (first | (go_at_call 98; rw [← hw2]; clear hw2 c1b; refine (containsFunc _ xs _ (opAt f x) (fun y => y ∈ xs) _ HK.out HP.out (fun _ h => h)).mono ?_; rintro e w3 ⟨rfl, hb3⟩))
  go_ret
  exact ⟨by rw [HI.out]; rfl, HB2.out.trans (hb3.mono HB2.out.size)⟩

set_option maxRecDepth 100000 in
set_option maxHeartbeats 1000000 in
theorem implImageComplex (a : Int) (ku : Value) (xs : List Int) (b : Int) (lu : Value) (ys : List Int) (v : Value) (f : List Int) (w : World) (hk : ReadI w ku xs) (hl : ReadI w lu ys) (hv : ReadI w v f) :
    Calls Try.prog 50 #[cx a ku, cx b lu, v] w fun e w' => ∃ u, e = .returned (.tuple #[.agg #[.int .i64 (ansImageComplex a xs b ys f).1.1, u], .int .i64 (ansImageComplex a xs b ys f).2]) ∧ OwnI w.heap.size w' u (ansImageComplex a xs b ys f).1.2 ∧ Below w.heap.size w w' := by
  obtain ⟨w0, hw0⟩ : ∃ w0, w0 = (w.alloc (.cells #[.int .i64 a, ku] 28)).alloc (.cells #[.int .i64 b, lu] 28) := ⟨_, rfl⟩
  obtain ⟨w1, hw1⟩ : ∃ w1, w1 = w0.alloc (.cells #[v] 22) := ⟨_, rfl⟩
  obtain ⟨w3, hw3⟩ : ∃ w3, w3 = w1.alloc (.cells #[.int .i64 0, .slice none 0 0] 28) := ⟨_, rfl⟩
  obtain ⟨w4, hw4⟩ : ∃ w4, w4 = w3.alloc (.cells #[v] 22) := ⟨_, rfl⟩
  have hs0 : w0.heap.size = w.heap.size + 1 + 1 := by rw [hw0]; simp
  have hs1 : w1.heap.size = w.heap.size + 1 + 1 + 1 := by rw [hw1]; simp [hs0]
  have hs3 : w3.heap.size = w.heap.size + 1 + 1 + 1 + 1 := by rw [hw3]; simp [hs1]
  have hB0 : Below w.heap.size w w0 := by rw [hw0]; exact ((Below.refl _ w).alloc (Nat.le_refl _) _).alloc (by simp) _
  have hB1 : Below w0.heap.size w0 w1 := by rw [hw1]; exact Below.alloc (Below.refl _ _) (Nat.le_refl _) _
  have hB3 : Below w1.heap.size w1 w3 := by rw [hw3]; exact Below.alloc (Below.refl _ _) (Nat.le_refl _) _
  have hB4 : Below w3.heap.size w3 w4 := by rw [hw4]; exact Below.alloc (Below.refl _ _) (Nat.le_refl _) _
  have hB14 : Below w1.heap.size w1 w4 := hB3.trans (hB4.mono hB3.size)
  have hB04 : Below w0.heap.size w0 w4 := hB1.trans (hB14.mono hB1.size)
  have hB03 : Below w0.heap.size w0 w3 := hB1.trans (hB3.mono hB1.size)
  have hB : Below w.heap.size w w4 := hB0.trans (hB04.mono hB0.size)
  have c0 : w4.cell? ⟨w.heap.size, 0, none⟩ = some (.int .i64 a) := pw_cell_below hB04 (by rw [hw0]; simp)
  have c1 : w4.cell? ⟨w.heap.size, 1, none⟩ = some ku := pw_cell_below hB04 (by rw [hw0]; simp)
  have c2 : w4.cell? ⟨w.heap.size + 1, 0, none⟩ = some (.int .i64 b) := pw_cell_below hB04 (by rw [hw0]; simp)
  have c3 : w4.cell? ⟨w.heap.size + 1, 1, none⟩ = some lu := pw_cell_below hB04 (by rw [hw0]; simp)
  have c4 : w4.cell? ⟨w.heap.size + 1 + 1, 0, none⟩ = some v := pw_cell_below hB14 (by rw [hw1, ← hs0]; simp)
  have hk4 : w4.heap[w.heap.size + 1 + 1 + 1]? = some (.cells #[.int .i64 0, .slice none 0 0] 28) := by rw [hw4]; refine blk_alloc ?_ _; rw [hw3, ← hs1]; exact blk_new _ _
  have HK := Aside0.mk (hk.below hB)
  have HL := Aside0.mk (hl.below hB)
  have HV := Aside0.mk (hv.below hB)
  have HS := Aside0.mk (ReadS.one' ((hv.below hB0).below hB03))
  rw [← hw4, hs3] at HS
  have HB := Aside0.mk hB
  have HBK := Aside0.mk hk4
  have hsz : Aside0 (w4.heap.size = w.heap.size + 5) := ⟨by rw [hw4]; simp [hs3]⟩
  have c0a : w3.cell? ⟨w.heap.size, 0, none⟩ = some (.int .i64 a) := pw_cell_below hB03 (by rw [hw0]; simp)
  have c1a : w3.cell? ⟨w.heap.size, 1, none⟩ = some ku := pw_cell_below hB03 (by rw [hw0]; simp)
  have c2a : w3.cell? ⟨w.heap.size + 1, 0, none⟩ = some (.int .i64 b) := pw_cell_below hB03 (by rw [hw0]; simp)
  have c3a : w3.cell? ⟨w.heap.size + 1, 1, none⟩ = some lu := pw_cell_below hB03 (by rw [hw0]; simp)
  have c4a : w3.cell? ⟨w.heap.size + 1 + 1, 0, none⟩ = some v := pw_cell_below hB3 (by rw [hw1, ← hs0]; simp)
  obtain ⟨A1, d1, rfl, -⟩ := id hk
  obtain ⟨A2, d2, rfl, -⟩ := id hl
  obtain ⟨A3, d3, rfl, -⟩ := id hv
  have HM := Aside0.mk (simplicialCode a b _ _ xs ys _ _ true [f] w4 HK.out HL.out (fun _ _ => alwaysB w4) ⟨_, _, _, rfl⟩ HS.out)
  clear hk hl hv hB hB0 hB1 hB3 hB4 hB14 hB04 hB03 hk4
  subst hw0
  obtain ⟨q, hq⟩ : ∃ q, q = codeSimp a b xs ys [f] true := ⟨_, rfl⟩
  by_cases h0 : q = 0
  · have h0' := hq.symm.trans h0
    obtain ⟨n, m, rfl, rfl, hcn, hcm, hmp, -, -⟩ := codeSimp_zero' h0'
    have HA : Aside0 (ansImageComplex n xs m ys f = (((m : Int), thL (imAt xs f) (2 ^ m)), 0)) := ⟨by unfold ansImageComplex; rw [if_pos h0']; rfl⟩
    have HN := Aside0.mk hcn
    have HC := Aside0.mk hcm
    have HF := Aside0.mk (hmp f (by simp))
    have HQ := Aside0.mk h0'
    have HP := Aside0.mk (fun (wz : World) (hbz : Below w4.heap.size w4 wz) => image1 wz w.heap.size (w.heap.size + 1 + 1) n m _ _ xs f (HK.out.below hbz) (HV.out.below hbz) hcn hcm.hi (hmp f (by simp)) (pw_cell_below hbz c0) (pw_cell_below hbz c1) (pw_cell_below hbz c4))
    clear hcn hcm hmp hq h0 h0'
    go_enter Try.func50, Try.ntmps50
    go_wp2_with (first | (go_at_call 55; rw [← hw1, ← hw3, ← hw4]; clear hw1 hw3 hw4 c0a c1a c2a c3a c4a; refine HM.out.mono ?_; rintro e w5 ⟨rfl, hb⟩; rw [HQ.out]; have c2 := pw_cell_below hb c2; have c3 := pw_cell_below hb c3; have HB3 := Aside0.mk hb; clear hb) | (go_at_call 96; refine (those m HC.out.hi _ _ _ (HP.out _ HB3.out)).mono ?_; rintro e w6 ⟨u, rfl, ho, hb6⟩; obtain ⟨A4, d4, rfl, -⟩ := ho.read; have HO := Aside0.mk ho; have HK2 := Aside0.mk (blk_below (blk_below HBK.out HB3.out) hb6); have c60 : w6.cell? ⟨w.heap.size + 1 + 1 + 1, 0, none⟩ = some (.int .i64 0) := blk_cell HK2.out 0; have c61 : w6.cell? ⟨w.heap.size + 1 + 1 + 1, 1, none⟩ = some (.slice none 0 0) := blk_cell HK2.out 1; have f60 : w6.frozen? ⟨w.heap.size + 1 + 1 + 1, 0, none⟩ = false := blk_frozen HK2.out 0; have f61 : w6.frozen? ⟨w.heap.size + 1 + 1 + 1, 1, none⟩ = false := blk_frozen HK2.out 1; have HB6 := Aside0.mk hb6; clear ho hb6))
    refine bodyPost_ret (results_ct rfl _ _ (w.heap.size + 1 + 1 + 1) 28 #[.int .i64 m, .slice A4 (thL (imAt xs f) (2 ^ m)).length d4] (0, 0) _ rfl (by refine blk_put (cs := #[.int .i64 m, .slice none 0 0]) ?_ 1 _ rfl; refine blk_put (cs := #[.int .i64 0, .slice none 0 0]) ?_ 0 _ rfl; exact HK2.out) Try.underlying28 rfl (by kernel_rfl)) rfl ?_
    have hsz := hsz.out
    have hs5 := HB3.out.size
    have hb := HB.out.trans ((HB3.out.trans (HB6.out.mono HB3.out.size)).mono HB.out.size)
    refine ⟨.slice A4 (thL (imAt xs f) (2 ^ m)).length d4, by rw [HA.out]; rfl, ?_, (hb.setCell (by simp; omega) _).setCell (by simp; omega) _⟩
    have hbs := HO.out.base
    have ho := HO.out.lower (b' := w.heap.size) (by omega)
    rw [HA.out]
    exact (ho.grown (set_grown' _ (w.heap.size + 1 + 1 + 1) _ _) (fun j hj e => by have := hbs _ hj; cases e; omega)).grown (set_grown' _ (w.heap.size + 1 + 1 + 1) _ _) (fun j hj e => by have := hbs _ hj; cases e; omega)
  · have HA : Aside0 (ansImageComplex a xs b ys f = ((0, []), q)) := ⟨by unfold ansImageComplex; rw [← hq, if_neg h0]⟩
    have hqb : (q != 0) = true := by simpa using h0
    have HQ := Aside0.mk hq
    clear hq h0
    go_enter Try.func50, Try.ntmps50
    go_wp2_with (first | (go_at_call 55; rw [← hw1, ← hw3, ← hw4]; clear hw1 hw3 hw4 c0a c1a c2a c3a c4a; refine HM.out.mono ?_; rintro e w5 ⟨rfl, hb⟩; rw [← HQ.out]; have HB3 := Aside0.mk hb; have HK2 := Aside0.mk (blk_below HBK.out hb); have c60 : w5.cell? ⟨w.heap.size + 1 + 1 + 1, 0, none⟩ = some (.int .i64 0) := blk_cell HK2.out 0; have c61 : w5.cell? ⟨w.heap.size + 1 + 1 + 1, 1, none⟩ = some (.slice none 0 0) := blk_cell HK2.out 1; have f60 : w5.frozen? ⟨w.heap.size + 1 + 1 + 1, 0, none⟩ = false := blk_frozen HK2.out 0; have f61 : w5.frozen? ⟨w.heap.size + 1 + 1 + 1, 1, none⟩ = false := blk_frozen HK2.out 1; clear hb))
    refine bodyPost_ret (results_ct rfl _ _ (w.heap.size + 1 + 1 + 1) 28 #[.int .i64 0, .slice none 0 0] (0, 0) _ rfl (by refine blk_put (cs := #[.int .i64 0, .slice none 0 0]) ?_ 1 _ rfl; refine blk_put (cs := #[.int .i64 0, .slice none 0 0]) ?_ 0 _ rfl; exact HK2.out) Try.underlying28 rfl (by kernel_rfl)) rfl ?_
    have hsz := hsz.out
    have hb := HB.out.trans (HB3.out.mono HB.out.size)
    exact ⟨.slice none 0 0, by rw [HA.out]; rfl, by rw [HA.out]; exact OwnI.nil _ _, (hb.setCell (by simp; omega) _).setCell (by simp; omega) _⟩
end Go.Proofs.Ytllmbbaffhpheaa.H
