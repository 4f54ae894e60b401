/- FibreOf of the program. -/
import Derived.Test.YtllmbbaffhpheaaFibreS
namespace Go.Proofs.Ytllmbbaffhpheaa.H
open Go.RowKit Go.Proofs.YtllmbbaffhpheaaW.PrintWords Go.Proofs.YtllmbbaffhpheaaW.PrintLast Go.Proofs.YtllmbbaffhpheaaW.PrintMore
set_option linter.unusedVariables false
set_option linter.unusedSimpArgs false

theorem img_lt63 {f : Nat} {p : List Int} (hp : ∀ x ∈ p, 0 ≤ x ∧ x ≤ 5) : img f p < 64 := imgTo_lt hp _
/-- its image lies in g -/
def inAt (f : List Int) (g : Nat) (x : Int) : Bool := decide (img x.toNat f &&& g = img x.toNat f)
/-- what FibreOf answers -/
def ansFibreOf (a : Int) (xs : List Int) (b : Int) (ys f : List Int) (g : Int) : (Int × List Int) × Int :=
  if codeSimp a b xs ys [f] (decide (g ∈ ys)) = 0 then ((a, xs.filter (inAt f g.toNat)), 0) else ((0, []), codeSimp a b xs ys [f] (decide (g ∈ ys)))

theorem xor_and_zero (a b : Nat) : (a ^^^ (a &&& b) = 0) ↔ (a &&& b = a) := by
  constructor
  · intro h
    have h2 := congrArg (a ^^^ ·) h
    simpa [← Nat.xor_assoc] using h2
  · intro h; rw [h]; simp

theorem isInC (a b : Nat) (ha : a < 64) (hb : b < 64) (w : World) :
    Calls Try.prog 94 #[.int .i64 a, .int .i64 b] w fun e w' => e = .returned (.bool (decide (a &&& b = a))) ∧ Below w.heap.size w w' := by
  have hx := andNot_i64 a b (by omega) (by omega)
  have HX : Aside0 ((((a ^^^ (a &&& b) : Nat) : Int) == 0) = decide (a &&& b = a)) := ⟨by
    rw [Bool.eq_iff_iff, beq_iff_eq, decide_eq_true_eq, ← xor_and_zero]; omega⟩
  go_enter Try.func94, Try.ntmps94
  go_wp2
  go_ret
  exact ⟨by rw [← HX.out]; rfl, by (repeat (first | (with_reducible exact Below.refl _ _) | (with_reducible assumption) | (with_reducible refine below_step ?_ (by assumption)) | (with_reducible apply below_alloc) | (with_reducible apply below_drewN)))⟩

set_option maxRecDepth 100000 in
set_option maxHeartbeats 1000000 in
theorem fibThunk (w : World) (bl bg : Nat) (m : Nat) (lu : Value) (ys : List Int) (g : Int) (hl : ReadI w lu ys) (hc : Cx m ys) (h0 : w.cell? ⟨bl, 0, none⟩ = some (.int .i64 m)) (h1 : w.cell? ⟨bl, 1, none⟩ = some lu) (h2 : w.cell? ⟨bg, 0, none⟩ = some (.int .i64 g)) :
    ThunkB w (.func (.func 92) #[] #[.pointer (some ⟨bl, 0, none⟩), .pointer (some ⟨bg, 0, none⟩)]) (decide (g ∈ ys)) := by
  refine ⟨_, _, _, rfl, Enters.mk' Try.func92 rfl rfl, fun w1 hb => ?_⟩
  have c0 := pw_cell_below hb h0
  have c1 := pw_cell_below hb h1
  have c2 := pw_cell_below hb h2
  have HI := Aside0.mk (has m lu ys g w1 (hl.below hb) hc.asc (by have := hc.len; omega))
  obtain ⟨A1, d1, rfl, -⟩ := id hl
  clear hb h0 h1 h2 hl hc
  show Calls _ _ #[_, _] _ _
  go_enter Try.func92, Try.ntmps92
  go_wp2_with (first | (go_at_call 59; refine HI.out.mono ?_; rintro e w2 ⟨rfl, hb2⟩))
  go_ret
  exact ⟨rfl, hb2⟩

set_option maxRecDepth 100000 in
set_option maxHeartbeats 1000000 in
theorem fibre1 (w : World) (bf bg : Nat) (n m : Nat) (u : Value) (xs f : List Int) (g : Nat) (hg : g < 64) (hu : ReadI w u f) (hc : Cx n xs) (hm : m ≤ 6) (hf : Mp n m f) (h0 : w.cell? ⟨bf, 0, none⟩ = some u) (h1 : w.cell? ⟨bg, 0, none⟩ = some (.int .i64 g)) :
    PredI w (.func (.func 93) #[] #[.pointer (some ⟨bf, 0, none⟩), .pointer (some ⟨bg, 0, none⟩)]) (inAt f g) (fun x => x ∈ xs) := by
  refine ⟨_, _, _, rfl, Enters.mk' Try.func93 rfl rfl, fun w1 x hb hx => ?_⟩
  obtain ⟨z, rfl, hz, -⟩ := cx_dom hc hf hx
  have c0 := pw_cell_below hb h0
  have c1 := pw_cell_below hb h1
  have HU := Aside0.mk (hu.below hb)
  have hlf : f.length ≤ 6 := by rw [hf.len]; exact hc.hi
  obtain ⟨A1, d1, rfl, -⟩ := id hu
  have HI : Aside0 (∀ x : Ext w1, Calls Try.prog 60 #[.int .i64 z, .slice A1 f.length d1] x.1 fun e w' => e = .returned (.int .i64 (img z f : Nat)) ∧ Below x.1.heap.size x.1 w') := ⟨fun x => imageOf z _ f x.1 (HU.out.below x.2) hlf hz (hf.bd5 hm)⟩
  have himg := img_lt63 (f := z) (hf.bd5 hm)
  have HJ : Aside0 (∀ x : Ext w1, Calls Try.prog 94 #[.int .i64 (img z f : Nat), .int .i64 g] x.1 fun e w' => e = .returned (.bool (decide (img z f &&& g = img z f))) ∧ Below x.1.heap.size x.1 w') := ⟨fun x => isInC _ g himg hg x.1⟩
  have x0 : ∀ x : Ext w1, x.1.cell? ⟨bf, 0, none⟩ = some (.slice A1 f.length d1) := fun x => Ext.cell c0 x
  have x1 : ∀ x : Ext w1, x.1.cell? ⟨bg, 0, none⟩ = some (.int .i64 g) := fun x => Ext.cell c1 x
  have HO : Aside0 (inAt f g (z : Int) = decide (img z f &&& g = img z f)) := ⟨rfl⟩
  clear hb h0 h1 hx hu hc hf hz hlf HU c0 c1 himg
  generalize img z f = t at *
  show Calls _ _ #[_, _, _] _ _
  go_enter Try.func93, Try.ntmps93
  go_wp2
  refine wp_region_ext (by kernel_rfl) (by kernel_rfl) ?_
  repeat (go_big_quiet_step ((first | (go_at_call 60; exact Calls.ext_of (HI.out _)) | (go_at_call 94; exact Calls.ext_of (HJ.out _)))))
  refine wpQuiet_nil ?_
  rintro _ ⟨x, rfl⟩
  have hbx := x.2
  go_wp2
  go_ret
  exact ⟨by rw [HO.out]; rfl, by (repeat (first | (with_reducible exact Below.refl _ _) | (with_reducible assumption) | (with_reducible refine below_step ?_ (by assumption)) | (with_reducible apply below_alloc) | (with_reducible apply below_drewN)))⟩

set_option maxRecDepth 100000 in
set_option maxHeartbeats 1000000 in
theorem implFibreOf (a : Int) (ku : Value) (xs : List Int) (b : Int) (lu : Value) (ys : List Int) (v : Value) (f : List Int) (g : Int) (w : World) (hk : ReadI w ku xs) (hl : ReadI w lu ys) (hv : ReadI w v f) :
    Calls Try.prog 48 #[cx a ku, cx b lu, v, .int .i64 g] w fun e w' => ∃ u, e = .returned (.tuple #[.agg #[.int .i64 (ansFibreOf a xs b ys f g).1.1, u], .int .i64 (ansFibreOf a xs b ys f g).2]) ∧ OwnI w.heap.size w' u (ansFibreOf a xs b ys f g).1.2 ∧ Below w.heap.size w w' := by
  obtain ⟨w0, hw0⟩ : ∃ w0, w0 = (w.alloc (.cells #[.int .i64 a, ku] 28)).alloc (.cells #[.int .i64 b, lu] 28) := ⟨_, rfl⟩
  obtain ⟨w1, hw1⟩ : ∃ w1, w1 = w0.alloc (.cells #[v] 22) := ⟨_, rfl⟩
  obtain ⟨w2, hw2⟩ : ∃ w2, w2 = w1.alloc (.cells #[.int .i64 g] 2) := ⟨_, rfl⟩
  obtain ⟨w3, hw3⟩ : ∃ w3, w3 = w2.alloc (.cells #[.int .i64 0, .slice none 0 0] 28) := ⟨_, rfl⟩
  obtain ⟨w4, hw4⟩ : ∃ w4, w4 = w3.alloc (.cells #[v] 22) := ⟨_, rfl⟩
  have hs0 : w0.heap.size = w.heap.size + 1 + 1 := by rw [hw0]; simp
  have hs1 : w1.heap.size = w.heap.size + 1 + 1 + 1 := by rw [hw1]; simp [hs0]
  have hs2 : w2.heap.size = w.heap.size + 1 + 1 + 1 + 1 := by rw [hw2]; simp [hs1]
  have hs3 : w3.heap.size = w.heap.size + 1 + 1 + 1 + 1 + 1 := by rw [hw3]; simp [hs2]
  have hB0 : Below w.heap.size w w0 := by rw [hw0]; exact ((Below.refl _ w).alloc (Nat.le_refl _) _).alloc (by simp) _
  have hB1 : Below w0.heap.size w0 w1 := by rw [hw1]; exact Below.alloc (Below.refl _ _) (Nat.le_refl _) _
  have hB2 : Below w1.heap.size w1 w2 := by rw [hw2]; exact Below.alloc (Below.refl _ _) (Nat.le_refl _) _
  have hB3 : Below w2.heap.size w2 w3 := by rw [hw3]; exact Below.alloc (Below.refl _ _) (Nat.le_refl _) _
  have hB4 : Below w3.heap.size w3 w4 := by rw [hw4]; exact Below.alloc (Below.refl _ _) (Nat.le_refl _) _
  have hB24 : Below w2.heap.size w2 w4 := hB3.trans (hB4.mono hB3.size)
  have hB14 : Below w1.heap.size w1 w4 := hB2.trans (hB24.mono hB2.size)
  have hB04 : Below w0.heap.size w0 w4 := hB1.trans (hB14.mono hB1.size)
  have hB03 : Below w0.heap.size w0 w3 := hB1.trans ((hB2.trans (hB3.mono hB2.size)).mono hB1.size)
  have hB : Below w.heap.size w w4 := hB0.trans (hB04.mono hB0.size)
  have c0 : w4.cell? ⟨w.heap.size, 0, none⟩ = some (.int .i64 a) := pw_cell_below hB04 (by rw [hw0]; simp)
  have c1 : w4.cell? ⟨w.heap.size, 1, none⟩ = some ku := pw_cell_below hB04 (by rw [hw0]; simp)
  have c2 : w4.cell? ⟨w.heap.size + 1, 0, none⟩ = some (.int .i64 b) := pw_cell_below hB04 (by rw [hw0]; simp)
  have c3 : w4.cell? ⟨w.heap.size + 1, 1, none⟩ = some lu := pw_cell_below hB04 (by rw [hw0]; simp)
  have c4 : w4.cell? ⟨w.heap.size + 1 + 1, 0, none⟩ = some v := pw_cell_below hB14 (by rw [hw1, ← hs0]; simp)
  have c5 : w4.cell? ⟨w.heap.size + 1 + 1 + 1, 0, none⟩ = some (.int .i64 g) := pw_cell_below hB24 (by rw [hw2, ← hs1]; simp)
  have hk4 : w4.heap[w.heap.size + 1 + 1 + 1 + 1]? = some (.cells #[.int .i64 0, .slice none 0 0] 28) := by rw [hw4]; refine blk_alloc ?_ _; rw [hw3, ← hs2]; exact blk_new _ _
  have HK := Aside0.mk (hk.below hB)
  have HL := Aside0.mk (hl.below hB)
  have HV := Aside0.mk (hv.below hB)
  have HS := Aside0.mk (ReadS.one' ((hv.below hB0).below hB03))
  rw [← hw4, hs3] at HS
  have HB := Aside0.mk hB
  have HBK := Aside0.mk hk4
  have hsz : Aside0 (w4.heap.size = w.heap.size + 6) := ⟨by rw [hw4]; simp [hs3]⟩
  have c0a : w3.cell? ⟨w.heap.size, 0, none⟩ = some (.int .i64 a) := pw_cell_below hB03 (by rw [hw0]; simp)
  have c1a : w3.cell? ⟨w.heap.size, 1, none⟩ = some ku := pw_cell_below hB03 (by rw [hw0]; simp)
  have c2a : w3.cell? ⟨w.heap.size + 1, 0, none⟩ = some (.int .i64 b) := pw_cell_below hB03 (by rw [hw0]; simp)
  have c3a : w3.cell? ⟨w.heap.size + 1, 1, none⟩ = some lu := pw_cell_below hB03 (by rw [hw0]; simp)
  have c4a : w3.cell? ⟨w.heap.size + 1 + 1, 0, none⟩ = some v := pw_cell_below (hB2.trans (hB3.mono hB2.size)) (by rw [hw1, ← hs0]; simp)
  obtain ⟨A1, d1, rfl, -⟩ := id hk
  obtain ⟨A2, d2, rfl, -⟩ := id hl
  obtain ⟨A3, d3, rfl, -⟩ := id hv
  have HM := Aside0.mk (simplicialCode a b _ _ xs ys _ _ (decide (g ∈ ys)) [f] w4 HK.out HL.out (fun _ h => by
    obtain ⟨m, rfl, hm, -⟩ := cxOk_cx h
    exact fibThunk w4 _ _ m _ ys g HL.out hm c2 c3 c5) ⟨_, _, _, rfl⟩ HS.out)
  clear hk hl hv hB hB0 hB1 hB2 hB3 hB4 hB24 hB14 hB04 hB03 hk4
  subst hw0
  obtain ⟨q, hq⟩ : ∃ q, q = codeSimp a b xs ys [f] (decide (g ∈ ys)) := ⟨_, rfl⟩
  by_cases h0 : q = 0
  · have h0' := hq.symm.trans h0
    obtain ⟨n, m, rfl, rfl, hcn, hcm, hmp, -, hgy⟩ := codeSimp_zero' h0'
    have hgm : g ∈ ys := of_decide_eq_true hgy
    have hgb := hcm.bd g hgm
    obtain ⟨k, rfl⟩ : ∃ k : Nat, g = k := ⟨g.toNat, by omega⟩
    have hk6 : k < 64 := by have := pw6 hcm.hi; omega
    have HA : Aside0 (ansFibreOf n xs m ys f k = (((n : Int), xs.filter (inAt f k)), 0)) := ⟨by unfold ansFibreOf; rw [if_pos h0']; rfl⟩
    have HN := Aside0.mk hcn
    have HC := Aside0.mk hcm
    have HF := Aside0.mk (hmp f (by simp))
    have HQ := Aside0.mk h0'
    have HP := Aside0.mk (fun (wz : World) (hbz : Below w4.heap.size w4 wz) => fibre1 wz (w.heap.size + 1 + 1) (w.heap.size + 1 + 1 + 1) n m _ xs f k hk6 (HV.out.below hbz) hcn hcm.hi (hmp f (by simp)) (pw_cell_below hbz c4) (pw_cell_below hbz c5))
    clear hcn hcm hmp hq h0 h0' hgy hgm hgb hk6
    go_enter Try.func48, Try.ntmps48
    go_wp2_with (first | (go_at_call 55; rw [← hw1, ← hw2, ← hw3, ← hw4]; clear hw1 hw2 hw3 hw4 c0a c1a c2a c3a c4a; refine HM.out.mono ?_; rintro e w5 ⟨rfl, hb⟩; rw [HQ.out]; have c0 := pw_cell_below hb c0; have c1 := pw_cell_below hb c1; have HB3 := Aside0.mk hb; clear hb) | (go_at_call 79; refine (part n _ xs _ _ _ (HK.out.below HB3.out) HN.out (HP.out _ HB3.out)).mono ?_; rintro e w6 ⟨u, rfl, ho, hb6⟩; obtain ⟨A4, d4, rfl, -⟩ := ho.read; have HO := Aside0.mk ho; have HK2 := Aside0.mk (blk_below (blk_below HBK.out HB3.out) hb6); have c60 : w6.cell? ⟨w.heap.size + 1 + 1 + 1 + 1, 0, none⟩ = some (.int .i64 0) := blk_cell HK2.out 0; have c61 : w6.cell? ⟨w.heap.size + 1 + 1 + 1 + 1, 1, none⟩ = some (.slice none 0 0) := blk_cell HK2.out 1; have f60 : w6.frozen? ⟨w.heap.size + 1 + 1 + 1 + 1, 0, none⟩ = false := blk_frozen HK2.out 0; have f61 : w6.frozen? ⟨w.heap.size + 1 + 1 + 1 + 1, 1, none⟩ = false := blk_frozen HK2.out 1; have HB6 := Aside0.mk hb6; clear ho hb6))
    refine bodyPost_ret (results_ct rfl _ _ (w.heap.size + 1 + 1 + 1 + 1) 28 #[.int .i64 n, .slice A4 (xs.filter (inAt f k)).length d4] (0, 0) _ rfl (by refine blk_put (cs := #[.int .i64 n, .slice none 0 0]) ?_ 1 _ rfl; refine blk_put (cs := #[.int .i64 0, .slice none 0 0]) ?_ 0 _ rfl; exact HK2.out) Try.underlying28 rfl (by kernel_rfl)) rfl ?_
    have hsz := hsz.out
    have hs5 := HB3.out.size
    have hb := HB.out.trans ((HB3.out.trans (HB6.out.mono HB3.out.size)).mono HB.out.size)
    refine ⟨.slice A4 (xs.filter (inAt f k)).length d4, by rw [HA.out]; rfl, ?_, (hb.setCell (by simp; omega) _).setCell (by simp; omega) _⟩
    have hbs := HO.out.base
    have ho := HO.out.lower (b' := w.heap.size) (by omega)
    rw [HA.out]
    exact (ho.grown (set_grown' _ (w.heap.size + 1 + 1 + 1 + 1) _ _) (fun j hj e => by have := hbs _ hj; cases e; omega)).grown (set_grown' _ (w.heap.size + 1 + 1 + 1 + 1) _ _) (fun j hj e => by have := hbs _ hj; cases e; omega)
  · have HA : Aside0 (ansFibreOf a xs b ys f g = ((0, []), q)) := ⟨by unfold ansFibreOf; rw [← hq, if_neg h0]⟩
    have hqb : (q != 0) = true := by simpa using h0
    have HQ := Aside0.mk hq
    clear hq h0
    go_enter Try.func48, Try.ntmps48
    go_wp2_with (first | (go_at_call 55; rw [← hw1, ← hw2, ← hw3, ← hw4]; clear hw1 hw2 hw3 hw4 c0a c1a c2a c3a c4a; refine HM.out.mono ?_; rintro e w5 ⟨rfl, hb⟩; rw [← HQ.out]; have HB3 := Aside0.mk hb; have HK2 := Aside0.mk (blk_below HBK.out hb); have c60 : w5.cell? ⟨w.heap.size + 1 + 1 + 1 + 1, 0, none⟩ = some (.int .i64 0) := blk_cell HK2.out 0; have c61 : w5.cell? ⟨w.heap.size + 1 + 1 + 1 + 1, 1, none⟩ = some (.slice none 0 0) := blk_cell HK2.out 1; have f60 : w5.frozen? ⟨w.heap.size + 1 + 1 + 1 + 1, 0, none⟩ = false := blk_frozen HK2.out 0; have f61 : w5.frozen? ⟨w.heap.size + 1 + 1 + 1 + 1, 1, none⟩ = false := blk_frozen HK2.out 1; clear hb))
    refine bodyPost_ret (results_ct rfl _ _ (w.heap.size + 1 + 1 + 1 + 1) 28 #[.int .i64 0, .slice none 0 0] (0, 0) _ rfl (by refine blk_put (cs := #[.int .i64 0, .slice none 0 0]) ?_ 1 _ rfl; refine blk_put (cs := #[.int .i64 0, .slice none 0 0]) ?_ 0 _ rfl; exact HK2.out) Try.underlying28 rfl (by kernel_rfl)) rfl ?_
    have hsz := hsz.out
    have hb := HB.out.trans (HB3.out.mono HB.out.size)
    exact ⟨.slice none 0 0, by rw [HA.out]; rfl, by rw [HA.out]; exact OwnI.nil _ _, (hb.setCell (by simp; omega) _).setCell (by simp; omega) _⟩
end Go.Proofs.Ytllmbbaffhpheaa.H
