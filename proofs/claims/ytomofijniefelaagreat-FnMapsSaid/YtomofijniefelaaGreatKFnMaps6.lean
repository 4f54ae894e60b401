/- FixedFaces of the program and of the reference. OpenFibre of the program and of the reference. OpenFibre of the program. OpenFibre of the reference. isIn: all vertices of a face are in another one. FibreOf of the program. A complex holds each part of its faces. Subsets of faces; the image of a part of a face. -/
import Derived.Test.YtomofijniefelaaGreatKFnMaps1
import Derived.Test.YtomofijniefelaaGreatKFnMaps2
import Derived.Test.YtomofijniefelaaGreatKFnMaps3
import Derived.Test.YtomofijniefelaaGreatKFnMaps4
import Derived.Test.YtomofijniefelaaGreatKFnMaps5

namespace Go.Proofs.YtomofijniefelaaGreat.H
open Go.RowKit Go.Proofs.YtomofijniefelaaGreatW.PrintWords Go.Proofs.YtomofijniefelaaGreatW.PrintLast
set_option linter.unusedVariables false
set_option linter.unusedSimpArgs false
/-- its own image -/
def fixAt (f : List Int) (x : Int) : Bool := ((img x.toNat f : Nat) : Int) == x
/-- what FixedFaces answers -/
def ansFixedFaces (a : Int) (xs f : List Int) : List Int × Int :=
 if codeSimp a a xs xs [f] true = 0 then (xs.filter (fixAt f), 0) else ([], codeSimp a a xs xs [f] true)
set_option maxHeartbeats 1000000 in
theorem fixed1 (w : World) (bf : Nat) (n : Nat) (u : Value) (xs f : List Int) (hu : ReadI w u f) (hc : Cx n xs) (hf : Mp n n f) (h0 : w.cell? ⟨bf, 0, none⟩ = some u) :
  PredI w (.func (.func 161) #[] #[.pointer (some ⟨bf, 0, none⟩)]) (fixAt f) (fun x => x ∈ xs) := by
 refine ⟨_, _, _, rfl, Enters.mk' Tryz.func161 rfl rfl, fun w1 x hb hx => ?_⟩
 obtain ⟨z, rfl, hz, -⟩ := cx_dom hc hf hx
 have c0 := pw_cell_below hb h0
 have HU := Aside0.mk (hu.below hb)
 have hlf : f.length ≤ 6 := by rw [hf.len]; exact hc.hi
 have HI := Aside0.mk (imageOf z u f w1 HU.out hlf hz (hf.bd5 hc.hi))
 obtain ⟨A1, d1, rfl, -⟩ := id hu
 clear hb h0 hx hu hc hf hz hlf HU
 show Calls _ _ #[_, _] _ _
 go_enter Tryz.func161, Tryz.ntmps161
 go_wp2_with (first | (go_at_call 124; refine HI.out.mono ?_; rintro e w2 ⟨rfl, hb2⟩))
 go_ret
 exact ⟨rfl, hb2⟩
set_option maxRecDepth 100000 in
set_option maxHeartbeats 1000000 in
theorem implFixedFaces (a : Int) (ku : Value) (xs : List Int) (v : Value) (f : List Int) (w : World) (hk : ReadI w ku xs) (hv : ReadI w v f) :
  Calls Tryz.prog 34 #[cx a ku, v] w fun e w' => ∃ u, e = .returned (.tuple #[u, .int .i64 (ansFixedFaces a xs f).2]) ∧ OwnI w.heap.size w' u (ansFixedFaces a xs f).1 ∧ Below w.heap.size w w' := by
 obtain ⟨w1, hw1⟩ : ∃ w1, w1 = (w.alloc (.cells #[.int .i64 a, ku] 26)).alloc (.cells #[v] 24) := ⟨_, rfl⟩
 obtain ⟨w2, hw2⟩ : ∃ w2, w2 = w1.alloc (.cells #[v] 24) := ⟨_, rfl⟩
 have hs1 : w1.heap.size = w.heap.size + 1 + 1 := by rw [hw1]; simp
 have hB1 : Below w.heap.size w w1 := by rw [hw1]; exact ((Below.refl _ w).alloc (Nat.le_refl _) _).alloc (by simp) _
 have hB2 : Below w1.heap.size w1 w2 := by rw [hw2]; exact Below.alloc (Below.refl _ _) (Nat.le_refl _) _
 have hB : Below w.heap.size w w2 := hB1.trans (hB2.mono hB1.size)
 have c0 : w2.cell? ⟨w.heap.size, 0, none⟩ = some (.int .i64 a) := pw_cell_below hB2 (by rw [hw1]; simp)
 have c1 : w2.cell? ⟨w.heap.size, 1, none⟩ = some ku := pw_cell_below hB2 (by rw [hw1]; simp)
 have c2 : w2.cell? ⟨w.heap.size + 1, 0, none⟩ = some v := pw_cell_below hB2 (by rw [hw1]; simp)
 have HK := Aside0.mk (hk.below hB)
 have HV := Aside0.mk (hv.below hB)
 have HS := Aside0.mk (ReadS.one' (hv.below hB1))
 rw [← hw2, hs1] at HS
 have HB := Aside0.mk hB
 have hsz := hB.size
 obtain ⟨A1, d1, rfl, -⟩ := id hk
 obtain ⟨A2, d2, rfl, -⟩ := id hv
 have HM := Aside0.mk (simplicialCode a a _ _ xs xs _ _ true [f] w2 HK.out HK.out (fun _ _ => alwaysB w2) ⟨_, _, _, rfl⟩ HS.out)
 clear hk hv hB hB1 hB2 hs1
 subst hw1
 by_cases h0 : codeSimp a a xs xs [f] true = 0
 ·obtain ⟨n, m, rfl, hm, hcn, -, hmp, -, -⟩ := codeSimp_zero' h0
  obtain rfl : n = m := by omega
  have HA : Aside0 (ansFixedFaces n xs f = (xs.filter (fixAt f), 0)) := ⟨by unfold ansFixedFaces; rw [if_pos h0]⟩
  have HN := Aside0.mk hcn
  have HF := Aside0.mk (hmp f (by simp))
  clear hcn hmp hm
  have hfd := field_faces (n : Int)
  go_enter Tryz.func34, Tryz.ntmps34
  go_wp2_with (first | (go_at_call 118; rw [← hw2]; clear hw2; refine HM.out.mono ?_; rintro e w3 ⟨rfl, hb⟩; rw [h0]; have c0 := pw_cell_below hb c0; have c1 := pw_cell_below hb c1; have c2 := pw_cell_below hb c2; have HB3 := Aside0.mk hb; have HP := Aside0.mk (fixed1 _ _ n _ xs f (HV.out.below hb) HN.out HF.out c2); clear hb) | (go_at_call 132; refine (part n _ xs _ _ _ (HK.out.below HB3.out) HN.out HP.out).mono ?_; rintro e w4 ⟨u, rfl, ho, hb4⟩; have HO := Aside0.mk ho; obtain ⟨A4, d4, rfl, -⟩ := ho.read; clear ho))
  go_ret2
  have := HB.out
  have := HB3.out
  exact ⟨_, by rw [HA.out]; rfl, by rw [HA.out]; exact HO.out.lower (Nat.le_trans hsz HB3.out.size), by (repeat (first | (with_reducible exact Below.refl _ _) | (with_reducible assumption) | (with_reducible refine below_step ?_ (by assumption)) | (with_reducible apply below_alloc) | (with_reducible apply below_drewN)))⟩
 ·obtain ⟨q, hq⟩ : ∃ q, q = codeSimp a a xs xs [f] true := ⟨_, rfl⟩
  have HA : Aside0 (ansFixedFaces a xs f = ([], q)) := ⟨by unfold ansFixedFaces; rw [if_neg h0, hq]⟩
  rw [← hq] at h0
  have hqb : (q != 0) = true := by simpa using h0
  have HQ := Aside0.mk hq
  clear hq h0
  go_enter Tryz.func34, Tryz.ntmps34
  go_wp2_with (first | (go_at_call 118; rw [← hw2]; clear hw2; refine HM.out.mono ?_; rintro e w3 ⟨rfl, hb⟩; rw [← HQ.out]))
  go_ret2
  exact ⟨_, by rw [HA.out]; rfl, by rw [HA.out]; exact OwnI.nil _ _, by have := HB.out; (repeat (first | (with_reducible exact Below.refl _ _) | (with_reducible assumption) | (with_reducible refine below_step ?_ (by assumption)) | (with_reducible apply below_alloc) | (with_reducible apply below_drewN)))⟩
set_option maxRecDepth 100000 in
set_option maxHeartbeats 2000000 in
theorem specFixedFaces (a : Int) (ku : Value) (xs : List Int) (v : Value) (f : List Int) (w : World) (hk : ReadI w ku xs) (hv : ReadI w v f) :
  Calls Tryz.prog 35 #[cx a ku, v] w fun e w' => ∃ u, e = .returned (.tuple #[u, .int .i64 (ansFixedFaces a xs f).2]) ∧ OwnI w.heap.size w' u (ansFixedFaces a xs f).1 ∧ Below w.heap.size w w' := by
 obtain ⟨w1, hw1⟩ : ∃ w1, w1 = w.alloc (.cells #[.int .i64 a, ku] 26) := ⟨_, rfl⟩
 have hB : Below w.heap.size w w1 := by rw [hw1]; exact (Below.refl _ w).alloc (Nat.le_refl _) _
 have c0 : w1.cell? ⟨w.heap.size, 0, none⟩ = some (.int .i64 a) := by rw [hw1]; simp
 have c1 : w1.cell? ⟨w.heap.size, 1, none⟩ = some ku := by rw [hw1]; simp
 have hk1 := hk.below hB
 have HK := Aside0.mk hk1
 have HV := Aside0.mk (hv.below hB)
 have HB := Aside0.mk hB
 obtain ⟨A2, d2, rfl, -⟩ := id hv
 obtain ⟨A1, d1, rfl, hc, hr⟩ := hk1
 have HR := Aside0.mk hr
 have hlen := hr.2.1
 clear hk hv hB hr
 by_cases h0 : codeSimp a a xs xs [f] true = 0
 ·obtain ⟨n, m, rfl, hm, hcn, -, hmp, -, -⟩ := codeSimp_zero' h0
  obtain rfl : n = m := by omega
  have HA : Aside0 (ansFixedFaces n xs f = (xs.filter (fixAt f), 0)) := ⟨by unfold ansFixedFaces; rw [if_pos h0]⟩
  have HN := Aside0.mk hcn
  have HF := Aside0.mk (hmp f (by simp))
  have hl63 := hcn.len
  clear hcn hmp hm
  go_enter Tryz.func35, Tryz.ntmps35
  go_wp2_with (first | (go_at_call 125; rw [← hw1]; clear hw1; refine (specCode n _ xs n _ xs _ f _ HK.out HK.out HV.out).mono ?_; rintro e w3 ⟨rfl, hb⟩; rw [h0]; have c0 := pw_cell_below hb c0; have c1 := pw_cell_below hb c1; have HB3 := Aside0.mk hb; clear hb))
  go_loopw [7, 8] (fun s7 s8 wr => ∃ i : Nat, s8 = .int .i64 i ∧ i ≤ xs.length ∧ Aside0 (OwnI w3.heap.size wr s7 ((xs.take i).filter (fixAt f))) ∧ Aside0 (Below w3.heap.size w3 wr)) (fun _ s8 _ => xs.length - (intOf s8).toNat)
  case atStart => exact ⟨0, rfl, Nat.zero_le _, ⟨OwnI.empty _ (Nat.le_refl _)⟩, ⟨Below.alloc (Below.refl _ _) (Nat.le_refl _) _⟩⟩
  case round =>
   obtain ⟨i, rfl, hi, HO, HBw⟩ := hrel
   have c0 := pw_cell_below HBw.out c0
   have c1 := pw_cell_below HBw.out c1
   have HBr := Aside0.mk (HB3.out.trans (HBw.out.mono HB3.out.size))
   by_cases hlt : i < xs.length
   ·obtain ⟨ad, y, rfl, hcell, HY⟩ := ReadI.get (Kd.C_below HR.out HBr.out) hlt
    obtain ⟨z, rfl, hz1, hz2⟩ := cx_dom HN.out HF.out (mem_at hlt HY.out)
    have HT := Aside0.mk (filter_take (fixAt f) hlt HY.out)
    have x1 : ∀ x : Ext wr, x.1.cell? ⟨w.heap.size, 1, none⟩ = some (.slice (some ad) xs.length d1) := fun x => Ext.cell c1 x
    have x4 : ∀ x : Ext wr, x.1.cell? (ad.add i) = some (.int .i64 z) := fun x => Ext.cell hcell x
    have hj1 : (0 : Int) ≤ (i : Int) := by omega
    have hj2 : (i : Int) < (xs.length : Int) := by omega
    have hlf : f.length ≤ 6 := by rw [HF.out.len]; exact HN.out.hi
    have HI : Aside0 (∀ x : Ext wr, Calls Tryz.prog 126 #[.int .i64 z, .slice A2 f.length d2] x.1 fun e w' => e = .returned (.int .i64 (img z f : Nat)) ∧ Below x.1.heap.size x.1 w') := ⟨fun x => specMoved z hz2 _ f x.1 (HV.out.below (HBr.out.trans (x.2.mono HBr.out.size))) hlf (HF.out.bd5 HN.out.hi)⟩
    have HFX : Aside0 (fixAt f (z : Int) = (((img z f : Nat) : Int) == (z : Int))) := ⟨rfl⟩
    have hll : ((xs.take i).filter (fixAt f)).length ≤ 63 := Nat.le_trans (List.length_filter_le _ _) (by rw [List.length_take]; omega)
    clear hz1 hlf
    obtain ⟨g, hg⟩ : ∃ g, g = img z f := ⟨_, rfl⟩
    rw [← hg] at HI HFX
    clear hg
    cases hfx : (((g : Nat) : Int) == (z : Int)) with
    | true =>
     have HXX := Aside0.mk hfx
     go_wp2
     refine wp_region_ext (by kernel_rfl) (by kernel_rfl) ?_
     repeat (go_big_quiet_step ((first | (go_at_call 126; exact Calls.ext_of (HI.out _)))))
     refine wpQuiet_nil ?_
     rintro _ ⟨x, rfl⟩
     obtain ⟨w5, hw5⟩ : ∃ w5, w5 = x.1 := ⟨_, rfl⟩
     have hb5 : Below wr.heap.size wr w5 := by rw [hw5]; exact x.2
     have e1 := x1 x
     have e4 := x4 x
     rw [← hw5] at e1 e4 ⊢
     have HO5 := Aside0.mk (OwnI.below HO.out hb5)
     have HB5 := Aside0.mk (HBw.out.trans (hb5.mono HBw.out.size))
     clear x1 x4 hw5 hb5 x HI c0 c1 hcell
     go_wp2_with (first | (at_builtin; refine app_own (w0 := w3) w3.heap.size rfl (.tmp 37) (.tmp 43) rfl _ ((xs.take i).filter (fixAt f)) z rfl rfl HO5.out HB5.out HB5.out.size ?hl ?_; (case hl => omega); intro v1 w6 ho hb hg hat; have HO1 := Aside0.mk ho; have HB1 := Aside0.mk hb; clear ho hb hg hat))
     go_roundw
     case rel => exact ⟨i + 1, by go_num, by omega, ⟨by rw [HT.out, HFX.out, HXX.out, if_pos rfl]; exact HO1.out⟩, HB1⟩
     case measure => simp [intOf]; omega
    | false =>
     have HXX := Aside0.mk hfx
     go_wp2
     refine wp_region_ext (by kernel_rfl) (by kernel_rfl) ?_
     repeat (go_big_quiet_step ((first | (go_at_call 126; exact Calls.ext_of (HI.out _)))))
     refine wpQuiet_nil ?_
     rintro _ ⟨x, rfl⟩
     have hbx := x.2
     go_wp2
     go_roundw
     case rel => exact ⟨i + 1, by go_num, by omega, ⟨by rw [HT.out, HFX.out, HXX.out, if_neg (by decide)]; exact OwnI.below HO.out hbx⟩, ⟨HBw.out.trans (hbx.mono HBw.out.size)⟩⟩
     case measure => simp [intOf]; omega
   ·have e : i = xs.length := by omega
    have HE := Aside0.mk e
    clear e
    go_wp2
    go_ret2
    exact ⟨_, by rw [HA.out]; rfl, by rw [HA.out]; have := HO.out; rw [HE.out, List.take_length] at this; exact this.lower (Nat.le_trans HB.out.size HB3.out.size), HB.out.trans (HBr.out.mono HB.out.size)⟩
 ·obtain ⟨q, hq⟩ : ∃ q, q = codeSimp a a xs xs [f] true := ⟨_, rfl⟩
  have HA : Aside0 (ansFixedFaces a xs f = ([], q)) := ⟨by unfold ansFixedFaces; rw [if_neg h0, hq]⟩
  rw [← hq] at h0
  have hqb : (q != 0) = true := by simpa using h0
  have HQ := Aside0.mk hq
  clear hq h0
  go_enter Tryz.func35, Tryz.ntmps35
  go_wp2_with (first | (go_at_call 125; rw [← hw1]; clear hw1; refine (specCode a _ xs a _ xs _ f _ HK.out HK.out HV.out).mono ?_; rintro e w3 ⟨rfl, hb⟩; rw [← HQ.out]))
  go_ret2
  exact ⟨_, by rw [HA.out]; rfl, by rw [HA.out]; exact OwnI.nil _ _, by have := HB.out; (repeat (first | (with_reducible exact Below.refl _ _) | (with_reducible assumption) | (with_reducible refine below_step ?_ (by assumption)) | (with_reducible apply below_alloc) | (with_reducible apply below_drewN)))⟩
/-- what OpenFibre answers -/
def ansOpenFibre (a : Int) (xs : List Int) (b : Int) (ys f : List Int) (g : Int) : List Int × Int :=
 if codeSimp a b xs ys [f] (decide (g ∈ ys)) = 0 then (xs.filter (opAt f g), 0) else ([], codeSimp a b xs ys [f] (decide (g ∈ ys)))
set_option maxRecDepth 100000 in
set_option maxHeartbeats 1000000 in
theorem openThunk (w : World) (bl bg : Nat) (m : Nat) (lu : Value) (ys : List Int) (g : Int) (hl : ReadI w lu ys) (hc : Cx m ys) (h0 : w.cell? ⟨bl, 0, none⟩ = some (.int .i64 m)) (h1 : w.cell? ⟨bl, 1, none⟩ = some lu) (h2 : w.cell? ⟨bg, 0, none⟩ = some (.int .i64 g)) :
  ThunkB w (.func (.func 128) #[] #[.pointer (some ⟨bl, 0, none⟩), .pointer (some ⟨bg, 0, none⟩)]) (decide (g ∈ ys)) := by
 refine ⟨_, _, _, rfl, Enters.mk' Tryz.func128 rfl rfl, fun w1 hb => ?_⟩
 have c0 := pw_cell_below hb h0
 have c1 := pw_cell_below hb h1
 have c2 := pw_cell_below hb h2
 have HI := Aside0.mk (has m lu ys g w1 (hl.below hb) hc.asc (by have := hc.len; omega))
 obtain ⟨A1, d1, rfl, -⟩ := id hl
 clear hb h0 h1 h2 hl hc
 show Calls _ _ #[_, _] _ _
 go_enter Tryz.func128, Tryz.ntmps128
 go_wp2_with (first | (go_at_call 129; refine HI.out.mono ?_; rintro e w2 ⟨rfl, hb2⟩))
 go_ret
 exact ⟨rfl, hb2⟩
set_option maxRecDepth 100000 in
set_option maxHeartbeats 1000000 in
theorem implOpenFibre (a : Int) (ku : Value) (xs : List Int) (b : Int) (lu : Value) (ys : List Int) (v : Value) (f : List Int) (g : Int) (w : World) (hk : ReadI w ku xs) (hl : ReadI w lu ys) (hv : ReadI w v f) :
  Calls Tryz.prog 14 #[cx a ku, cx b lu, v, .int .i64 g] w fun e w' => ∃ u, e = .returned (.tuple #[u, .int .i64 (ansOpenFibre a xs b ys f g).2]) ∧ OwnI w.heap.size w' u (ansOpenFibre a xs b ys f g).1 ∧ Below w.heap.size w w' := by
 obtain ⟨w0, hw0⟩ : ∃ w0, w0 = (w.alloc (.cells #[.int .i64 a, ku] 26)).alloc (.cells #[.int .i64 b, lu] 26) := ⟨_, rfl⟩
 obtain ⟨w1, hw1⟩ : ∃ w1, w1 = w0.alloc (.cells #[.int .i64 g] 2) := ⟨_, rfl⟩
 obtain ⟨w2, hw2⟩ : ∃ w2, w2 = w1.alloc (.cells #[v] 24) := ⟨_, rfl⟩
 have hs0 : w0.heap.size = w.heap.size + 1 + 1 := by rw [hw0]; simp
 have hs1 : w1.heap.size = w.heap.size + 1 + 1 + 1 := by rw [hw1]; simp [hs0]
 have hB0 : Below w.heap.size w w0 := by rw [hw0]; exact ((Below.refl _ w).alloc (Nat.le_refl _) _).alloc (by simp) _
 have hB1 : Below w0.heap.size w0 w1 := by rw [hw1]; exact Below.alloc (Below.refl _ _) (Nat.le_refl _) _
 have hB2 : Below w1.heap.size w1 w2 := by rw [hw2]; exact Below.alloc (Below.refl _ _) (Nat.le_refl _) _
 have hB02 : Below w0.heap.size w0 w2 := hB1.trans (hB2.mono hB1.size)
 have hB : Below w.heap.size w w2 := hB0.trans (hB02.mono hB0.size)
 have c0 : w2.cell? ⟨w.heap.size, 0, none⟩ = some (.int .i64 a) := pw_cell_below hB02 (by rw [hw0]; simp)
 have c1 : w2.cell? ⟨w.heap.size, 1, none⟩ = some ku := pw_cell_below hB02 (by rw [hw0]; simp)
 have c2 : w2.cell? ⟨w.heap.size + 1, 0, none⟩ = some (.int .i64 b) := pw_cell_below hB02 (by rw [hw0]; simp)
 have c3 : w2.cell? ⟨w.heap.size + 1, 1, none⟩ = some lu := pw_cell_below hB02 (by rw [hw0]; simp)
 have c4 : w2.cell? ⟨w.heap.size + 1 + 1, 0, none⟩ = some (.int .i64 g) := pw_cell_below hB2 (by rw [hw1, ← hs0]; simp)
 have HK := Aside0.mk (hk.below hB)
 have HL := Aside0.mk (hl.below hB)
 have HV := Aside0.mk (hv.below hB)
 have HS := Aside0.mk (ReadS.one' ((hv.below hB0).below hB1))
 rw [← hw2, hs1] at HS
 have HB := Aside0.mk hB
 have hsz := hB.size
 have c0a : w1.cell? ⟨w.heap.size, 0, none⟩ = some (.int .i64 a) := pw_cell_below hB1 (by rw [hw0]; simp)
 have c1a : w1.cell? ⟨w.heap.size, 1, none⟩ = some ku := pw_cell_below hB1 (by rw [hw0]; simp)
 have c2a : w1.cell? ⟨w.heap.size + 1, 0, none⟩ = some (.int .i64 b) := pw_cell_below hB1 (by rw [hw0]; simp)
 have c3a : w1.cell? ⟨w.heap.size + 1, 1, none⟩ = some lu := pw_cell_below hB1 (by rw [hw0]; simp)
 obtain ⟨A1, d1, rfl, -⟩ := id hk
 obtain ⟨A2, d2, rfl, -⟩ := id hl
 obtain ⟨A3, d3, rfl, -⟩ := id hv
 have HM := Aside0.mk (simplicialCode a b _ _ xs ys _ _ (decide (g ∈ ys)) [f] w2 HK.out HL.out (fun _ h => by
  obtain ⟨m, rfl, hm, -⟩ := cxOk_cx h
  exact openThunk w2 _ _ m _ ys g HL.out hm c2 c3 c4) ⟨_, _, _, rfl⟩ HS.out)
 clear hk hl hv hB hB0 hB1 hB2 hB02
 subst hw0
 obtain ⟨q, hq⟩ : ∃ q, q = codeSimp a b xs ys [f] (decide (g ∈ ys)) := ⟨_, rfl⟩
 by_cases h0 : q = 0
 ·have h0' := hq.symm.trans h0
  obtain ⟨n, m, rfl, rfl, hcn, hcm, hmp, -, -⟩ := codeSimp_zero' h0'
  have HA : Aside0 (ansOpenFibre n xs m ys f g = (xs.filter (opAt f g), 0)) := ⟨by unfold ansOpenFibre; rw [if_pos h0']⟩
  have HN := Aside0.mk hcn
  have HC := Aside0.mk hcm
  have HF := Aside0.mk (hmp f (by simp))
  have HQ := Aside0.mk h0'
  clear hcn hcm hmp hq h0 h0'
  go_enter Tryz.func14, Tryz.ntmps14
  go_wp2_with (first | (go_at_call 118; rw [← hw1, ← hw2]; clear hw1 hw2 c0a c1a c2a c3a; refine HM.out.mono ?_; rintro e w3 ⟨rfl, hb⟩; rw [HQ.out]; have c0 := pw_cell_below hb c0; have c1 := pw_cell_below hb c1; have c4 := pw_cell_below hb c4; have HB3 := Aside0.mk hb; clear hb) | (go_at_call 130; refine (openFibre n m _ xs _ f g _ (HK.out.below HB3.out) (HV.out.below HB3.out) HN.out HC.out.hi HF.out).mono ?_; rintro e w4 ⟨u, rfl, ho, hb4⟩; obtain ⟨A4, d4, rfl, -⟩ := ho.read; have HO := Aside0.mk ho; clear ho))
  go_ret2
  have := HB.out
  have := HB3.out
  exact ⟨_, by rw [HA.out]; rfl, by rw [HA.out]; exact HO.out.lower (Nat.le_trans hsz HB3.out.size), by (repeat (first | (with_reducible exact Below.refl _ _) | (with_reducible assumption) | (with_reducible refine below_step ?_ (by assumption)) | (with_reducible apply below_alloc) | (with_reducible apply below_drewN)))⟩
 ·have HA : Aside0 (ansOpenFibre a xs b ys f g = ([], q)) := ⟨by unfold ansOpenFibre; rw [← hq, if_neg h0]⟩
  have hqb : (q != 0) = true := by simpa using h0
  have HQ := Aside0.mk hq
  clear hq h0
  go_enter Tryz.func14, Tryz.ntmps14
  go_wp2_with (first | (go_at_call 118; rw [← hw1, ← hw2]; clear hw1 hw2 c0a c1a c2a c3a; refine HM.out.mono ?_; rintro e w3 ⟨rfl, hb⟩; rw [← HQ.out]))
  go_ret2
  exact ⟨_, by rw [HA.out]; rfl, by rw [HA.out]; exact OwnI.nil _ _, by have := HB.out; (repeat (first | (with_reducible exact Below.refl _ _) | (with_reducible assumption) | (with_reducible refine below_step ?_ (by assumption)) | (with_reducible apply below_alloc) | (with_reducible apply below_drewN)))⟩
theorem codeSimp_range (a b : Int) (xs ys f : List Int) (r : Bool) : codeSimp a b xs ys [f] r = if codeSimp a b xs ys [f] true ≠ 1 ∧ r = false then 2 else codeSimp a b xs ys [f] true := by
 unfold codeSimp
 generalize (cxOk a xs && cxOk b ys) = c
 simp only [List.all_cons, List.all_nil, Bool.and_true]
 generalize mapOk a.toNat b.toNat f = m1
 generalize simpOk xs ys f = s1
 revert c m1 s1 r
 decide
set_option maxRecDepth 100000 in
set_option maxHeartbeats 1000000 in
theorem specOver (a : Int) (ku : Value) (xs : List Int) (b : Int) (lu : Value) (ys : List Int) (v : Value) (f : List Int) (g : Int) (w : World) (hk : ReadI w ku xs) (hl : ReadI w lu ys) (hv : ReadI w v f) :
  Calls Tryz.prog 143 #[cx a ku, cx b lu, v, .int .i64 g] w fun e w' => e = .returned (.int .i64 (codeSimp a b xs ys [f] (decide (g ∈ ys)))) ∧ Below w.heap.size w w' := by
 obtain ⟨w1, hw1⟩ : ∃ w1, w1 = (w.alloc (.cells #[.int .i64 a, ku] 26)).alloc (.cells #[.int .i64 b, lu] 26) := ⟨_, rfl⟩
 have hB : Below w.heap.size w w1 := by rw [hw1]; exact ((Below.refl _ w).alloc (Nat.le_refl _) _).alloc (by simp) _
 have c0 : w1.cell? ⟨w.heap.size, 0, none⟩ = some (.int .i64 a) := by rw [hw1]; simp
 have c1 : w1.cell? ⟨w.heap.size, 1, none⟩ = some ku := by rw [hw1]; simp
 have c2 : w1.cell? ⟨w.heap.size + 1, 0, none⟩ = some (.int .i64 b) := by rw [hw1]; simp
 have c3 : w1.cell? ⟨w.heap.size + 1, 1, none⟩ = some lu := by rw [hw1]; simp
 have HK := Aside0.mk (hk.below hB)
 have HL := Aside0.mk (hl.below hB)
 have HV := Aside0.mk (hv.below hB)
 have HB := Aside0.mk hB
 obtain ⟨A1, d1, rfl, -⟩ := id hk
 obtain ⟨A2, d2, rfl, -⟩ := id hl
 obtain ⟨A3, d3, rfl, -⟩ := id hv
 clear hk hl hv hB
 have HC := Aside0.mk (codeSimp_range a b xs ys f (decide (g ∈ ys)))
 obtain ⟨q, hq⟩ : ∃ q, q = codeSimp a b xs ys [f] true := ⟨_, rfl⟩
 rw [← hq] at HC
 have HQ := Aside0.mk hq
 clear hq
 by_cases h1 : q = 1
 ·have hqb : (q != 1) = false := by simp [h1]
  have HA : Aside0 (codeSimp a b xs ys [f] (decide (g ∈ ys)) = q) := ⟨by rw [HC.out, if_neg (fun h => h.1 h1)]⟩
  clear h1
  go_enter Tryz.func143, Tryz.ntmps143
  go_wp2_with (first | (go_at_call 125; rw [← hw1]; clear hw1; refine (specCode a _ xs b _ ys _ f _ HK.out HL.out HV.out).mono ?_; rintro e w2 ⟨rfl, hb⟩; rw [← HQ.out]))
  go_ret
  exact ⟨by rw [HA.out]; rfl, by have := HB.out; (repeat (first | (with_reducible exact Below.refl _ _) | (with_reducible assumption) | (with_reducible refine below_step ?_ (by assumption)) | (with_reducible apply below_alloc) | (with_reducible apply below_drewN)))⟩
 ·have hqb : (q != 1) = true := by simpa using h1
  cases hr : decide (g ∈ ys) with
  | true =>
   have HA : Aside0 (codeSimp a b xs ys [f] true = q) := ⟨HQ.out.symm⟩
   clear h1
   go_enter Tryz.func143, Tryz.ntmps143
   go_wp2_with (first | (go_at_call 125; rw [← hw1]; clear hw1; refine (specCode a _ xs b _ ys _ f _ HK.out HL.out HV.out).mono ?_; rintro e w2 ⟨rfl, hb⟩; rw [← HQ.out]; have c2 := pw_cell_below hb c2; have c3 := pw_cell_below hb c3; have HB2 := Aside0.mk hb; clear hb) | (go_at_call 154; refine (specHas b _ ys g _ (HL.out.below HB2.out)).mono ?_; rintro e w3 ⟨rfl, hb3⟩; rw [hr]))
   go_ret
   exact ⟨by rw [HA.out]; rfl, by have := HB.out; have := HB2.out; (repeat (first | (with_reducible exact Below.refl _ _) | (with_reducible assumption) | (with_reducible refine below_step ?_ (by assumption)) | (with_reducible apply below_alloc) | (with_reducible apply below_drewN)))⟩
  | false =>
   have HA : Aside0 (codeSimp a b xs ys [f] false = 2) := ⟨by rw [← hr, HC.out, if_pos ⟨h1, hr⟩]⟩
   clear h1
   go_enter Tryz.func143, Tryz.ntmps143
   go_wp2_with (first | (go_at_call 125; rw [← hw1]; clear hw1; refine (specCode a _ xs b _ ys _ f _ HK.out HL.out HV.out).mono ?_; rintro e w2 ⟨rfl, hb⟩; rw [← HQ.out]; have c2 := pw_cell_below hb c2; have c3 := pw_cell_below hb c3; have HB2 := Aside0.mk hb; clear hb) | (go_at_call 154; refine (specHas b _ ys g _ (HL.out.below HB2.out)).mono ?_; rintro e w3 ⟨rfl, hb3⟩; rw [hr]))
   go_ret
   exact ⟨by rw [HA.out]; rfl, by have := HB.out; have := HB2.out; (repeat (first | (with_reducible exact Below.refl _ _) | (with_reducible assumption) | (with_reducible refine below_step ?_ (by assumption)) | (with_reducible apply below_alloc) | (with_reducible apply below_drewN)))⟩
set_option maxRecDepth 100000 in
set_option maxHeartbeats 1000000 in
theorem specOpenFibre (a : Int) (ku : Value) (xs : List Int) (b : Int) (lu : Value) (ys : List Int) (v : Value) (f : List Int) (g : Int) (w : World) (hk : ReadI w ku xs) (hl : ReadI w lu ys) (hv : ReadI w v f) :
  Calls Tryz.prog 21 #[cx a ku, cx b lu, v, .int .i64 g] w fun e w' => ∃ u, e = .returned (.tuple #[u, .int .i64 (ansOpenFibre a xs b ys f g).2]) ∧ OwnI w.heap.size w' u (ansOpenFibre a xs b ys f g).1 ∧ Below w.heap.size w w' := by
 obtain ⟨w1, hw1⟩ : ∃ w1, w1 = (w.alloc (.cells #[.int .i64 a, ku] 26)).alloc (.cells #[.int .i64 b, lu] 26) := ⟨_, rfl⟩
 have hB : Below w.heap.size w w1 := by rw [hw1]; exact ((Below.refl _ w).alloc (Nat.le_refl _) _).alloc (by simp) _
 have c0 : w1.cell? ⟨w.heap.size, 0, none⟩ = some (.int .i64 a) := by rw [hw1]; simp
 have c1 : w1.cell? ⟨w.heap.size, 1, none⟩ = some ku := by rw [hw1]; simp
 have c2 : w1.cell? ⟨w.heap.size + 1, 0, none⟩ = some (.int .i64 b) := by rw [hw1]; simp
 have c3 : w1.cell? ⟨w.heap.size + 1, 1, none⟩ = some lu := by rw [hw1]; simp
 have HK := Aside0.mk (hk.below hB)
 have HL := Aside0.mk (hl.below hB)
 have HV := Aside0.mk (hv.below hB)
 have HB := Aside0.mk hB
 have hsz := hB.size
 obtain ⟨A1, d1, rfl, -⟩ := id hk
 obtain ⟨A2, d2, rfl, -⟩ := id hl
 obtain ⟨A3, d3, rfl, -⟩ := id hv
 clear hk hl hv hB
 obtain ⟨q, hq⟩ : ∃ q, q = codeSimp a b xs ys [f] (decide (g ∈ ys)) := ⟨_, rfl⟩
 by_cases h0 : q = 0
 ·have h0' := hq.symm.trans h0
  obtain ⟨n, m, rfl, rfl, hcn, hcm, hmp, -, -⟩ := codeSimp_zero' h0'
  have HA : Aside0 (ansOpenFibre n xs m ys f g = (xs.filter (opAt f g), 0)) := ⟨by unfold ansOpenFibre; rw [if_pos h0']⟩
  have HN := Aside0.mk hcn
  have HC := Aside0.mk hcm
  have HF := Aside0.mk (hmp f (by simp))
  have HQ := Aside0.mk h0'
  clear hcn hcm hmp hq h0 h0'
  go_enter Tryz.func21, Tryz.ntmps21
  go_wp2_with (first | (go_at_call 143; rw [← hw1]; clear hw1; refine (specOver n _ xs m _ ys _ f g _ HK.out HL.out HV.out).mono ?_; rintro e w3 ⟨rfl, hb⟩; rw [HQ.out]; have c0 := pw_cell_below hb c0; have c1 := pw_cell_below hb c1; have HB3 := Aside0.mk hb; clear hb) | (go_at_call 144; refine (specOpen n m _ xs _ f g _ (HK.out.below HB3.out) (HV.out.below HB3.out) HN.out HC.out.hi HF.out).mono ?_; rintro e w4 ⟨u, rfl, ho, hb4⟩; obtain ⟨A4, d4, rfl, -⟩ := ho.read; have HO := Aside0.mk ho; clear ho))
  go_ret2
  have := HB.out
  have := HB3.out
  exact ⟨_, by rw [HA.out]; rfl, by rw [HA.out]; exact HO.out.lower (Nat.le_trans hsz HB3.out.size), by (repeat (first | (with_reducible exact Below.refl _ _) | (with_reducible assumption) | (with_reducible refine below_step ?_ (by assumption)) | (with_reducible apply below_alloc) | (with_reducible apply below_drewN)))⟩
 ·have HA : Aside0 (ansOpenFibre a xs b ys f g = ([], q)) := ⟨by unfold ansOpenFibre; rw [← hq, if_neg h0]⟩
  have hqb : (q != 0) = true := by simpa using h0
  have HQ := Aside0.mk hq
  clear hq h0
  go_enter Tryz.func21, Tryz.ntmps21
  go_wp2_with (first | (go_at_call 143; rw [← hw1]; clear hw1; refine (specOver a _ xs b _ ys _ f g _ HK.out HL.out HV.out).mono ?_; rintro e w3 ⟨rfl, hb⟩; rw [← HQ.out]))
  go_ret2
  exact ⟨_, by rw [HA.out]; rfl, by rw [HA.out]; exact OwnI.nil _ _, by have := HB.out; (repeat (first | (with_reducible exact Below.refl _ _) | (with_reducible assumption) | (with_reducible refine below_step ?_ (by assumption)) | (with_reducible apply below_alloc) | (with_reducible apply below_drewN)))⟩
theorem xor_and_zero (a b : Nat) : (a ^^^ (a &&& b) = 0) ↔ (a &&& b = a) := by
 constructor
 ·intro h
  have h2 := congrArg (a ^^^ ·) h
  simpa [← Nat.xor_assoc] using h2
 ·intro h; rw [h]; simp
theorem isInC (a b : Nat) (ha : a < 64) (hb : b < 64) (w : World) :
  Calls Tryz.prog 134 #[.int .i64 a, .int .i64 b] w fun e w' => e = .returned (.bool (decide (a &&& b = a))) ∧ Below w.heap.size w w' := by
 have hx := andNot_i64 a b (by omega) (by omega)
 have HX : Aside0 ((((a ^^^ (a &&& b) : Nat) : Int) == 0) = decide (a &&& b = a)) := ⟨by
  rw [Bool.eq_iff_iff, beq_iff_eq, decide_eq_true_eq, ← xor_and_zero]; omega⟩
 go_enter Tryz.func134, Tryz.ntmps134
 go_wp2
 go_ret
 exact ⟨by rw [← HX.out]; rfl, by (repeat (first | (with_reducible exact Below.refl _ _) | (with_reducible assumption) | (with_reducible refine below_step ?_ (by assumption)) | (with_reducible apply below_alloc) | (with_reducible apply below_drewN)))⟩
theorem img_lt63 {f : Nat} {p : List Int} (hp : ∀ x ∈ p, 0 ≤ x ∧ x ≤ 5) : img f p < 64 := imgTo_lt hp _
/-- its image lies in g -/
def inAt (f : List Int) (g : Nat) (x : Int) : Bool := decide (img x.toNat f &&& g = img x.toNat f)
/-- what FibreOf answers -/
def ansFibreOf (a : Int) (xs : List Int) (b : Int) (ys f : List Int) (g : Int) : (Int × List Int) × Int :=
 if codeSimp a b xs ys [f] (decide (g ∈ ys)) = 0 then ((a, xs.filter (inAt f g.toNat)), 0) else ((0, []), codeSimp a b xs ys [f] (decide (g ∈ ys)))
set_option maxRecDepth 100000 in
set_option maxHeartbeats 1000000 in
theorem fibThunk (w : World) (bl bg : Nat) (m : Nat) (lu : Value) (ys : List Int) (g : Int) (hl : ReadI w lu ys) (hc : Cx m ys) (h0 : w.cell? ⟨bl, 0, none⟩ = some (.int .i64 m)) (h1 : w.cell? ⟨bl, 1, none⟩ = some lu) (h2 : w.cell? ⟨bg, 0, none⟩ = some (.int .i64 g)) :
  ThunkB w (.func (.func 131) #[] #[.pointer (some ⟨bl, 0, none⟩), .pointer (some ⟨bg, 0, none⟩)]) (decide (g ∈ ys)) := by
 refine ⟨_, _, _, rfl, Enters.mk' Tryz.func131 rfl rfl, fun w1 hb => ?_⟩
 have c0 := pw_cell_below hb h0
 have c1 := pw_cell_below hb h1
 have c2 := pw_cell_below hb h2
 have HI := Aside0.mk (has m lu ys g w1 (hl.below hb) hc.asc (by have := hc.len; omega))
 obtain ⟨A1, d1, rfl, -⟩ := id hl
 clear hb h0 h1 h2 hl hc
 show Calls _ _ #[_, _] _ _
 go_enter Tryz.func131, Tryz.ntmps131
 go_wp2_with (first | (go_at_call 129; refine HI.out.mono ?_; rintro e w2 ⟨rfl, hb2⟩))
 go_ret
 exact ⟨rfl, hb2⟩
set_option maxRecDepth 100000 in
set_option maxHeartbeats 1000000 in
theorem fibre1 (w : World) (bf bg : Nat) (n m : Nat) (u : Value) (xs f : List Int) (g : Nat) (hg : g < 64) (hu : ReadI w u f) (hc : Cx n xs) (hm : m ≤ 6) (hf : Mp n m f) (h0 : w.cell? ⟨bf, 0, none⟩ = some u) (h1 : w.cell? ⟨bg, 0, none⟩ = some (.int .i64 g)) :
  PredI w (.func (.func 133) #[] #[.pointer (some ⟨bf, 0, none⟩), .pointer (some ⟨bg, 0, none⟩)]) (inAt f g) (fun x => x ∈ xs) := by
 refine ⟨_, _, _, rfl, Enters.mk' Tryz.func133 rfl rfl, fun w1 x hb hx => ?_⟩
 obtain ⟨z, rfl, hz, -⟩ := cx_dom hc hf hx
 have c0 := pw_cell_below hb h0
 have c1 := pw_cell_below hb h1
 have HU := Aside0.mk (hu.below hb)
 have hlf : f.length ≤ 6 := by rw [hf.len]; exact hc.hi
 obtain ⟨A1, d1, rfl, -⟩ := id hu
 have HI : Aside0 (∀ x : Ext w1, Calls Tryz.prog 124 #[.int .i64 z, .slice A1 f.length d1] x.1 fun e w' => e = .returned (.int .i64 (img z f : Nat)) ∧ Below x.1.heap.size x.1 w') := ⟨fun x => imageOf z _ f x.1 (HU.out.below x.2) hlf hz (hf.bd5 hm)⟩
 have himg := img_lt63 (f := z) (hf.bd5 hm)
 have HJ : Aside0 (∀ x : Ext w1, Calls Tryz.prog 134 #[.int .i64 (img z f : Nat), .int .i64 g] x.1 fun e w' => e = .returned (.bool (decide (img z f &&& g = img z f))) ∧ Below x.1.heap.size x.1 w') := ⟨fun x => isInC _ g himg hg x.1⟩
 have x0 : ∀ x : Ext w1, x.1.cell? ⟨bf, 0, none⟩ = some (.slice A1 f.length d1) := fun x => Ext.cell c0 x
 have x1 : ∀ x : Ext w1, x.1.cell? ⟨bg, 0, none⟩ = some (.int .i64 g) := fun x => Ext.cell c1 x
 have HO : Aside0 (inAt f g (z : Int) = decide (img z f &&& g = img z f)) := ⟨rfl⟩
 clear hb h0 h1 hx hu hc hf hz hlf HU c0 c1 himg
 generalize img z f = t at *
 show Calls _ _ #[_, _, _] _ _
 go_enter Tryz.func133, Tryz.ntmps133
 go_wp2
 refine wp_region_ext (by kernel_rfl) (by kernel_rfl) ?_
 repeat (go_big_quiet_step ((first | (go_at_call 124; exact Calls.ext_of (HI.out _)) | (go_at_call 134; exact Calls.ext_of (HJ.out _)))))
 refine wpQuiet_nil ?_
 rintro _ ⟨x, rfl⟩
 have hbx := x.2
 go_wp2
 go_ret
 exact ⟨by rw [HO.out]; rfl, by (repeat (first | (with_reducible exact Below.refl _ _) | (with_reducible assumption) | (with_reducible refine below_step ?_ (by assumption)) | (with_reducible apply below_alloc) | (with_reducible apply below_drewN)))⟩
set_option maxRecDepth 100000 in
set_option maxHeartbeats 1000000 in
theorem implFibreOf (a : Int) (ku : Value) (xs : List Int) (b : Int) (lu : Value) (ys : List Int) (v : Value) (f : List Int) (g : Int) (w : World) (hk : ReadI w ku xs) (hl : ReadI w lu ys) (hv : ReadI w v f) :
  Calls Tryz.prog 15 #[cx a ku, cx b lu, v, .int .i64 g] w fun e w' => ∃ u, e = .returned (.tuple #[.agg #[.int .i64 (ansFibreOf a xs b ys f g).1.1, u], .int .i64 (ansFibreOf a xs b ys f g).2]) ∧ OwnI w.heap.size w' u (ansFibreOf a xs b ys f g).1.2 ∧ Below w.heap.size w w' := by
 obtain ⟨w0, hw0⟩ : ∃ w0, w0 = (w.alloc (.cells #[.int .i64 a, ku] 26)).alloc (.cells #[.int .i64 b, lu] 26) := ⟨_, rfl⟩
 obtain ⟨w1, hw1⟩ : ∃ w1, w1 = w0.alloc (.cells #[v] 24) := ⟨_, rfl⟩
 obtain ⟨w2, hw2⟩ : ∃ w2, w2 = w1.alloc (.cells #[.int .i64 g] 2) := ⟨_, rfl⟩
 obtain ⟨w3, hw3⟩ : ∃ w3, w3 = w2.alloc (.cells #[.int .i64 0, .slice none 0 0] 26) := ⟨_, rfl⟩
 obtain ⟨w4, hw4⟩ : ∃ w4, w4 = w3.alloc (.cells #[v] 24) := ⟨_, rfl⟩
 have hs0 : w0.heap.size = w.heap.size + 1 + 1 := by rw [hw0]; simp
 have hs1 : w1.heap.size = w.heap.size + 1 + 1 + 1 := by rw [hw1]; simp [hs0]
 have hs2 : w2.heap.size = w.heap.size + 1 + 1 + 1 + 1 := by rw [hw2]; simp [hs1]
 have hs3 : w3.heap.size = w.heap.size + 1 + 1 + 1 + 1 + 1 := by rw [hw3]; simp [hs2]
 have hB0 : Below w.heap.size w w0 := by rw [hw0]; exact ((Below.refl _ w).alloc (Nat.le_refl _) _).alloc (by simp) _
 have hB1 : Below w0.heap.size w0 w1 := by rw [hw1]; exact Below.alloc (Below.refl _ _) (Nat.le_refl _) _
 have hB2 : Below w1.heap.size w1 w2 := by rw [hw2]; exact Below.alloc (Below.refl _ _) (Nat.le_refl _) _
 have hB3 : Below w2.heap.size w2 w3 := by rw [hw3]; exact Below.alloc (Below.refl _ _) (Nat.le_refl _) _
 have hB4 : Below w3.heap.size w3 w4 := by rw [hw4]; exact Below.alloc (Below.refl _ _) (Nat.le_refl _) _
 have hB24 : Below w2.heap.size w2 w4 := hB3.trans (hB4.mono hB3.size)
 have hB14 : Below w1.heap.size w1 w4 := hB2.trans (hB24.mono hB2.size)
 have hB04 : Below w0.heap.size w0 w4 := hB1.trans (hB14.mono hB1.size)
 have hB03 : Below w0.heap.size w0 w3 := hB1.trans ((hB2.trans (hB3.mono hB2.size)).mono hB1.size)
 have hB : Below w.heap.size w w4 := hB0.trans (hB04.mono hB0.size)
 have c0 : w4.cell? ⟨w.heap.size, 0, none⟩ = some (.int .i64 a) := pw_cell_below hB04 (by rw [hw0]; simp)
 have c1 : w4.cell? ⟨w.heap.size, 1, none⟩ = some ku := pw_cell_below hB04 (by rw [hw0]; simp)
 have c2 : w4.cell? ⟨w.heap.size + 1, 0, none⟩ = some (.int .i64 b) := pw_cell_below hB04 (by rw [hw0]; simp)
 have c3 : w4.cell? ⟨w.heap.size + 1, 1, none⟩ = some lu := pw_cell_below hB04 (by rw [hw0]; simp)
 have c4 : w4.cell? ⟨w.heap.size + 1 + 1, 0, none⟩ = some v := pw_cell_below hB14 (by rw [hw1, ← hs0]; simp)
 have c5 : w4.cell? ⟨w.heap.size + 1 + 1 + 1, 0, none⟩ = some (.int .i64 g) := pw_cell_below hB24 (by rw [hw2, ← hs1]; simp)
 have hk4 : w4.heap[w.heap.size + 1 + 1 + 1 + 1]? = some (.cells #[.int .i64 0, .slice none 0 0] 26) := by rw [hw4]; refine blk_alloc ?_ _; rw [hw3, ← hs2]; exact blk_new _ _
 have HK := Aside0.mk (hk.below hB)
 have HL := Aside0.mk (hl.below hB)
 have HV := Aside0.mk (hv.below hB)
 have HS := Aside0.mk (ReadS.one' ((hv.below hB0).below hB03))
 rw [← hw4, hs3] at HS
 have HB := Aside0.mk hB
 have HBK := Aside0.mk hk4
 have hsz : Aside0 (w4.heap.size = w.heap.size + 6) := ⟨by rw [hw4]; simp [hs3]⟩
 have c0a : w3.cell? ⟨w.heap.size, 0, none⟩ = some (.int .i64 a) := pw_cell_below hB03 (by rw [hw0]; simp)
 have c1a : w3.cell? ⟨w.heap.size, 1, none⟩ = some ku := pw_cell_below hB03 (by rw [hw0]; simp)
 have c2a : w3.cell? ⟨w.heap.size + 1, 0, none⟩ = some (.int .i64 b) := pw_cell_below hB03 (by rw [hw0]; simp)
 have c3a : w3.cell? ⟨w.heap.size + 1, 1, none⟩ = some lu := pw_cell_below hB03 (by rw [hw0]; simp)
 have c4a : w3.cell? ⟨w.heap.size + 1 + 1, 0, none⟩ = some v := pw_cell_below (hB2.trans (hB3.mono hB2.size)) (by rw [hw1, ← hs0]; simp)
 obtain ⟨A1, d1, rfl, -⟩ := id hk
 obtain ⟨A2, d2, rfl, -⟩ := id hl
 obtain ⟨A3, d3, rfl, -⟩ := id hv
 have HM := Aside0.mk (simplicialCode a b _ _ xs ys _ _ (decide (g ∈ ys)) [f] w4 HK.out HL.out (fun _ h => by
  obtain ⟨m, rfl, hm, -⟩ := cxOk_cx h
  exact fibThunk w4 _ _ m _ ys g HL.out hm c2 c3 c5) ⟨_, _, _, rfl⟩ HS.out)
 clear hk hl hv hB hB0 hB1 hB2 hB3 hB4 hB24 hB14 hB04 hB03 hk4
 subst hw0
 obtain ⟨q, hq⟩ : ∃ q, q = codeSimp a b xs ys [f] (decide (g ∈ ys)) := ⟨_, rfl⟩
 by_cases h0 : q = 0
 ·have h0' := hq.symm.trans h0
  obtain ⟨n, m, rfl, rfl, hcn, hcm, hmp, -, hgy⟩ := codeSimp_zero' h0'
  have hgm : g ∈ ys := of_decide_eq_true hgy
  have hgb := hcm.bd g hgm
  obtain ⟨k, rfl⟩ : ∃ k : Nat, g = k := ⟨g.toNat, by omega⟩
  have hk6 : k < 64 := by have := pw6 hcm.hi; omega
  have HA : Aside0 (ansFibreOf n xs m ys f k = (((n : Int), xs.filter (inAt f k)), 0)) := ⟨by unfold ansFibreOf; rw [if_pos h0']; rfl⟩
  have HN := Aside0.mk hcn
  have HC := Aside0.mk hcm
  have HF := Aside0.mk (hmp f (by simp))
  have HQ := Aside0.mk h0'
  have HP := Aside0.mk (fun (wz : World) (hbz : Below w4.heap.size w4 wz) => fibre1 wz (w.heap.size + 1 + 1) (w.heap.size + 1 + 1 + 1) n m _ xs f k hk6 (HV.out.below hbz) hcn hcm.hi (hmp f (by simp)) (pw_cell_below hbz c4) (pw_cell_below hbz c5))
  clear hcn hcm hmp hq h0 h0' hgy hgm hgb hk6
  go_enter Tryz.func15, Tryz.ntmps15
  go_wp2_with (first | (go_at_call 118; rw [← hw1, ← hw2, ← hw3, ← hw4]; clear hw1 hw2 hw3 hw4 c0a c1a c2a c3a c4a; refine HM.out.mono ?_; rintro e w5 ⟨rfl, hb⟩; rw [HQ.out]; have c0 := pw_cell_below hb c0; have c1 := pw_cell_below hb c1; have HB3 := Aside0.mk hb; clear hb) | (go_at_call 132; refine (part n _ xs _ _ _ (HK.out.below HB3.out) HN.out (HP.out _ HB3.out)).mono ?_; rintro e w6 ⟨u, rfl, ho, hb6⟩; obtain ⟨A4, d4, rfl, -⟩ := ho.read; have HO := Aside0.mk ho; have HK2 := Aside0.mk (blk_below (blk_below HBK.out HB3.out) hb6); have c60 : w6.cell? ⟨w.heap.size + 1 + 1 + 1 + 1, 0, none⟩ = some (.int .i64 0) := blk_cell HK2.out 0; have c61 : w6.cell? ⟨w.heap.size + 1 + 1 + 1 + 1, 1, none⟩ = some (.slice none 0 0) := blk_cell HK2.out 1; have f60 : w6.frozen? ⟨w.heap.size + 1 + 1 + 1 + 1, 0, none⟩ = false := blk_frozen HK2.out 0; have f61 : w6.frozen? ⟨w.heap.size + 1 + 1 + 1 + 1, 1, none⟩ = false := blk_frozen HK2.out 1; have HB6 := Aside0.mk hb6; clear ho hb6))
  refine bodyPost_ret (results_ct rfl _ _ (w.heap.size + 1 + 1 + 1 + 1) 26 #[.int .i64 n, .slice A4 (xs.filter (inAt f k)).length d4] (0, 0) _ rfl (by refine blk_put (cs := #[.int .i64 n, .slice none 0 0]) ?_ 1 _ rfl; refine blk_put (cs := #[.int .i64 0, .slice none 0 0]) ?_ 0 _ rfl; exact HK2.out) Tryz.underlying26 rfl (by kernel_rfl)) rfl ?_
  have hsz := hsz.out
  have hs5 := HB3.out.size
  have hb := HB.out.trans ((HB3.out.trans (HB6.out.mono HB3.out.size)).mono HB.out.size)
  refine ⟨.slice A4 (xs.filter (inAt f k)).length d4, by rw [HA.out]; rfl, ?_, (hb.setCell (by simp; omega) _).setCell (by simp; omega) _⟩
  have hbs := HO.out.base
  have ho := HO.out.lower (b' := w.heap.size) (by omega)
  rw [HA.out]
  exact (ho.grown (set_grown' _ (w.heap.size + 1 + 1 + 1 + 1) _ _) (fun j hj e => by have := hbs _ hj; cases e; omega)).grown (set_grown' _ (w.heap.size + 1 + 1 + 1 + 1) _ _) (fun j hj e => by have := hbs _ hj; cases e; omega)
 ·have HA : Aside0 (ansFibreOf a xs b ys f g = ((0, []), q)) := ⟨by unfold ansFibreOf; rw [← hq, if_neg h0]⟩
  have hqb : (q != 0) = true := by simpa using h0
  have HQ := Aside0.mk hq
  clear hq h0
  go_enter Tryz.func15, Tryz.ntmps15
  go_wp2_with (first | (go_at_call 118; rw [← hw1, ← hw2, ← hw3, ← hw4]; clear hw1 hw2 hw3 hw4 c0a c1a c2a c3a c4a; refine HM.out.mono ?_; rintro e w5 ⟨rfl, hb⟩; rw [← HQ.out]; have HB3 := Aside0.mk hb; have HK2 := Aside0.mk (blk_below HBK.out hb); have c60 : w5.cell? ⟨w.heap.size + 1 + 1 + 1 + 1, 0, none⟩ = some (.int .i64 0) := blk_cell HK2.out 0; have c61 : w5.cell? ⟨w.heap.size + 1 + 1 + 1 + 1, 1, none⟩ = some (.slice none 0 0) := blk_cell HK2.out 1; have f60 : w5.frozen? ⟨w.heap.size + 1 + 1 + 1 + 1, 0, none⟩ = false := blk_frozen HK2.out 0; have f61 : w5.frozen? ⟨w.heap.size + 1 + 1 + 1 + 1, 1, none⟩ = false := blk_frozen HK2.out 1; clear hb))
  refine bodyPost_ret (results_ct rfl _ _ (w.heap.size + 1 + 1 + 1 + 1) 26 #[.int .i64 0, .slice none 0 0] (0, 0) _ rfl (by refine blk_put (cs := #[.int .i64 0, .slice none 0 0]) ?_ 1 _ rfl; refine blk_put (cs := #[.int .i64 0, .slice none 0 0]) ?_ 0 _ rfl; exact HK2.out) Tryz.underlying26 rfl (by kernel_rfl)) rfl ?_
  have hsz := hsz.out
  have hb := HB.out.trans (HB3.out.mono HB.out.size)
  exact ⟨.slice none 0 0, by rw [HA.out]; rfl, by rw [HA.out]; exact OwnI.nil _ _, (hb.setCell (by simp; omega) _).setCell (by simp; omega) _⟩
set_option maxRecDepth 100000 in
theorem below_part : ∀ x, x < 64 → ∀ y, y < 64 → (y == 0 || y == x || y &&& x != y || (below x).any fun g => decide (0 ≤ g) && decide (g.toNat < x) && (y &&& g.toNat == y)) = true := by decide +kernel
/-- a complex holds each part of its faces -/
theorem sub_in {n : Nat} {xs : List Int} (hc : Cx n xs) (hb : xs.all (belowIn xs) = true) {y : Nat} (hy : y ≠ 0) : ∀ x : Nat, (x : Int) ∈ xs → y &&& x = y → (y : Int) ∈ xs := by
 intro x
 induction x using Nat.strongRecOn with
 | _ x ih =>
  intro hx hyx
  by_cases he : y = x
  ·subst he; exact hx
  ·have hx64 : x < 64 := by have := hc.bd _ hx; have := pw6 hc.hi; omega
   have hy64 : y < 64 := by
    have : y &&& x ≤ x := Nat.and_le_right
    omega
   have h1 := below_part x hx64 y hy64
   have h2 : (y == 0 || y == x || y &&& x != y) = false := by simp [hy, he, hyx]
   rw [h2, Bool.false_or, List.any_eq_true] at h1
   obtain ⟨g, hg, h3⟩ := h1
   simp only [Bool.and_eq_true, decide_eq_true_eq, beq_iff_eq] at h3
   have h4 := List.all_eq_true.1 hb x hx
   unfold belowIn at h4
   rw [Int.toNat_natCast] at h4
   have h5 := List.all_eq_true.1 h4 g hg
   rw [decide_eq_true_eq] at h5
   have hgg : ((g.toNat : Nat) : Int) = g := by omega
   exact ih g.toNat h3.1.2 (by rw [hgg]; exact h5) h3.2
theorem thL_congr {p p' : Int → Bool} {k : Nat} (h : ∀ q : Nat, 1 ≤ q → q < k → p q = p' q) : thL p k = thL p' k := by
 refine asc_ext (thL_asc _ _) (thL_asc _ _) (fun x => ?_)
 rw [thL_mem, thL_mem]
 constructor
 ·rintro ⟨q, rfl, h1, h2, h3⟩; exact ⟨q, rfl, h1, h2, by rw [← h q h1 h2]; exact h3⟩
 ·rintro ⟨q, rfl, h1, h2, h3⟩; exact ⟨q, rfl, h1, h2, by rw [h q h1 h2]; exact h3⟩
theorem tpa (q e : Nat) : 2 ^ e &&& q = if q.testBit e then 2 ^ e else 0 := by
 apply Nat.eq_of_testBit_eq
 intro i
 rw [Nat.testBit_and, Nat.testBit_two_pow]
 by_cases h : e = i
 ·subst h
  cases hq : q.testBit e <;> simp
 ·cases hq : q.testBit e <;> simp [h, Nat.testBit_two_pow]
theorem imgTo_congr {a b : Nat} {p : List Int} : ∀ k, (∀ j, j < k → a.testBit j = b.testBit j) → imgTo a p k = imgTo b p k
 | 0, _ => rfl
 | k + 1, h => by
  rw [imgTo_succ, imgTo_succ, h k (by omega), imgTo_congr k (fun j hj => h j (by omega))]
theorem imgTo_zero (p : List Int) : ∀ k, imgTo 0 p k = 0
 | 0 => rfl
 | k + 1 => by rw [imgTo_succ, Nat.zero_testBit, if_neg (by decide), imgTo_zero p k]
/-- a part of an image is the image of a part -/
theorem img_part {x q : Nat} {p : List Int} : ∀ k, ∃ y, y < 2 ^ k ∧ y &&& x = y ∧ imgTo y p k = imgTo x p k &&& q
 | 0 => ⟨0, by decide, by simp, by simp [imgTo]⟩
 | k + 1 => by
  obtain ⟨y, h1, h2, h3⟩ := img_part (x := x) (q := q) (p := p) k
  have hyk : y.testBit k = false := Nat.testBit_lt_two_pow h1
  have hpw : 2 ^ (k + 1) = 2 * 2 ^ k := by rw [Nat.pow_succ]; omega
  by_cases hx : x.testBit k = true
  ·by_cases hq : q.testBit (p.getD k 0).toNat = true
   ·refine ⟨y ||| 2 ^ k, ?_, ?_, ?_⟩
    ·exact Nat.or_lt_two_pow (by omega) (by omega)
    ·rw [Nat.and_or_distrib_right, h2, tpa, hx]
     simp
    ·rw [imgTo_succ, imgTo_succ, hx, if_pos rfl, if_pos (by simp)]
     rw [imgTo_congr (b := y) k (fun j hj => by simp [Nat.testBit_two_pow]; intro h; omega), h3, Nat.and_or_distrib_right, tpa, hq]
     simp
   ·refine ⟨y, by omega, h2, ?_⟩
    have hq' : q.testBit (p.getD k 0).toNat = false := by simpa using hq
    rw [imgTo_succ, imgTo_succ, hx, hyk, if_pos rfl, if_neg (by decide), h3, Nat.and_or_distrib_right, tpa, hq']
    simp
  ·have hx' : x.testBit k = false := by simpa using hx
   refine ⟨y, by omega, h2, ?_⟩
   rw [imgTo_succ, imgTo_succ, hx', hyk, if_neg (by decide), if_neg (by decide), h3]
/-- a face of the image complex -/
def imAt (xs f : List Int) (g : Int) : Bool := xs.any (opAt f g)
/-- the images of the faces -/
def imgs (f xs : List Int) : List Int := xs.map fun x => ((img x.toNat f : Nat) : Int)
theorem im_made {n : Nat} {xs f : List Int} (hc : Cx n xs) (hb : xs.all (belowIn xs) = true) (k : Nat) (hk : 1 ≤ k) : imAt xs f k = madeAt (imgs f xs) k := by
 rw [Bool.eq_iff_iff]
 unfold imAt madeAt imgs
 rw [List.any_eq_true, List.any_eq_true]
 constructor
 ·rintro ⟨x, hx, h⟩
  unfold opAt at h
  rw [beq_iff_eq] at h
  have h' : img x.toNat f = k := by omega
  refine ⟨_, List.mem_map.2 ⟨x, hx, rfl⟩, ?_⟩
  rw [h', decide_eq_true_eq]; simp
 ·rintro ⟨s, hs, h⟩
  obtain ⟨x, hx, rfl⟩ := List.mem_map.1 hs
  rw [decide_eq_true_eq, Int.toNat_natCast, Int.toNat_natCast] at h
  obtain ⟨z, rfl, -, -⟩ := hc.nat hx
  rw [Int.toNat_natCast] at h
  obtain ⟨y, -, h2, h3⟩ := img_part (x := z) (q := k) (p := f) f.length
  have h4 : img y f = k := by
   unfold img at h ⊢
   rw [h3, Nat.and_comm]; exact h
  have hy : y ≠ 0 := by
   rintro rfl
   unfold img at h4
   rw [imgTo_zero] at h4
   omega
  refine ⟨y, sub_in hc hb hy z hx h2, ?_⟩
  unfold opAt
  rw [Int.toNat_natCast, h4, beq_iff_eq]
theorem codeSimp_below {a b : Int} {xs ys : List Int} {fs : List (List Int)} {r : Bool} (h : codeSimp a b xs ys fs r = 0) : xs.all (belowIn xs) = true := by
 unfold codeSimp at h
 split at h
 ·next h1 =>
  rw [Bool.and_eq_true] at h1
  obtain ⟨_, _, _, h2⟩ := cxOk_cx h1.1
  exact h2
 ·cases h
end Go.Proofs.YtomofijniefelaaGreat.H
