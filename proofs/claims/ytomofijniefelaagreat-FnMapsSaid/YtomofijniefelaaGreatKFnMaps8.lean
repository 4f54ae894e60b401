/- ComposeMaps of the program and of the reference. AreContiguous of the program. -/
import Derived.Test.YtomofijniefelaaGreatKFnMaps1
import Derived.Test.YtomofijniefelaaGreatKFnMaps2
import Derived.Test.YtomofijniefelaaGreatKFnMaps3
import Derived.Test.YtomofijniefelaaGreatKFnMaps4
import Derived.Test.YtomofijniefelaaGreatKFnMaps5
import Derived.Test.YtomofijniefelaaGreatKFnMaps6
import Derived.Test.YtomofijniefelaaGreatKFnMaps7

namespace Go.Proofs.YtomofijniefelaaGreat.H
open Go.RowKit Go.Proofs.YtomofijniefelaaGreatW.PrintWords Go.Proofs.YtomofijniefelaaGreatW.PrintLast
set_option linter.unusedVariables false
set_option linter.unusedSimpArgs false
/-- the code of ComposeMaps -/
def codeComp (a b c : Int) (xs ys zs f g : List Int) : Int :=
 if cxOk a xs && cxOk b ys && cxOk c zs then (if mapOk a.toNat b.toNat f && mapOk b.toNat c.toNat g then (if simpOk xs ys f && simpOk ys zs g then 0 else 5) else 2) else 1
/-- the second map at a vertex -/
def goTo (g : List Int) (v : Int) : Int := g.getD v.toNat 0
/-- what ComposeMaps answers -/
def ansComposeMaps (a : Int) (xs : List Int) (b : Int) (ys : List Int) (c : Int) (zs f g : List Int) : List Int × Int :=
 if codeComp a b c xs ys zs f g = 0 then (f.map (goTo g), 0) else ([], codeComp a b c xs ys zs f g)
theorem map_take {xs : List Int} {i : Nat} {y : Int} (p : Int → Int) (h : i < xs.length) (hy : xs.getD i 0 = y) : (xs.take (i + 1)).map p = (xs.take i).map p ++ [p y] := by
 rw [take_get h hy, List.map_append]; rfl
set_option maxRecDepth 100000 in
set_option maxHeartbeats 4000000 in
theorem implComposeMaps (a : Int) (ku : Value) (xs : List Int) (b : Int) (lu : Value) (ys : List Int) (c : Int) (mu : Value) (zs : List Int) (u : Value) (f : List Int) (v : Value) (g : List Int) (w : World) (hk : ReadI w ku xs) (hl : ReadI w lu ys) (hm : ReadI w mu zs) (hu : ReadI w u f) (hv : ReadI w v g) :
  Calls Tryz.prog 24 #[cx a ku, cx b lu, cx c mu, u, v] w fun e w' => ∃ u, e = .returned (.tuple #[u, .int .i64 (ansComposeMaps a xs b ys c zs f g).2]) ∧ OwnI w.heap.size w' u (ansComposeMaps a xs b ys c zs f g).1 ∧ Below w.heap.size w w' := by
 obtain ⟨w0, hw0⟩ : ∃ w0, w0 = (w.alloc (.cells #[.int .i64 a, ku] 26)).alloc (.cells #[.int .i64 b, lu] 26) := ⟨_, rfl⟩
 obtain ⟨w1, hw1⟩ : ∃ w1, w1 = w0.alloc (.cells #[.int .i64 c, mu] 26) := ⟨_, rfl⟩
 have hs0 : w0.heap.size = w.heap.size + 1 + 1 := by rw [hw0]; simp
 have hB0 : Below w.heap.size w w0 := by rw [hw0]; exact ((Below.refl _ w).alloc (Nat.le_refl _) _).alloc (by simp) _
 have hB1 : Below w0.heap.size w0 w1 := by rw [hw1]; exact Below.alloc (Below.refl _ _) (Nat.le_refl _) _
 have hB : Below w.heap.size w w1 := hB0.trans (hB1.mono hB0.size)
 have c0 : w1.cell? ⟨w.heap.size, 0, none⟩ = some (.int .i64 a) := pw_cell_below hB1 (by rw [hw0]; simp)
 have c1 : w1.cell? ⟨w.heap.size, 1, none⟩ = some ku := pw_cell_below hB1 (by rw [hw0]; simp)
 have c2 : w1.cell? ⟨w.heap.size + 1, 0, none⟩ = some (.int .i64 b) := pw_cell_below hB1 (by rw [hw0]; simp)
 have c3 : w1.cell? ⟨w.heap.size + 1, 1, none⟩ = some lu := pw_cell_below hB1 (by rw [hw0]; simp)
 have c4 : w1.cell? ⟨w.heap.size + 1 + 1, 0, none⟩ = some (.int .i64 c) := by rw [hw1, ← hs0]; simp
 have c5 : w1.cell? ⟨w.heap.size + 1 + 1, 1, none⟩ = some mu := by rw [hw1, ← hs0]; simp
 have HK := Aside0.mk (hk.below hB)
 have HL := Aside0.mk (hl.below hB)
 have HM := Aside0.mk (hm.below hB)
 have HB0 := Aside0.mk hB
 have HB := Aside0.mk (Below.refl w1.heap.size w1)
 have hu1 := hu.below hB
 have hv1 := hv.below hB
 have HU := Aside0.mk hu1
 have HV := Aside0.mk hv1
 obtain ⟨A1, d1, rfl, -⟩ := id hk
 obtain ⟨A2, d2, rfl, -⟩ := id hl
 obtain ⟨A3, d3, rfl, -⟩ := id hm
 obtain ⟨A4, d4, rfl, hcu, hru⟩ := hu1
 obtain ⟨A5, d5, rfl, hcv, hrv⟩ := hv1
 have HRU := Aside0.mk hru
 have HRV := Aside0.mk hrv
 have hlu := hru.2.1
 have st : Stg 0 := ⟨⟩
 have c0a : w0.cell? ⟨w.heap.size, 0, none⟩ = some (.int .i64 a) := by rw [hw0]; simp
 have c1a : w0.cell? ⟨w.heap.size, 1, none⟩ = some (.slice A1 xs.length d1) := by rw [hw0]; simp
 clear hk hl hm hu hv hB hB0 hB1 hs0 hru hrv hcu hcv
 subst hw0
 cases hc1 : cxOk a xs with
 | false =>
  have HA : Aside0 (ansComposeMaps a xs b ys c zs f g = ([], 1)) := ⟨by unfold ansComposeMaps codeComp; rw [hc1]; simp⟩
  go_enter Tryz.func24, Tryz.ntmps24
  go_wp2_with (first | (replace st := stg_next 0 1 st; rw [← hw1]; clear hw1 c0a c1a; go_at_call 16; refine (isComplex a _ xs _ (HK.out.below HB.out)).mono ?_; rintro e w2 ⟨rfl, hb⟩; rw [hc1]; replace HB := Aside0.belowC HB hb; replace c0 := pw_cell_below hb c0; replace c1 := pw_cell_below hb c1; replace c2 := pw_cell_below hb c2; replace c3 := pw_cell_below hb c3; replace c4 := pw_cell_below hb c4; replace c5 := pw_cell_below hb c5; clear hb) | (replace st := stg_next 1 2 st; go_at_call 16; refine (isComplex b _ ys _ (HL.out.below HB.out)).mono ?_; rintro e w2 ⟨rfl, hb⟩; rw [hc2]; replace HB := Aside0.belowC HB hb; replace c0 := pw_cell_below hb c0; replace c1 := pw_cell_below hb c1; replace c2 := pw_cell_below hb c2; replace c3 := pw_cell_below hb c3; replace c4 := pw_cell_below hb c4; replace c5 := pw_cell_below hb c5; clear hb) | (replace st := stg_next 2 3 st; go_at_call 16; refine (isComplex c _ zs _ (HM.out.below HB.out)).mono ?_; rintro e w2 ⟨rfl, hb⟩; rw [hc3]; replace HB := Aside0.belowC HB hb; replace c0 := pw_cell_below hb c0; replace c1 := pw_cell_below hb c1; replace c2 := pw_cell_below hb c2; replace c3 := pw_cell_below hb c3; replace c4 := pw_cell_below hb c4; replace c5 := pw_cell_below hb c5; clear hb))
  go_ret2
  exact ⟨_, by rw [HA.out]; rfl, by rw [HA.out]; exact OwnI.nil _ _, HB0.out.trans (HB.out.mono HB0.out.size)⟩
 | true =>
 cases hc2 : cxOk b ys with
 | false =>
  have HA : Aside0 (ansComposeMaps a xs b ys c zs f g = ([], 1)) := ⟨by unfold ansComposeMaps codeComp; rw [hc1, hc2]; simp⟩
  go_enter Tryz.func24, Tryz.ntmps24
  go_wp2_with (first | (replace st := stg_next 0 1 st; rw [← hw1]; clear hw1 c0a c1a; go_at_call 16; refine (isComplex a _ xs _ (HK.out.below HB.out)).mono ?_; rintro e w2 ⟨rfl, hb⟩; rw [hc1]; replace HB := Aside0.belowC HB hb; replace c0 := pw_cell_below hb c0; replace c1 := pw_cell_below hb c1; replace c2 := pw_cell_below hb c2; replace c3 := pw_cell_below hb c3; replace c4 := pw_cell_below hb c4; replace c5 := pw_cell_below hb c5; clear hb) | (replace st := stg_next 1 2 st; go_at_call 16; refine (isComplex b _ ys _ (HL.out.below HB.out)).mono ?_; rintro e w2 ⟨rfl, hb⟩; rw [hc2]; replace HB := Aside0.belowC HB hb; replace c0 := pw_cell_below hb c0; replace c1 := pw_cell_below hb c1; replace c2 := pw_cell_below hb c2; replace c3 := pw_cell_below hb c3; replace c4 := pw_cell_below hb c4; replace c5 := pw_cell_below hb c5; clear hb) | (replace st := stg_next 2 3 st; go_at_call 16; refine (isComplex c _ zs _ (HM.out.below HB.out)).mono ?_; rintro e w2 ⟨rfl, hb⟩; rw [hc3]; replace HB := Aside0.belowC HB hb; replace c0 := pw_cell_below hb c0; replace c1 := pw_cell_below hb c1; replace c2 := pw_cell_below hb c2; replace c3 := pw_cell_below hb c3; replace c4 := pw_cell_below hb c4; replace c5 := pw_cell_below hb c5; clear hb))
  go_ret2
  exact ⟨_, by rw [HA.out]; rfl, by rw [HA.out]; exact OwnI.nil _ _, HB0.out.trans (HB.out.mono HB0.out.size)⟩
 | true =>
 cases hc3 : cxOk c zs with
 | false =>
  have HA : Aside0 (ansComposeMaps a xs b ys c zs f g = ([], 1)) := ⟨by unfold ansComposeMaps codeComp; rw [hc1, hc2, hc3]; simp⟩
  go_enter Tryz.func24, Tryz.ntmps24
  go_wp2_with (first | (replace st := stg_next 0 1 st; rw [← hw1]; clear hw1 c0a c1a; go_at_call 16; refine (isComplex a _ xs _ (HK.out.below HB.out)).mono ?_; rintro e w2 ⟨rfl, hb⟩; rw [hc1]; replace HB := Aside0.belowC HB hb; replace c0 := pw_cell_below hb c0; replace c1 := pw_cell_below hb c1; replace c2 := pw_cell_below hb c2; replace c3 := pw_cell_below hb c3; replace c4 := pw_cell_below hb c4; replace c5 := pw_cell_below hb c5; clear hb) | (replace st := stg_next 1 2 st; go_at_call 16; refine (isComplex b _ ys _ (HL.out.below HB.out)).mono ?_; rintro e w2 ⟨rfl, hb⟩; rw [hc2]; replace HB := Aside0.belowC HB hb; replace c0 := pw_cell_below hb c0; replace c1 := pw_cell_below hb c1; replace c2 := pw_cell_below hb c2; replace c3 := pw_cell_below hb c3; replace c4 := pw_cell_below hb c4; replace c5 := pw_cell_below hb c5; clear hb) | (replace st := stg_next 2 3 st; go_at_call 16; refine (isComplex c _ zs _ (HM.out.below HB.out)).mono ?_; rintro e w2 ⟨rfl, hb⟩; rw [hc3]; replace HB := Aside0.belowC HB hb; replace c0 := pw_cell_below hb c0; replace c1 := pw_cell_below hb c1; replace c2 := pw_cell_below hb c2; replace c3 := pw_cell_below hb c3; replace c4 := pw_cell_below hb c4; replace c5 := pw_cell_below hb c5; clear hb))
  go_ret2
  exact ⟨_, by rw [HA.out]; rfl, by rw [HA.out]; exact OwnI.nil _ _, HB0.out.trans (HB.out.mono HB0.out.size)⟩
 | true =>
 obtain ⟨n, rfl, hcn, -⟩ := cxOk_cx hc1
 obtain ⟨m, rfl, hcm, -⟩ := cxOk_cx hc2
 obtain ⟨k, rfl, hck, -⟩ := cxOk_cx hc3
 have HN := Aside0.mk hcn
 have HC := Aside0.mk hcm
 have HE := Aside0.mk hck
 clear hcn hcm hck
 cases hm1 : mapOk n m f with
 | false =>
  have HA : Aside0 (ansComposeMaps n xs m ys k zs f g = ([], 2)) := ⟨by unfold ansComposeMaps codeComp; rw [hc1, hc2, hc3, Int.toNat_natCast, Int.toNat_natCast, Int.toNat_natCast, hm1]; simp⟩
  go_enter Tryz.func24, Tryz.ntmps24
  go_wp2_with (first | (replace st := stg_next 0 1 st; rw [← hw1]; clear hw1 c0a c1a; go_at_call 16; refine (isComplex (n : Int) _ xs _ (HK.out.below HB.out)).mono ?_; rintro e w2 ⟨rfl, hb⟩; rw [hc1]; replace HB := Aside0.belowC HB hb; replace c0 := pw_cell_below hb c0; replace c1 := pw_cell_below hb c1; replace c2 := pw_cell_below hb c2; replace c3 := pw_cell_below hb c3; replace c4 := pw_cell_below hb c4; replace c5 := pw_cell_below hb c5; clear hb) | (replace st := stg_next 1 2 st; go_at_call 16; refine (isComplex (m : Int) _ ys _ (HL.out.below HB.out)).mono ?_; rintro e w2 ⟨rfl, hb⟩; rw [hc2]; replace HB := Aside0.belowC HB hb; replace c0 := pw_cell_below hb c0; replace c1 := pw_cell_below hb c1; replace c2 := pw_cell_below hb c2; replace c3 := pw_cell_below hb c3; replace c4 := pw_cell_below hb c4; replace c5 := pw_cell_below hb c5; clear hb) | (replace st := stg_next 2 3 st; go_at_call 16; refine (isComplex (k : Int) _ zs _ (HM.out.below HB.out)).mono ?_; rintro e w2 ⟨rfl, hb⟩; rw [hc3]; replace HB := Aside0.belowC HB hb; replace c0 := pw_cell_below hb c0; replace c1 := pw_cell_below hb c1; replace c2 := pw_cell_below hb c2; replace c3 := pw_cell_below hb c3; replace c4 := pw_cell_below hb c4; replace c5 := pw_cell_below hb c5; clear hb) | (replace st := stg_next 3 4 st; go_at_call 150; refine (isMap n m HN.out.hi HC.out.hi _ _ _ f _ (HU.out.below HB.out)).mono ?_; rintro e w2 ⟨rfl, hb⟩; rw [hm1]; replace HB := Aside0.belowC HB hb; replace c0 := pw_cell_below hb c0; replace c1 := pw_cell_below hb c1; replace c2 := pw_cell_below hb c2; replace c3 := pw_cell_below hb c3; replace c4 := pw_cell_below hb c4; replace c5 := pw_cell_below hb c5; clear hb) | (replace st := stg_next 4 5 st; go_at_call 150; refine (isMap m k HC.out.hi HE.out.hi _ _ _ g _ (HV.out.below HB.out)).mono ?_; rintro e w2 ⟨rfl, hb⟩; rw [hm2]; replace HB := Aside0.belowC HB hb; replace c0 := pw_cell_below hb c0; replace c1 := pw_cell_below hb c1; replace c2 := pw_cell_below hb c2; replace c3 := pw_cell_below hb c3; replace c4 := pw_cell_below hb c4; replace c5 := pw_cell_below hb c5; clear hb))
  go_ret2
  exact ⟨_, by rw [HA.out]; rfl, by rw [HA.out]; exact OwnI.nil _ _, HB0.out.trans (HB.out.mono HB0.out.size)⟩
 | true =>
 cases hm2 : mapOk m k g with
 | false =>
  have HA : Aside0 (ansComposeMaps n xs m ys k zs f g = ([], 2)) := ⟨by unfold ansComposeMaps codeComp; rw [hc1, hc2, hc3, Int.toNat_natCast, Int.toNat_natCast, Int.toNat_natCast, hm1, hm2]; simp⟩
  go_enter Tryz.func24, Tryz.ntmps24
  go_wp2_with (first | (replace st := stg_next 0 1 st; rw [← hw1]; clear hw1 c0a c1a; go_at_call 16; refine (isComplex (n : Int) _ xs _ (HK.out.below HB.out)).mono ?_; rintro e w2 ⟨rfl, hb⟩; rw [hc1]; replace HB := Aside0.belowC HB hb; replace c0 := pw_cell_below hb c0; replace c1 := pw_cell_below hb c1; replace c2 := pw_cell_below hb c2; replace c3 := pw_cell_below hb c3; replace c4 := pw_cell_below hb c4; replace c5 := pw_cell_below hb c5; clear hb) | (replace st := stg_next 1 2 st; go_at_call 16; refine (isComplex (m : Int) _ ys _ (HL.out.below HB.out)).mono ?_; rintro e w2 ⟨rfl, hb⟩; rw [hc2]; replace HB := Aside0.belowC HB hb; replace c0 := pw_cell_below hb c0; replace c1 := pw_cell_below hb c1; replace c2 := pw_cell_below hb c2; replace c3 := pw_cell_below hb c3; replace c4 := pw_cell_below hb c4; replace c5 := pw_cell_below hb c5; clear hb) | (replace st := stg_next 2 3 st; go_at_call 16; refine (isComplex (k : Int) _ zs _ (HM.out.below HB.out)).mono ?_; rintro e w2 ⟨rfl, hb⟩; rw [hc3]; replace HB := Aside0.belowC HB hb; replace c0 := pw_cell_below hb c0; replace c1 := pw_cell_below hb c1; replace c2 := pw_cell_below hb c2; replace c3 := pw_cell_below hb c3; replace c4 := pw_cell_below hb c4; replace c5 := pw_cell_below hb c5; clear hb) | (replace st := stg_next 3 4 st; go_at_call 150; refine (isMap n m HN.out.hi HC.out.hi _ _ _ f _ (HU.out.below HB.out)).mono ?_; rintro e w2 ⟨rfl, hb⟩; rw [hm1]; replace HB := Aside0.belowC HB hb; replace c0 := pw_cell_below hb c0; replace c1 := pw_cell_below hb c1; replace c2 := pw_cell_below hb c2; replace c3 := pw_cell_below hb c3; replace c4 := pw_cell_below hb c4; replace c5 := pw_cell_below hb c5; clear hb) | (replace st := stg_next 4 5 st; go_at_call 150; refine (isMap m k HC.out.hi HE.out.hi _ _ _ g _ (HV.out.below HB.out)).mono ?_; rintro e w2 ⟨rfl, hb⟩; rw [hm2]; replace HB := Aside0.belowC HB hb; replace c0 := pw_cell_below hb c0; replace c1 := pw_cell_below hb c1; replace c2 := pw_cell_below hb c2; replace c3 := pw_cell_below hb c3; replace c4 := pw_cell_below hb c4; replace c5 := pw_cell_below hb c5; clear hb))
  go_ret2
  exact ⟨_, by rw [HA.out]; rfl, by rw [HA.out]; exact OwnI.nil _ _, HB0.out.trans (HB.out.mono HB0.out.size)⟩
 | true =>
 have HF := Aside0.mk (mapOk_mp hm1)
 have HG := Aside0.mk (mapOk_mp hm2)
 cases hs1 : simpOk xs ys f with
 | false =>
  have HA : Aside0 (ansComposeMaps n xs m ys k zs f g = ([], 5)) := ⟨by unfold ansComposeMaps codeComp; rw [hc1, hc2, hc3, Int.toNat_natCast, Int.toNat_natCast, Int.toNat_natCast, hm1, hm2, hs1]; simp⟩
  go_enter Tryz.func24, Tryz.ntmps24
  go_wp2_with (first | (replace st := stg_next 0 1 st; rw [← hw1]; clear hw1 c0a c1a; go_at_call 16; refine (isComplex (n : Int) _ xs _ (HK.out.below HB.out)).mono ?_; rintro e w2 ⟨rfl, hb⟩; rw [hc1]; replace HB := Aside0.belowC HB hb; replace c0 := pw_cell_below hb c0; replace c1 := pw_cell_below hb c1; replace c2 := pw_cell_below hb c2; replace c3 := pw_cell_below hb c3; replace c4 := pw_cell_below hb c4; replace c5 := pw_cell_below hb c5; clear hb) | (replace st := stg_next 1 2 st; go_at_call 16; refine (isComplex (m : Int) _ ys _ (HL.out.below HB.out)).mono ?_; rintro e w2 ⟨rfl, hb⟩; rw [hc2]; replace HB := Aside0.belowC HB hb; replace c0 := pw_cell_below hb c0; replace c1 := pw_cell_below hb c1; replace c2 := pw_cell_below hb c2; replace c3 := pw_cell_below hb c3; replace c4 := pw_cell_below hb c4; replace c5 := pw_cell_below hb c5; clear hb) | (replace st := stg_next 2 3 st; go_at_call 16; refine (isComplex (k : Int) _ zs _ (HM.out.below HB.out)).mono ?_; rintro e w2 ⟨rfl, hb⟩; rw [hc3]; replace HB := Aside0.belowC HB hb; replace c0 := pw_cell_below hb c0; replace c1 := pw_cell_below hb c1; replace c2 := pw_cell_below hb c2; replace c3 := pw_cell_below hb c3; replace c4 := pw_cell_below hb c4; replace c5 := pw_cell_below hb c5; clear hb) | (replace st := stg_next 3 4 st; go_at_call 150; refine (isMap n m HN.out.hi HC.out.hi _ _ _ f _ (HU.out.below HB.out)).mono ?_; rintro e w2 ⟨rfl, hb⟩; rw [hm1]; replace HB := Aside0.belowC HB hb; replace c0 := pw_cell_below hb c0; replace c1 := pw_cell_below hb c1; replace c2 := pw_cell_below hb c2; replace c3 := pw_cell_below hb c3; replace c4 := pw_cell_below hb c4; replace c5 := pw_cell_below hb c5; clear hb) | (replace st := stg_next 4 5 st; go_at_call 150; refine (isMap m k HC.out.hi HE.out.hi _ _ _ g _ (HV.out.below HB.out)).mono ?_; rintro e w2 ⟨rfl, hb⟩; rw [hm2]; replace HB := Aside0.belowC HB hb; replace c0 := pw_cell_below hb c0; replace c1 := pw_cell_below hb c1; replace c2 := pw_cell_below hb c2; replace c3 := pw_cell_below hb c3; replace c4 := pw_cell_below hb c4; replace c5 := pw_cell_below hb c5; clear hb) | (replace st := stg_next 5 6 st; go_at_call 151; refine (isSimplicial n m _ _ _ xs ys f _ (HK.out.below HB.out) (HL.out.below HB.out) (HU.out.below HB.out) HN.out HC.out HF.out).mono ?_; rintro e w2 ⟨rfl, hb⟩; rw [hs1]; replace HB := Aside0.belowC HB hb; replace c0 := pw_cell_below hb c0; replace c1 := pw_cell_below hb c1; replace c2 := pw_cell_below hb c2; replace c3 := pw_cell_below hb c3; replace c4 := pw_cell_below hb c4; replace c5 := pw_cell_below hb c5; clear hb) | (replace st := stg_next 6 7 st; go_at_call 151; refine (isSimplicial m k _ _ _ ys zs g _ (HL.out.below HB.out) (HM.out.below HB.out) (HV.out.below HB.out) HC.out HE.out HG.out).mono ?_; rintro e w2 ⟨rfl, hb⟩; rw [hs2]; replace HB := Aside0.belowC HB hb; replace c0 := pw_cell_below hb c0; replace c1 := pw_cell_below hb c1; replace c2 := pw_cell_below hb c2; replace c3 := pw_cell_below hb c3; replace c4 := pw_cell_below hb c4; replace c5 := pw_cell_below hb c5; clear hb))
  go_ret2
  exact ⟨_, by rw [HA.out]; rfl, by rw [HA.out]; exact OwnI.nil _ _, HB0.out.trans (HB.out.mono HB0.out.size)⟩
 | true =>
 cases hs2 : simpOk ys zs g with
 | false =>
  have HA : Aside0 (ansComposeMaps n xs m ys k zs f g = ([], 5)) := ⟨by unfold ansComposeMaps codeComp; rw [hc1, hc2, hc3, Int.toNat_natCast, Int.toNat_natCast, Int.toNat_natCast, hm1, hm2, hs1, hs2]; simp⟩
  go_enter Tryz.func24, Tryz.ntmps24
  go_wp2_with (first | (replace st := stg_next 0 1 st; rw [← hw1]; clear hw1 c0a c1a; go_at_call 16; refine (isComplex (n : Int) _ xs _ (HK.out.below HB.out)).mono ?_; rintro e w2 ⟨rfl, hb⟩; rw [hc1]; replace HB := Aside0.belowC HB hb; replace c0 := pw_cell_below hb c0; replace c1 := pw_cell_below hb c1; replace c2 := pw_cell_below hb c2; replace c3 := pw_cell_below hb c3; replace c4 := pw_cell_below hb c4; replace c5 := pw_cell_below hb c5; clear hb) | (replace st := stg_next 1 2 st; go_at_call 16; refine (isComplex (m : Int) _ ys _ (HL.out.below HB.out)).mono ?_; rintro e w2 ⟨rfl, hb⟩; rw [hc2]; replace HB := Aside0.belowC HB hb; replace c0 := pw_cell_below hb c0; replace c1 := pw_cell_below hb c1; replace c2 := pw_cell_below hb c2; replace c3 := pw_cell_below hb c3; replace c4 := pw_cell_below hb c4; replace c5 := pw_cell_below hb c5; clear hb) | (replace st := stg_next 2 3 st; go_at_call 16; refine (isComplex (k : Int) _ zs _ (HM.out.below HB.out)).mono ?_; rintro e w2 ⟨rfl, hb⟩; rw [hc3]; replace HB := Aside0.belowC HB hb; replace c0 := pw_cell_below hb c0; replace c1 := pw_cell_below hb c1; replace c2 := pw_cell_below hb c2; replace c3 := pw_cell_below hb c3; replace c4 := pw_cell_below hb c4; replace c5 := pw_cell_below hb c5; clear hb) | (replace st := stg_next 3 4 st; go_at_call 150; refine (isMap n m HN.out.hi HC.out.hi _ _ _ f _ (HU.out.below HB.out)).mono ?_; rintro e w2 ⟨rfl, hb⟩; rw [hm1]; replace HB := Aside0.belowC HB hb; replace c0 := pw_cell_below hb c0; replace c1 := pw_cell_below hb c1; replace c2 := pw_cell_below hb c2; replace c3 := pw_cell_below hb c3; replace c4 := pw_cell_below hb c4; replace c5 := pw_cell_below hb c5; clear hb) | (replace st := stg_next 4 5 st; go_at_call 150; refine (isMap m k HC.out.hi HE.out.hi _ _ _ g _ (HV.out.below HB.out)).mono ?_; rintro e w2 ⟨rfl, hb⟩; rw [hm2]; replace HB := Aside0.belowC HB hb; replace c0 := pw_cell_below hb c0; replace c1 := pw_cell_below hb c1; replace c2 := pw_cell_below hb c2; replace c3 := pw_cell_below hb c3; replace c4 := pw_cell_below hb c4; replace c5 := pw_cell_below hb c5; clear hb) | (replace st := stg_next 5 6 st; go_at_call 151; refine (isSimplicial n m _ _ _ xs ys f _ (HK.out.below HB.out) (HL.out.below HB.out) (HU.out.below HB.out) HN.out HC.out HF.out).mono ?_; rintro e w2 ⟨rfl, hb⟩; rw [hs1]; replace HB := Aside0.belowC HB hb; replace c0 := pw_cell_below hb c0; replace c1 := pw_cell_below hb c1; replace c2 := pw_cell_below hb c2; replace c3 := pw_cell_below hb c3; replace c4 := pw_cell_below hb c4; replace c5 := pw_cell_below hb c5; clear hb) | (replace st := stg_next 6 7 st; go_at_call 151; refine (isSimplicial m k _ _ _ ys zs g _ (HL.out.below HB.out) (HM.out.below HB.out) (HV.out.below HB.out) HC.out HE.out HG.out).mono ?_; rintro e w2 ⟨rfl, hb⟩; rw [hs2]; replace HB := Aside0.belowC HB hb; replace c0 := pw_cell_below hb c0; replace c1 := pw_cell_below hb c1; replace c2 := pw_cell_below hb c2; replace c3 := pw_cell_below hb c3; replace c4 := pw_cell_below hb c4; replace c5 := pw_cell_below hb c5; clear hb))
  go_ret2
  exact ⟨_, by rw [HA.out]; rfl, by rw [HA.out]; exact OwnI.nil _ _, HB0.out.trans (HB.out.mono HB0.out.size)⟩
 | true =>
 have HA : Aside0 (ansComposeMaps n xs m ys k zs f g = (f.map (goTo g), 0)) := ⟨by unfold ansComposeMaps codeComp; rw [hc1, hc2, hc3, Int.toNat_natCast, Int.toNat_natCast, Int.toNat_natCast, hm1, hm2, hs1, hs2]; simp⟩
 go_enter Tryz.func24, Tryz.ntmps24
 go_wp2_with (first | (replace st := stg_next 0 1 st; rw [← hw1]; clear hw1 c0a c1a; go_at_call 16; refine (isComplex (n : Int) _ xs _ (HK.out.below HB.out)).mono ?_; rintro e w2 ⟨rfl, hb⟩; rw [hc1]; replace HB := Aside0.belowC HB hb; replace c0 := pw_cell_below hb c0; replace c1 := pw_cell_below hb c1; replace c2 := pw_cell_below hb c2; replace c3 := pw_cell_below hb c3; replace c4 := pw_cell_below hb c4; replace c5 := pw_cell_below hb c5; clear hb) | (replace st := stg_next 1 2 st; go_at_call 16; refine (isComplex (m : Int) _ ys _ (HL.out.below HB.out)).mono ?_; rintro e w2 ⟨rfl, hb⟩; rw [hc2]; replace HB := Aside0.belowC HB hb; replace c0 := pw_cell_below hb c0; replace c1 := pw_cell_below hb c1; replace c2 := pw_cell_below hb c2; replace c3 := pw_cell_below hb c3; replace c4 := pw_cell_below hb c4; replace c5 := pw_cell_below hb c5; clear hb) | (replace st := stg_next 2 3 st; go_at_call 16; refine (isComplex (k : Int) _ zs _ (HM.out.below HB.out)).mono ?_; rintro e w2 ⟨rfl, hb⟩; rw [hc3]; replace HB := Aside0.belowC HB hb; replace c0 := pw_cell_below hb c0; replace c1 := pw_cell_below hb c1; replace c2 := pw_cell_below hb c2; replace c3 := pw_cell_below hb c3; replace c4 := pw_cell_below hb c4; replace c5 := pw_cell_below hb c5; clear hb) | (replace st := stg_next 3 4 st; go_at_call 150; refine (isMap n m HN.out.hi HC.out.hi _ _ _ f _ (HU.out.below HB.out)).mono ?_; rintro e w2 ⟨rfl, hb⟩; rw [hm1]; replace HB := Aside0.belowC HB hb; replace c0 := pw_cell_below hb c0; replace c1 := pw_cell_below hb c1; replace c2 := pw_cell_below hb c2; replace c3 := pw_cell_below hb c3; replace c4 := pw_cell_below hb c4; replace c5 := pw_cell_below hb c5; clear hb) | (replace st := stg_next 4 5 st; go_at_call 150; refine (isMap m k HC.out.hi HE.out.hi _ _ _ g _ (HV.out.below HB.out)).mono ?_; rintro e w2 ⟨rfl, hb⟩; rw [hm2]; replace HB := Aside0.belowC HB hb; replace c0 := pw_cell_below hb c0; replace c1 := pw_cell_below hb c1; replace c2 := pw_cell_below hb c2; replace c3 := pw_cell_below hb c3; replace c4 := pw_cell_below hb c4; replace c5 := pw_cell_below hb c5; clear hb) | (replace st := stg_next 5 6 st; go_at_call 151; refine (isSimplicial n m _ _ _ xs ys f _ (HK.out.below HB.out) (HL.out.below HB.out) (HU.out.below HB.out) HN.out HC.out HF.out).mono ?_; rintro e w2 ⟨rfl, hb⟩; rw [hs1]; replace HB := Aside0.belowC HB hb; replace c0 := pw_cell_below hb c0; replace c1 := pw_cell_below hb c1; replace c2 := pw_cell_below hb c2; replace c3 := pw_cell_below hb c3; replace c4 := pw_cell_below hb c4; replace c5 := pw_cell_below hb c5; clear hb) | (replace st := stg_next 6 7 st; go_at_call 151; refine (isSimplicial m k _ _ _ ys zs g _ (HL.out.below HB.out) (HM.out.below HB.out) (HV.out.below HB.out) HC.out HE.out HG.out).mono ?_; rintro e w2 ⟨rfl, hb⟩; rw [hs2]; replace HB := Aside0.belowC HB hb; replace c0 := pw_cell_below hb c0; replace c1 := pw_cell_below hb c1; replace c2 := pw_cell_below hb c2; replace c3 := pw_cell_below hb c3; replace c4 := pw_cell_below hb c4; replace c5 := pw_cell_below hb c5; clear hb))
 go_loopw [12, 57] (fun s12 s57 wr => ∃ i : Nat, s57 = .int .i64 i ∧ i ≤ f.length ∧ Aside0 (OwnI w1.heap.size wr s12 ((f.take i).map (goTo g))) ∧ Aside0 (Below w1.heap.size w1 wr)) (fun s12 s57 _ => f.length - (intOf s57).toNat)
 case atStart => exact ⟨0, rfl, Nat.zero_le _, ⟨OwnI.nil _ _⟩, HB⟩
 case round =>
  obtain ⟨i, rfl, hi, HO, HBw⟩ := hrel
  have hlf : f.length ≤ 6 := by rw [HF.out.len]; exact HN.out.hi
  by_cases hlt : i < f.length
  ·obtain ⟨ad, y, rfl, hcell, HY⟩ := ReadI.get (Kd.C_below HRU.out HBw.out) hlt
   have hy := HF.out.bd y (mem_at hlt HY.out)
   obtain ⟨p, rfl⟩ : ∃ p : Nat, y = p := ⟨y.toNat, by omega⟩
   have hp : p < g.length := by rw [HG.out.len]; omega
   obtain ⟨ad2, z, rfl, hcell2, HZ⟩ := ReadI.get (Kd.C_below HRV.out HBw.out) hp
   have HT : Aside0 ((f.take (i + 1)).map (goTo g) = (f.take i).map (goTo g) ++ [z]) := ⟨by rw [map_take (goTo g) hlt HY.out]; unfold goTo; rw [Int.toNat_natCast, HZ.out]⟩
   have hll : ((f.take i).map (goTo g)).length ≤ 63 := by rw [List.length_map, List.length_take]; omega
   have hlg : g.length ≤ 6 := by rw [HG.out.len]; exact HC.out.hi
   clear hy
   go_wp2_with (first | (at_builtin; refine app_own (w0 := w1) w1.heap.size rfl (.tmp 61) (.tmp 66) rfl _ ((f.take i).map (goTo g)) z rfl rfl HO.out HBw.out HBw.out.size ?hl ?_; (case hl => omega); intro v1 w6 ho hb hg hat; have HO1 := Aside0.mk ho; have HB1 := Aside0.mk hb; clear ho hb hg hat))
   go_roundw
   case rel => exact ⟨i + 1, by go_num, by omega, ⟨by rw [HT.out]; exact HO1.out⟩, HB1⟩
   case measure => simp [intOf]; omega
  ·have e : i = f.length := by omega
   have HE := Aside0.mk e
   clear e
   go_wp2
   go_ret2
   exact ⟨_, by rw [HA.out]; rfl, by have := HO.out; rw [HE.out, List.take_length] at this; rw [HA.out]; exact this.lower HB0.out.size, HB0.out.trans (HBw.out.mono HB0.out.size)⟩
/-- the code at a place of [1, 2, 5] -/
def cdOf (i : Nat) : Int := if i = 0 then 1 else if i = 1 then 2 else 5
theorem cp_key {a b c : Int} {xs ys zs f g : List Int} : ∃ c1 c2 c3 m1 m2 s1 s2 : Bool, codeSimp a b xs ys [f] true = (if c1 && c2 then (if m1 then (if s1 then 0 else 5) else 2) else 1) ∧ codeSimp b c ys zs [g] true = (if c2 && c3 then (if m2 then (if s2 then 0 else 5) else 2) else 1) ∧ codeComp a b c xs ys zs f g = (if c1 && c2 && c3 then (if m1 && m2 then (if s1 && s2 then 0 else 5) else 2) else 1) := by
 refine ⟨cxOk a xs, cxOk b ys, cxOk c zs, mapOk a.toNat b.toNat f, mapOk b.toNat c.toNat g, simpOk xs ys f, simpOk ys zs g, ?_, ?_, ?_⟩
 ·unfold codeSimp; simp only [List.all_cons, List.all_nil, Bool.and_true]
 ·unfold codeSimp; simp only [List.all_cons, List.all_nil, Bool.and_true]
 ·rfl
theorem cp_first {a b c : Int} {xs ys zs f g : List Int} {i : Nat} (hi : i < 3) (h0 : ∀ j, j < i → codeSimp a b xs ys [f] true ≠ cdOf j ∧ codeSimp b c ys zs [g] true ≠ cdOf j) (h1 : codeSimp a b xs ys [f] true = cdOf i ∨ codeSimp b c ys zs [g] true = cdOf i) :
  ansComposeMaps a xs b ys c zs f g = ([], cdOf i) := by
 have key : codeComp a b c xs ys zs f g = cdOf i := by
  obtain ⟨c1, c2, c3, m1, m2, s1, s2, e1, e2, e3⟩ := cp_key (a := a) (b := b) (c := c) (xs := xs) (ys := ys) (zs := zs) (f := f) (g := g)
  rw [e1, e2] at h1
  rw [e3]
  have h0' : ∀ j, j < i → _ := fun j hj => h0 j hj
  rw [e1, e2] at h0
  clear e1 e2 e3 h0'
  match i, hi with
  | 0, _ => revert h1; clear h0; revert c1 c2 c3 m1 m2 s1 s2; decide
  | 1, _ =>
   have := h0 0 (by decide)
   revert this h1
   clear h0
   revert c1 c2 c3 m1 m2 s1 s2
   decide
  | 2, _ =>
   have h2 := h0 0 (by decide)
   have h3 := h0 1 (by decide)
   revert h2 h3 h1
   clear h0
   revert c1 c2 c3 m1 m2 s1 s2
   decide
 unfold ansComposeMaps
 rw [key, if_neg]
 unfold cdOf
 split
 ·decide
 ·split <;> decide
theorem cp_none {a b c : Int} {xs ys zs f g : List Int} (h0 : ∀ j, j < 3 → codeSimp a b xs ys [f] true ≠ cdOf j ∧ codeSimp b c ys zs [g] true ≠ cdOf j) : codeComp a b c xs ys zs f g = 0 := by
 have q0 := h0 0 (by decide)
 have q1 := h0 1 (by decide)
 have q2 := h0 2 (by decide)
 clear h0
 obtain ⟨c1, c2, c3, m1, m2, s1, s2, e1, e2, e3⟩ := cp_key (a := a) (b := b) (c := c) (xs := xs) (ys := ys) (zs := zs) (f := f) (g := g)
 rw [e1, e2] at q0 q1 q2
 rw [e3]
 clear e1 e2 e3
 revert q0 q1 q2
 revert c1 c2 c3 m1 m2 s1 s2
 decide
set_option maxRecDepth 100000 in
set_option maxHeartbeats 4000000 in
theorem specComposeMaps (a : Int) (ku : Value) (xs : List Int) (b : Int) (lu : Value) (ys : List Int) (c : Int) (mu : Value) (zs : List Int) (u : Value) (f : List Int) (v : Value) (g : List Int) (w : World) (hk : ReadI w ku xs) (hl : ReadI w lu ys) (hm : ReadI w mu zs) (hu : ReadI w u f) (hv : ReadI w v g) :
  Calls Tryz.prog 25 #[cx a ku, cx b lu, cx c mu, u, v] w fun e w' => ∃ u, e = .returned (.tuple #[u, .int .i64 (ansComposeMaps a xs b ys c zs f g).2]) ∧ OwnI w.heap.size w' u (ansComposeMaps a xs b ys c zs f g).1 ∧ Below w.heap.size w w' := by
 obtain ⟨w0, hw0⟩ : ∃ w0, w0 = (w.alloc (.cells #[.int .i64 a, ku] 26)).alloc (.cells #[.int .i64 b, lu] 26) := ⟨_, rfl⟩
 obtain ⟨w1, hw1⟩ : ∃ w1, w1 = w0.alloc (.cells #[.int .i64 c, mu] 26) := ⟨_, rfl⟩
 have hs0 : w0.heap.size = w.heap.size + 1 + 1 := by rw [hw0]; simp
 have hB0 : Below w.heap.size w w0 := by rw [hw0]; exact ((Below.refl _ w).alloc (Nat.le_refl _) _).alloc (by simp) _
 have hB1 : Below w0.heap.size w0 w1 := by rw [hw1]; exact Below.alloc (Below.refl _ _) (Nat.le_refl _) _
 have hB : Below w.heap.size w w1 := hB0.trans (hB1.mono hB0.size)
 have c0 : w1.cell? ⟨w.heap.size, 0, none⟩ = some (.int .i64 a) := pw_cell_below hB1 (by rw [hw0]; simp)
 have c1 : w1.cell? ⟨w.heap.size, 1, none⟩ = some ku := pw_cell_below hB1 (by rw [hw0]; simp)
 have c2 : w1.cell? ⟨w.heap.size + 1, 0, none⟩ = some (.int .i64 b) := pw_cell_below hB1 (by rw [hw0]; simp)
 have c3 : w1.cell? ⟨w.heap.size + 1, 1, none⟩ = some lu := pw_cell_below hB1 (by rw [hw0]; simp)
 have c4 : w1.cell? ⟨w.heap.size + 1 + 1, 0, none⟩ = some (.int .i64 c) := by rw [hw1, ← hs0]; simp
 have c5 : w1.cell? ⟨w.heap.size + 1 + 1, 1, none⟩ = some mu := by rw [hw1, ← hs0]; simp
 have HK := Aside0.mk (hk.below hB)
 have HL := Aside0.mk (hl.below hB)
 have HM := Aside0.mk (hm.below hB)
 have HB0 := Aside0.mk hB
 have HB := Aside0.mk (Below.refl w1.heap.size w1)
 have hu1 := hu.below hB
 have hv1 := hv.below hB
 have HU := Aside0.mk hu1
 have HV := Aside0.mk hv1
 obtain ⟨A1, d1, rfl, -⟩ := id hk
 obtain ⟨A2, d2, rfl, -⟩ := id hl
 obtain ⟨A3, d3, rfl, -⟩ := id hm
 obtain ⟨A4, d4, rfl, hcu, hru⟩ := hu1
 obtain ⟨A5, d5, rfl, hcv, hrv⟩ := hv1
 have HRU := Aside0.mk hru
 have HRV := Aside0.mk hrv
 have hlu := hru.2.1
 have st : Stg 0 := ⟨⟩
 have c0a : w0.cell? ⟨w.heap.size, 0, none⟩ = some (.int .i64 a) := by rw [hw0]; simp
 have c1a : w0.cell? ⟨w.heap.size, 1, none⟩ = some (.slice A1 xs.length d1) := by rw [hw0]; simp
 clear hk hl hm hu hv hB hB0 hB1 hs0 hru hrv hcu hcv
 subst hw0
 obtain ⟨q1, hq1⟩ : ∃ q, q = codeSimp a b xs ys [f] true := ⟨_, rfl⟩
 obtain ⟨q2, hq2⟩ : ∃ q, q = codeSimp b c ys zs [g] true := ⟨_, rfl⟩
 have HI : Aside0 (∀ x : Ext w1, Calls Tryz.prog 125 #[cx a (.slice A1 xs.length d1), cx b (.slice A2 ys.length d2), .slice A4 f.length d4] x.1 fun e w' => e = .returned (.int .i64 q1) ∧ Below x.1.heap.size x.1 w') := ⟨fun x => by rw [hq1]; exact specCode a _ xs b _ ys _ f x.1 (HK.out.below x.2) (HL.out.below x.2) (HU.out.below x.2)⟩
 have HJ : Aside0 (∀ x : Ext w1, Calls Tryz.prog 125 #[cx b (.slice A2 ys.length d2), cx c (.slice A3 zs.length d3), .slice A5 g.length d5] x.1 fun e w' => e = .returned (.int .i64 q2) ∧ Below x.1.heap.size x.1 w') := ⟨fun x => by rw [hq2]; exact specCode b _ ys c _ zs _ g x.1 (HL.out.below x.2) (HM.out.below x.2) (HV.out.below x.2)⟩
 have HQ1 := Aside0.mk hq1
 have HQ2 := Aside0.mk hq2
 clear hq1 hq2
 have x0 : ∀ x : Ext w1, x.1.cell? ⟨w.heap.size, 0, none⟩ = some (.int .i64 a) := fun x => Ext.cell c0 x
 have x1 : ∀ x : Ext w1, x.1.cell? ⟨w.heap.size, 1, none⟩ = some (.slice A1 xs.length d1) := fun x => Ext.cell c1 x
 have x2 : ∀ x : Ext w1, x.1.cell? ⟨w.heap.size + 1, 0, none⟩ = some (.int .i64 b) := fun x => Ext.cell c2 x
 have x3 : ∀ x : Ext w1, x.1.cell? ⟨w.heap.size + 1, 1, none⟩ = some (.slice A2 ys.length d2) := fun x => Ext.cell c3 x
 have x4 : ∀ x : Ext w1, x.1.cell? ⟨w.heap.size + 1 + 1, 0, none⟩ = some (.int .i64 c) := fun x => Ext.cell c4 x
 have x5 : ∀ x : Ext w1, x.1.cell? ⟨w.heap.size + 1 + 1, 1, none⟩ = some (.slice A3 zs.length d3) := fun x => Ext.cell c5 x
 go_enter Tryz.func25, Tryz.ntmps25
 go_wp2
 rw [← hw1]
 clear hw1 c0a c1a
 refine wp_region_ext (by kernel_rfl) (by kernel_rfl) ?_
 repeat (go_big_quiet_step ((first | (go_at_call 125; with_reducible exact Calls.ext_of (HI.out _)) | (go_at_call 125; with_reducible exact Calls.ext_of (HJ.out _)))))
 refine wpQuiet_nil ?_
 rintro _ ⟨x, rfl⟩
 clear x0 x1 x2 x3 x4 x5 HI HJ
 have HB2 := Aside0.mk x.2
 obtain ⟨w2, hw2⟩ : ∃ w2, w2 = x.1 := ⟨_, rfl⟩
 rw [← hw2] at HB2 ⊢
 clear hw2 x
 go_wp2
 obtain ⟨w3, hw3⟩ : ∃ w3, w3 = w2.alloc (Obj.cells #[.int .i64 1, .int .i64 2, .int .i64 5] 2) := ⟨_, rfl⟩
 have hb3 : Below w2.heap.size w2 w3 := by rw [hw3]; exact Below.alloc (Below.refl _ _) (Nat.le_refl _) _
 have HCD : Aside0 (∀ i, i < 3 → w3.cell? ⟨w2.heap.size, i, none⟩ = some (.int .i64 (cdOf i))) := ⟨fun i hi => by
  rw [hw3, blk_cell (blk_new _ _) i]
  match i, hi with
  | 0, _ => rfl
  | 1, _ => rfl
  | 2, _ => rfl⟩
 rw [← hw3]
 clear hw3
 have HB3 := Aside0.mk (HB2.out.trans (hb3.mono HB2.out.size))
 clear hb3
 go_loopw [28] (fun s wr => ∃ i : Nat, s = .int .i64 i ∧ i ≤ 3 ∧ Aside0 (∀ j, j < i → q1 ≠ cdOf j ∧ q2 ≠ cdOf j) ∧ wr = w3) (fun s _ => 3 - (intOf s).toNat)
 case atStart => exact ⟨0, rfl, Nat.zero_le _, ⟨fun j hj => absurd hj (Nat.not_lt_zero _)⟩, rfl⟩
 case round =>
  obtain ⟨i, rfl, hi, HJ, rfl⟩ := hrel
  by_cases hlt : i < 3
  ·have hcell := HCD.out i hlt
   have HF : Aside0 (q1 = cdOf i ∨ q2 = cdOf i → ansComposeMaps a xs b ys c zs f g = ([], cdOf i)) := ⟨fun h => cp_first hlt (by rw [← HQ1.out, ← HQ2.out]; exact HJ.out) (by rw [← HQ1.out, ← HQ2.out]; exact h)⟩
   have HCI : Aside0 (∀ c, c = cdOf i → q1 ≠ c ∧ q2 ≠ c → ∀ j, j < i + 1 → q1 ≠ cdOf j ∧ q2 ≠ cdOf j) := ⟨fun c hc h j hj => by
    rcases Nat.lt_succ_iff_lt_or_eq.1 hj with h2 | rfl
    ·exact HJ.out j h2
    ·rw [← hc]; exact h⟩
   obtain ⟨cc, hcc⟩ : ∃ cc, cc = cdOf i := ⟨_, rfl⟩
   rw [← hcc] at hcell HF
   have HCC := Aside0.mk hcc
   clear hcc
   by_cases h1 : q1 = cc
   ·have hb1 : (q1 == cc) = true := by simpa using h1
    have HH := Aside0.mk h1
    clear h1
    go_wp2
    go_ret2
    exact ⟨_, by rw [HF.out (.inl HH.out)]; rfl, by rw [HF.out (.inl HH.out)]; exact OwnI.nil _ _, HB0.out.trans (HB3.out.mono HB0.out.size)⟩
   ·have hb1 : (q1 == cc) = false := by simpa using h1
    by_cases h2 : q2 = cc
    ·have hb2 : (q2 == cc) = true := by simpa using h2
     have HH := Aside0.mk h2
     clear h1 h2
     go_wp2
     go_ret2
     exact ⟨_, by rw [HF.out (.inr HH.out)]; rfl, by rw [HF.out (.inr HH.out)]; exact OwnI.nil _ _, HB0.out.trans (HB3.out.mono HB0.out.size)⟩
    ·have hb2 : (q2 == cc) = false := by simpa using h2
     have HH := Aside0.mk (And.intro h1 h2)
     clear h1 h2
     go_wp2
     go_roundw
     case rel => exact ⟨i + 1, by go_num, by omega, ⟨HCI.out cc HCC.out HH.out⟩, trivial⟩
     case measure => simp [intOf]; omega
  ·have h0 : codeComp a b c xs ys zs f g = 0 := cp_none (by rw [← HQ1.out, ← HQ2.out]; exact fun j hj => HJ.out j (by omega))
   have HA : Aside0 (ansComposeMaps a xs b ys c zs f g = (f.map (goTo g), 0)) := ⟨by unfold ansComposeMaps; rw [if_pos h0]⟩
   obtain ⟨n, m, k, rfl, rfl, rfl, hcn, hcm, hf1, hg1⟩ : ∃ n m k : Nat, a = n ∧ b = m ∧ c = k ∧ Cx n xs ∧ Cx m ys ∧ Mp n m f ∧ Mp m k g := by
    unfold codeComp at h0
    split at h0
    ·next h1 =>
     split at h0
     ·next h2 =>
      simp only [Bool.and_eq_true] at h1 h2
      obtain ⟨n, rfl, hn, -⟩ := cxOk_cx h1.1.1
      obtain ⟨m, rfl, hm, -⟩ := cxOk_cx h1.1.2
      obtain ⟨k, rfl, hk, -⟩ := cxOk_cx h1.2
      have e1 := mapOk_mp h2.1
      have e2 := mapOk_mp h2.2
      simp only [Int.toNat_natCast] at e1 e2
      exact ⟨n, m, k, rfl, rfl, rfl, hn, hm, e1, e2⟩
     ·cases h0
    ·cases h0
   have HN := Aside0.mk hcn
   have HC := Aside0.mk hcm
   have HF := Aside0.mk hf1
   have HG := Aside0.mk hg1
   clear hcn hcm hf1 hg1 h0
   go_wp2
   obtain ⟨wa, rfl⟩ : ∃ wa, wa = wr := ⟨_, rfl⟩
   go_loopw [16, 17] (fun s16 s17 wr => ∃ i : Nat, s17 = .int .i64 i ∧ i ≤ f.length ∧ Aside0 (OwnI w1.heap.size wr s16 ((f.take i).map (goTo g))) ∧ Aside0 (Below w1.heap.size w1 wr)) (fun s16 s17 _ => f.length - (intOf s17).toNat)
   case atStart => exact ⟨0, rfl, Nat.zero_le _, ⟨(OwnI.empty _ (Nat.le_refl _)).lower HB3.out.size⟩, ⟨HB3.out.alloc HB3.out.size _⟩⟩
   case round =>
    obtain ⟨i, rfl, hi, HO, HBw⟩ := hrel
    have hlf : f.length ≤ 6 := by rw [HF.out.len]; exact HN.out.hi
    by_cases hlt : i < f.length
    ·obtain ⟨ad, y, rfl, hcell, HY⟩ := ReadI.get (Kd.C_below HRU.out HBw.out) hlt
     have hy := HF.out.bd y (mem_at hlt HY.out)
     obtain ⟨p, rfl⟩ : ∃ p : Nat, y = p := ⟨y.toNat, by omega⟩
     have hp : p < g.length := by rw [HG.out.len]; omega
     obtain ⟨ad2, z, rfl, hcell2, HZ⟩ := ReadI.get (Kd.C_below HRV.out HBw.out) hp
     have HT : Aside0 ((f.take (i + 1)).map (goTo g) = (f.take i).map (goTo g) ++ [z]) := ⟨by rw [map_take (goTo g) hlt HY.out]; unfold goTo; rw [Int.toNat_natCast, HZ.out]⟩
     have hll : ((f.take i).map (goTo g)).length ≤ 63 := by rw [List.length_map, List.length_take]; omega
     have hlg : g.length ≤ 6 := by rw [HG.out.len]; exact HC.out.hi
     clear hy
     go_wp2_with (first | (at_builtin; refine app_own (w0 := w1) w1.heap.size rfl (.tmp 49) (.tmp 57) rfl _ ((f.take i).map (goTo g)) z rfl rfl HO.out HBw.out HBw.out.size ?hl ?_; (case hl => omega); intro v1 w6 ho hb hg hat; have HO1 := Aside0.mk ho; have HB1 := Aside0.mk hb; clear ho hb hg hat))
     go_roundw
     case rel => exact ⟨i + 1, by go_num, by omega, ⟨by rw [HT.out]; exact HO1.out⟩, HB1⟩
     case measure => simp [intOf]; omega
    ·have e : i = f.length := by omega
     have HE := Aside0.mk e
     clear e
     go_wp2
     go_ret2
     exact ⟨_, by rw [HA.out]; rfl, by have := HO.out; rw [HE.out, List.take_length] at this; rw [HA.out]; exact this.lower HB0.out.size, HB0.out.trans (HBw.out.mono HB0.out.size)⟩
/-- both images of a face lie in one -/
def contAt (ys f g : List Int) (x : Int) : Bool := decide (((img x.toNat f ||| img x.toNat g : Nat) : Int) ∈ ys)
/-- what AreContiguous answers -/
def ansAreContiguous (a : Int) (xs : List Int) (b : Int) (ys f g : List Int) : Bool × Int :=
 if codeSimp a b xs ys [f, g] true = 0 then (xs.all (contAt ys f g), 0) else (false, codeSimp a b xs ys [f, g] true)
theorem codeSimp_zero {a b : Int} {xs ys : List Int} {fs : List (List Int)} {r : Bool} (h : codeSimp a b xs ys fs r = 0) : ∃ n m : Nat, a = n ∧ b = m ∧ Cx n xs ∧ Cx m ys ∧ (∀ f ∈ fs, Mp n m f) ∧ (∀ f ∈ fs, simpOk xs ys f = true) ∧ r = true := by
 by_cases h0 : codeMap a b xs ys fs r = 0
 ·obtain ⟨n, m, rfl, rfl, h1, h2, h3, h4, h5⟩ := codeMap_zero h0
  refine ⟨n, m, rfl, rfl, h1, h2, h3, ?_, h4⟩
  rw [h5] at h
  split at h
  ·next h6 => exact List.all_eq_true.1 h6
  ·cases h
 ·rw [codeSimp_map h0] at h
  exact absurd h h0
theorem img_lt {f : Nat} {p : List Int} (hp : ∀ x ∈ p, 0 ≤ x ∧ x ≤ 5) : img f p < 64 := imgTo_lt hp _
set_option maxHeartbeats 2000000 in
theorem areCont1 (w : World) (bl bf bg : Nat) (n m : Nat) (lu u v : Value) (ys f g : List Int) (hn : n ≤ 6) (hl : ReadI w lu ys) (hu : ReadI w u f) (hv : ReadI w v g) (hc : Cx m ys) (hf : Mp n m f) (hg : Mp n m g) (h0 : w.cell? ⟨bl, 0, none⟩ = some (.int .i64 m)) (h1 : w.cell? ⟨bl, 1, none⟩ = some lu) (h2 : w.cell? ⟨bf, 0, none⟩ = some u) (h3 : w.cell? ⟨bg, 0, none⟩ = some v) :
  PredI w (.func (.func 141) #[] #[.pointer (some ⟨bl, 0, none⟩), .pointer (some ⟨bf, 0, none⟩), .pointer (some ⟨bg, 0, none⟩)]) (contAt ys f g) (fun x => 0 ≤ x ∧ x < ((2 ^ n : Nat) : Int)) := by
 refine ⟨_, _, _, rfl, Enters.mk' Tryz.func141 rfl rfl, fun w1 x hb hx => ?_⟩
 obtain ⟨z, rfl⟩ : ∃ z : Nat, x = z := ⟨x.toNat, by omega⟩
 have hz1 : z < 2 ^ f.length := by rw [hf.len]; omega
 have hz2 : z < 2 ^ g.length := by rw [hg.len]; omega
 have c0 := pw_cell_below hb h0
 have c1 := pw_cell_below hb h1
 have c2 := pw_cell_below hb h2
 have c3 := pw_cell_below hb h3
 have HL := Aside0.mk (hl.below hb)
 have HU := Aside0.mk (hu.below hb)
 have HV := Aside0.mk (hv.below hb)
 obtain ⟨A1, d1, rfl, -⟩ := id hl
 obtain ⟨A2, d2, rfl, -⟩ := id hu
 obtain ⟨A3, d3, rfl, -⟩ := id hv
 have hlf : f.length ≤ 6 := by rw [hf.len]; exact hn
 have hlg : g.length ≤ 6 := by rw [hg.len]; exact hn
 have HI : Aside0 (∀ x : Ext w1, Calls Tryz.prog 124 #[.int .i64 z, .slice A2 f.length d2] x.1 fun e w' => e = .returned (.int .i64 (img z f : Nat)) ∧ Below x.1.heap.size x.1 w') := ⟨fun x => imageOf z _ f x.1 (HU.out.below x.2) hlf hz1 (hf.bd5 hc.hi)⟩
 have HJ : Aside0 (∀ x : Ext w1, Calls Tryz.prog 124 #[.int .i64 z, .slice A3 g.length d3] x.1 fun e w' => e = .returned (.int .i64 (img z g : Nat)) ∧ Below x.1.heap.size x.1 w') := ⟨fun x => imageOf z _ g x.1 (HV.out.below x.2) hlg hz2 (hg.bd5 hc.hi)⟩
 have HH : Aside0 (∀ x : Ext w1, Calls Tryz.prog 129 #[cx m (.slice A1 ys.length d1), .int .i64 ((img z f ||| img z g : Nat) : Int)] x.1 fun e w' => e = .returned (.bool (contAt ys f g z)) ∧ Below x.1.heap.size x.1 w') := ⟨fun x => has m _ ys _ x.1 (HL.out.below x.2) hc.asc (by have := hc.len; omega)⟩
 have x0 : ∀ x : Ext w1, x.1.cell? ⟨bl, 0, none⟩ = some (.int .i64 m) := fun x => Ext.cell c0 x
 have x1 : ∀ x : Ext w1, x.1.cell? ⟨bl, 1, none⟩ = some (.slice A1 ys.length d1) := fun x => Ext.cell c1 x
 have x2 : ∀ x : Ext w1, x.1.cell? ⟨bf, 0, none⟩ = some (.slice A2 f.length d2) := fun x => Ext.cell c2 x
 have x3 : ∀ x : Ext w1, x.1.cell? ⟨bg, 0, none⟩ = some (.slice A3 g.length d3) := fun x => Ext.cell c3 x
 have l1 := img_lt (f := z) (hf.bd5 hc.hi)
 have l2 := img_lt (f := z) (hg.bd5 hc.hi)
 have hor := or_i64 (img z f) (img z g) (by omega) (by omega)
 clear hb h0 h1 h2 h3 hx hl hu hv hc hf hg c0 c1 c2 c3 hz1 hz2 hlf hlg HL HU HV l1 l2
 generalize contAt ys f g z = r at *
 generalize img z f ||| img z g = t at *
 generalize img z f = t1 at *
 generalize img z g = t2 at *
 show Calls _ _ #[_, _, _, _] _ _
 go_enter Tryz.func141, Tryz.ntmps141
 go_wp2
 refine wp_region_ext (by kernel_rfl) (by kernel_rfl) ?_
 repeat (go_big_quiet_step ((first | (go_at_call 124; with_reducible exact Calls.ext_of (HI.out _)) | (go_at_call 124; with_reducible exact Calls.ext_of (HJ.out _)) | (go_at_call 129; exact Calls.ext_of (HH.out _)))))
 refine wpQuiet_nil ?_
 rintro _ ⟨x, rfl⟩
 have hbx := x.2
 go_wp2
 go_ret
 exact ⟨rfl, by (repeat (first | (with_reducible exact Below.refl _ _) | (with_reducible assumption) | (with_reducible refine below_step ?_ (by assumption)) | (with_reducible apply below_alloc) | (with_reducible apply below_drewN)))⟩
theorem ReadS.two {W : World} {u v : Value} {f g : List Int} (h : ReadI W u f) (h' : ReadI W v g) : ReadS (W.alloc (.cells #[u, v] 24)) (.slice (some ⟨W.heap.size, 0, none⟩) 2 2) [f, g] := by
 have hb : Below W.heap.size W (W.alloc (.cells #[u, v] 24)) := Below.alloc (Below.refl _ _) (Nat.le_refl _) _
 refine ⟨_, 2, rfl, by simp, fun i xs hi => ?_⟩
 match i, hi with
 | 0, hi =>
  simp at hi
  subst hi
  exact ⟨_, u, rfl, by rw [add_mk]; exact blk_cell (blk_new W _) 0, h.below hb⟩
 | 1, hi =>
  simp at hi
  subst hi
  exact ⟨_, v, rfl, by rw [add_mk]; exact blk_cell (blk_new W _) 1, h'.below hb⟩
set_option maxHeartbeats 2000000 in
theorem implAreContiguous (a : Int) (ku : Value) (xs : List Int) (b : Int) (lu : Value) (ys : List Int) (u : Value) (f : List Int) (v : Value) (g : List Int) (w : World) (hk : ReadI w ku xs) (hl : ReadI w lu ys) (hu : ReadI w u f) (hv : ReadI w v g) :
  Calls Tryz.prog 18 #[cx a ku, cx b lu, u, v] w fun e w' => e = .returned (.tuple #[.bool (ansAreContiguous a xs b ys f g).1, .int .i64 (ansAreContiguous a xs b ys f g).2]) ∧ Below w.heap.size w w' := by
 obtain ⟨w0, hw0⟩ : ∃ w0, w0 = (w.alloc (.cells #[.int .i64 a, ku] 26)).alloc (.cells #[.int .i64 b, lu] 26) := ⟨_, rfl⟩
 obtain ⟨w1, hw1⟩ : ∃ w1, w1 = (w0.alloc (.cells #[u] 24)).alloc (.cells #[v] 24) := ⟨_, rfl⟩
 obtain ⟨w2, hw2⟩ : ∃ w2, w2 = w1.alloc (.cells #[u, v] 24) := ⟨_, rfl⟩
 have hs0 : w0.heap.size = w.heap.size + 1 + 1 := by rw [hw0]; simp
 have hs1 : w1.heap.size = w.heap.size + 1 + 1 + 1 + 1 := by rw [hw1]; simp [hs0]
 have hB0 : Below w.heap.size w w0 := by rw [hw0]; exact ((Below.refl _ w).alloc (Nat.le_refl _) _).alloc (by simp) _
 have hB1 : Below w0.heap.size w0 w1 := by rw [hw1]; exact ((Below.refl _ w0).alloc (Nat.le_refl _) _).alloc (by simp) _
 have hB2 : Below w1.heap.size w1 w2 := by rw [hw2]; exact Below.alloc (Below.refl _ _) (Nat.le_refl _) _
 have hB02 : Below w0.heap.size w0 w2 := hB1.trans (hB2.mono hB1.size)
 have hB : Below w.heap.size w w2 := hB0.trans (hB02.mono hB0.size)
 have c0 : w2.cell? ⟨w.heap.size, 0, none⟩ = some (.int .i64 a) := pw_cell_below hB02 (by rw [hw0]; simp)
 have c1 : w2.cell? ⟨w.heap.size, 1, none⟩ = some ku := pw_cell_below hB02 (by rw [hw0]; simp)
 have c2 : w2.cell? ⟨w.heap.size + 1, 0, none⟩ = some (.int .i64 b) := pw_cell_below hB02 (by rw [hw0]; simp)
 have c3 : w2.cell? ⟨w.heap.size + 1, 1, none⟩ = some lu := pw_cell_below hB02 (by rw [hw0]; simp)
 have c4 : w2.cell? ⟨w.heap.size + 1 + 1, 0, none⟩ = some u := pw_cell_below hB2 (by rw [hw1, ← hs0]; simp)
 have c5 : w2.cell? ⟨w.heap.size + 1 + 1 + 1, 0, none⟩ = some v := pw_cell_below hB2 (by rw [hw1, ← hs0]; simp)
 have c4a : w1.cell? ⟨w.heap.size + 1 + 1, 0, none⟩ = some u := by rw [hw1, ← hs0]; simp
 have c5a : w1.cell? ⟨w.heap.size + 1 + 1 + 1, 0, none⟩ = some v := by rw [hw1, ← hs0]; simp
 have c0a : w1.cell? ⟨w.heap.size, 0, none⟩ = some (.int .i64 a) := pw_cell_below hB1 (by rw [hw0]; simp)
 have c1a : w1.cell? ⟨w.heap.size, 1, none⟩ = some ku := pw_cell_below hB1 (by rw [hw0]; simp)
 have c2a : w1.cell? ⟨w.heap.size + 1, 0, none⟩ = some (.int .i64 b) := pw_cell_below hB1 (by rw [hw0]; simp)
 have c3a : w1.cell? ⟨w.heap.size + 1, 1, none⟩ = some lu := pw_cell_below hB1 (by rw [hw0]; simp)
 have HK := Aside0.mk (hk.below hB)
 have HL := Aside0.mk (hl.below hB)
 have HU := Aside0.mk (hu.below hB)
 have HV := Aside0.mk (hv.below hB)
 have HS := Aside0.mk (ReadS.two ((hu.below hB0).below hB1) ((hv.below hB0).below hB1))
 rw [← hw2, hs1] at HS
 have HB := Aside0.mk hB
 obtain ⟨A1, d1, rfl, -⟩ := id hk
 obtain ⟨A2, d2, rfl, -⟩ := id hl
 obtain ⟨A3, d3, rfl, -⟩ := id hu
 obtain ⟨A4, d4, rfl, -⟩ := id hv
 have HM := Aside0.mk (simplicialCode a b _ _ xs ys _ _ true [f, g] w2 HK.out HL.out (fun _ _ => alwaysB w2) ⟨_, _, _, rfl⟩ HS.out)
 clear hk hl hu hv hB hB0 hB1 hB2 hB02
 subst hw0
 by_cases h0 : codeSimp a b xs ys [f, g] true = 0
 ·obtain ⟨n, m, rfl, rfl, hcn, hcm, hmp, -, -⟩ := codeSimp_zero h0
  have HA : Aside0 (ansAreContiguous n xs m ys f g = (xs.all (contAt ys f g), 0)) := ⟨by unfold ansAreContiguous; rw [if_pos h0]⟩
  have HN := Aside0.mk hcn
  have HC := Aside0.mk hcm
  have HF := Aside0.mk (hmp f (by simp))
  have HG := Aside0.mk (hmp g (by simp))
  have HD : Aside0 (∀ x ∈ xs, 0 ≤ x ∧ x < ((2 ^ n : Nat) : Int)) := ⟨fun x hx => by have := hcn.bd x hx; omega⟩
  clear hcn hcm hmp
  go_enter Tryz.func18, Tryz.ntmps18
  go_wp2_with (first | (go_at_call 118; rw [← hw1, ← hw2]; clear hw1 hw2 c0a c1a c2a c3a c4a c5a; refine HM.out.mono ?_; rintro e w3 ⟨rfl, hb⟩; rw [h0]; have c0 := pw_cell_below hb c0; have c1 := pw_cell_below hb c1; have c2 := pw_cell_below hb c2; have c3 := pw_cell_below hb c3; have c4 := pw_cell_below hb c4; have c5 := pw_cell_below hb c5; have HB3 := Aside0.mk hb; clear hb; have HP := Aside0.mk (areCont1 _ _ _ _ n m _ _ _ ys f g HN.out.hi (HL.out.below HB3.out) (HU.out.below HB3.out) (HV.out.below HB3.out) HC.out HF.out HG.out c2 c3 c4 c5)) | (go_at_call 138; refine (areAll _ _ _ _ _ _ (HK.out.below HB3.out) HP.out HD.out).mono ?_; rintro e w4 ⟨rfl, hb4⟩))
  go_ret2
  exact ⟨by rw [HA.out]; rfl, by have := HB.out; have := HB3.out; (repeat (first | (with_reducible exact Below.refl _ _) | (with_reducible assumption) | (with_reducible refine below_step ?_ (by assumption)) | (with_reducible apply below_alloc) | (with_reducible apply below_drewN)))⟩
 ·obtain ⟨q, hq⟩ : ∃ q, q = codeSimp a b xs ys [f, g] true := ⟨_, rfl⟩
  have HA : Aside0 (ansAreContiguous a xs b ys f g = (false, q)) := ⟨by unfold ansAreContiguous; rw [if_neg h0, hq]⟩
  rw [← hq] at h0
  have hqb : (q != 0) = true := by simpa using h0
  have HQ := Aside0.mk hq
  clear hq h0
  go_enter Tryz.func18, Tryz.ntmps18
  go_wp2_with (first | (go_at_call 118; rw [← hw1, ← hw2]; clear hw1 hw2 c0a c1a c2a c3a c4a c5a; refine HM.out.mono ?_; rintro e w3 ⟨rfl, hb⟩; rw [← HQ.out]))
  go_ret2
  exact ⟨by rw [HA.out]; rfl, by have := HB.out; (repeat (first | (with_reducible exact Below.refl _ _) | (with_reducible assumption) | (with_reducible refine below_step ?_ (by assumption)) | (with_reducible apply below_alloc) | (with_reducible apply below_drewN)))⟩
end Go.Proofs.YtomofijniefelaaGreat.H
