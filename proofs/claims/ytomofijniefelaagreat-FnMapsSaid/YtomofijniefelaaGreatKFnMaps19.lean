/- AreContiguous of the reference. IsMap of the program and of the reference. Rows of pairs: what is said of them; the laws' eqPairS. Lists of pairs that are alike: laws.pairs9. -/
import Derived.Laws.StructEq
import Derived.Test.YtomofijniefelaaGreatKFnMaps1
import Derived.Test.YtomofijniefelaaGreatKFnMaps2
import Derived.Test.YtomofijniefelaaGreatKFnMaps3
import Derived.Test.YtomofijniefelaaGreatKFnMaps4
import Derived.Test.YtomofijniefelaaGreatKFnMaps5
import Derived.Test.YtomofijniefelaaGreatKFnMaps6
import Derived.Test.YtomofijniefelaaGreatKFnMaps7
import Derived.Test.YtomofijniefelaaGreatKFnMaps8
import Derived.Test.YtomofijniefelaaGreatKFnMaps9
import Derived.Test.YtomofijniefelaaGreatKFnMaps10
import Derived.Test.YtomofijniefelaaGreatKFnMaps11
import Derived.Test.YtomofijniefelaaGreatKFnMaps12
import Derived.Test.YtomofijniefelaaGreatKFnMaps13
import Derived.Test.YtomofijniefelaaGreatKFnMaps14
import Derived.Test.YtomofijniefelaaGreatKFnMaps15
import Derived.Test.YtomofijniefelaaGreatKFnMaps16
import Derived.Test.YtomofijniefelaaGreatKFnMaps17
import Derived.Test.YtomofijniefelaaGreatKFnMaps18

namespace Go.Proofs.YtomofijniefelaaGreat.H
open Go.RowKit Go.Proofs.YtomofijniefelaaGreatW.PrintWords Go.Proofs.YtomofijniefelaaGreatW.PrintLast
set_option linter.unusedVariables false
set_option linter.unusedSimpArgs false
/-- the code at a place of [1, 2, 5] -/
def cdAt (i : Nat) : Int := if i = 0 then 1 else if i = 1 then 2 else 5
/-- the first code of [1, 2, 5] that one of two has -/
theorem cd_first {a b : Int} {xs ys f g : List Int} {i : Nat} (hi : i < 3) (h0 : ∀ j, j < i → codeSimp a b xs ys [f] true ≠ cdAt j ∧ codeSimp a b xs ys [g] true ≠ cdAt j) (h1 : codeSimp a b xs ys [f] true = cdAt i ∨ codeSimp a b xs ys [g] true = cdAt i) :
  ansAreContiguous a xs b ys f g = (false, cdAt i) := by
 have key : codeSimp a b xs ys [f, g] true = cdAt i := by
  unfold codeSimp at h0 h1 ⊢
  cases hc : (cxOk a xs && cxOk b ys) with
  | false =>
   rw [hc] at h0 h1
   simp only [Bool.false_eq_true, if_false] at h0 h1 ⊢
   match i, hi with
   | 0, _ => rfl
   | 1, _ => exact absurd rfl (h0 0 (by decide)).1
   | 2, _ => exact absurd rfl (h0 0 (by decide)).1
  | true =>
   rw [hc] at h0 h1
   simp only [if_true, List.all_cons, List.all_nil, Bool.and_true] at h0 h1 ⊢
   generalize mapOk a.toNat b.toNat f = m1 at *
   generalize mapOk a.toNat b.toNat g = m2 at *
   generalize simpOk xs ys f = s1 at *
   generalize simpOk xs ys g = s2 at *
   match i, hi with
   | 0, _ => revert h1; revert m1 m2 s1 s2; intro m1 m2 s1 s2 _; revert m1 m2 s1 s2; decide
   | 1, _ =>
    have := h0 0 (by decide)
    revert this h1
    clear h0
    revert m1 m2 s1 s2
    decide
   | 2, _ =>
    have h2 := h0 0 (by decide)
    have h3 := h0 1 (by decide)
    revert h2 h3 h1
    clear h0
    revert m1 m2 s1 s2
    decide
 unfold ansAreContiguous
 rw [key, if_neg]
 unfold cdAt
 split
 ·decide
 ·split <;> decide
theorem cd_none {a b : Int} {xs ys f g : List Int} (h0 : ∀ j, j < 3 → codeSimp a b xs ys [f] true ≠ cdAt j ∧ codeSimp a b xs ys [g] true ≠ cdAt j) : codeSimp a b xs ys [f, g] true = 0 := by
 have e0 := h0 0 (by decide)
 have e1 := h0 1 (by decide)
 have e2 := h0 2 (by decide)
 clear h0
 unfold codeSimp at *
 cases hc : (cxOk a xs && cxOk b ys) with
 | false => rw [hc] at e0; exact absurd rfl e0.1
 | true =>
  rw [hc] at e0 e1 e2
  simp only [if_true, List.all_cons, List.all_nil, Bool.and_true] at e0 e1 e2 ⊢
  generalize mapOk a.toNat b.toNat f = m1 at *
  generalize mapOk a.toNat b.toNat g = m2 at *
  generalize simpOk xs ys f = s1 at *
  generalize simpOk xs ys g = s2 at *
  revert e0 e1 e2
  revert m1 m2 s1 s2
  decide
set_option maxHeartbeats 4000000 in
theorem specAreContiguous (a : Int) (ku : Value) (xs : List Int) (b : Int) (lu : Value) (ys : List Int) (u : Value) (f : List Int) (v : Value) (g : List Int) (w : World) (hk : ReadI w ku xs) (hl : ReadI w lu ys) (hu : ReadI w u f) (hv : ReadI w v g) :
  Calls Tryz.prog 28 #[cx a ku, cx b lu, u, v] w fun e w' => e = .returned (.tuple #[.bool (ansAreContiguous a xs b ys f g).1, .int .i64 (ansAreContiguous a xs b ys f g).2]) ∧ Below w.heap.size w w' := by
 obtain ⟨w1, hw1⟩ : ∃ w1, w1 = (w.alloc (.cells #[.int .i64 a, ku] 26)).alloc (.cells #[.int .i64 b, lu] 26) := ⟨_, rfl⟩
 have hB : Below w.heap.size w w1 := by rw [hw1]; exact ((Below.refl _ w).alloc (Nat.le_refl _) _).alloc (by simp) _
 have c0 : w1.cell? ⟨w.heap.size, 0, none⟩ = some (.int .i64 a) := by rw [hw1]; simp
 have c1 : w1.cell? ⟨w.heap.size, 1, none⟩ = some ku := by rw [hw1]; simp
 have c2 : w1.cell? ⟨w.heap.size + 1, 0, none⟩ = some (.int .i64 b) := by rw [hw1]; simp
 have c3 : w1.cell? ⟨w.heap.size + 1, 1, none⟩ = some lu := by rw [hw1]; simp
 have hk1 := hk.below hB
 have HK := Aside0.mk hk1
 have HL := Aside0.mk (hl.below hB)
 have HU := Aside0.mk (hu.below hB)
 have HV := Aside0.mk (hv.below hB)
 have HB := Aside0.mk hB
 obtain ⟨A2, d2, rfl, -⟩ := id hl
 obtain ⟨A3, d3, rfl, -⟩ := id hu
 obtain ⟨A4, d4, rfl, -⟩ := id hv
 obtain ⟨A1, d1, rfl, hc, hr⟩ := hk1
 have HR := Aside0.mk hr
 have hlen := hr.2.1
 clear hk hl hu hv hB hr
 obtain ⟨q1, hq1⟩ : ∃ q, q = codeSimp a b xs ys [f] true := ⟨_, rfl⟩
 obtain ⟨q2, hq2⟩ : ∃ q, q = codeSimp a b xs ys [g] true := ⟨_, rfl⟩
 have HI : Aside0 (∀ x : Ext w1, Calls Tryz.prog 125 #[cx a (.slice A1 xs.length d1), cx b (.slice A2 ys.length d2), .slice A3 f.length d3] x.1 fun e w' => e = .returned (.int .i64 q1) ∧ Below x.1.heap.size x.1 w') := ⟨fun x => by rw [hq1]; exact specCode a _ xs b _ ys _ f x.1 (HK.out.below x.2) (HL.out.below x.2) (HU.out.below x.2)⟩
 have HJ : Aside0 (∀ x : Ext w1, Calls Tryz.prog 125 #[cx a (.slice A1 xs.length d1), cx b (.slice A2 ys.length d2), .slice A4 g.length d4] x.1 fun e w' => e = .returned (.int .i64 q2) ∧ Below x.1.heap.size x.1 w') := ⟨fun x => by rw [hq2]; exact specCode a _ xs b _ ys _ g x.1 (HK.out.below x.2) (HL.out.below x.2) (HV.out.below x.2)⟩
 have HQ1 := Aside0.mk hq1
 have HQ2 := Aside0.mk hq2
 clear hq1 hq2
 have x0 : ∀ x : Ext w1, x.1.cell? ⟨w.heap.size, 0, none⟩ = some (.int .i64 a) := fun x => Ext.cell c0 x
 have x1 : ∀ x : Ext w1, x.1.cell? ⟨w.heap.size, 1, none⟩ = some (.slice A1 xs.length d1) := fun x => Ext.cell c1 x
 have x2 : ∀ x : Ext w1, x.1.cell? ⟨w.heap.size + 1, 0, none⟩ = some (.int .i64 b) := fun x => Ext.cell c2 x
 have x3 : ∀ x : Ext w1, x.1.cell? ⟨w.heap.size + 1, 1, none⟩ = some (.slice A2 ys.length d2) := fun x => Ext.cell c3 x
 go_enter Tryz.func28, Tryz.ntmps28
 go_wp2
 rw [← hw1]
 clear hw1
 refine wp_region_ext (by kernel_rfl) (by kernel_rfl) ?_
 repeat (go_big_quiet_step ((first | (go_at_call 125; with_reducible exact Calls.ext_of (HI.out _)) | (go_at_call 125; with_reducible exact Calls.ext_of (HJ.out _)))))
 refine wpQuiet_nil ?_
 rintro _ ⟨x, rfl⟩
 clear x0 x1 x2 x3 HI HJ
 have c0 := pw_cell_below x.2 c0
 have c1 := pw_cell_below x.2 c1
 have c2 := pw_cell_below x.2 c2
 have c3 := pw_cell_below x.2 c3
 have HB2 := Aside0.mk x.2
 obtain ⟨w2, hw2⟩ : ∃ w2, w2 = x.1 := ⟨_, rfl⟩
 rw [← hw2] at c0 c1 c2 c3 HB2 ⊢
 clear hw2 x
 go_wp2
 obtain ⟨w3, hw3⟩ : ∃ w3, w3 = w2.alloc (Obj.cells #[.int .i64 1, .int .i64 2, .int .i64 5] 2) := ⟨_, rfl⟩
 have hb3 : Below w2.heap.size w2 w3 := by rw [hw3]; exact Below.alloc (Below.refl _ _) (Nat.le_refl _) _
 have HCD : Aside0 (∀ i, i < 3 → w3.cell? ⟨w2.heap.size, i, none⟩ = some (.int .i64 (cdAt i))) := ⟨fun i hi => by
  rw [hw3, blk_cell (blk_new _ _) i]
  match i, hi with
  | 0, _ => rfl
  | 1, _ => rfl
  | 2, _ => rfl⟩
 rw [← hw3]
 clear hw3
 have c0 := pw_cell_below hb3 c0
 have c1 := pw_cell_below hb3 c1
 have c2 := pw_cell_below hb3 c2
 have c3 := pw_cell_below hb3 c3
 have HB3 := Aside0.mk (HB2.out.trans (hb3.mono HB2.out.size))
 clear hb3
 go_loopw [25] (fun s wr => ∃ i : Nat, s = .int .i64 i ∧ i ≤ 3 ∧ Aside0 (∀ j, j < i → q1 ≠ cdAt j ∧ q2 ≠ cdAt j) ∧ wr = w3) (fun s _ => 3 - (intOf s).toNat)
 case atStart => exact ⟨0, rfl, Nat.zero_le _, ⟨fun j hj => absurd hj (Nat.not_lt_zero _)⟩, rfl⟩
 case round =>
  obtain ⟨i, rfl, hi, HJ, rfl⟩ := hrel
  by_cases hlt : i < 3
  ·have hcell := HCD.out i hlt
   have HF : Aside0 (q1 = cdAt i ∨ q2 = cdAt i → ansAreContiguous a xs b ys f g = (false, cdAt i)) := ⟨fun h => cd_first hlt (by rw [← HQ1.out, ← HQ2.out]; exact HJ.out) (by rw [← HQ1.out, ← HQ2.out]; exact h)⟩
   have HCI : Aside0 (∀ c, c = cdAt i → q1 ≠ c ∧ q2 ≠ c → ∀ j, j < i + 1 → q1 ≠ cdAt j ∧ q2 ≠ cdAt j) := ⟨fun c hc h j hj => by
    rcases Nat.lt_succ_iff_lt_or_eq.1 hj with h2 | rfl
    ·exact HJ.out j h2
    ·rw [← hc]; exact h⟩
   obtain ⟨c, hcc⟩ : ∃ c, c = cdAt i := ⟨_, rfl⟩
   rw [← hcc] at hcell HF
   have HCC := Aside0.mk hcc
   clear hcc
   by_cases h1 : q1 = c
   ·have hb1 : (q1 == c) = true := by simpa using h1
    have HH := Aside0.mk h1
    clear h1
    go_wp2
    go_ret2
    exact ⟨by rw [HF.out (.inl HH.out)]; rfl, HB.out.trans (HB3.out.mono HB.out.size)⟩
   ·have hb1 : (q1 == c) = false := by simpa using h1
    by_cases h2 : q2 = c
    ·have hb2 : (q2 == c) = true := by simpa using h2
     have HH := Aside0.mk h2
     clear h1 h2
     go_wp2
     go_ret2
     exact ⟨by rw [HF.out (.inr HH.out)]; rfl, HB.out.trans (HB3.out.mono HB.out.size)⟩
    ·have hb2 : (q2 == c) = false := by simpa using h2
     have HH := Aside0.mk (And.intro h1 h2)
     clear h1 h2
     go_wp2
     go_roundw
     case rel => exact ⟨i + 1, by go_num, by omega, ⟨HCI.out c HCC.out HH.out⟩, trivial⟩
     case measure => simp [intOf]; omega
  ·have h0 : codeSimp a b xs ys [f, g] true = 0 := cd_none (by rw [← HQ1.out, ← HQ2.out]; exact fun j hj => HJ.out j (by omega))
   have HA : Aside0 (ansAreContiguous a xs b ys f g = (xs.all (contAt ys f g), 0)) := ⟨by unfold ansAreContiguous; rw [if_pos h0]⟩
   obtain ⟨n, m, rfl, rfl, hcn, hcm, hmp, -, -⟩ := codeSimp_zero h0
   have HN := Aside0.mk hcn
   have HC := Aside0.mk hcm
   have HF := Aside0.mk (hmp f (by simp))
   have HG := Aside0.mk (hmp g (by simp))
   clear hcn hcm hmp h0
   go_wp2
   obtain ⟨wa, rfl⟩ : ∃ wa, wa = wr := ⟨_, rfl⟩
   go_loopw [14] (fun s wr => ∃ i : Nat, s = .int .i64 i ∧ i ≤ xs.length ∧ Aside0 (∀ k, k < i → contAt ys f g (xs.getD k 0) = true) ∧ Below wa.heap.size wa wr) (fun s _ => xs.length - (intOf s).toNat)
   case atStart => exact ⟨0, rfl, Nat.zero_le _, ⟨fun j hj => absurd hj (Nat.not_lt_zero _)⟩, Below.refl _ _⟩
   case round =>
    obtain ⟨i2, rfl, hi2, HU2, hb⟩ := hrel
    have c0 := pw_cell_below hb c0
    have c1 := pw_cell_below hb c1
    have c2 := pw_cell_below hb c2
    have c3 := pw_cell_below hb c3
    have HBr := Aside0.mk (HB3.out.trans (hb.mono HB3.out.size))
    have HBw := Aside0.mk hb
    clear hb
    by_cases hlt2 : i2 < xs.length
    ·obtain ⟨ad, y, rfl, hcell, HY⟩ := ReadI.get (Kd.C_below HR.out HBr.out) hlt2
     obtain ⟨z, rfl, hz1, hz2⟩ := HN.out.nat (mem_at hlt2 HY.out)
     have x1 : ∀ x : Ext wr, x.1.cell? ⟨w.heap.size, 1, none⟩ = some (.slice (some ad) xs.length d1) := fun x => Ext.cell c1 x
     have x2 : ∀ x : Ext wr, x.1.cell? ⟨w.heap.size + 1, 0, none⟩ = some (.int .i64 m) := fun x => Ext.cell c2 x
     have x3 : ∀ x : Ext wr, x.1.cell? ⟨w.heap.size + 1, 1, none⟩ = some (.slice A2 ys.length d2) := fun x => Ext.cell c3 x
     have x4 : ∀ x : Ext wr, x.1.cell? (ad.add i2) = some (.int .i64 z) := fun x => Ext.cell hcell x
     clear hcell
     have hj1 : (0 : Int) ≤ (i2 : Int) := by omega
     have hj2 : (i2 : Int) < (xs.length : Int) := by omega
     have hlf : f.length ≤ 6 := by rw [HF.out.len]; exact HN.out.hi
     have hlg : g.length ≤ 6 := by rw [HG.out.len]; exact HN.out.hi
     have HI : Aside0 (∀ x : Ext wr, Calls Tryz.prog 126 #[.int .i64 z, .slice A3 f.length d3] x.1 fun e w' => e = .returned (.int .i64 (img z f : Nat)) ∧ Below x.1.heap.size x.1 w') := ⟨fun x => specMoved z hz2 _ f x.1 (HU.out.below (HBr.out.trans (x.2.mono HBr.out.size))) hlf (HF.out.bd5 HC.out.hi)⟩
     have HJ2 : Aside0 (∀ x : Ext wr, Calls Tryz.prog 126 #[.int .i64 z, .slice A4 g.length d4] x.1 fun e w' => e = .returned (.int .i64 (img z g : Nat)) ∧ Below x.1.heap.size x.1 w') := ⟨fun x => specMoved z hz2 _ g x.1 (HV.out.below (HBr.out.trans (x.2.mono HBr.out.size))) hlg (HG.out.bd5 HC.out.hi)⟩
     have HH : Aside0 (∀ x : Ext wr, Calls Tryz.prog 154 #[cx m (.slice A2 ys.length d2), .int .i64 ((img z f ||| img z g : Nat) : Int)] x.1 fun e w' => e = .returned (.bool (contAt ys f g z)) ∧ Below x.1.heap.size x.1 w') := ⟨fun x => specHas m _ ys _ x.1 (HL.out.below (HBr.out.trans (x.2.mono HBr.out.size)))⟩
     have HS : Aside0 (contAt ys f g (xs.getD i2 0) = contAt ys f g z) := ⟨by rw [HY.out]⟩
     have HALL : Aside0 (contAt ys f g (z : Int) = false → xs.all (contAt ys f g) = false) := ⟨fun h => all_false hlt2 HY.out h⟩
     have l1 := img_lt (f := z) (HF.out.bd5 HC.out.hi)
     have l2 := img_lt (f := z) (HG.out.bd5 HC.out.hi)
     have hor := or_i64 (img z f) (img z g) (by omega) (by omega)
     clear l1 l2 hlf hlg
     generalize contAt ys f g (z : Int) = r at *
     generalize img z f ||| img z g = t at *
     generalize img z f = t1 at *
     generalize img z g = t2 at *
     cases r with
     | false =>
      go_wp2
      refine wp_region_ext (by kernel_rfl) (by kernel_rfl) ?_
      repeat (go_big_quiet_step ((first | (go_at_call 126; with_reducible exact Calls.ext_of (HI.out _)) | (go_at_call 126; with_reducible exact Calls.ext_of (HJ2.out _)) | (go_at_call 154; exact Calls.ext_of (HH.out _)))))
      refine wpQuiet_nil ?_
      rintro _ ⟨x, rfl⟩
      have hbx := x.2
      go_wp2
      go_ret2
      exact ⟨by rw [HA.out, HALL.out (by trivial)]; rfl, by have := HB.out; have := HBr.out; (repeat (first | (with_reducible exact Below.refl _ _) | (with_reducible assumption) | (with_reducible refine below_step ?_ (by assumption)) | (with_reducible apply below_alloc) | (with_reducible apply below_drewN)))⟩
     | true =>
      go_wp2
      refine wp_region_ext (by kernel_rfl) (by kernel_rfl) ?_
      repeat (go_big_quiet_step ((first | (go_at_call 126; with_reducible exact Calls.ext_of (HI.out _)) | (go_at_call 126; with_reducible exact Calls.ext_of (HJ2.out _)) | (go_at_call 154; exact Calls.ext_of (HH.out _)))))
      refine wpQuiet_nil ?_
      rintro _ ⟨x, rfl⟩
      have hbx := x.2
      go_wp2
      go_roundw
      case rel =>
       refine ⟨i2 + 1, by go_num, by omega, ⟨fun k hk => ?_⟩, by have := HBw.out; (repeat (first | (with_reducible exact Below.refl _ _) | (with_reducible assumption) | (with_reducible refine below_step ?_ (by assumption)) | (with_reducible apply below_alloc) | (with_reducible apply below_drewN)))⟩
       rcases Nat.lt_succ_iff_lt_or_eq.1 hk with h | rfl
       ·exact HU2.out k h
       ·exact HS.out
      case measure => simp [intOf]; omega
    ·have HE : Aside0 (xs.all (contAt ys f g) = true) := ⟨all_true (fun k hk => HU2.out k (by omega))⟩
     go_wp2
     go_ret2
     exact ⟨by rw [HA.out, HE.out]; rfl, by have := HB.out; have := HBr.out; (repeat (first | (with_reducible exact Below.refl _ _) | (with_reducible assumption) | (with_reducible refine below_step ?_ (by assumption)) | (with_reducible apply below_alloc) | (with_reducible apply below_drewN)))⟩
/-- what IsMap answers -/
def ansIsMap (a : Int) (xs : List Int) (b : Int) (ys f : List Int) : Bool × Int := if cxOk a xs && cxOk b ys then (mapOk a.toNat b.toNat f, 0) else (false, 1)
theorem codeMap_nil (a b : Int) (xs ys : List Int) : codeMap a b xs ys [] true = if cxOk a xs && cxOk b ys then 0 else 1 := by unfold codeMap; rfl
set_option maxHeartbeats 1000000 in
theorem implIsMap (a : Int) (ku : Value) (xs : List Int) (b : Int) (lu : Value) (ys : List Int) (v : Value) (f : List Int) (w : World) (hk : ReadI w ku xs) (hl : ReadI w lu ys) (hv : ReadI w v f) :
  Calls Tryz.prog 31 #[cx a ku, cx b lu, v] w fun e w' => e = .returned (.tuple #[.bool (ansIsMap a xs b ys f).1, .int .i64 (ansIsMap a xs b ys f).2]) ∧ Below w.heap.size w w' := by
 obtain ⟨w1, hw1⟩ : ∃ w1, w1 = (w.alloc (.cells #[.int .i64 a, ku] 26)).alloc (.cells #[.int .i64 b, lu] 26) := ⟨_, rfl⟩
 have hB : Below w.heap.size w w1 := by rw [hw1]; exact ((Below.refl _ w).alloc (Nat.le_refl _) _).alloc (by simp) _
 have c0 : w1.cell? ⟨w.heap.size, 0, none⟩ = some (.int .i64 a) := by rw [hw1]; simp
 have c1 : w1.cell? ⟨w.heap.size, 1, none⟩ = some ku := by rw [hw1]; simp
 have c2 : w1.cell? ⟨w.heap.size + 1, 0, none⟩ = some (.int .i64 b) := by rw [hw1]; simp
 have c3 : w1.cell? ⟨w.heap.size + 1, 1, none⟩ = some lu := by rw [hw1]; simp
 have HK := Aside0.mk (hk.below hB)
 have HL := Aside0.mk (hl.below hB)
 have HV := Aside0.mk (hv.below hB)
 have HB := Aside0.mk hB
 obtain ⟨A1, d1, rfl, -⟩ := id hk
 obtain ⟨A2, d2, rfl, -⟩ := id hl
 obtain ⟨A3, d3, rfl, -⟩ := id hv
 clear hk hl hv hB
 have HM := Aside0.mk (mapCode a b _ _ xs ys _ _ true [] w1 HK.out HL.out (fun _ _ => alwaysB w1) ⟨_, _, _, rfl⟩ (ReadS.nil w1))
 cases h1 : (cxOk a xs && cxOk b ys) with
 | false =>
  have HA : Aside0 (ansIsMap a xs b ys f = (false, 1)) := ⟨by unfold ansIsMap; rw [h1]; rfl⟩
  have hcd : codeMap a b xs ys [] true = 1 := by rw [codeMap_nil, h1]; rfl
  go_enter Tryz.func31, Tryz.ntmps31
  go_wp2_with (first | (rw [← hw1]; clear hw1; go_at_call 152; refine HM.out.mono ?_; rintro e w2 ⟨rfl, hb⟩; rw [hcd]))
  go_ret2
  exact ⟨by rw [HA.out]; rfl, by have := HB.out; (repeat (first | (with_reducible exact Below.refl _ _) | (with_reducible assumption) | (with_reducible refine below_step ?_ (by assumption)) | (with_reducible apply below_alloc) | (with_reducible apply below_drewN)))⟩
 | true =>
  have hcd : codeMap a b xs ys [] true = 0 := by rw [codeMap_nil, h1]; rfl
  have hx := h1
  rw [Bool.and_eq_true] at hx
  obtain ⟨n, rfl, hcn, -⟩ := cxOk_cx hx.1
  obtain ⟨m, rfl, hcm, -⟩ := cxOk_cx hx.2
  have hn := hcn.hi
  have hm := hcm.hi
  have HA : Aside0 (ansIsMap n xs m ys f = (mapOk n m f, 0)) := ⟨by unfold ansIsMap; rw [h1]; rfl⟩
  clear hx hcn hcm h1
  go_enter Tryz.func31, Tryz.ntmps31
  go_wp2_with (first | (rw [← hw1]; clear hw1; go_at_call 152; refine HM.out.mono ?_; rintro e w2 ⟨rfl, hb⟩; rw [hcd]; have c0 := pw_cell_below hb c0; have c1 := pw_cell_below hb c1; have c2 := pw_cell_below hb c2; have c3 := pw_cell_below hb c3; have HB2 := Aside0.mk hb; clear hb) | (go_at_call 150; refine (isMap n m hn hm _ _ _ f _ (HV.out.below HB2.out)).mono ?_; rintro e w3 ⟨rfl, hb3⟩))
  go_ret2
  exact ⟨by rw [HA.out]; rfl, by have := HB.out; have := HB2.out; (repeat (first | (with_reducible exact Below.refl _ _) | (with_reducible assumption) | (with_reducible refine below_step ?_ (by assumption)) | (with_reducible apply below_alloc) | (with_reducible apply below_drewN)))⟩
set_option maxHeartbeats 1000000 in
theorem specIsMap (a : Int) (ku : Value) (xs : List Int) (b : Int) (lu : Value) (ys : List Int) (v : Value) (f : List Int) (w : World) (hk : ReadI w ku xs) (hl : ReadI w lu ys) (hv : ReadI w v f) :
  Calls Tryz.prog 32 #[cx a ku, cx b lu, v] w fun e w' => e = .returned (.tuple #[.bool (ansIsMap a xs b ys f).1, .int .i64 (ansIsMap a xs b ys f).2]) ∧ Below w.heap.size w w' := by
 obtain ⟨w1, hw1⟩ : ∃ w1, w1 = (w.alloc (.cells #[.int .i64 a, ku] 26)).alloc (.cells #[.int .i64 b, lu] 26) := ⟨_, rfl⟩
 have hB : Below w.heap.size w w1 := by rw [hw1]; exact ((Below.refl _ w).alloc (Nat.le_refl _) _).alloc (by simp) _
 have c0 : w1.cell? ⟨w.heap.size, 0, none⟩ = some (.int .i64 a) := by rw [hw1]; simp
 have c1 : w1.cell? ⟨w.heap.size, 1, none⟩ = some ku := by rw [hw1]; simp
 have c2 : w1.cell? ⟨w.heap.size + 1, 0, none⟩ = some (.int .i64 b) := by rw [hw1]; simp
 have c3 : w1.cell? ⟨w.heap.size + 1, 1, none⟩ = some lu := by rw [hw1]; simp
 have HK := Aside0.mk (hk.below hB)
 have HL := Aside0.mk (hl.below hB)
 have HV := Aside0.mk (hv.below hB)
 have HB := Aside0.mk hB
 obtain ⟨A1, d1, rfl, -⟩ := id hk
 obtain ⟨A2, d2, rfl, -⟩ := id hl
 obtain ⟨A3, d3, rfl, -⟩ := id hv
 clear hk hl hv hB
 cases h1 : cxOk a xs with
 | false =>
  have HA : Aside0 (ansIsMap a xs b ys f = (false, 1)) := ⟨by unfold ansIsMap; rw [h1]; rfl⟩
  go_enter Tryz.func32, Tryz.ntmps32
  go_wp2_with (first | (rw [← hw1]; clear hw1; go_at_call 155; refine (specIs _ _ xs _ HK.out).mono ?_; rintro e w2 ⟨rfl, hb⟩; rw [h1]))
  go_ret2
  exact ⟨by rw [HA.out]; rfl, by have := HB.out; (repeat (first | (with_reducible exact Below.refl _ _) | (with_reducible assumption) | (with_reducible refine below_step ?_ (by assumption)) | (with_reducible apply below_alloc) | (with_reducible apply below_drewN)))⟩
 | true =>
  obtain ⟨n, rfl, hcn, -⟩ := cxOk_cx h1
  have hn := hcn.hi
  clear hcn
  cases h2 : cxOk b ys with
  | false =>
   have HA : Aside0 (ansIsMap n xs b ys f = (false, 1)) := ⟨by unfold ansIsMap; rw [h1, h2]; rfl⟩
   go_enter Tryz.func32, Tryz.ntmps32
   go_wp2_with (first | (rw [← hw1]; clear hw1; go_at_call 155; refine (specIs _ _ xs _ HK.out).mono ?_; rintro e w2 ⟨rfl, hb⟩; rw [h1]; have c2 := pw_cell_below hb c2; have c3 := pw_cell_below hb c3) | (go_at_call 155; refine (specIs _ _ ys _ (HL.out.below ?hx)).mono ?_; (case hx => (repeat (first | (with_reducible exact Below.refl _ _) | (with_reducible assumption) | (with_reducible refine below_step ?_ (by assumption)) | (with_reducible apply below_alloc) | (with_reducible apply below_drewN)))); rintro e w2 ⟨rfl, hb⟩; rw [h2]))
   go_ret2
   exact ⟨by rw [HA.out]; rfl, by have := HB.out; (repeat (first | (with_reducible exact Below.refl _ _) | (with_reducible assumption) | (with_reducible refine below_step ?_ (by assumption)) | (with_reducible apply below_alloc) | (with_reducible apply below_drewN)))⟩
  | true =>
   obtain ⟨m, rfl, hcm, -⟩ := cxOk_cx h2
   have hm := hcm.hi
   have HA : Aside0 (ansIsMap n xs m ys f = (mapOk n m f, 0)) := ⟨by unfold ansIsMap; rw [h1, h2]; rfl⟩
   clear hcm
   go_enter Tryz.func32, Tryz.ntmps32
   go_wp2_with (first | (rw [← hw1]; clear hw1; go_at_call 155; refine (specIs _ _ xs _ HK.out).mono ?_; rintro e w2 ⟨rfl, hb⟩; rw [h1]; have c0 := pw_cell_below hb c0; have c1 := pw_cell_below hb c1; have c2 := pw_cell_below hb c2; have c3 := pw_cell_below hb c3; have HB2 := Aside0.mk hb; clear hb) | (go_at_call 155; refine (specIs _ _ ys _ (HL.out.below HB2.out)).mono ?_; rintro e w3 ⟨rfl, hb⟩; rw [h2]; have c0 := pw_cell_below hb c0; have c1 := pw_cell_below hb c1; have c2 := pw_cell_below hb c2; have c3 := pw_cell_below hb c3; have HB3 := Aside0.mk (HB2.out.trans (hb.mono HB2.out.size)); clear hb) | (go_at_call 156; refine (specMap n m hn hm _ _ _ f _ (HV.out.below HB3.out)).mono ?_; rintro e w4 ⟨rfl, hb4⟩))
   go_ret2
   exact ⟨by rw [HA.out]; rfl, by have := HB.out; have := HB3.out; (repeat (first | (with_reducible exact Below.refl _ _) | (with_reducible assumption) | (with_reducible refine below_step ?_ (by assumption)) | (with_reducible apply below_alloc) | (with_reducible apply below_drewN)))⟩
end Go.Proofs.YtomofijniefelaaGreat.H
