/- IsSimplicial of the program and of the reference. Fibres, open fibres, maps put together, contiguous maps: what goes together (plain). What the law FnMaps asks of the answers (plain). Memory in which one block alone is turned. A region of open order whose calls turn memory in a way that is told by a relation. A region of open order, some of its operations guarded, whose calls turn memory in a way that is told by a relation. A region of open order, guards allowed: most operations only reckon; the others turn memory, and what is known is told by what has been done. Nothing old is turned: as a relation. Sources of numbers: l01From, l01Next, l01Pick. -/
import Derived.Test.YtomofijniefelaaGreatKFnMaps1
import Derived.Test.YtomofijniefelaaGreatKFnMaps2
import Derived.Test.YtomofijniefelaaGreatKFnMaps3
import Derived.Test.YtomofijniefelaaGreatKFnMaps4
import Derived.Test.YtomofijniefelaaGreatKFnMaps5
import Derived.Test.YtomofijniefelaaGreatKFnMaps6
import Derived.Test.YtomofijniefelaaGreatKFnMaps7
import Derived.Test.YtomofijniefelaaGreatKFnMaps8

namespace Go.Proofs.YtomofijniefelaaGreat.H
open Go.RowKit Go.Proofs.YtomofijniefelaaGreatW.PrintWords Go.Proofs.YtomofijniefelaaGreatW.PrintLast
set_option linter.unusedVariables false
set_option linter.unusedSimpArgs false
/-- what IsSimplicial answers -/
def ansIsSimplicial (a : Int) (xs : List Int) (b : Int) (ys p : List Int) : Bool × Int := if cxOk a xs && cxOk b ys then (if mapOk a.toNat b.toNat p then (simpOk xs ys p, 0) else (false, 2)) else (false, 1)
theorem codeMap_one (a b : Int) (xs ys p : List Int) : codeMap a b xs ys [p] true = if cxOk a xs && cxOk b ys then (if mapOk a.toNat b.toNat p then 0 else 2) else 1 := by
 unfold codeMap
 simp
theorem ReadS.one {W : World} {u : Value} {p : List Int} (h : ReadI W u p) : ReadS (W.alloc (.cells #[u] 24)) (.slice (some ⟨W.heap.size, 0, none⟩) 1 1) [p] := by
 refine ⟨_, 1, rfl, by simp, fun i xs hi => ?_⟩
 cases i with
 | zero =>
  simp at hi
  subst hi
  exact ⟨_, u, rfl, by simp [Addr.add], h.below (Below.alloc (Below.refl _ _) (Nat.le_refl _) _)⟩
 | succ i => simp at hi
set_option maxHeartbeats 1000000 in
theorem implIsSimplicial (a : Int) (ku : Value) (xs : List Int) (b : Int) (lu : Value) (ys : List Int) (v : Value) (f : List Int) (w : World) (hk : ReadI w ku xs) (hl : ReadI w lu ys) (hv : ReadI w v f) :
  Calls Tryz.prog 26 #[cx a ku, cx b lu, v] w fun e w' => e = .returned (.tuple #[.bool (ansIsSimplicial a xs b ys f).1, .int .i64 (ansIsSimplicial a xs b ys f).2]) ∧ Below w.heap.size w w' := by
 obtain ⟨w1, hw1⟩ : ∃ w1, w1 = ((w.alloc (.cells #[.int .i64 a, ku] 26)).alloc (.cells #[.int .i64 b, lu] 26)) := ⟨_, rfl⟩
 obtain ⟨w2, hw2⟩ : ∃ w2, w2 = w1.alloc (.cells #[v] 24) := ⟨_, rfl⟩
 have hs1 : w1.heap.size = w.heap.size + 1 + 1 := by rw [hw1]; simp
 have hB1 : Below w.heap.size w w1 := by rw [hw1]; exact ((Below.refl _ w).alloc (Nat.le_refl _) _).alloc (by simp) _
 have hB : Below w.heap.size w w2 := by rw [hw2]; exact hB1.alloc (by omega) _
 have c0 : w2.cell? ⟨w.heap.size, 0, none⟩ = some (.int .i64 a) := by rw [hw2]; exact pw_cell_below (Below.alloc (Below.refl _ _) (Nat.le_refl _) _) (by rw [hw1]; simp)
 have c1 : w2.cell? ⟨w.heap.size, 1, none⟩ = some ku := by rw [hw2]; exact pw_cell_below (Below.alloc (Below.refl _ _) (Nat.le_refl _) _) (by rw [hw1]; simp)
 have c2 : w2.cell? ⟨w.heap.size + 1, 0, none⟩ = some (.int .i64 b) := by rw [hw2]; exact pw_cell_below (Below.alloc (Below.refl _ _) (Nat.le_refl _) _) (by rw [hw1]; simp)
 have c3 : w2.cell? ⟨w.heap.size + 1, 1, none⟩ = some lu := by rw [hw2]; exact pw_cell_below (Below.alloc (Below.refl _ _) (Nat.le_refl _) _) (by rw [hw1]; simp)
 have HK := Aside0.mk (hk.below hB)
 have HL := Aside0.mk (hl.below hB)
 have HV := Aside0.mk (hv.below hB)
 have HS := Aside0.mk (ReadS.one (hv.below hB1))
 rw [← hw2, hs1] at HS
 have HB := Aside0.mk hB
 obtain ⟨A1, d1, rfl, -⟩ := id hk
 obtain ⟨A2, d2, rfl, -⟩ := id hl
 obtain ⟨A3, d3, rfl, -⟩ := id hv
 clear hk hl hv hB hB1 hs1
 subst hw1
 have HM := Aside0.mk (mapCode a b _ _ xs ys _ _ true [f] w2 HK.out HL.out (fun _ _ => alwaysB w2) ⟨_, _, _, rfl⟩ HS.out)
 cases h1 : (cxOk a xs && cxOk b ys) with
 | false =>
  have HA : Aside0 (ansIsSimplicial a xs b ys f = (false, 1)) := ⟨by unfold ansIsSimplicial; rw [h1]; rfl⟩
  have hcd : codeMap a b xs ys [f] true = 1 := by rw [codeMap_one, h1]; rfl
  go_enter Tryz.func26, Tryz.ntmps26
  go_wp2_with (first | (rw [← hw2]; clear hw2; go_at_call 152; refine HM.out.mono ?_; rintro e w3 ⟨rfl, hb⟩; rw [hcd]))
  go_ret2
  exact ⟨by rw [HA.out]; rfl, by have := HB.out; (repeat (first | (with_reducible exact Below.refl _ _) | (with_reducible assumption) | (with_reducible refine below_step ?_ (by assumption)) | (with_reducible apply below_alloc) | (with_reducible apply below_drewN)))⟩
 | true =>
  have hx := h1
  rw [Bool.and_eq_true] at hx
  obtain ⟨n, rfl, hcn, -⟩ := cxOk_cx hx.1
  obtain ⟨m, rfl, hcm, -⟩ := cxOk_cx hx.2
  cases h2 : mapOk n m f with
  | false =>
   have HA : Aside0 (ansIsSimplicial n xs m ys f = (false, 2)) := ⟨by unfold ansIsSimplicial; rw [h1, Int.toNat_natCast, Int.toNat_natCast, h2]; rfl⟩
   have hcd : codeMap n m xs ys [f] true = 2 := by rw [codeMap_one, h1, Int.toNat_natCast, Int.toNat_natCast, h2]; rfl
   clear hx hcn hcm h1 h2
   go_enter Tryz.func26, Tryz.ntmps26
   go_wp2_with (first | (rw [← hw2]; clear hw2; go_at_call 152; refine HM.out.mono ?_; rintro e w3 ⟨rfl, hb⟩; rw [hcd]))
   go_ret2
   exact ⟨by rw [HA.out]; rfl, by have := HB.out; (repeat (first | (with_reducible exact Below.refl _ _) | (with_reducible assumption) | (with_reducible refine below_step ?_ (by assumption)) | (with_reducible apply below_alloc) | (with_reducible apply below_drewN)))⟩
  | true =>
   have HA : Aside0 (ansIsSimplicial n xs m ys f = (simpOk xs ys f, 0)) := ⟨by unfold ansIsSimplicial; rw [h1, Int.toNat_natCast, Int.toNat_natCast, h2]; rfl⟩
   have hcd : codeMap n m xs ys [f] true = 0 := by rw [codeMap_one, h1, Int.toNat_natCast, Int.toNat_natCast, h2]; rfl
   have HN := Aside0.mk hcn
   have HM2 := Aside0.mk hcm
   have HP := Aside0.mk (mapOk_mp h2)
   clear hx hcn hcm h1 h2
   go_enter Tryz.func26, Tryz.ntmps26
   go_wp2_with (first | (rw [← hw2]; clear hw2; go_at_call 152; refine HM.out.mono ?_; rintro e w3 ⟨rfl, hb⟩; rw [hcd]; have c0 := pw_cell_below hb c0; have c1 := pw_cell_below hb c1; have c2 := pw_cell_below hb c2; have c3 := pw_cell_below hb c3; have HB2 := Aside0.mk hb; clear hb) | (go_at_call 151; refine (isSimplicial n m _ _ _ xs ys f _ (HK.out.below HB2.out) (HL.out.below HB2.out) (HV.out.below HB2.out) HN.out HM2.out HP.out).mono ?_; rintro e w4 ⟨rfl, hb4⟩))
   go_ret2
   exact ⟨by rw [HA.out]; rfl, by have := HB.out; have := HB2.out; (repeat (first | (with_reducible exact Below.refl _ _) | (with_reducible assumption) | (with_reducible refine below_step ?_ (by assumption)) | (with_reducible apply below_alloc) | (with_reducible apply below_drewN)))⟩
set_option maxHeartbeats 1000000 in
theorem specIsSimplicial (a : Int) (ku : Value) (xs : List Int) (b : Int) (lu : Value) (ys : List Int) (v : Value) (f : List Int) (w : World) (hk : ReadI w ku xs) (hl : ReadI w lu ys) (hv : ReadI w v f) :
  Calls Tryz.prog 30 #[cx a ku, cx b lu, v] w fun e w' => e = .returned (.tuple #[.bool (ansIsSimplicial a xs b ys f).1, .int .i64 (ansIsSimplicial a xs b ys f).2]) ∧ Below w.heap.size w w' := by
 obtain ⟨w1, hw1⟩ : ∃ w1, w1 = (w.alloc (.cells #[.int .i64 a, ku] 26)).alloc (.cells #[.int .i64 b, lu] 26) := ⟨_, rfl⟩
 have hB : Below w.heap.size w w1 := by rw [hw1]; exact ((Below.refl _ w).alloc (Nat.le_refl _) _).alloc (by simp) _
 have c0 : w1.cell? ⟨w.heap.size, 0, none⟩ = some (.int .i64 a) := by rw [hw1]; simp
 have c1 : w1.cell? ⟨w.heap.size, 1, none⟩ = some ku := by rw [hw1]; simp
 have c2 : w1.cell? ⟨w.heap.size + 1, 0, none⟩ = some (.int .i64 b) := by rw [hw1]; simp
 have c3 : w1.cell? ⟨w.heap.size + 1, 1, none⟩ = some lu := by rw [hw1]; simp
 have HK := Aside0.mk (hk.below hB)
 have HL := Aside0.mk (hl.below hB)
 have HV := Aside0.mk (hv.below hB)
 have HB := Aside0.mk hB
 obtain ⟨A1, d1, rfl, -⟩ := id hk
 obtain ⟨A2, d2, rfl, -⟩ := id hl
 obtain ⟨A3, d3, rfl, -⟩ := id hv
 clear hk hl hv hB
 cases h1 : cxOk a xs with
 | false =>
  have HA : Aside0 (ansIsSimplicial a xs b ys f = (false, 1)) := ⟨by unfold ansIsSimplicial; rw [h1]; rfl⟩
  go_enter Tryz.func30, Tryz.ntmps30
  go_wp2_with (first | (rw [← hw1]; clear hw1; go_at_call 155; refine (specIs _ _ xs _ HK.out).mono ?_; rintro e w2 ⟨rfl, hb⟩; rw [h1]))
  go_ret2
  exact ⟨by rw [HA.out]; rfl, by have := HB.out; (repeat (first | (with_reducible exact Below.refl _ _) | (with_reducible assumption) | (with_reducible refine below_step ?_ (by assumption)) | (with_reducible apply below_alloc) | (with_reducible apply below_drewN)))⟩
 | true =>
  obtain ⟨n, rfl, hcn, -⟩ := cxOk_cx h1
  cases h2 : cxOk b ys with
  | false =>
   have HA : Aside0 (ansIsSimplicial n xs b ys f = (false, 1)) := ⟨by unfold ansIsSimplicial; rw [h1, h2]; rfl⟩
   go_enter Tryz.func30, Tryz.ntmps30
   go_wp2_with (first | (rw [← hw1]; clear hw1; go_at_call 155; refine (specIs _ _ xs _ HK.out).mono ?_; rintro e w2 ⟨rfl, hb⟩; rw [h1]; have c2 := pw_cell_below hb c2; have c3 := pw_cell_below hb c3) | (go_at_call 155; refine (specIs _ _ ys _ (HL.out.below ?hx)).mono ?_; (case hx => (repeat (first | (with_reducible exact Below.refl _ _) | (with_reducible assumption) | (with_reducible refine below_step ?_ (by assumption)) | (with_reducible apply below_alloc) | (with_reducible apply below_drewN)))); rintro e w2 ⟨rfl, hb⟩; rw [h2]))
   go_ret2
   exact ⟨by rw [HA.out]; rfl, by have := HB.out; (repeat (first | (with_reducible exact Below.refl _ _) | (with_reducible assumption) | (with_reducible refine below_step ?_ (by assumption)) | (with_reducible apply below_alloc) | (with_reducible apply below_drewN)))⟩
  | true =>
   obtain ⟨m, rfl, hcm, -⟩ := cxOk_cx h2
   have hn := hcn.hi
   have hm := hcm.hi
   cases h3 : mapOk n m f with
   | false =>
    have HA : Aside0 (ansIsSimplicial n xs m ys f = (false, 2)) := ⟨by unfold ansIsSimplicial; rw [h1, h2, Int.toNat_natCast, Int.toNat_natCast, h3]; rfl⟩
    clear hcn hcm
    go_enter Tryz.func30, Tryz.ntmps30
    go_wp2_with (first | (rw [← hw1]; clear hw1; go_at_call 155; refine (specIs _ _ xs _ HK.out).mono ?_; rintro e w2 ⟨rfl, hb⟩; rw [h1]; have c0 := pw_cell_below hb c0; have c1 := pw_cell_below hb c1; have c2 := pw_cell_below hb c2; have c3 := pw_cell_below hb c3; have HB2 := Aside0.mk hb; clear hb) | (go_at_call 155; refine (specIs _ _ ys _ (HL.out.below HB2.out)).mono ?_; rintro e w3 ⟨rfl, hb⟩; rw [h2]; have c0 := pw_cell_below hb c0; have c1 := pw_cell_below hb c1; have c2 := pw_cell_below hb c2; have c3 := pw_cell_below hb c3; have HB3 := Aside0.mk (HB2.out.trans (hb.mono HB2.out.size)); clear hb) | (go_at_call 156; refine (specMap n m hn hm _ _ _ f _ (HV.out.below HB3.out)).mono ?_; rintro e w4 ⟨rfl, hb4⟩; rw [h3]))
    go_ret2
    exact ⟨by rw [HA.out]; rfl, by have := HB.out; have := HB3.out; (repeat (first | (with_reducible exact Below.refl _ _) | (with_reducible assumption) | (with_reducible refine below_step ?_ (by assumption)) | (with_reducible apply below_alloc) | (with_reducible apply below_drewN)))⟩
   | true =>
    have HA : Aside0 (ansIsSimplicial n xs m ys f = (simpOk xs ys f, 0)) := ⟨by unfold ansIsSimplicial; rw [h1, h2, Int.toNat_natCast, Int.toNat_natCast, h3]; rfl⟩
    have HN := Aside0.mk hcn
    have HM2 := Aside0.mk hcm
    have HP := Aside0.mk (mapOk_mp h3)
    clear hcn hcm
    go_enter Tryz.func30, Tryz.ntmps30
    go_wp2_with (first | (rw [← hw1]; clear hw1; go_at_call 155; refine (specIs _ _ xs _ HK.out).mono ?_; rintro e w2 ⟨rfl, hb⟩; rw [h1]; have c0 := pw_cell_below hb c0; have c1 := pw_cell_below hb c1; have c2 := pw_cell_below hb c2; have c3 := pw_cell_below hb c3; have HB2 := Aside0.mk hb; clear hb) | (go_at_call 155; refine (specIs _ _ ys _ (HL.out.below HB2.out)).mono ?_; rintro e w3 ⟨rfl, hb⟩; rw [h2]; have c0 := pw_cell_below hb c0; have c1 := pw_cell_below hb c1; have c2 := pw_cell_below hb c2; have c3 := pw_cell_below hb c3; have HB3 := Aside0.mk (HB2.out.trans (hb.mono HB2.out.size)); clear hb) | (go_at_call 156; refine (specMap n m hn hm _ _ _ f _ (HV.out.below HB3.out)).mono ?_; rintro e w4 ⟨rfl, hb⟩; rw [h3]; have c0 := pw_cell_below hb c0; have c1 := pw_cell_below hb c1; have c2 := pw_cell_below hb c2; have c3 := pw_cell_below hb c3; have HB4 := Aside0.mk (HB3.out.trans (hb.mono HB3.out.size)); clear hb) | (go_at_call 157; refine (specSimplicial n m _ _ _ xs ys f _ (HK.out.below HB4.out) (HL.out.below HB4.out) (HV.out.below HB4.out) HN.out HM2.out HP.out).mono ?_; rintro e w5 ⟨rfl, hb5⟩))
    go_ret2
    exact ⟨by rw [HA.out]; rfl, by have := HB.out; have := HB4.out; (repeat (first | (with_reducible exact Below.refl _ _) | (with_reducible assumption) | (with_reducible refine below_step ?_ (by assumption)) | (with_reducible apply below_alloc) | (with_reducible apply below_drewN)))⟩
theorem imgB_test (f : Nat) (p : List Int) (j : Nat) : ∀ k, (imgTo f p k).testBit j = true ↔ ∃ v, v < k ∧ f.testBit v = true ∧ (p.getD v 0).toNat = j
 | 0 => by simp [imgTo]
 | k + 1 => by
  have ih := imgB_test f p j k
  rw [imgTo_succ]
  by_cases h : f.testBit k = true
  ·rw [if_pos h, Nat.testBit_or, Bool.or_eq_true, ih, Nat.testBit_two_pow, decide_eq_true_eq]
   constructor
   ·rintro (⟨v, h1, h2, h3⟩ | h3)
    ·exact ⟨v, by omega, h2, h3⟩
    ·exact ⟨k, by omega, h, h3⟩
   ·rintro ⟨v, h1, h2, h3⟩
    by_cases e : v = k
    ·subst e; exact .inr h3
    ·exact .inl ⟨v, by omega, h2, h3⟩
  ·rw [if_neg h, ih]
   constructor
   ·rintro ⟨v, h1, h2, h3⟩; exact ⟨v, by omega, h2, h3⟩
   ·rintro ⟨v, h1, h2, h3⟩
    by_cases e : v = k
    ·subst e; exact absurd h2 h
    ·exact ⟨v, by omega, h2, h3⟩
theorem img_test {f : Nat} {p : List Int} {j : Nat} : (img f p).testBit j = true ↔ ∃ v, v < p.length ∧ f.testBit v = true ∧ (p.getD v 0).toNat = j := imgB_test f p j _
theorem and_self_bits {a b : Nat} : a &&& b = a ↔ ∀ i, a.testBit i = true → b.testBit i = true := by
 constructor
 ·intro h i hi
  have := congrArg (fun m : Nat => m.testBit i) h
  simp only [Nat.testBit_and, hi, Bool.true_and] at this
  exact this
 ·intro h
  apply Nat.eq_of_testBit_eq
  intro i
  rw [Nat.testBit_and]
  cases ha : a.testBit i with
  | false => rfl
  | true => rw [h i ha]; rfl
theorem img_sub {x y : Nat} {p : List Int} (h : y &&& x = y) : img y p &&& img x p = img y p := by
 rw [and_self_bits] at h ⊢
 intro i hi
 obtain ⟨v, h1, h2, h3⟩ := img_test.1 hi
 exact img_test.2 ⟨v, h1, h v h2, h3⟩
theorem below_in : ∀ f : Nat, f < 64 → ((below f).all fun g => decide (1 ≤ g) && (g.toNat &&& f == g.toNat)) = true := by decide +kernel
theorem cxOk_of {n : Nat} {l : List Int} (h1 : 1 ≤ n) (h6 : n ≤ 6) (ha : l.Pairwise (· < ·)) (hb : ∀ x ∈ l, 1 ≤ x ∧ x ≤ ((2 ^ n : Nat) : Int) - 1) (hd : l.all (belowIn l) = true) : cxOk (n : Int) l = true := by
 unfold cxOk
 rw [Bool.and_eq_true, Bool.and_eq_true, Bool.and_eq_true, decide_eq_true_eq, decide_eq_true_eq]
 refine ⟨⟨by omega, by omega⟩, up_true (fun i hi => ?_), hd⟩
 have hm := hb _ (mem_at hi rfl)
 unfold upAt
 rw [Int.toNat_natCast, decide_eq_true hm.1, decide_eq_true hm.2]
 by_cases h0 : 0 < i
 ·have := asc_lt ha (show i - 1 < i by omega) hi
  rw [decide_eq_false (p := l.getD i 0 ≤ l.getD (i - 1) 0) (by omega)]
  simp
 ·rw [decide_eq_false h0]; rfl
/-! fibres -/
theorem fibre_cx {n m : Nat} {xs f : List Int} {g : Nat} (hx : cxOk (n : Int) xs = true) : cxOk (n : Int) (xs.filter (inAt f g)) = true := by
 obtain ⟨n', e, hc, hb⟩ := cxOk_cx hx
 obtain rfl : n = n' := by omega
 refine cxOk_of hc.lo hc.hi (hc.asc.filter _) (fun x hx => hc.bd x (List.mem_filter.1 hx).1) ?_
 rw [List.all_eq_true]
 intro x hx
 rw [List.mem_filter] at hx
 obtain ⟨hx1, hx2⟩ := hx
 unfold belowIn
 rw [List.all_eq_true]
 intro y hy
 have h1 := List.all_eq_true.1 hb x hx1
 unfold belowIn at h1
 have h2 := List.all_eq_true.1 h1 y hy
 rw [decide_eq_true_eq] at h2 ⊢
 have hx64 := hc.bd x hx1
 have h64 := pw6 hc.hi
 have h3 := List.all_eq_true.1 (below_in x.toNat (by omega)) y hy
 rw [Bool.and_eq_true, decide_eq_true_eq, beq_iff_eq] at h3
 rw [List.mem_filter]
 refine ⟨h2, ?_⟩
 unfold inAt at hx2 ⊢
 rw [decide_eq_true_eq] at hx2 ⊢
 have h4 := img_sub (p := f) h3.2
 rw [and_self_bits] at hx2 h4 ⊢
 exact fun i hi => hx2 i (h4 i hi)
theorem thL_memI {p : Int → Bool} {k : Nat} {g : Int} : g ∈ thL p k ↔ 1 ≤ g ∧ g < k ∧ p g = true := by
 unfold thL
 rw [List.mem_filterMap]
 constructor
 ·rintro ⟨a, ha, he⟩
  rw [List.mem_range] at ha
  split at he
  ·next h =>
   rw [Option.some.injEq] at he
   subst he
   rw [Bool.and_eq_true, decide_eq_true_eq] at h
   exact ⟨by omega, by omega, h.2⟩
  ·cases he
 ·rintro ⟨h1, h2, h3⟩
  have e : ((g.toNat : Nat) : Int) = g := by omega
  refine ⟨g.toNat, List.mem_range.2 (by omega), ?_⟩
  rw [if_pos (by rw [e, h3, decide_eq_true (by omega)]; rfl), e]
theorem open_image {m : Nat} {xs ys f : List Int} (hy : Cx m ys) {g : Int} (hg : g ∈ ys) : decide (0 < (xs.filter (opAt f g)).length) = decide (g ∈ thL (imAt xs f) (2 ^ m)) := by
 have hb := hy.bd g hg
 rw [Bool.eq_iff_iff, decide_eq_true_eq, decide_eq_true_eq, thL_memI, List.length_pos_iff_exists_mem]
 unfold imAt
 rw [List.any_eq_true]
 constructor
 ·rintro ⟨x, hx⟩
  rw [List.mem_filter] at hx
  exact ⟨hb.1, by omega, x, hx⟩
 ·rintro ⟨-, -, x, h1, h2⟩
  exact ⟨x, List.mem_filter.2 ⟨h1, h2⟩⟩
theorem count_one {z : Int} : ∀ {ys : List Int}, ys.Pairwise (· < ·) → z ∈ ys → (ys.map fun g => if z = g then 1 else 0).sum = 1
 | [], _, h => by cases h
 | y :: r, hp, h => by
  rw [List.pairwise_cons] at hp
  rw [List.map_cons, List.sum_cons]
  by_cases e : z = y
  ·have h0 : ∀ l : List Int, (∀ g ∈ l, y < g) → (l.map fun g => if z = g then 1 else 0).sum = 0 := by
    intro l
    induction l with
    | nil => intro _; rfl
    | cons a l ih =>
     intro hl
     rw [List.map_cons, List.sum_cons, ih (fun g hg => hl g (List.mem_cons_of_mem _ hg)), if_neg (by have := hl a List.mem_cons_self; omega)]
   rw [if_pos e, h0 r hp.1]
  ·rw [if_neg e, count_one hp.2 (by rcases List.mem_cons.1 h with h1 | h1; exact absurd h1 e; exact h1)]
theorem sum_map_add (ys : List Int) (f g : Int → Nat) : (ys.map fun x => f x + g x).sum = (ys.map f).sum + (ys.map g).sum := by
 induction ys with
 | nil => rfl
 | cons a l ih => simp only [List.map_cons, List.sum_cons, ih]; omega
/-- open fibres part the faces -/
theorem open_parts {ys f : List Int} (hy : ys.Pairwise (· < ·)) : ∀ xs : List Int, simpOk xs ys f = true → (ys.map fun g => (xs.filter (opAt f g)).length).sum = xs.length
 | [], _ => by
  have : ∀ l : List Int, (l.map fun g => (([] : List Int).filter (opAt f g)).length).sum = 0 := by
   intro l
   induction l with
   | nil => rfl
   | cons a l ih => rw [List.map_cons, List.sum_cons, ih]; rfl
  exact this ys
 | x :: r, h => by
  unfold simpOk at h
  rw [List.all_cons, Bool.and_eq_true] at h
  have ih := open_parts hy r h.2
  have hx : ((img x.toNat f : Nat) : Int) ∈ ys := by have := h.1; unfold simpAt at this; simpa using this
  have e : (fun g => ((x :: r).filter (opAt f g)).length) = fun g => (if ((img x.toNat f : Nat) : Int) = g then 1 else 0) + (r.filter (opAt f g)).length := by
   funext g
   rw [List.filter_cons]
   by_cases hg : ((img x.toNat f : Nat) : Int) = g
   ·have h2 : opAt f g x = true := by unfold opAt; rw [beq_iff_eq]; exact hg
    rw [if_pos h2, if_pos hg, List.length_cons]; omega
   ·have h2 : opAt f g x = false := by unfold opAt; rw [beq_eq_false_iff_ne]; exact hg
    rw [if_neg (by rw [h2]; decide), if_neg hg]; omega
  rw [e, sum_map_add, ih, count_one hy hx, List.length_cons]; omega
/-! contiguous maps -/
theorem cont_self {xs ys f : List Int} (h : simpOk xs ys f = true) : xs.all (contAt ys f f) = true := by
 unfold simpOk at h
 rw [List.all_eq_true] at h ⊢
 intro x hx
 have := h x hx
 unfold simpAt at this
 unfold contAt
 rw [Nat.or_self]
 exact this
theorem contAt_swap (ys f g : List Int) : contAt ys f g = contAt ys g f := by
 funext x
 unfold contAt
 rw [Nat.or_comm]
theorem codeSimp_swap (a b : Int) (xs ys f g : List Int) (r : Bool) : codeSimp a b xs ys [f, g] r = codeSimp a b xs ys [g, f] r := by
 unfold codeSimp
 have e : ∀ p : List Int → Bool, [f, g].all p = [g, f].all p := fun p => by
  simp only [List.all_cons, List.all_nil, Bool.and_true]
  exact Bool.and_comm _ _
 rw [e, e]
theorem cont_swap (a : Int) (xs : List Int) (b : Int) (ys f g : List Int) : ansAreContiguous a xs b ys f g = ansAreContiguous a xs b ys g f := by
 unfold ansAreContiguous
 rw [codeSimp_swap, contAt_swap]
theorem codeSimp_self {a b : Int} {xs ys f : List Int} (h : codeSimp a b xs ys [f] true = 0) : codeSimp a b xs ys [f, f] true = 0 := by
 unfold codeSimp at h ⊢
 have e : ∀ p : List Int → Bool, [f, f].all p = [f].all p := fun p => by
  simp only [List.all_cons, List.all_nil, Bool.and_true, Bool.and_self]
 rw [e, e]
 exact h
theorem codeSimp_in {a b : Int} {xs ys f : List Int} (h : codeSimp a b xs ys [f] true = 0) {g : Int} (hg : g ∈ ys) : codeSimp a b xs ys [f] (decide (g ∈ ys)) = 0 := by
 rw [decide_eq_true hg]; exact h
/-! maps put together -/
theorem img_comp {x : Nat} {f g : List Int} {m : Nat} (hf : ∀ v ∈ f, 0 ≤ v ∧ v ≤ (m : Int) - 1) (hg : g.length = m) : img x (f.map (goTo g)) = img (img x f) g := by
 apply Nat.eq_of_testBit_eq
 intro j
 rw [Bool.eq_iff_iff, img_test, img_test]
 constructor
 ·rintro ⟨v, h1, h2, h3⟩
  rw [List.length_map] at h1
  have e : (f.map (goTo g)).getD v 0 = goTo g (f.getD v 0) := by simp [List.getD_eq_getElem?_getD, h1]
  rw [e] at h3
  unfold goTo at h3
  have hm := hf _ (mem_at h1 rfl)
  exact ⟨(f.getD v 0).toNat, by omega, img_test.2 ⟨v, h1, h2, rfl⟩, h3⟩
 ·rintro ⟨u, h1, h2, h3⟩
  obtain ⟨v, h4, h5, h6⟩ := img_test.1 h2
  refine ⟨v, by rw [List.length_map]; exact h4, h5, ?_⟩
  have e : (f.map (goTo g)).getD v 0 = goTo g (f.getD v 0) := by simp [List.getD_eq_getElem?_getD, h4]
  rw [e]
  unfold goTo
  rw [h6]
  exact h3
theorem comp_simp {a b c : Int} {xs ys zs f g : List Int} (h : codeComp a b c xs ys zs f g = 0) : ansIsSimplicial a xs c zs (f.map (goTo g)) = (true, 0) := by
 unfold codeComp at h
 split at h
 ·next h1 =>
  split at h
  ·next h2 =>
   split at h
   ·next h3 =>
    simp only [Bool.and_eq_true] at h1 h2 h3
    obtain ⟨n, rfl, hn, -⟩ := cxOk_cx h1.1.1
    obtain ⟨m, rfl, hm, -⟩ := cxOk_cx h1.1.2
    obtain ⟨k, rfl, hk, -⟩ := cxOk_cx h1.2
    simp only [Int.toNat_natCast] at h2
    have mf := mapOk_mp h2.1
    have mg := mapOk_mp h2.2
    have hmap : mapOk n k (f.map (goTo g)) = true := by
     unfold mapOk
     rw [Bool.and_eq_true, decide_eq_true_eq, List.length_map, List.all_eq_true]
     refine ⟨mf.len, fun y hy => ?_⟩
     obtain ⟨v, hv, rfl⟩ := List.mem_map.1 hy
     have h4 := mf.bd v hv
     have h5 := mg.len
     have h6 := mg.bd _ (mem_at (xs := g) (i := v.toNat) (by omega) rfl)
     unfold inMap goTo
     rw [Bool.and_eq_true, decide_eq_true_eq, decide_eq_true_eq]
     exact h6
    have hsimp : simpOk xs zs (f.map (goTo g)) = true := by
     unfold simpOk at h3 ⊢
     rw [List.all_eq_true] at h3 ⊢
     rw [List.all_eq_true] at h3
     intro x hx
     have h4 := h3.1 x hx
     unfold simpAt at h4 ⊢
     rw [decide_eq_true_eq] at h4
     have h5 := h3.2 _ h4
     unfold simpAt at h5
     rw [Int.toNat_natCast] at h5
     rw [img_comp mf.bd mg.len]
     exact h5
    unfold ansIsSimplicial
    have hmap' : mapOk (n : Int).toNat (k : Int).toNat (f.map (goTo g)) = true := hmap
    rw [h1.1.1, h1.2, if_pos (by rfl), if_pos hmap', hsimp]
   ·cases h
  ·cases h
 ·cases h
theorem ima_zero {a b : Int} {xs ys f : List Int} (h : (ansImageComplex a xs b ys f).2 = 0) : codeSimp a b xs ys [f] true = 0 := by
 unfold ansImageComplex at h
 split at h
 ·next h1 => exact h1
 ·exact h
/-- a map that is simplicial -/
theorem key_map {a b : Int} {xs ys f : List Int} (h : (ansImageComplex a xs b ys f).2 = 0) :
  (∀ g ∈ ys, ansOpenFibre a xs b ys f g = (xs.filter (opAt f g), 0) ∧ ansFibreOf a xs b ys f g = ((a, xs.filter (inAt f g.toNat)), 0) ∧ cxOk a (xs.filter (inAt f g.toNat)) = true ∧
   decide (0 < (xs.filter (opAt f g)).length) = decide (g ∈ (ansImageComplex a xs b ys f).1.2)) ∧
  (ys.map fun g => (xs.filter (opAt f g)).length).sum = xs.length ∧ ansAreContiguous a xs b ys f f = (true, 0) ∧ ys.length ≤ 64 ∧ xs.length ≤ 64 ∧ (ansImageComplex a xs b ys f).1.2.length ≤ 1000000 := by
 have h0 := ima_zero h
 have hz := codeSimp_zero h0
 obtain ⟨n, m, rfl, rfl, hx, hy, -, hs, -⟩ := hz
 have hs := hs f (List.mem_singleton.2 rfl)
 have hcx : cxOk (n : Int) xs = true := by
  unfold codeSimp at h0
  split at h0
  ·next h1 => exact (Bool.and_eq_true _ _ ▸ h1).1
  ·cases h0
 have hI : (ansImageComplex (n : Int) xs (m : Int) ys f).1.2 = thL (imAt xs f) (2 ^ m) := by
  unfold ansImageComplex
  rw [if_pos h0, Int.toNat_natCast]
 refine ⟨fun g hg => ⟨?_, ?_, fibre_cx (m := m) hcx, ?_⟩, open_parts hy.asc xs hs, ?_, Nat.le_trans hy.len (by decide), Nat.le_trans hx.len (by decide), ?_⟩
 ·unfold ansOpenFibre
  rw [if_pos (codeSimp_in h0 hg)]
 ·unfold ansFibreOf
  rw [if_pos (codeSimp_in h0 hg)]
 ·rw [hI]; exact open_image hy hg
 ·unfold ansAreContiguous
  rw [if_pos (codeSimp_self h0), cont_self hs]
 ·rw [hI]
  refine Nat.le_trans (thL_len _ _) ?_
  have := pw6 hy.hi
  omega
theorem key_comp {a b c : Int} {xs ys zs f g : List Int} (h : (ansComposeMaps a xs b ys c zs f g).2 = 0) : ansIsSimplicial a xs c zs (ansComposeMaps a xs b ys c zs f g).1 = (true, 0) := by
 unfold ansComposeMaps at h ⊢
 split at h
 ·next h1 =>
  rw [if_pos h1]
  exact comp_simp h1
 ·next h1 => exact absurd h h1
theorem sum_take {ys : List Int} {i : Nat} {y : Int} (F : Int → Nat) (hi : i < ys.length) (hy : ys.getD i 0 = y) : ((ys.take (i + 1)).map F).sum = ((ys.take i).map F).sum + F y := by
 rw [take_get hi hy, List.map_append, List.sum_append]
 simp
theorem grown_below {w w' : World} (h : Below w.heap.size w w') (row : Option Nat) : w.grownBy w' row := ⟨h.os, h.tape, h.output, h.size, fun k hk _ => h.block k hk⟩
theorem grown_drew (w : World) (row : Option Nat) : w.grownBy w.drew row := grown_below (Below.refl _ _).drew row
theorem grown_cell {w w' : World} {b : Nat} (hg : w.grownBy w' (some b)) {a : Addr} {v : Value} (h : w.cell? a = some v) (hne : a.block ≠ b) : w'.cell? a = some v := hg.cell h (fun e => hne (by injection e))
/-- what lay below a block that is turned -/
theorem below_grown {B b : Nat} {w w' : World} (hg : w.grownBy w' (some b)) (h1 : B ≤ b) (h2 : B ≤ w.heap.size) : Below B w w' :=
 ⟨hg.os, hg.tape, hg.output, hg.size, fun k hk => hg.block k (by omega) (fun e => by injection e; omega)⟩
/-- reads, whatever becomes of block b -/
def RdK (b : Nat) (w : World) (v : Value) (xs : List Int) : Prop := ∀ w', w.grownBy w' (some b) → ReadI w' v xs
theorem RdK.read {b : Nat} {w : World} {v : Value} {xs : List Int} (h : RdK b w v xs) : ReadI w v xs := h w (grown_below (Below.refl _ _) _)
theorem RdK.go {b : Nat} {w w' : World} {v : Value} {xs : List Int} (h : RdK b w v xs) (hg : w.grownBy w' (some b)) : RdK b w' v xs := fun w2 h2 => h w2 (grown_trans hg h2)
/-- block b alone is turned, and what is known of it stays -/
def Gm (b : Nat) (I : World → Prop) (w w' : World) : Prop := w.grownBy w' (some b) ∧ (I w → I w')
theorem Gm.refl (b : Nat) (I : World → Prop) (w : World) : Gm b I w w := ⟨grown_below (Below.refl _ _) _, id⟩
theorem Gm.trans {b : Nat} {I : World → Prop} {w1 w2 w3 : World} (h : Gm b I w1 w2) (k : Gm b I w2 w3) : Gm b I w1 w3 := ⟨grown_trans h.1 k.1, fun x => k.2 (h.2 x)⟩
/-- each step -/
def gSteps (G : World → World → Prop) (P : Program) (l : List Oper) (B : List Nat) (V : Nat → Value → World → Prop) (a : Act) (w : World) : Nat → List Oper → Prop
 | _, [] => True
 | i, o :: r => (∀ s w1, G w w1 → (∀ j, ((List.range l.length).contains j && (B.getD i 0).testBit j) = true → V j (s j) w1) → (∀ j, (decide (j < l.length) && (B.getD j 0).testBit i) = true → s j = (a.tmps[(dsOf l)[j]?.getD 0]?).getD undef) →
   ∀ R : Value → World → Prop, (∀ v w', G w1 w' → V i v w' → R v w') → opGives P o (putAll (dsOf l) 0 s a).eval w1 R) ∧ gSteps G P l B V a w (i + 1) r
theorem gSteps_at {G : World → World → Prop} {P : Program} {l : List Oper} {B : List Nat} {V : Nat → Value → World → Prop} {a : Act} {w : World} : ∀ (r : List Oper) (k : Nat), gSteps G P l B V a w k r → ∀ i o, r[i]? = some o →
  ∀ s w1, G w w1 → (∀ j, ((List.range l.length).contains j && (B.getD (k + i) 0).testBit j) = true → V j (s j) w1) → (∀ j, (decide (j < l.length) && (B.getD j 0).testBit (k + i)) = true → s j = (a.tmps[(dsOf l)[j]?.getD 0]?).getD undef) →
   ∀ R : Value → World → Prop, (∀ v w', G w1 w' → V (k + i) v w' → R v w') → opGives P o (putAll (dsOf l) 0 s a).eval w1 R
 | [], _, _, _, _, h => by cases h
 | x :: r, k, h, 0, o, ho => by cases ho; exact h.1
 | x :: r, k, h, i + 1, o, ho => by
  have := gSteps_at r (k + 1) h.2 i o ho
  rwa [show k + 1 + i = k + (i + 1) by omega] at this
theorem wp_region_g (G : World → World → Prop) (hGr : ∀ w, G w w.drew) (hGt : ∀ w1 w2 w3, G w1 w2 → G w2 w3 → G w1 w3) {P : Program} {id : Nat} {Q : Exit → Act → World → Prop} {a : Act} {w : World} {l : List Oper} (V : Nat → Value → World → Prop) (B : List Nat) (hm : P.follows .mixedOrders = true) (hok : phiOk l B a.tmps.size = true)
  (hV : ∀ i v w1 w2, G w1 w2 → V i v w1 → V i v w2)
  (hs : gSteps G P l B V a w 0 l)
  (hend : ∀ s w1, G w w1 → (∀ i, i < l.length → V i (s i) w1) → Q .normal (putAll (dsOf l) 0 s a) w1) : (Code.region id l.toArray true).wp P Q a w := by
 simp only [phiOk, Bool.and_eq_true] at hok
 obtain ⟨⟨⟨⟨⟨h1, h0⟩, h2⟩, h3⟩, h4⟩, h5⟩ := hok
 have hnd : (dsOf l).Nodup := of_decide_eq_true h2
 have hTl : (rtab .any l.toArray).2.length = l.length := by rw [rtab_length]; simp
 have hds : ∀ (i : Nat) (o : Oper), l[i]? = some o → o.dst = some ((dsOf l)[i]?.getD 0) ∧ (dsOf l)[i]? = some (o.dst.getD 0) := by
  intro i o ho
  have e : (dsOf l)[i]? = some (o.dst.getD 0) := by simp [dsOf, ho]
  refine ⟨?_, e⟩
  have := List.all_eq_true.1 h1 o (List.mem_of_getElem? ho)
  rw [e]
  cases hd : o.dst with
  | none => rw [hd] at this; cases this
  | some d => rfl
 refine wp_region_last_drew (S := fun _ => True) (ds := []) hm trivial (fun _ => ?_)
 refine inv_ (T := rtab .any l.toArray) (B := B) (List.range l.length) (fun b a' w' => ∃ s, a' = putAll (dsOf l) 0 s a ∧ G w w' ∧ (∀ i, i < l.length → b i = true → V i (s i) w') ∧ ∀ i, i < l.length → b i = false → s i = (a.tmps[(dsOf l)[i]?.getD 0]?).getD undef) rfl h4 h5 ?_ ?_ ?_ ?_
 ·rw [hTl, Bool.and_eq_true, beq_iff_eq, beq_iff_eq]
  refine ⟨?_, by simp⟩
  apply List.ext_getElem
  ·simp [lof]
  ·intro i hi1 hi2
   have hi : i < l.length := by simpa [lof] using hi1
   simp [lof, hi]
 ·refine ⟨fun k => (a.tmps[(dsOf l)[k]?.getD 0]?).getD undef, ?_, hGr _, (fun _ _ h => by cases h), fun _ _ _ => rfl⟩
  refine (putAll_self _ _ _ _ (fun j d hj => ?_)).symm
  have hd := List.all_eq_true.1 h3 d (List.mem_of_getElem? hj)
  have hd' : d < a.tmps.size := of_decide_eq_true hd
  simp [hj, hd']
 ·intro i hi b a' w' ⟨s, ha, hb, hv, hq⟩ hbi hon hoff
  subst ha
  have hil : i < l.length := List.mem_range.1 hi
  have ho : l[i]? = some l[i] := List.getElem?_eq_getElem hil
  refine ⟨l[i], by simp, fun K hK => ?_⟩
  have hK' := Shut.out hK
  have hg : l[i].guard = none := by
   have := List.all_eq_true.1 h0 l[i] (List.mem_of_getElem? ho)
   cases hq : l[i].guard with
   | none => rfl
   | some g => rw [hq] at this; cases this
  rw [if_pos (by simp [Region.wanted, hg])]
  refine opGives_wp (gSteps_at l 0 hs i _ ho s w' hb (fun j hj => hv j (by have h6 := (Bool.and_eq_true _ _ ▸ hj : _ ∧ _).1; simpa using h6) (hon j (by simpa using hj))) (fun j hj => hq j (of_decide_eq_true (Bool.and_eq_true _ _ ▸ hj : _ ∧ _).1) (hoff j (by simpa using hj))) _ (fun v w2 hb2 hv2 => hK' _ _ ?_))
  refine ⟨upd s i v, ?_, hGt _ _ _ hb hb2, fun j hj hbj => ?_, fun j hj hbj => ?_⟩
  ·rw [(hds i _ ho).1, (hds i _ ho).2, Option.getD_some]
   exact putAll_put _ _ _ _ _ _ _ hnd (Nat.zero_le _) (by rw [Nat.sub_zero]; exact (hds i _ ho).2)
  ·by_cases hji : j = i
   ·subst hji
    have : upd s j v j = v := by simp [upd]
    rw [this]
    rw [Nat.zero_add] at hv2
    exact hv2
   ·have : upd s i v j = s j := by simp [upd, hji]
    rw [this]
    rw [up_ne hji] at hbj
    exact hV _ _ _ _ hb2 (hv j hj hbj)
  ·have hji : j ≠ i := by
    rintro rfl
    rw [up_self] at hbj
    cases hbj
   have : upd s i v j = s j := by simp [upd, hji]
   rw [this]
   rw [up_ne hji] at hbj
   exact hq j hj hbj
 ·intro b a' w' hall ⟨s, ha, hb, hv, hq⟩
  subst ha
  exact hend s w' hb (fun i hi => hv i hi (hall i (by simpa using hi)))
/-- an operation that may be struck by its guard -/
def stepG (P : Program) (l : List Oper) (o : Oper) (A : Act) (w : World) (R : Value → World → Prop) : Prop :=
 if Region.wanted o (yielded l.toArray A.tmps) = true then opGives P o A.eval w R else R undef w
theorem stepG_on {P : Program} {l : List Oper} {o : Oper} {A : Act} {w : World} {R : Value → World → Prop} (h : Region.wanted o (yielded l.toArray A.tmps) = true) (hR : opGives P o A.eval w R) : stepG P l o A w R := by
 unfold stepG; rw [if_pos h]; exact hR
def ggOk (l : List Oper) (B : List Nat) (n : Nat) : Bool :=
 l.all (fun o => o.dst.isSome) && decide (dsOf l).Nodup && (dsOf l).all (fun d => decide (d < n)) && waitsOk (rtab .any l.toArray).2 B && baseOk (rtab .any l.toArray).2 (List.range l.length)
def markU (b : Nat → Bool) (i : Nat) (j : Nat) : Bool := j == i || b j
theorem markU_self (b : Nat → Bool) (i : Nat) : markU b i i = true := by unfold markU; simp
theorem markU_ne (b : Nat → Bool) {i j : Nat} (h : j ≠ i) : markU b i j = b j := by unfold markU; simp [h]
theorem upd_self (s : Nat → Value) (i : Nat) (v : Value) : upd s i v i = v := by simp [upd]
theorem upd_ne (s : Nat → Value) {i j : Nat} (v : Value) (h : j ≠ i) : upd s i v j = s j := by simp [upd, h]
/-- each step -/
def uSteps (qt : Nat → Bool) (V : Nat → Value → Prop) (I : (Nat → Bool) → (Nat → Value) → World → Prop) (P : Program) (l : List Oper) (B : List Nat) (a : Act) : Nat → List Oper → Prop
 | _, [] => True
 | i, o :: r => (∀ s b w1, I b s w1 → b i = false → (∀ j, (decide (j < l.length) && (B.getD i 0).testBit j) = true → b j = true ∧ (qt j = true → V j (s j))) →
   (∀ j, (decide (j < l.length) && (B.getD j 0).testBit i) = true → s j = (a.tmps[(dsOf l)[j]?.getD 0]?).getD undef) →
   ∀ R : Value → World → Prop, (qt i = true → ∀ v, V i v → R v w1) → (qt i = false → ∀ v w', I (markU b i) (upd s i v) w' → R v w') → stepG P l o (putAll (dsOf l) 0 s a) w1 R) ∧ uSteps qt V I P l B a (i + 1) r
theorem uSteps_at {qt : Nat → Bool} {V : Nat → Value → Prop} {I : (Nat → Bool) → (Nat → Value) → World → Prop} {P : Program} {l : List Oper} {B : List Nat} {a : Act} : ∀ (r : List Oper) (k : Nat), uSteps qt V I P l B a k r → ∀ i o, r[i]? = some o →
  ∀ s b w1, I b s w1 → b (k + i) = false → (∀ j, (decide (j < l.length) && (B.getD (k + i) 0).testBit j) = true → b j = true ∧ (qt j = true → V j (s j))) →
   (∀ j, (decide (j < l.length) && (B.getD j 0).testBit (k + i)) = true → s j = (a.tmps[(dsOf l)[j]?.getD 0]?).getD undef) →
   ∀ R : Value → World → Prop, (qt (k + i) = true → ∀ v, V (k + i) v → R v w1) → (qt (k + i) = false → ∀ v w', I (markU b (k + i)) (upd s (k + i) v) w' → R v w') → stepG P l o (putAll (dsOf l) 0 s a) w1 R
 | [], _, _, _, _, h => by cases h
 | x :: r, k, h, 0, o, ho => by cases ho; exact h.1
 | x :: r, k, h, i + 1, o, ho => by
  have := uSteps_at r (k + 1) h.2 i o ho
  rwa [show k + 1 + i = k + (i + 1) by omega] at this
theorem wp_region_u {P : Program} {id : Nat} {Q : Exit → Act → World → Prop} {a : Act} {w : World} {l : List Oper} (qt : Nat → Bool) (V : Nat → Value → Prop) (I : (Nat → Bool) → (Nat → Value) → World → Prop) (B : List Nat) (hm : P.follows .mixedOrders = true) (hok : ggOk l B a.tmps.size = true)
  (h0 : ∀ b s, (∀ i, b i = false) → I b s w.drew)
  (hI : ∀ i b s v w1, qt i = true → I b s w1 → I (markU b i) (upd s i v) w1)
  (hs : uSteps qt V I P l B a 0 l)
  (hend : ∀ s b w1, I b s w1 → (∀ i, i < l.length → b i = true) → (∀ i, i < l.length → qt i = true → V i (s i)) → Q .normal (putAll (dsOf l) 0 s a) w1) : (Code.region id l.toArray true).wp P Q a w := by
 simp only [ggOk, Bool.and_eq_true] at hok
 obtain ⟨⟨⟨⟨h1, h2⟩, h3⟩, h4⟩, h5⟩ := hok
 have hnd : (dsOf l).Nodup := of_decide_eq_true h2
 have hTl : (rtab .any l.toArray).2.length = l.length := by rw [rtab_length]; simp
 have hds : ∀ (i : Nat) (o : Oper), l[i]? = some o → o.dst = some ((dsOf l)[i]?.getD 0) ∧ (dsOf l)[i]? = some (o.dst.getD 0) := by
  intro i o ho
  have e : (dsOf l)[i]? = some (o.dst.getD 0) := by simp [dsOf, ho]
  refine ⟨?_, e⟩
  have := List.all_eq_true.1 h1 o (List.mem_of_getElem? ho)
  rw [e]
  cases hd : o.dst with
  | none => rw [hd] at this; cases this
  | some d => rfl
 have hrange : ∀ j, j < l.length → (List.range l.length).contains j = true := fun j hj => by simpa using hj
 refine wp_region_last_drew (S := fun _ => True) (ds := []) hm trivial (fun _ => ?_)
 refine inv_ (T := rtab .any l.toArray) (B := B) (List.range l.length) (fun b a' w' => ∃ s, a' = putAll (dsOf l) 0 s a ∧ I b s w' ∧ (∀ i, i < l.length → b i = true → qt i = true → V i (s i)) ∧ ∀ i, i < l.length → b i = false → s i = (a.tmps[(dsOf l)[i]?.getD 0]?).getD undef) rfl h4 h5 ?_ ?_ ?_ ?_
 ·rw [hTl, Bool.and_eq_true, beq_iff_eq, beq_iff_eq]
  refine ⟨?_, by simp⟩
  apply List.ext_getElem
  ·simp [lof]
  ·intro i hi1 hi2
   have hi : i < l.length := by simpa [lof] using hi1
   simp [lof, hi]
 ·refine ⟨fun k => (a.tmps[(dsOf l)[k]?.getD 0]?).getD undef, ?_, h0 _ _ (fun _ => rfl), (fun _ _ h => by cases h), fun _ _ _ => rfl⟩
  refine (putAll_self _ _ _ _ (fun j d hj => ?_)).symm
  have hd := List.all_eq_true.1 h3 d (List.mem_of_getElem? hj)
  have hd' : d < a.tmps.size := of_decide_eq_true hd
  simp [hj, hd']
 ·intro i hi b a' w' ⟨s, ha, hIb, hv, hq0⟩ hbi hon hoff
  subst ha
  have hil : i < l.length := List.mem_range.1 hi
  have ho : l[i]? = some l[i] := List.getElem?_eq_getElem hil
  refine ⟨l[i], by simp, fun K hK => ?_⟩
  have hK' := Shut.out hK
  have hup : up b i = markU b i := by
   funext j
   by_cases hji : j = i
   ·subst hji; rw [up_self, markU_self]
   ·rw [up_ne hji, markU_ne b hji]
  have hgo : ∀ v w2, I (markU b i) (upd s i v) w2 → (qt i = true → V i v) → K ((putAll (dsOf l) 0 s a).put l[i].dst v) w2 := by
   intro v w2 hI2 hV2
   refine hK' _ _ ⟨upd s i v, ?_, by rw [hup]; exact hI2, fun j hj hbj hqj => ?_, fun j hj hbj => ?_⟩
   ·rw [(hds i _ ho).1, (hds i _ ho).2, Option.getD_some]
    exact putAll_put _ _ _ _ _ _ _ hnd (Nat.zero_le _) (by rw [Nat.sub_zero]; exact (hds i _ ho).2)
   ·by_cases hji : j = i
    ·subst hji
     rw [upd_self]
     exact hV2 hqj
    ·rw [upd_ne s v hji]
     rw [up_ne hji] at hbj
     exact hv j hj hbj hqj
   ·have hji : j ≠ i := by
     rintro rfl
     rw [up_self] at hbj
     cases hbj
    rw [upd_ne s v hji]
    rw [up_ne hji] at hbj
    exact hq0 j hj hbj
  have hst := uSteps_at l 0 hs i _ ho s b w' hIb (by rw [Nat.zero_add]; exact hbi) (fun j hj => by
   rw [Nat.zero_add] at hj
   have h6 := Bool.and_eq_true _ _ ▸ hj
   have h7 : j < l.length := of_decide_eq_true h6.1
   have h8 : b j = true := hon j (by rw [hrange j h7]; exact h6.2)
   exact ⟨h8, hv j h7 h8⟩) (fun j hj => by
   rw [Nat.zero_add] at hj
   have h6 := Bool.and_eq_true _ _ ▸ hj
   have h7 : j < l.length := of_decide_eq_true h6.1
   exact hq0 j h7 (hoff j (by rw [hrange j h7]; exact h6.2))) (fun v w2 => K ((putAll (dsOf l) 0 s a).put l[i].dst v) w2) (fun hqi v hvi => by
   rw [Nat.zero_add] at hqi hvi
   exact hgo v w' (hI i b s v w' hqi hIb) (fun _ => hvi)) (fun hqi v w2 hI2 => by
   rw [Nat.zero_add] at hqi hI2
   exact hgo v w2 hI2 (fun h => by rw [hqi] at h; cases h))
  unfold stepG at hst
  split
  ·next h7 => rw [if_pos h7] at hst; exact opGives_wp hst
  ·next h7 => rw [if_neg h7] at hst; exact hst
 ·intro b a' w' hall hz
  obtain ⟨s, ha, hIb, hv, -⟩ := hz
  subst ha
  exact hend s b w' hIb (fun i hi => hall i (hrange i hi)) (fun i hi => hv i hi (hall i (hrange i hi)))
def Bl (w w' : World) : Prop := Below w.heap.size w w'
theorem Bl.trans {a b c : World} (h : Bl a b) (k : Bl b c) : Bl a c := Below.trans h (Below.mono k (Below.size h))
/-- block bs is a source of numbers -/
def Src (bs : Nat) (w : World) : Prop :=
 ∃ (A : Option Addr) (n c at_ : Nat) (h : Nat), w.heap[bs]? = some (.cells #[.slice A n c, .int .i64 at_, .int .u64 h] 206) ∧ at_ ≤ n ∧ n ≤ 4096 ∧ h < 18446744073709551616 ∧
  (0 < n → ∃ ad : Addr, A = some ad ∧ ad.block < bs ∧ ∀ i, i < n → ∃ y : Nat, y < 256 ∧ w.cell? (ad.add i) = some (.int .u8 y))
theorem Src.below {bs : Nat} {w w' : World} (h : Src bs w) (hb : Below w.heap.size w w') : Src bs w' := by
 obtain ⟨A, n, c, at_, hh, h1, h2, h3, h4, h5⟩ := h
 refine ⟨A, n, c, at_, hh, by rw [hb.block bs (blk_lt h1)]; exact h1, h2, h3, h4, fun hn => ?_⟩
 obtain ⟨ad, e, hne, hc⟩ := h5 hn
 exact ⟨ad, e, hne, fun i hi => by obtain ⟨y, hy, hcy⟩ := hc i hi; exact ⟨y, hy, pw_cell_below hb hcy⟩⟩
theorem Src.lt {bs : Nat} {w : World} (h : Src bs w) : bs < w.heap.size := by
 obtain ⟨A, n, c, at_, hh, h1, -⟩ := h
 exact blk_lt h1
/-- what lies above the source does not count -/
theorem Src.up {bs B : Nat} {w w' : World} (h : Src bs w) (hb : Below B w w') (hB : bs < B) : Src bs w' := by
 obtain ⟨A, n, c, at_, hh, h1, h2, h3, h4, h5⟩ := h
 refine ⟨A, n, c, at_, hh, by rw [hb.block bs hB]; exact h1, h2, h3, h4, fun hn => ?_⟩
 obtain ⟨ad, e, hne, hc⟩ := h5 hn
 refine ⟨ad, e, hne, fun i hi => ?_⟩
 obtain ⟨y, hy, hcy⟩ := hc i hi
 refine ⟨y, hy, ?_⟩
 have hbl : (ad.add i).block = ad.block := by unfold Addr.add; split <;> rfl
 rw [World.cell?_of_block (w := w) (hb.block _ (by rw [hbl]; omega))]; exact hcy
/-- a draw turns the source alone -/
def Dw (bs : Nat) (w w' : World) : Prop := w.grownBy w' (some bs) ∧ Src bs w'
theorem wrapUn {n : Nat} (h : n < 18446744073709551616) : IntKind.u64.wrap (n : Int) = n := by
 show ((n : Int) % 18446744073709551616) = n
 omega
theorem ofIntU {a : Nat} (h : a < 18446744073709551616) : (BitVec.ofInt 64 (a : Int)).toNat = a := by
 rw [BitVec.ofInt_natCast, BitVec.toNat_ofNat]; exact Nat.mod_eq_of_lt h
theorem and_u64 (a b : Nat) (ha : a < 18446744073709551616) (hb : b < 18446744073709551616) : bits .and .u64 (a : Int) (b : Int) = ((a &&& b : Nat) : Int) := by
 have hx : a &&& b < 2 ^ 64 := Nat.and_lt_two_pow _ hb
 show IntKind.u64.wrap ((BitVec.ofInt 64 (a : Int) &&& BitVec.ofInt 64 (b : Int)).toNat : Int) = _
 rw [BitVec.toNat_and, ofIntU ha, ofIntU hb, wrapUn (by omega)]
theorem wrapU_nat (x : Int) : ∃ m : Nat, IntKind.u64.wrap x = (m : Int) ∧ m < 18446744073709551616 := by
 refine ⟨(IntKind.u64.wrap x).toNat, ?_, ?_⟩
 ·have : 0 ≤ IntKind.u64.wrap x := by rw [IntKind.wrap_u64]; omega
  omega
 ·have : IntKind.u64.wrap x < 18446744073709551616 := by rw [IntKind.wrap_u64]; omega
  omega
set_option maxRecDepth 100000 in
set_option maxHeartbeats 2000000 in
theorem next (bs : Nat) (n : Int) (w : World) (hn : n ≤ 1000000) (hs : Src bs w) :
  Calls Tryz.prog 146 #[.pointer (some ⟨bs, 0, none⟩), .int .i64 n] w fun e w' => ∃ r : Int, e = .returned (.int .i64 r) ∧ (n < 1 → r = 0) ∧ (1 ≤ n → 0 ≤ r ∧ r < n) ∧ Dw bs w w' := by
 have HS := Aside0.mk hs
 obtain ⟨A, nn, c, at_, hh, h1, h2, h3, h4, h5⟩ := hs
 by_cases hn1 : n < 1
 ·go_enter Tryz.func146, Tryz.ntmps146
  go_wp2
  go_ret
  exact ⟨0, rfl, fun _ => rfl, fun h => by omega, grown_below (Below.refl _ _) _, HS.out⟩
 ·have H1 := Aside0.mk h1
  have c0 : w.cell? ⟨bs, 0, none⟩ = some (.slice A nn c) := blk_cell h1 0
  have c1 : w.cell? ⟨bs, 1, none⟩ = some (.int .i64 at_) := blk_cell h1 1
  have c2 : w.cell? ⟨bs, 2, none⟩ = some (.int .u64 hh) := blk_cell h1 2
  have f2 : w.frozen? ⟨bs, 2, none⟩ = false := blk_frozen h1 2
  obtain ⟨g, hg, hg2⟩ := wrapU_nat (IntKind.u64.wrap ((hh : Int) * 6364136223846793005) + 1442695040888963407)
  obtain ⟨z, hz⟩ : ∃ z : Nat, z = (g / 8589934592) &&& 16777215 := ⟨_, rfl⟩
  have hz2 : z ≤ 16777215 := by rw [hz]; exact Nat.and_le_right
  have hx : bits .and .u64 ((g : Int) / 8589934592) 16777215 = (z : Int) := by
   rw [show ((g : Int) / 8589934592) = ((g / 8589934592 : Nat) : Int) by omega, show (16777215 : Int) = ((16777215 : Nat) : Int) from rfl, and_u64 _ _ (by omega) (by omega), hz]
  clear hz
  obtain ⟨W1, hW1⟩ : ∃ W1, W1 = w.setCell ⟨bs, 2, none⟩ (.int .u64 (g : Int)) := ⟨_, rfl⟩
  have k1 : W1.heap[bs]? = some (.cells #[.slice A nn c, .int .i64 at_, .int .u64 (g : Int)] 206) := by rw [hW1]; exact blk_put H1.out 2 _ rfl
  have g1 : w.grownBy W1 (some bs) := by rw [hW1]; exact set_grown' _ _ _ _
  have K1 := Aside0.mk k1
  have G1 := Aside0.mk g1
  have d0 : W1.cell? ⟨bs, 0, none⟩ = some (.slice A nn c) := blk_cell k1 0
  have d1 : W1.cell? ⟨bs, 1, none⟩ = some (.int .i64 at_) := blk_cell k1 1
  have x0 : ∀ x : Ext W1, x.1.cell? ⟨bs, 0, none⟩ = some (.slice A nn c) := fun x => Ext.cell d0 x
  have x1 : ∀ x : Ext W1, x.1.cell? ⟨bs, 1, none⟩ = some (.int .i64 at_) := fun x => Ext.cell d1 x
  have HD := Aside0.mk (fun (hn : 0 < nn) => by
   obtain ⟨ad, e, hne, hc⟩ := h5 hn
   exact (⟨ad, e, hne, hc⟩ : ∃ ad : Addr, A = some ad ∧ ad.block < bs ∧ ∀ i, i < nn → ∃ y : Nat, y < 256 ∧ w.cell? (ad.add i) = some (.int .u8 y)))
  have hn0 : ¬ (n = 0) := by omega
  have HT := Aside0.mk (fun (x : Nat) (hxx : x ≤ 16777470) => (show 0 ≤ Int.tmod (x : Int) n ∧ Int.tmod (x : Int) n < n ∧ -9223372036854775808 ≤ Int.tmod (x : Int) n ∧ Int.tmod (x : Int) n ≤ 9223372036854775807 from by
   have h1 := Int.tmod_nonneg n (show (0 : Int) ≤ (x : Int) by omega)
   have h2 := Int.tmod_lt_of_pos (x : Int) (show (0 : Int) < n by omega)
   omega))
  have hmx : Tryz.prog.follows .mixedOrders = true := by kernel_rfl
  have hn1' : (1 : Int) ≤ n := by omega
  clear h1 k1 g1 h5 d0 d1
  by_cases hat : at_ < nn
  ·have hatI : (at_ : Int) < (nn : Int) := by omega
   obtain ⟨ad, rfl, hne, hby⟩ := HD.out (by omega)
   obtain ⟨y, hy, hyc⟩ := hby at_ hat
   have HBY := Aside0.mk (fun i hi => by
    obtain ⟨y, h1, h2⟩ := hby i hi
    exact (⟨y, h1, h2⟩ : ∃ y : Nat, y < 256 ∧ w.cell? (ad.add i) = some (.int .u8 y)))
   have HNE := Aside0.mk hne
   have hblk : ∀ i, (ad.add i).block = ad.block := fun i => by unfold Addr.add; split <;> rfl
   have HBLK := Aside0.mk hblk
   have hyc1 := grown_cell G1.out hyc (by rw [hblk]; exact Nat.ne_of_lt hne)
   have x2 : ∀ x : Ext W1, x.1.cell? (ad.add at_) = some (.int .u8 y) := fun x => Ext.cell hyc1 x
   clear hby hne hblk hyc1 hyc
   go_enter Tryz.func146, Tryz.ntmps146
   go_wp2
   rw [← hW1]
   clear hW1
   refine wp_region_ext (by kernel_rfl) (by kernel_rfl) ?_
   repeat (go_big_quiet_step (fail))
   refine wpQuiet_nil ?_
   rintro _ ⟨v, rfl⟩
   obtain ⟨W2, hW2⟩ : ∃ W2, W2 = v.1 := ⟨_, rfl⟩
   have HB2 : Aside0 (Below W1.heap.size W1 W2) := ⟨by rw [hW2]; exact v.2⟩
   have e0 := x0 ⟨W2, HB2.out⟩
   have e1 := x1 ⟨W2, HB2.out⟩
   have e2 := x2 ⟨W2, HB2.out⟩
   rw [← hW2]
   clear hW2 x0 x1 x2
   have x0 : ∀ x : Ext W2, x.1.cell? ⟨bs, 0, none⟩ = some (.slice (some ad) nn c) := fun x => Ext.cell e0 x
   have x1 : ∀ x : Ext W2, x.1.cell? ⟨bs, 1, none⟩ = some (.int .i64 at_) := fun x => Ext.cell e1 x
   have x2 : ∀ x : Ext W2, x.1.cell? (ad.add at_) = some (.int .u8 y) := fun x => Ext.cell e2 x
   clear e0 e1 e2
   go_wp2
   refine wp_region_ext (by kernel_rfl) (by kernel_rfl) ?_
   repeat (go_big_quiet_step (fail))
   refine wpQuiet_nil ?_
   rintro _ ⟨v3, rfl⟩
   obtain ⟨W3, hW3⟩ : ∃ W3, W3 = v3.1 := ⟨_, rfl⟩
   have HB3 : Aside0 (Below W1.heap.size W1 W3) := ⟨by rw [hW3]; exact HB2.out.trans (v3.2.mono HB2.out.size)⟩
   rw [← hW3]
   clear hW3 x0 x1 x2
   have k3 : W3.heap[bs]? = some (.cells #[.slice (some ad) nn c, .int .i64 at_, .int .u64 (g : Int)] 206) := by rw [HB3.out.block bs (blk_lt K1.out)]; exact K1.out
   have K3 := Aside0.mk k3
   have e1 : W3.cell? ⟨bs, 1, none⟩ = some (.int .i64 at_) := blk_cell k3 1
   have f1 : W3.frozen? ⟨bs, 1, none⟩ = false := blk_frozen k3 1
   have HTT := Aside0.mk (HT.out (z + y) (by omega))
   have hzy : wrap64 ((z : Int) + (y : Int)) = (z : Int) + (y : Int) := by unfold wrap64; omega
   have hTw : wrap64 (Int.tmod ((z : Int) + (y : Int)) n) = Int.tmod ((z : Int) + (y : Int)) n := by
    have h1 := HTT.out
    rw [Int.natCast_add] at h1
    unfold wrap64; omega
   have haw : wrap64 ((at_ : Int) + 1) = (at_ : Int) + 1 := by unfold wrap64; omega
   have H234 := Aside0.mk (⟨h2, h3, hg2, hat⟩ : at_ ≤ nn ∧ nn ≤ 4096 ∧ g < 18446744073709551616 ∧ at_ < nn)
   clear k3 h2 h3 h4 hg2 hz2 hy hn hat HT c0 c1 c2 f2 hg hx
   go_wp2
   go_ret
   have hgr : w.grownBy (W3.setCell ⟨bs, 1, none⟩ (.int .i64 ((at_ : Int) + 1))) (some bs) := grown_trans G1.out (grown_trans (grown_below HB3.out _) (set_grown' _ _ _ _))
   have h1 := HTT.out
   rw [Int.natCast_add] at h1
   obtain ⟨i1, i2, i3, i4⟩ := H234.out
   refine ⟨_, rfl, fun h => by omega, fun _ => ⟨Int.emod_nonneg _ hn0, Int.emod_lt_of_pos _ (by omega)⟩, hgr, ⟨some ad, nn, c, at_ + 1, g, ?_, by omega, i2, i3, fun _ => ⟨ad, rfl, HNE.out, fun i hi => ?_⟩⟩⟩
   ·rw [Int.natCast_add]; exact blk_put K3.out 1 _ rfl
   ·obtain ⟨y', h5, h6⟩ := HBY.out i hi
    exact ⟨y', h5, grown_cell hgr h6 (by rw [HBLK.out]; exact Nat.ne_of_lt HNE.out)⟩
  ·have hatI : ¬ (at_ : Int) < (nn : Int) := by omega
   have HTT := Aside0.mk (HT.out z (by omega))
   have hTw : wrap64 (Int.tmod (z : Int) n) = Int.tmod (z : Int) n := by
    have h1 := HTT.out
    unfold wrap64; omega
   go_enter Tryz.func146, Tryz.ntmps146
   go_wp2
   rw [← hW1]
   clear hW1
   refine wp_region_ext (by kernel_rfl) (by kernel_rfl) ?_
   repeat (go_big_quiet_step (fail))
   refine wpQuiet_nil ?_
   rintro _ ⟨v, rfl⟩
   obtain ⟨W2, hW2⟩ : ∃ W2, W2 = v.1 := ⟨_, rfl⟩
   have HB2 : Aside0 (Below W1.heap.size W1 W2) := ⟨by rw [hW2]; exact v.2⟩
   rw [← hW2]
   have H234 := Aside0.mk (⟨h2, h3, hg2⟩ : at_ ≤ nn ∧ nn ≤ 4096 ∧ g < 18446744073709551616)
   clear hW2 x0 x1 h2 h3 h4 hg2 hz2 hn hat HT c0 c1 c2 f2 hg hx
   go_wp2
   go_ret
   have hgr : w.grownBy W2 (some bs) := grown_trans G1.out (grown_below HB2.out _)
   have h1 := HTT.out
   obtain ⟨i1, i2, i3⟩ := H234.out
   refine ⟨_, rfl, fun h => by omega, fun _ => ⟨Int.emod_nonneg _ hn0, Int.emod_lt_of_pos _ (by omega)⟩, hgr, ⟨A, nn, c, at_, g, ?_, i1, i2, i3, fun h0 => ?_⟩⟩
   ·rw [HB2.out.block bs (blk_lt K1.out)]; exact K1.out
   ·obtain ⟨ad, e, hne, hby⟩ := HD.out h0
    refine ⟨ad, e, hne, fun i hi => ?_⟩
    obtain ⟨y', h5, h6⟩ := hby i hi
    exact ⟨y', h5, grown_cell hgr h6 (by rw [show (ad.add i).block = ad.block by unfold Addr.add; split <;> rfl]; exact Nat.ne_of_lt hne)⟩
end Go.Proofs.YtomofijniefelaaGreat.H
