/- Pairings and a critical face drawn: DrawCriticalChain (printed by gend25.py). IsChain of the program and of the reference. Tests of lists that the laws make: laws.hasInt, laws.likeInts. Lists of pairs that are alike: laws.pairs9. What the arguments of the laws read as. What a row of bytes reads as; big. The law FnFlows: the walk (printed by genfl.py). -/
import Derived.Laws.StructEq
import Derived.WalkKit
import Derived.ProofKit
import Derived.OpenShut
import Derived.ShutString
import Derived.ChangeOld
import Derived.Lib.SmallJoins
import Derived.Test.YtomofijniefelaaGreatKFnFlows1
import Derived.Test.YtomofijniefelaaGreatKFnFlows2
import Derived.Test.YtomofijniefelaaGreatKFnFlows3
import Derived.Test.YtomofijniefelaaGreatKFnFlows4
import Derived.Test.YtomofijniefelaaGreatKFnFlows5
import Derived.Test.YtomofijniefelaaGreatKFnFlows6
import Derived.Test.YtomofijniefelaaGreatKFnFlows7
import Derived.Test.YtomofijniefelaaGreatKFnFlows8
import Derived.Test.YtomofijniefelaaGreatKFnFlows9
import Derived.Test.YtomofijniefelaaGreatKFnFlows10
import Derived.Test.YtomofijniefelaaGreatKFnFlows11
import Derived.Test.YtomofijniefelaaGreatKFnFlows12
import Derived.Test.YtomofijniefelaaGreatKFnFlows13
import Derived.Test.YtomofijniefelaaGreatKFnFlows14
import Derived.Test.YtomofijniefelaaGreatKFnFlows15
import Derived.Test.YtomofijniefelaaGreatKFnFlows16
import Derived.Test.YtomofijniefelaaGreatKFnFlows17
import Derived.Test.YtomofijniefelaaGreatKFnFlows18
import Derived.Test.YtomofijniefelaaGreatKFnFlows19
import Derived.Test.YtomofijniefelaaGreatKFnFlows20
import Derived.Test.YtomofijniefelaaGreatKFnFlows21
import Derived.Test.YtomofijniefelaaGreatKFnFlows22
import Derived.Test.YtomofijniefelaaGreatKFnFlows23
import Derived.Test.YtomofijniefelaaGreatKFnFlows24
import Derived.Test.YtomofijniefelaaGreatKFnFlows25

namespace Go.Proofs.YtomofijniefelaaGreat.H
open Go.RowKit Go.Proofs.YtomofijniefelaaGreatW.PrintWords Go.Proofs.YtomofijniefelaaGreatW.PrintLast
set_option linter.unusedVariables false
set_option linter.unusedSimpArgs false
set_option maxRecDepth 100000 in
set_option maxHeartbeats 4000000 in
theorem drawCriticalChain (v : Value) (nb : Nat) (w : World) (hn : nb ≤ 4096) (hv : ReadY w v nb) :
  Calls Tryz.prog 44 #[v] w (fun e w' => ∃ (a b : Int) (u tv : Value) (ys : List Int) (ps : List (Int × Int)), e = .returned (.tuple #[.agg #[.int .i64 a, u], tv, .int .i64 b]) ∧ OwnI w.heap.size w' u ys ∧ OwnP w.heap.size w' tv ps ∧ Rc a ys ∧ ps.length ≤ 5000 ∧ Below w.heap.size w w') := by
 obtain ⟨w1, hw1⟩ : ∃ w1, w1 = w.alloc C0 := ⟨_, rfl⟩
 have hb1 : Below w.heap.size w w1 := by rw [hw1]; exact Below.alloc (Below.refl _ _) (Nat.le_refl _) _
 have HZ1 : Aside0 (w1.heap.size = w.heap.size + 1) := ⟨by rw [hw1]; simp⟩
 have HK1 : Aside0 (w1.heap[w.heap.size]? = some C0) := ⟨by rw [hw1]; exact blk_new w _⟩
 have HB1 := Aside0.mk hb1
 have HFR := Aside0.mk (drawTwo v nb w1 hn (hv.below hb1))
 clear hv hb1
 go_enter Tryz.func44, Tryz.ntmps44
 go_upto_region 1 with (fail)
 go_upto_region 2 with (first | (go_at_call 175; rw [← hw1]; clear hw1; refine HFR.out.mono ?_; rintro e w2 ⟨a, b, c, z, tv, ys, ps, rfl, ho, ht, hr, hpl, hb⟩; obtain ⟨Az, cz, rfl, -⟩ := id ho.read; have HOb := Aside0.mk ho; have HTb := Aside0.mk ht; have HRb := Aside0.mk hr; have HPLb := Aside0.mk hpl; have HBb := Aside0.mk hb; have HK1b : Aside0 (w2.heap[w.heap.size]? = some C0) := (⟨by rw [hb.block _ (by have := HZ1.out; omega)]; exact HK1.out⟩); clear ho ht hb))
 obtain ⟨w3, hw3⟩ : ∃ w3, w3 = w2.alloc (.cells #[.int .i64 a, .slice Az ys.length cz] 26) := ⟨_, rfl⟩
 rw [← hw3]
 have hb3 : Below w2.heap.size w2 w3 := by rw [hw3]; exact Below.alloc (Below.refl _ _) (Nat.le_refl _) _
 have hk3 : w3.heap[w2.heap.size]? = some (.cells #[.int .i64 a, .slice Az ys.length cz] 26) := by rw [hw3]; exact heap_alloc_new w2 _
 clear hw3
 have d30 : w3.cell? ⟨w2.heap.size, 0, none⟩ = some (.int .i64 a) := blk_cell hk3 0
 have d31 : w3.cell? ⟨w2.heap.size, 1, none⟩ = some (.slice Az ys.length cz) := blk_cell hk3 1
 have HK2 : Aside0 (w3.heap[w.heap.size]? = some C0) := ⟨by rw [hb3.block _ (blk_lt HK1b.out)]; exact HK1b.out⟩
 have HB2 : Aside0 (Below w1.heap.size w1 w3) := ⟨HBb.out.trans (hb3.mono HBb.out.size)⟩
 have HO2 := Aside0.mk (HOb.out.below hb3)
 have HT2 := Aside0.mk (HTb.out.below hb3)
 clear hk3 hb3
 have hk := HK2.out
 have c00 : w3.cell? ⟨w.heap.size, 0, none⟩ = some (.int .i64 0) := blk_cell hk 0
 have c01 : w3.cell? ⟨w.heap.size, 1, none⟩ = some (.slice none 0 0) := blk_cell hk 1
 have f00 : w3.frozen? ⟨w.heap.size, 0, none⟩ = false := blk_frozen hk 0
 have f01 : w3.frozen? ⟨w.heap.size, 1, none⟩ = false := blk_frozen hk 1
 clear hk
 go_wp2
 refine bodyPost_ret (results_ctt rfl _ _ w.heap.size 26 #[.int .i64 a, .slice Az ys.length cz] (0, 0) _ rfl (by refine blk_put (cs := #[.int .i64 a, .slice none 0 0]) ?_ 1 _ rfl; refine blk_put (cs := #[.int .i64 0, .slice none 0 0]) ?_ 0 _ rfl; exact HK2.out) Tryz.underlying26 rfl (by kernel_rfl)) rfl ?_
 have hg : World.grownBy w3 ((w3.setCell ⟨w.heap.size, 0, none⟩ (.int .i64 a)).setCell ⟨w.heap.size, 1, none⟩ (.slice Az ys.length cz)) (some w.heap.size) := grown_trans (set_grown' _ w.heap.size _ _) (set_grown' _ w.heap.size _ _)
 have hz := HZ1.out
 have hbz : Below w.heap.size w ((w3.setCell ⟨w.heap.size, 0, none⟩ (.int .i64 a)).setCell ⟨w.heap.size, 1, none⟩ (.slice Az ys.length cz)) := (HB1.out.trans (HB2.out.mono HB1.out.size)).trans (below_grown hg (Nat.le_refl _) (Nat.le_of_lt (blk_lt HK2.out)))
 exact ⟨a, b, _, _, ys, ps, rfl, (HO2.out.gm hg (by omega)).lower (by omega), (HT2.out.gm hg (by omega)).lower (by omega), HRb.out, HPLb.out, hbz⟩
/-- what IsChain answers -/
def ansIsChain (a : Int) (xs l : List Int) : Bool × Int := if cxOk a xs then (chOk xs l, 0) else (false, 1)
theorem ansChain_ok {a : Int} {xs l : List Int} (h : cxOk a xs = true) : ansIsChain a xs l = (chOk xs l, 0) := by unfold ansIsChain; rw [if_pos h]
theorem ansChain_no {a : Int} {xs l : List Int} (h : cxOk a xs = false) : ansIsChain a xs l = (false, 1) := by unfold ansIsChain; rw [h]; rfl
set_option maxRecDepth 100000 in
set_option maxHeartbeats 2000000 in
theorem implIsChain (a : Int) (ku : Value) (xs : List Int) (v : Value) (l : List Int) (w : World) (hk : ReadI w ku xs) (hv : ReadI w v l) :
  Calls Tryz.prog 42 #[cx a ku, v] w fun e w' => e = .returned (.tuple #[.bool (ansIsChain a xs l).1, .int .i64 (ansIsChain a xs l).2]) ∧ Below w.heap.size w w' := by
 obtain ⟨w1, hw1⟩ : ∃ w1, w1 = w.alloc (.cells #[.int .i64 a, ku] 26) := ⟨_, rfl⟩
 have hB : Below w.heap.size w w1 := by rw [hw1]; exact Below.alloc (Below.refl _ _) (Nat.le_refl _) _
 have c0 : w1.cell? ⟨w.heap.size, 0, none⟩ = some (.int .i64 a) := by rw [hw1]; simp
 have c1 : w1.cell? ⟨w.heap.size, 1, none⟩ = some ku := by rw [hw1]; simp
 have HB := Aside0.mk hB
 have HM := Aside0.mk (complexCode2 a ku xs (.func (.func 119) #[] #[]) true w1 (hk.below hB) (fun _ => alwaysB w1) ⟨_, _, _, rfl⟩)
 have HKW := Aside0.mk (fun W (h : Below w1.heap.size w1 W) => (hk.below hB).below h)
 have HVW := Aside0.mk (fun W (h : Below w1.heap.size w1 W) => (hv.below hB).below h)
 obtain ⟨A1, d1, rfl, -⟩ := id hk
 obtain ⟨A2, d2, rfl, -⟩ := id hv
 clear hk hv hB
 cases hx : cxOk a xs with
 | false =>
  have HA : Aside0 (ansIsChain a xs l = (false, 1)) := ⟨ansChain_no hx⟩
  rw [hx] at HM
  clear hx
  go_enter Tryz.func42, Tryz.ntmps42
  go_wp2_with (first | (go_at_call 172; rw [← hw1]; clear hw1; refine HM.out.mono ?_; rintro e w2 ⟨rfl, hb⟩; have HB2 := Aside0.mk hb; clear hb))
  go_ret2
  exact ⟨by rw [HA.out]; rfl, HB.out.trans (HB2.out.mono HB.out.size)⟩
 | true =>
  have HA : Aside0 (ansIsChain a xs l = (chOk xs l, 0)) := ⟨ansChain_ok hx⟩
  rw [hx] at HM
  obtain ⟨n, rfl, hc, -⟩ := cxOk_cx hx
  have HIC := Aside0.mk (fun W (h : Below w1.heap.size w1 W) => isChain n _ xs _ l W (HKW.out W h) (HVW.out W h) hc)
  obtain ⟨q, hq⟩ : ∃ q, q = chOk xs l := ⟨_, rfl⟩
  rw [← hq] at HIC HA
  clear hx hc hq
  go_enter Tryz.func42, Tryz.ntmps42
  go_wp2_with (first | (go_at_call 172; rw [← hw1]; clear hw1; refine HM.out.mono ?_; rintro e w2 ⟨rfl, hb⟩; replace c0 := pw_cell_below hb c0; replace c1 := pw_cell_below hb c1; have HB2 := Aside0.mk hb; clear hb) | (go_at_call 173; refine (HIC.out _ HB2.out).mono ?_; rintro e w3 ⟨rfl, hb⟩; have HB3 := Aside0.mk (HB2.out.trans (hb.mono HB2.out.size)); clear hb))
  go_ret2
  exact ⟨by rw [HA.out]; rfl, HB.out.trans (HB3.out.mono HB.out.size)⟩
set_option maxRecDepth 100000 in
set_option maxHeartbeats 2000000 in
theorem specIsChain (a : Int) (ku : Value) (xs : List Int) (v : Value) (l : List Int) (w : World) (hk : ReadI w ku xs) (hv : ReadI w v l) :
  Calls Tryz.prog 43 #[cx a ku, v] w fun e w' => e = .returned (.tuple #[.bool (ansIsChain a xs l).1, .int .i64 (ansIsChain a xs l).2]) ∧ Below w.heap.size w w' := by
 obtain ⟨w1, hw1⟩ : ∃ w1, w1 = w.alloc (.cells #[.int .i64 a, ku] 26) := ⟨_, rfl⟩
 have hB : Below w.heap.size w w1 := by rw [hw1]; exact Below.alloc (Below.refl _ _) (Nat.le_refl _) _
 have c0 : w1.cell? ⟨w.heap.size, 0, none⟩ = some (.int .i64 a) := by rw [hw1]; simp
 have c1 : w1.cell? ⟨w.heap.size, 1, none⟩ = some ku := by rw [hw1]; simp
 have HB := Aside0.mk hB
 have HM := Aside0.mk (specIs a ku xs w1 (hk.below hB))
 have HKW := Aside0.mk (fun W (h : Below w1.heap.size w1 W) => (hk.below hB).below h)
 have HVW := Aside0.mk (fun W (h : Below w1.heap.size w1 W) => (hv.below hB).below h)
 obtain ⟨A1, d1, rfl, -⟩ := id hk
 obtain ⟨A2, d2, rfl, -⟩ := id hv
 clear hk hv hB
 cases hx : cxOk a xs with
 | false =>
  have HA : Aside0 (ansIsChain a xs l = (false, 1)) := ⟨ansChain_no hx⟩
  rw [hx] at HM
  clear hx
  go_enter Tryz.func43, Tryz.ntmps43
  go_wp2_with (first | (go_at_call 155; rw [← hw1]; clear hw1; refine HM.out.mono ?_; rintro e w2 ⟨rfl, hb⟩; have HB2 := Aside0.mk hb; clear hb))
  go_ret2
  exact ⟨by rw [HA.out]; rfl, HB.out.trans (HB2.out.mono HB.out.size)⟩
 | true =>
  have HA : Aside0 (ansIsChain a xs l = (chOk xs l, 0)) := ⟨ansChain_ok hx⟩
  rw [hx] at HM
  obtain ⟨n, rfl, hc, -⟩ := cxOk_cx hx
  have HIC := Aside0.mk (fun W (h : Below w1.heap.size w1 W) => specChain6 n _ xs _ l W (HKW.out W h) (HVW.out W h) hc)
  obtain ⟨q, hq⟩ : ∃ q, q = chOk xs l := ⟨_, rfl⟩
  rw [← hq] at HIC HA
  clear hx hc hq
  go_enter Tryz.func43, Tryz.ntmps43
  go_wp2_with (first | (go_at_call 155; rw [← hw1]; clear hw1; refine HM.out.mono ?_; rintro e w2 ⟨rfl, hb⟩; replace c0 := pw_cell_below hb c0; replace c1 := pw_cell_below hb c1; have HB2 := Aside0.mk hb; clear hb) | (go_at_call 174; refine (HIC.out _ HB2.out).mono ?_; rintro e w3 ⟨rfl, hb⟩; have HB3 := Aside0.mk (HB2.out.trans (hb.mono HB2.out.size)); clear hb))
  go_ret2
  exact ⟨by rw [HA.out]; rfl, HB.out.trans (HB3.out.mono HB.out.size)⟩
set_option maxRecDepth 100000 in
set_option maxHeartbeats 2000000 in
theorem hasInt (v : Value) (xs : List Int) (h : Int) (w : World) (hv : ReadI w v xs) (hl : xs.length ≤ 1000000) :
  Calls Tryz.prog 17 #[v, .int .i64 h] w fun e w' => e = .returned (.bool (decide (h ∈ xs))) ∧ Below w.heap.size w w' := by
 have HV := Aside0.mk hv
 have HB := Aside0.mk (Below.refl w.heap.size w)
 obtain ⟨A, c, rfl, -⟩ := id hv
 clear hv
 go_enter Tryz.func17, Tryz.ntmps17
 go_wp2
 go_loopw [5] (fun s5 wr => ∃ i : Nat, s5 = .int .i64 i ∧ i ≤ xs.length ∧ Aside0 (∀ j, j < i → xs.getD j 0 ≠ h) ∧ Aside0 (Below w.heap.size w wr)) (fun s5 _ => xs.length - (intOf s5).toNat)
 case atStart => exact ⟨0, rfl, Nat.zero_le _, ⟨fun j hj => by omega⟩, HB⟩
 case round =>
  obtain ⟨i, rfl, hi, HN, HBr⟩ := hrel
  by_cases hlt : i < xs.length
  ·have hltI : (i : Int) < (xs.length : Int) := by omega
   obtain ⟨A_, c_, e_, -, hr⟩ := HV.out.below HBr.out
   cases e_
   obtain ⟨ad, y, rfl, hcell, HY⟩ := ReadI.get hr hlt
   clear hr
   by_cases hy : y = h
   ·go_wp2
    go_ret
    refine ⟨?_, HBr.out⟩
    have hm : y ∈ xs := mem_at hlt HY.out
    subst hy
    simp [hm]
   ·go_wp2
    go_roundw
    case rel => exact ⟨i + 1, by go_num, by omega, ⟨fun j hj => by
     by_cases hji : j = i
     ·subst hji; rw [HY.out]; exact hy
     ·exact HN.out j (by omega)⟩, HBr⟩
    case measure => simp [intOf]; omega
  ·have hltI : ¬ (i : Int) < (xs.length : Int) := by omega
   go_wp2
   go_ret
   refine ⟨?_, HBr.out⟩
   have hm : h ∉ xs := fun hc => by
    obtain ⟨j, hj⟩ := List.mem_iff_getElem?.1 hc
    exact HN.out j (by have := (List.getElem?_eq_some_iff.1 hj).1; omega) (by rw [List.getD_eq_getElem?_getD, hj]; rfl)
   simp [hm]
set_option maxHeartbeats 1000000 in
theorem likeInts (v u : Value) (xs ys : List Int) (w : World) (hv : ReadI w v xs) (hu : ReadI w u ys) :
  Calls Tryz.prog 22 #[v, u] w fun e w' => e = .returned (.bool (xs == ys)) ∧ Below w.heap.size w w' := by
 obtain ⟨A, c, rfl, hc, hr⟩ := hv
 obtain ⟨A', c', rfl, hc', hr'⟩ := hu
 have hlx := hr.2.1
 have HR := Aside0.mk hr
 have HR' := Aside0.mk hr'
 clear hr hc hr' hc'
 by_cases hl : xs.length = ys.length
 ·have h1 : ((xs.length : Int) != (ys.length : Int)) = false := by simp [hl]
  have HL := Aside0.mk hl
  clear hl
  go_enter Tryz.func22, Tryz.ntmps22
  go_wp2
  go_loopw [5] (fun v wr => ∃ i : Nat, v = .int .i64 i ∧ i ≤ xs.length ∧ Aside0 (xs.take i = ys.take i) ∧ Aside0 (Below w.heap.size w wr)) (fun v _ => xs.length - (intOf v).toNat)
  case atStart => exact ⟨0, rfl, Nat.zero_le _, ⟨rfl⟩, ⟨Below.refl _ _⟩⟩
  case round =>
   obtain ⟨i, rfl, hi, HI, HB2⟩ := hrel
   by_cases hlt : i < xs.length
   ·obtain ⟨ad, x, e1, hcell, HX⟩ := ReadI.get (Kd.C_below HR.out HB2.out) hlt
    cases e1
    have hlt' : (i : Int) < (ys.length : Int) := by have := HL.out; omega
    obtain ⟨ad', y, e1, hcell', HY⟩ := ReadI.get (Kd.C_below HR'.out HB2.out) (i := i) (by have := HL.out; omega)
    cases e1
    cases hq : (x == y) with
    | true =>
     have hq' : (x != y) = false := by rw [bne, hq]; rfl
     have HQ := Aside0.mk hq
     clear hq
     go_wp2
     go_quiet (fail)
     go_wp2
     go_roundw
     case rel => exact ⟨i + 1, by go_num, by omega, ⟨by rw [take_get hlt HX.out, take_get (by omega) HY.out, HI.out, eq_of_beq HQ.out]⟩, ⟨below_drewN HB2.out _⟩⟩
     case measure => simp [intOf]; omega
    | false =>
     have hq' : (x != y) = true := by rw [bne, hq]; rfl
     have HQ := Aside0.mk hq
     clear hq
     go_wp2
     go_quiet (fail)
     go_wp2
     go_ret
     exact ⟨by
      have : (xs == ys) = false := by
       rw [beq_eq_false_iff_ne]
       rintro rfl
       have h3 := HQ.out
       rw [← HX.out, ← HY.out] at h3
       simp at h3
      rw [this]; rfl, below_drewN HB2.out _⟩
   ·have e : i = xs.length := by omega
    have HE := Aside0.mk e
    clear e
    go_wp2
    go_ret
    exact ⟨by
     have h2 := HI.out
     rw [HE.out, List.take_length, HL.out, List.take_length] at h2
     rw [h2]; simp, HB2.out⟩
 ·have h1 : ((xs.length : Int) != (ys.length : Int)) = true := by simp; omega
  go_enter Tryz.func22, Tryz.ntmps22
  go_wp2
  go_ret
  exact ⟨by
   have : (xs == ys) = false := by
    rw [beq_eq_false_iff_ne]
    rintro rfl
    exact hl rfl
   rw [this]; rfl, Below.refl _ _⟩
theorem likeSame (v u : Value) (xs : List Int) (w : World) (hv : ReadI w v xs) (hu : ReadI w u xs) :
  Calls Tryz.prog 22 #[v, u] w fun e w' => e = .returned (.bool true) ∧ Below w.heap.size w w' := by
 refine (likeInts v u xs xs w hv hu).mono ?_
 rintro e w' ⟨rfl, hb⟩
 exact ⟨by rw [beq_self_eq_true], hb⟩
theorem Aside0.readp {w w' : World} {v : Value} {ps : List (Int × Int)} (h : Aside0 (ReadP w v ps)) (hb : Below w.heap.size w w') : Aside0 (ReadP w' v ps) := ⟨ReadP.below h.out hb⟩
end Go.Proofs.YtomofijniefelaaGreat.H

namespace Go.Proofs.YtomofijniefelaaGreat.H
open Go.ChangeShapes Go.WideShapes Go.ChangeAt
open Go.RowKit Go.Proofs.YtomofijniefelaaGreatW.PrintWords Go.Proofs.YtomofijniefelaaGreatW.PrintLast
set_option linter.unusedVariables false
set_option linter.unusedSimpArgs false
set_option maxRecDepth 100000 in
theorem open_code {H : Type} {enc : TypeId × Value → H} {W : World} {base : Nat} {v : Value} {d : DataW H} {p : List MemPlace}
  (hv : Value.okWide Tryz.prog W .any base 22 v) (h : DataW.Trod enc Tryz.prog W 0 (fun _ => true) true 22 v d p) : ∃ n : Nat, ReadY W v n ∧ n ≤ 9223372036854775807 := by
 obtain ⟨a1, len1, cap1, rfl⟩ := okWide_slice Tryz.underlying22 hv
 obtain ⟨fuel, hf⟩ := h
 rcases open_ints Tryz.underlying22 Tryz.underlying5 (by kernel_rfl) hf with ⟨hcs, _⟩ | ⟨x, l, c, zs, hcs, _, hl, hm, hz, _, hcell, hwz⟩
 ·injection hcs with hcs _
  injection hcs with e1 e2 e3
  subst e1 e2 e3
  exact ⟨0, ⟨none, 0, rfl, fun h => absurd h (Nat.lt_irrefl _)⟩, by omega⟩
 ·injection hcs with hcs _
  injection hcs with e1 e2 e3
  subst e1 e2 e3
  refine ⟨len1, ⟨some x, cap1, rfl, fun _ => ⟨x, rfl, fun i hi => ?_⟩⟩, ?_⟩
  ·have hzl : i < zs.length := by simp at hz; omega
   have h1 := hcell i hzl
   have h2 := hwz (zs.getD i 0) (by rw [List.getD_eq_getElem?_getD, List.getElem?_eq_getElem hzl]; exact List.getElem_mem hzl)
   have h3 : 0 ≤ zs.getD i 0 ∧ zs.getD i 0 ≤ 255 := by simpa [Lit.wf, IntKind.min, IntKind.max, IntKind.signed, IntKind.bits] using h2
   refine ⟨(zs.getD i 0).toNat, by omega, ?_⟩
   rw [show (((zs.getD i 0).toNat : Nat) : Int) = zs.getD i 0 by omega]
   exact h1
  ·unfold maxLen at hm
   omega
theorem bigB (v : Value) (n : Nat) (w : World) (hv : ReadY w v n) (hn : n ≤ 9223372036854775807) : Calls Tryz.prog 9 #[v] w fun e w' => e = .returned (.bool (decide (4096 < n))) ∧ Below w.heap.size w w' := by
 obtain ⟨A, c, rfl, -⟩ := id hv
 clear hv
 by_cases h : 4096 < n
 ·have h1 : (4096 : Int) < (n : Int) := by omega
  have HH : Aside0 (decide (4096 < n) = true) := ⟨decide_eq_true h⟩
  clear h
  go_enter Tryz.func9, Tryz.ntmps9
  go_wp2
  go_ret
  exact ⟨by rw [HH.out] <;> simp [h1], Below.refl _ _⟩
 ·have h1 : ¬ (4096 : Int) < (n : Int) := by omega
  have HH : Aside0 (decide (4096 < n) = false) := ⟨decide_eq_false h⟩
  clear h
  go_enter Tryz.func9, Tryz.ntmps9
  go_wp2
  go_ret
  exact ⟨by rw [HH.out] <;> simp [h1], Below.refl _ _⟩
/-- what is read is read behind too -/
theorem Aside0.readc {w w' : World} {v : Value} {xs : List Int} (h : Aside0 (ReadI w v xs)) (hb : Below w.heap.size w w') : Aside0 (ReadI w' v xs) := ⟨ReadI.below h.out hb⟩
theorem Aside0.ready {w w' : World} {v : Value} {n : Nat} (h : Aside0 (ReadY w v n)) (hb : Below w.heap.size w w') : Aside0 (ReadY w' v n) := ⟨ReadY.below h.out hb⟩
end Go.Proofs.YtomofijniefelaaGreat.H

namespace Go.Proofs.YtomofijniefelaaGreat.H
open Go.RowKit Go.Proofs.YtomofijniefelaaGreatW.PrintWords Go.Proofs.YtomofijniefelaaGreatW.PrintLast
set_option linter.unusedVariables false
set_option linter.unusedSimpArgs false
theorem lenCritC (a : Int) (xs : List Int) (ps : List (Int × Int)) (b : Int) : (ansCriticalChain a xs ps b).1.length ≤ 1000000 := by
 unfold ansCriticalChain
 split
 ·exact Nat.le_trans (listI_len _) (by decide)
 ·simp
set_option maxRecDepth 1000000 in
set_option maxHeartbeats 64000000 in
theorem lawFnFlows (w : World) (v : Value) (nb : Nat) (hv : ReadY w v nb) (hnb : nb ≤ 9223372036854775807) :
  Calls Tryz.prog 4 #[v] w fun e w' => e = .returned (.bool true) ∧ Below w.heap.size w w' := by
 have HV := Aside0.mk hv
 have HB := Aside0.mk (Below.refl w.heap.size w)
 have st : Stg 0 := ⟨⟩
 have hmx : Tryz.prog.follows .mixedOrders = true := by kernel_rfl
 obtain ⟨A0, d0, rfl, -⟩ := id hv
 clear hv
 by_cases hbig : 4096 < nb
 ·have HG : Aside0 (decide (4096 < nb) = true) := ⟨decide_eq_true hbig⟩
  clear hbig
  go_enter Tryz.func4, Tryz.ntmps4
  go_wp2_with (first | (replace st := stg_next 0 1 st; go_at_call 9; refine (bigB _ nb _ HV.out hnb).mono ?_; rw [HG.out]; rintro e w2 ⟨rfl, hb⟩; replace HB := Aside0.belowC HB hb; clear hb))
  go_ret
  exact ⟨rfl, HB.out⟩
 ·have HG : Aside0 (decide (4096 < nb) = false) := ⟨decide_eq_false hbig⟩
  have HN := Aside0.mk (Nat.le_of_not_lt hbig)
  clear hbig
  go_enter Tryz.func4, Tryz.ntmps4
  go_wp2_with (first | (replace st := stg_next 0 1 st; go_at_call 9; refine (bigB _ nb _ HV.out hnb).mono ?_; rw [HG.out]; rintro e w2 ⟨rfl, hb⟩; replace HB := Aside0.belowC HB hb; replace HV := Aside0.ready HV hb; clear hb) | (replace st := stg_next 1 2 st; go_at_call 36; refine (drawFlowOf _ nb _ HN.out HV.out).mono ?_; rintro e w3 ⟨a, u, tv, cv, ys, ps, l, rfl, ho, hot, hoc, -, -, -, hb⟩; replace HB := Aside0.belowC HB hb; replace HV := Aside0.ready HV hb; clear hb; have HR1 := Aside0.mk ho.read; obtain ⟨A1, d1, rfl, -⟩ := id ho.read; clear ho; have HP1 := Aside0.mk hot.read; obtain ⟨A2, d2, rfl, -⟩ := id hot.read; clear hot; have HL1 := Aside0.mk hoc.read; obtain ⟨A3, d3, rfl, -⟩ := id hoc.read; clear hoc; obtain ⟨F, hF⟩ : ∃ r, r = (ansFlowOf a ys ps l).1 := ⟨_, rfl⟩; have HF := Aside0.mk hF; clear hF; obtain ⟨f2, hf2⟩ : ∃ r, r = (ansFlowOf a ys ps l).2 := ⟨_, rfl⟩; have Hf2 := Aside0.mk hf2; clear hf2; obtain ⟨E, hE⟩ : ∃ r, r = (ansEndOfFlow a ys ps l).1 := ⟨_, rfl⟩; have HE := Aside0.mk hE; clear hE; obtain ⟨e2, he2⟩ : ∃ r, r = (ansEndOfFlow a ys ps l).2 := ⟨_, rfl⟩; have He2 := Aside0.mk he2; clear he2) | (replace st := stg_next 2 3 st; go_at_call 37; refine (implFlowOf a _ ys _ ps _ l _ (HR1.out.below (Below.alloc (Below.refl _ _) (Nat.le_refl _) _)) (HP1.out.below (Below.alloc (Below.refl _ _) (Nat.le_refl _) _)) (HL1.out.below (Below.alloc (Below.refl _ _) (Nat.le_refl _) _))).mono ?_; rw [← HF.out, ← Hf2.out]; rintro e w4 ⟨u, rfl, ho, hb⟩; have c30 : w4.cell? ⟨w3.heap.size, 0, none⟩ = some (.int .i64 a) := pw_cell_below hb (new_cell _ _ _ 0 _ rfl); have c31 : w4.cell? ⟨w3.heap.size, 1, none⟩ = some (.slice A1 ys.length d1) := pw_cell_below hb (new_cell _ _ _ 1 _ rfl); replace hb := below_unalloc hb; replace HB := Aside0.belowC HB hb; replace HR1 := Aside0.readc HR1 hb; replace HL1 := Aside0.readc HL1 hb; replace HV := Aside0.ready HV hb; replace HP1 := Aside0.readp HP1 hb; clear hb; have HF1 := Aside0.mk ho.read; obtain ⟨A4, d4, rfl, -⟩ := id ho.read; clear ho) | (replace st := stg_next 3 4 st; go_at_call 38; refine (specFlowOf a _ ys _ ps _ l _ HR1.out HP1.out HL1.out).mono ?_; rw [← HF.out, ← Hf2.out]; rintro e w5 ⟨u, rfl, ho, hb⟩; replace HB := Aside0.belowC HB hb; replace c30 := pw_cell_below hb c30; replace c31 := pw_cell_below hb c31; replace HR1 := Aside0.readc HR1 hb; replace HL1 := Aside0.readc HL1 hb; replace HF1 := Aside0.readc HF1 hb; replace HV := Aside0.ready HV hb; replace HP1 := Aside0.readp HP1 hb; clear hb; have HF2 := Aside0.mk ho.read; obtain ⟨A5, d5, rfl, -⟩ := id ho.read; clear ho) | (replace st := stg_next 4 5 st; go_at_call 22; refine (likeSame _ _ F _ HF1.out HF2.out).mono ?_; rintro e w6 ⟨rfl, hb⟩; replace HB := Aside0.belowC HB hb; replace c30 := pw_cell_below hb c30; replace c31 := pw_cell_below hb c31; replace HR1 := Aside0.readc HR1 hb; replace HL1 := Aside0.readc HL1 hb; replace HF1 := Aside0.readc HF1 hb; replace HF2 := Aside0.readc HF2 hb; replace HV := Aside0.ready HV hb; replace HP1 := Aside0.readp HP1 hb; clear hb; clear HF2) | (replace st := stg_next 5 6 st; go_at_call 39; refine (implEndOfFlow a _ ys _ ps _ l _ HR1.out HP1.out HL1.out).mono ?_; rw [← HE.out, ← He2.out]; rintro e w7 ⟨u, rfl, ho, hb⟩; replace HB := Aside0.belowC HB hb; replace c30 := pw_cell_below hb c30; replace c31 := pw_cell_below hb c31; replace HR1 := Aside0.readc HR1 hb; replace HL1 := Aside0.readc HL1 hb; replace HF1 := Aside0.readc HF1 hb; replace HV := Aside0.ready HV hb; replace HP1 := Aside0.readp HP1 hb; clear hb; have HE1 := Aside0.mk ho.read; obtain ⟨A6, d6, rfl, -⟩ := id ho.read; clear ho) | (replace st := stg_next 6 7 st; go_at_call 40; refine (specEndOfFlow a _ ys _ ps _ l _ HR1.out HP1.out HL1.out).mono ?_; rw [← HE.out, ← He2.out]; rintro e w8 ⟨u, rfl, ho, hb⟩; replace HB := Aside0.belowC HB hb; replace c30 := pw_cell_below hb c30; replace c31 := pw_cell_below hb c31; replace HR1 := Aside0.readc HR1 hb; replace HL1 := Aside0.readc HL1 hb; replace HF1 := Aside0.readc HF1 hb; replace HE1 := Aside0.readc HE1 hb; replace HV := Aside0.ready HV hb; replace HP1 := Aside0.readp HP1 hb; clear hb; have HE2 := Aside0.mk ho.read; obtain ⟨A7, d7, rfl, -⟩ := id ho.read; clear ho) | (replace st := stg_next 7 8 st; go_at_call 22; refine (likeSame _ _ E _ HE1.out HE2.out).mono ?_; rintro e w9 ⟨rfl, hb⟩; replace HB := Aside0.belowC HB hb; replace c30 := pw_cell_below hb c30; replace c31 := pw_cell_below hb c31; replace HR1 := Aside0.readc HR1 hb; replace HL1 := Aside0.readc HL1 hb; replace HF1 := Aside0.readc HF1 hb; replace HE1 := Aside0.readc HE1 hb; replace HE2 := Aside0.readc HE2 hb; replace HV := Aside0.ready HV hb; replace HP1 := Aside0.readp HP1 hb; clear hb; clear HE2) | (replace st := stg_next 8 9 st; go_at_call 41; refine (drawIsChain _ nb _ HN.out HV.out).mono ?_; rintro e w10 ⟨c, u, cv, cs, m, rfl, ho, hoc, -, -, hb⟩; replace HB := Aside0.belowC HB hb; replace c30 := pw_cell_below hb c30; replace c31 := pw_cell_below hb c31; replace HR1 := Aside0.readc HR1 hb; replace HL1 := Aside0.readc HL1 hb; replace HF1 := Aside0.readc HF1 hb; replace HE1 := Aside0.readc HE1 hb; replace HV := Aside0.ready HV hb; replace HP1 := Aside0.readp HP1 hb; clear hb; have HR2 := Aside0.mk ho.read; obtain ⟨A8, d8, rfl, -⟩ := id ho.read; clear ho; have HM := Aside0.mk hoc.read; obtain ⟨A9, d9, rfl, -⟩ := id hoc.read; clear hoc; obtain ⟨j1, hj1⟩ : ∃ r, r = (ansIsChain c cs m).1 := ⟨_, rfl⟩; have Hj1 := Aside0.mk hj1; clear hj1; obtain ⟨j2, hj2⟩ : ∃ r, r = (ansIsChain c cs m).2 := ⟨_, rfl⟩; have Hj2 := Aside0.mk hj2; clear hj2) | (replace st := stg_next 9 10 st; go_at_call 42; refine (implIsChain c _ cs _ m _ (HR2.out.below (Below.alloc (Below.refl _ _) (Nat.le_refl _) _)) (HM.out.below (Below.alloc (Below.refl _ _) (Nat.le_refl _) _))).mono ?_; rw [← Hj1.out, ← Hj2.out]; rintro e w11 ⟨rfl, hb⟩; have c80 : w11.cell? ⟨w10.heap.size, 0, none⟩ = some (.int .i64 c) := pw_cell_below hb (new_cell _ _ _ 0 _ rfl); have c81 : w11.cell? ⟨w10.heap.size, 1, none⟩ = some (.slice A8 cs.length d8) := pw_cell_below hb (new_cell _ _ _ 1 _ rfl); replace hb := below_unalloc hb; replace HB := Aside0.belowC HB hb; replace c30 := pw_cell_below hb c30; replace c31 := pw_cell_below hb c31; replace HR1 := Aside0.readc HR1 hb; replace HL1 := Aside0.readc HL1 hb; replace HF1 := Aside0.readc HF1 hb; replace HE1 := Aside0.readc HE1 hb; replace HR2 := Aside0.readc HR2 hb; replace HM := Aside0.readc HM hb; replace HV := Aside0.ready HV hb; replace HP1 := Aside0.readp HP1 hb; clear hb) | (replace st := stg_next 10 11 st; go_at_call 43; refine (specIsChain c _ cs _ m _ HR2.out HM.out).mono ?_; rw [← Hj1.out, ← Hj2.out]; rintro e w12 ⟨rfl, hb⟩; replace HB := Aside0.belowC HB hb; replace c30 := pw_cell_below hb c30; replace c31 := pw_cell_below hb c31; replace c80 := pw_cell_below hb c80; replace c81 := pw_cell_below hb c81; replace HR1 := Aside0.readc HR1 hb; replace HL1 := Aside0.readc HL1 hb; replace HF1 := Aside0.readc HF1 hb; replace HE1 := Aside0.readc HE1 hb; replace HR2 := Aside0.readc HR2 hb; replace HM := Aside0.readc HM hb; replace HV := Aside0.ready HV hb; replace HP1 := Aside0.readp HP1 hb; clear hb; clear HR2 HM c80 c81) | (replace st := stg_next 11 12 st; go_at_call 44; refine (drawCriticalChain _ nb _ HN.out HV.out).mono ?_; rintro e w13 ⟨x, y, u, tv, zs, qs, rfl, ho, hot, -, -, hb⟩; replace HB := Aside0.belowC HB hb; replace c30 := pw_cell_below hb c30; replace c31 := pw_cell_below hb c31; replace HR1 := Aside0.readc HR1 hb; replace HL1 := Aside0.readc HL1 hb; replace HF1 := Aside0.readc HF1 hb; replace HE1 := Aside0.readc HE1 hb; replace HV := Aside0.ready HV hb; replace HP1 := Aside0.readp HP1 hb; clear hb; clear HV; have HR3 := Aside0.mk ho.read; obtain ⟨A10, d10, rfl, -⟩ := id ho.read; clear ho; have HP3 := Aside0.mk hot.read; obtain ⟨A11, d11, rfl, -⟩ := id hot.read; clear hot; obtain ⟨K, hK⟩ : ∃ r, r = (ansCriticalChain x zs qs y).1 := ⟨_, rfl⟩; have HK := Aside0.mk hK; clear hK; obtain ⟨k2, hk2⟩ : ∃ r, r = (ansCriticalChain x zs qs y).2 := ⟨_, rfl⟩; have Hk2 := Aside0.mk hk2; clear hk2) | (replace st := stg_next 12 13 st; go_at_call 45; refine (implCriticalChain x _ zs _ qs y _ (HR3.out.below (Below.alloc (Below.refl _ _) (Nat.le_refl _) _)) (HP3.out.below (Below.alloc (Below.refl _ _) (Nat.le_refl _) _))).mono ?_; rw [← HK.out, ← Hk2.out]; rintro e w14 ⟨u, rfl, ho, hb⟩; have c90 : w14.cell? ⟨w13.heap.size, 0, none⟩ = some (.int .i64 x) := pw_cell_below hb (new_cell _ _ _ 0 _ rfl); have c91 : w14.cell? ⟨w13.heap.size, 1, none⟩ = some (.slice A10 zs.length d10) := pw_cell_below hb (new_cell _ _ _ 1 _ rfl); replace hb := below_unalloc hb; replace HB := Aside0.belowC HB hb; replace c30 := pw_cell_below hb c30; replace c31 := pw_cell_below hb c31; replace HR1 := Aside0.readc HR1 hb; replace HL1 := Aside0.readc HL1 hb; replace HF1 := Aside0.readc HF1 hb; replace HE1 := Aside0.readc HE1 hb; replace HR3 := Aside0.readc HR3 hb; replace HP1 := Aside0.readp HP1 hb; replace HP3 := Aside0.readp HP3 hb; clear hb; have HK1 := Aside0.mk ho.read; obtain ⟨A12, d12, rfl, -⟩ := id ho.read; clear ho) | (replace st := stg_next 13 14 st; go_at_call 46; refine (specCriticalChain x _ zs _ qs y _ HR3.out HP3.out).mono ?_; rw [← HK.out, ← Hk2.out]; rintro e w15 ⟨u, rfl, ho, hb⟩; replace HB := Aside0.belowC HB hb; replace c30 := pw_cell_below hb c30; replace c31 := pw_cell_below hb c31; replace c90 := pw_cell_below hb c90; replace c91 := pw_cell_below hb c91; replace HR1 := Aside0.readc HR1 hb; replace HL1 := Aside0.readc HL1 hb; replace HF1 := Aside0.readc HF1 hb; replace HE1 := Aside0.readc HE1 hb; replace HR3 := Aside0.readc HR3 hb; replace HK1 := Aside0.readc HK1 hb; replace HP1 := Aside0.readp HP1 hb; replace HP3 := Aside0.readp HP3 hb; clear hb; have HK2 := Aside0.mk ho.read; obtain ⟨A13, d13, rfl, -⟩ := id ho.read; clear ho) | (replace st := stg_next 14 15 st; go_at_call 22; refine Aside0.out ?_))
  refine Aside0.mk ?_
  with_reducible refine (likeSame _ _ K _ HK1.out HK2.out).mono ?_
  rintro e w16 ⟨rfl, hb⟩
  replace HB := Aside0.belowC HB hb
  replace c30 := pw_cell_below hb c30
  replace c31 := pw_cell_below hb c31
  replace c90 := pw_cell_below hb c90
  replace c91 := pw_cell_below hb c91
  replace HR1 := Aside0.readc HR1 hb
  replace HL1 := Aside0.readc HL1 hb
  replace HF1 := Aside0.readc HF1 hb
  replace HE1 := Aside0.readc HE1 hb
  replace HR3 := Aside0.readc HR3 hb
  replace HK1 := Aside0.readc HK1 hb
  replace HK2 := Aside0.readc HK2 hb
  replace HP1 := Aside0.readp HP1 hb
  replace HP3 := Aside0.readp HP3 hb
  clear hb
  clear HK2
  have KC : k2 = 0 → ansFlowOf x zs qs K = (K, 0) ∧ decide (y ∈ K) = true := fun h0 => by
   have h := key_crit (a := x) (xs := zs) (ps := qs) (b := y) (by rw [← Hk2.out]; exact h0)
   rw [← HK.out] at h
   exact ⟨h.1, decide_eq_true h.2⟩
  have HKL : Aside0 (K.length ≤ 1000000) := ⟨by rw [HK.out]; exact lenCritC x zs qs y⟩
  obtain ⟨Bo, hBo⟩ : ∃ r, r = (ansBoundaryOf a ys l).1 := ⟨_, rfl⟩
  obtain ⟨FB, hFB⟩ : ∃ r, r = (ansFlowOf a ys ps Bo).1 := ⟨_, rfl⟩
  have HBo := Aside0.mk hBo
  have HFB := Aside0.mk hFB
  have KF : f2 = 0 → e2 = 0 ∧ ansFlowOf a ys ps E = (E, 0) ∧ (ansBoundaryOf a ys l).2 = 0 ∧ (ansFlowOf a ys ps Bo).2 = 0 ∧ ansBoundaryOf a ys F = (FB, 0) := fun h0 => by
   have h := key_flow (a := a) (xs := ys) (ps := ps) (l := l) (by rw [← Hf2.out]; exact h0)
   rw [← HE.out, ← He2.out, ← HF.out, ← hBo, ← hFB] at h
   exact h
  have KB : f2 ≠ 0 → (F.length : Int) = 0 ∧ e2 = f2 := fun h0 => by
   have h := flow_bad (a := a) (xs := ys) (ps := ps) (l := l) (by rw [← Hf2.out]; exact h0)
   rw [← He2.out, ← HF.out, ← Hf2.out] at h
   exact ⟨by rw [h.1]; rfl, h.2⟩
  clear hBo hFB
  by_cases hk0 : k2 = 0
  ·obtain ⟨kc1, kc2⟩ := KC hk0
   obtain rfl : k2 = 0 := hk0
   clear KC
   by_cases hf0 : f2 = 0
   ·obtain ⟨kf1, kf2, kf3, kf4, kf5⟩ := KF hf0
    obtain rfl : f2 = 0 := hf0
    obtain rfl : e2 = 0 := kf1
    clear KF KB
    as_aux_lemma =>
     go_wp2_with (first | (replace st := stg_next 15 16 st; go_at_call 37; refine (implFlowOf x _ zs _ qs _ K _ HR3.out HP3.out HK1.out).mono ?_; rw [kc1]; rintro e w17 ⟨u, rfl, ho, hb⟩; replace HB := Aside0.belowC HB hb; replace c30 := pw_cell_below hb c30; replace c31 := pw_cell_below hb c31; replace c90 := pw_cell_below hb c90; replace c91 := pw_cell_below hb c91; replace HR1 := Aside0.readc HR1 hb; replace HL1 := Aside0.readc HL1 hb; replace HF1 := Aside0.readc HF1 hb; replace HE1 := Aside0.readc HE1 hb; replace HR3 := Aside0.readc HR3 hb; replace HK1 := Aside0.readc HK1 hb; replace HP1 := Aside0.readp HP1 hb; replace HP3 := Aside0.readp HP3 hb; clear hb; have HK3 := Aside0.mk ho.read; obtain ⟨A18, d18, rfl, -⟩ := id ho.read; clear ho) | (replace st := stg_next 16 17 st; go_at_call 22; refine (likeSame _ _ K _ HK3.out HK1.out).mono ?_; rintro e w18 ⟨rfl, hb⟩; replace HB := Aside0.belowC HB hb; replace c30 := pw_cell_below hb c30; replace c31 := pw_cell_below hb c31; replace c90 := pw_cell_below hb c90; replace c91 := pw_cell_below hb c91; replace HR1 := Aside0.readc HR1 hb; replace HL1 := Aside0.readc HL1 hb; replace HF1 := Aside0.readc HF1 hb; replace HE1 := Aside0.readc HE1 hb; replace HR3 := Aside0.readc HR3 hb; replace HK1 := Aside0.readc HK1 hb; replace HK3 := Aside0.readc HK3 hb; replace HP1 := Aside0.readp HP1 hb; replace HP3 := Aside0.readp HP3 hb; clear hb; clear HK3) | (replace st := stg_next 17 18 st; go_at_call 17; refine (hasInt _ K y _ HK1.out HKL.out).mono ?_; rw [kc2]; rintro e w19 ⟨rfl, hb⟩; replace HB := Aside0.belowC HB hb; replace c30 := pw_cell_below hb c30; replace c31 := pw_cell_below hb c31; replace c90 := pw_cell_below hb c90; replace c91 := pw_cell_below hb c91; replace HR1 := Aside0.readc HR1 hb; replace HL1 := Aside0.readc HL1 hb; replace HF1 := Aside0.readc HF1 hb; replace HE1 := Aside0.readc HE1 hb; replace HR3 := Aside0.readc HR3 hb; replace HK1 := Aside0.readc HK1 hb; replace HP1 := Aside0.readp HP1 hb; replace HP3 := Aside0.readp HP3 hb; clear hb) | (replace st := stg_next 18 19 st; go_at_call 37; refine (implFlowOf a _ ys _ ps _ E _ HR1.out HP1.out HE1.out).mono ?_; rw [kf2]; rintro e w20 ⟨u, rfl, ho, hb⟩; replace HB := Aside0.belowC HB hb; replace c30 := pw_cell_below hb c30; replace c31 := pw_cell_below hb c31; replace c90 := pw_cell_below hb c90; replace c91 := pw_cell_below hb c91; replace HR1 := Aside0.readc HR1 hb; replace HL1 := Aside0.readc HL1 hb; replace HF1 := Aside0.readc HF1 hb; replace HE1 := Aside0.readc HE1 hb; replace HR3 := Aside0.readc HR3 hb; replace HK1 := Aside0.readc HK1 hb; replace HP1 := Aside0.readp HP1 hb; replace HP3 := Aside0.readp HP3 hb; clear hb; have HG1 := Aside0.mk ho.read; obtain ⟨A14, d14, rfl, -⟩ := id ho.read; clear ho) | (replace st := stg_next 19 20 st; go_at_call 22; refine (likeSame _ _ E _ HG1.out HE1.out).mono ?_; rintro e w21 ⟨rfl, hb⟩; replace HB := Aside0.belowC HB hb; replace c30 := pw_cell_below hb c30; replace c31 := pw_cell_below hb c31; replace c90 := pw_cell_below hb c90; replace c91 := pw_cell_below hb c91; replace HR1 := Aside0.readc HR1 hb; replace HL1 := Aside0.readc HL1 hb; replace HF1 := Aside0.readc HF1 hb; replace HE1 := Aside0.readc HE1 hb; replace HR3 := Aside0.readc HR3 hb; replace HK1 := Aside0.readc HK1 hb; replace HG1 := Aside0.readc HG1 hb; replace HP1 := Aside0.readp HP1 hb; replace HP3 := Aside0.readp HP3 hb; clear hb; clear HG1) | (replace st := stg_next 20 21 st; go_at_call 47; refine (implBoundaryOf a _ ys _ l _ HR1.out HL1.out).mono ?_; rw [kf3, ← HBo.out]; rintro e w22 ⟨u, rfl, ho, hb⟩; replace HB := Aside0.belowC HB hb; replace c30 := pw_cell_below hb c30; replace c31 := pw_cell_below hb c31; replace c90 := pw_cell_below hb c90; replace c91 := pw_cell_below hb c91; replace HR1 := Aside0.readc HR1 hb; replace HL1 := Aside0.readc HL1 hb; replace HF1 := Aside0.readc HF1 hb; replace HE1 := Aside0.readc HE1 hb; replace HR3 := Aside0.readc HR3 hb; replace HK1 := Aside0.readc HK1 hb; replace HP1 := Aside0.readp HP1 hb; replace HP3 := Aside0.readp HP3 hb; clear hb; have HBo1 := Aside0.mk ho.read; obtain ⟨A15, d15, rfl, -⟩ := id ho.read; clear ho) | (replace st := stg_next 21 22 st; go_at_call 37; refine (implFlowOf a _ ys _ ps _ Bo _ HR1.out HP1.out HBo1.out).mono ?_; rw [kf4, ← HFB.out]; rintro e w23 ⟨u, rfl, ho, hb⟩; replace HB := Aside0.belowC HB hb; replace c30 := pw_cell_below hb c30; replace c31 := pw_cell_below hb c31; replace c90 := pw_cell_below hb c90; replace c91 := pw_cell_below hb c91; replace HR1 := Aside0.readc HR1 hb; replace HL1 := Aside0.readc HL1 hb; replace HF1 := Aside0.readc HF1 hb; replace HE1 := Aside0.readc HE1 hb; replace HR3 := Aside0.readc HR3 hb; replace HK1 := Aside0.readc HK1 hb; replace HBo1 := Aside0.readc HBo1 hb; replace HP1 := Aside0.readp HP1 hb; replace HP3 := Aside0.readp HP3 hb; clear hb; have HG2 := Aside0.mk ho.read; obtain ⟨A16, d16, rfl, -⟩ := id ho.read; clear ho) | (replace st := stg_next 22 23 st; go_at_call 47; refine (implBoundaryOf a _ ys _ F _ HR1.out HF1.out).mono ?_; rw [kf5]; rintro e w24 ⟨u, rfl, ho, hb⟩; replace HB := Aside0.belowC HB hb; replace c30 := pw_cell_below hb c30; replace c31 := pw_cell_below hb c31; replace c90 := pw_cell_below hb c90; replace c91 := pw_cell_below hb c91; replace HR1 := Aside0.readc HR1 hb; replace HL1 := Aside0.readc HL1 hb; replace HF1 := Aside0.readc HF1 hb; replace HE1 := Aside0.readc HE1 hb; replace HR3 := Aside0.readc HR3 hb; replace HK1 := Aside0.readc HK1 hb; replace HBo1 := Aside0.readc HBo1 hb; replace HG2 := Aside0.readc HG2 hb; replace HP1 := Aside0.readp HP1 hb; replace HP3 := Aside0.readp HP3 hb; clear hb; have HG3 := Aside0.mk ho.read; obtain ⟨A17, d17, rfl, -⟩ := id ho.read; clear ho) | (replace st := stg_next 23 24 st; go_at_call 22; refine (likeSame _ _ FB _ HG2.out HG3.out).mono ?_; rintro e w25 ⟨rfl, hb⟩; replace HB := Aside0.belowC HB hb; replace c30 := pw_cell_below hb c30; replace c31 := pw_cell_below hb c31; replace c90 := pw_cell_below hb c90; replace c91 := pw_cell_below hb c91; replace HR1 := Aside0.readc HR1 hb; replace HL1 := Aside0.readc HL1 hb; replace HF1 := Aside0.readc HF1 hb; replace HE1 := Aside0.readc HE1 hb; replace HR3 := Aside0.readc HR3 hb; replace HK1 := Aside0.readc HK1 hb; replace HBo1 := Aside0.readc HBo1 hb; replace HG2 := Aside0.readc HG2 hb; replace HG3 := Aside0.readc HG3 hb; replace HP1 := Aside0.readp HP1 hb; replace HP3 := Aside0.readp HP3 hb; clear hb))
     go_ret
     exact ⟨rfl, HB.out⟩
   ·obtain ⟨kb1, kb2⟩ := KB hf0
    obtain rfl : e2 = f2 := kb2
    have hf1 : (e2 == 0) = false := by rw [beq_eq_false_iff_ne]; exact hf0
    clear KF KB hf0
    as_aux_lemma =>
     go_wp2_with (first | (replace st := stg_next 15 16 st; go_at_call 37; refine (implFlowOf x _ zs _ qs _ K _ HR3.out HP3.out HK1.out).mono ?_; rw [kc1]; rintro e w17 ⟨u, rfl, ho, hb⟩; replace HB := Aside0.belowC HB hb; replace c30 := pw_cell_below hb c30; replace c31 := pw_cell_below hb c31; replace c90 := pw_cell_below hb c90; replace c91 := pw_cell_below hb c91; replace HR1 := Aside0.readc HR1 hb; replace HL1 := Aside0.readc HL1 hb; replace HF1 := Aside0.readc HF1 hb; replace HE1 := Aside0.readc HE1 hb; replace HR3 := Aside0.readc HR3 hb; replace HK1 := Aside0.readc HK1 hb; replace HP1 := Aside0.readp HP1 hb; replace HP3 := Aside0.readp HP3 hb; clear hb; have HK3 := Aside0.mk ho.read; obtain ⟨A18, d18, rfl, -⟩ := id ho.read; clear ho) | (replace st := stg_next 16 17 st; go_at_call 22; refine (likeSame _ _ K _ HK3.out HK1.out).mono ?_; rintro e w18 ⟨rfl, hb⟩; replace HB := Aside0.belowC HB hb; replace c30 := pw_cell_below hb c30; replace c31 := pw_cell_below hb c31; replace c90 := pw_cell_below hb c90; replace c91 := pw_cell_below hb c91; replace HR1 := Aside0.readc HR1 hb; replace HL1 := Aside0.readc HL1 hb; replace HF1 := Aside0.readc HF1 hb; replace HE1 := Aside0.readc HE1 hb; replace HR3 := Aside0.readc HR3 hb; replace HK1 := Aside0.readc HK1 hb; replace HK3 := Aside0.readc HK3 hb; replace HP1 := Aside0.readp HP1 hb; replace HP3 := Aside0.readp HP3 hb; clear hb; clear HK3) | (replace st := stg_next 17 18 st; go_at_call 17; refine (hasInt _ K y _ HK1.out HKL.out).mono ?_; rw [kc2]; rintro e w19 ⟨rfl, hb⟩; replace HB := Aside0.belowC HB hb; replace c30 := pw_cell_below hb c30; replace c31 := pw_cell_below hb c31; replace c90 := pw_cell_below hb c90; replace c91 := pw_cell_below hb c91; replace HR1 := Aside0.readc HR1 hb; replace HL1 := Aside0.readc HL1 hb; replace HF1 := Aside0.readc HF1 hb; replace HE1 := Aside0.readc HE1 hb; replace HR3 := Aside0.readc HR3 hb; replace HK1 := Aside0.readc HK1 hb; replace HP1 := Aside0.readp HP1 hb; replace HP3 := Aside0.readp HP3 hb; clear hb))
     go_ret
     exact ⟨rfl, HB.out⟩
  ·have hk1 : (k2 == 0) = false := by rw [beq_eq_false_iff_ne]; exact hk0
   clear KC hk0
   by_cases hf0 : f2 = 0
   ·obtain ⟨kf1, kf2, kf3, kf4, kf5⟩ := KF hf0
    obtain rfl : f2 = 0 := hf0
    obtain rfl : e2 = 0 := kf1
    clear KF KB
    as_aux_lemma =>
     go_wp2_with (first | (replace st := stg_next 15 16 st; go_at_call 37; refine (implFlowOf a _ ys _ ps _ E _ HR1.out HP1.out HE1.out).mono ?_; rw [kf2]; rintro e w17 ⟨u, rfl, ho, hb⟩; replace HB := Aside0.belowC HB hb; replace c30 := pw_cell_below hb c30; replace c31 := pw_cell_below hb c31; replace c90 := pw_cell_below hb c90; replace c91 := pw_cell_below hb c91; replace HR1 := Aside0.readc HR1 hb; replace HL1 := Aside0.readc HL1 hb; replace HF1 := Aside0.readc HF1 hb; replace HE1 := Aside0.readc HE1 hb; replace HR3 := Aside0.readc HR3 hb; replace HK1 := Aside0.readc HK1 hb; replace HP1 := Aside0.readp HP1 hb; replace HP3 := Aside0.readp HP3 hb; clear hb; have HG1 := Aside0.mk ho.read; obtain ⟨A14, d14, rfl, -⟩ := id ho.read; clear ho) | (replace st := stg_next 16 17 st; go_at_call 22; refine (likeSame _ _ E _ HG1.out HE1.out).mono ?_; rintro e w18 ⟨rfl, hb⟩; replace HB := Aside0.belowC HB hb; replace c30 := pw_cell_below hb c30; replace c31 := pw_cell_below hb c31; replace c90 := pw_cell_below hb c90; replace c91 := pw_cell_below hb c91; replace HR1 := Aside0.readc HR1 hb; replace HL1 := Aside0.readc HL1 hb; replace HF1 := Aside0.readc HF1 hb; replace HE1 := Aside0.readc HE1 hb; replace HR3 := Aside0.readc HR3 hb; replace HK1 := Aside0.readc HK1 hb; replace HG1 := Aside0.readc HG1 hb; replace HP1 := Aside0.readp HP1 hb; replace HP3 := Aside0.readp HP3 hb; clear hb; clear HG1) | (replace st := stg_next 17 18 st; go_at_call 47; refine (implBoundaryOf a _ ys _ l _ HR1.out HL1.out).mono ?_; rw [kf3, ← HBo.out]; rintro e w19 ⟨u, rfl, ho, hb⟩; replace HB := Aside0.belowC HB hb; replace c30 := pw_cell_below hb c30; replace c31 := pw_cell_below hb c31; replace c90 := pw_cell_below hb c90; replace c91 := pw_cell_below hb c91; replace HR1 := Aside0.readc HR1 hb; replace HL1 := Aside0.readc HL1 hb; replace HF1 := Aside0.readc HF1 hb; replace HE1 := Aside0.readc HE1 hb; replace HR3 := Aside0.readc HR3 hb; replace HK1 := Aside0.readc HK1 hb; replace HP1 := Aside0.readp HP1 hb; replace HP3 := Aside0.readp HP3 hb; clear hb; have HBo1 := Aside0.mk ho.read; obtain ⟨A15, d15, rfl, -⟩ := id ho.read; clear ho) | (replace st := stg_next 18 19 st; go_at_call 37; refine (implFlowOf a _ ys _ ps _ Bo _ HR1.out HP1.out HBo1.out).mono ?_; rw [kf4, ← HFB.out]; rintro e w20 ⟨u, rfl, ho, hb⟩; replace HB := Aside0.belowC HB hb; replace c30 := pw_cell_below hb c30; replace c31 := pw_cell_below hb c31; replace c90 := pw_cell_below hb c90; replace c91 := pw_cell_below hb c91; replace HR1 := Aside0.readc HR1 hb; replace HL1 := Aside0.readc HL1 hb; replace HF1 := Aside0.readc HF1 hb; replace HE1 := Aside0.readc HE1 hb; replace HR3 := Aside0.readc HR3 hb; replace HK1 := Aside0.readc HK1 hb; replace HBo1 := Aside0.readc HBo1 hb; replace HP1 := Aside0.readp HP1 hb; replace HP3 := Aside0.readp HP3 hb; clear hb; have HG2 := Aside0.mk ho.read; obtain ⟨A16, d16, rfl, -⟩ := id ho.read; clear ho) | (replace st := stg_next 19 20 st; go_at_call 47; refine (implBoundaryOf a _ ys _ F _ HR1.out HF1.out).mono ?_; rw [kf5]; rintro e w21 ⟨u, rfl, ho, hb⟩; replace HB := Aside0.belowC HB hb; replace c30 := pw_cell_below hb c30; replace c31 := pw_cell_below hb c31; replace c90 := pw_cell_below hb c90; replace c91 := pw_cell_below hb c91; replace HR1 := Aside0.readc HR1 hb; replace HL1 := Aside0.readc HL1 hb; replace HF1 := Aside0.readc HF1 hb; replace HE1 := Aside0.readc HE1 hb; replace HR3 := Aside0.readc HR3 hb; replace HK1 := Aside0.readc HK1 hb; replace HBo1 := Aside0.readc HBo1 hb; replace HG2 := Aside0.readc HG2 hb; replace HP1 := Aside0.readp HP1 hb; replace HP3 := Aside0.readp HP3 hb; clear hb; have HG3 := Aside0.mk ho.read; obtain ⟨A17, d17, rfl, -⟩ := id ho.read; clear ho) | (replace st := stg_next 20 21 st; go_at_call 22; refine (likeSame _ _ FB _ HG2.out HG3.out).mono ?_; rintro e w22 ⟨rfl, hb⟩; replace HB := Aside0.belowC HB hb; replace c30 := pw_cell_below hb c30; replace c31 := pw_cell_below hb c31; replace c90 := pw_cell_below hb c90; replace c91 := pw_cell_below hb c91; replace HR1 := Aside0.readc HR1 hb; replace HL1 := Aside0.readc HL1 hb; replace HF1 := Aside0.readc HF1 hb; replace HE1 := Aside0.readc HE1 hb; replace HR3 := Aside0.readc HR3 hb; replace HK1 := Aside0.readc HK1 hb; replace HBo1 := Aside0.readc HBo1 hb; replace HG2 := Aside0.readc HG2 hb; replace HG3 := Aside0.readc HG3 hb; replace HP1 := Aside0.readp HP1 hb; replace HP3 := Aside0.readp HP3 hb; clear hb))
     go_ret
     exact ⟨rfl, HB.out⟩
   ·obtain ⟨kb1, kb2⟩ := KB hf0
    obtain rfl : e2 = f2 := kb2
    have hf1 : (e2 == 0) = false := by rw [beq_eq_false_iff_ne]; exact hf0
    clear KF KB hf0
    as_aux_lemma =>
     go_wp2
     go_ret
     exact ⟨rfl, HB.out⟩
end Go.Proofs.YtomofijniefelaaGreat.H
