/- EndOfFlow of the program and of the reference. Critical faces of the program and of the reference. Flows: boundaries, and critical faces that stay. The flow of a chain is a chain. -/
import Derived.WalkSpells
import Derived.Test.YtomofijniefelaaGreatKFnFlows1
import Derived.Test.YtomofijniefelaaGreatKFnFlows2
import Derived.Test.YtomofijniefelaaGreatKFnFlows3
import Derived.Test.YtomofijniefelaaGreatKFnFlows4
import Derived.Test.YtomofijniefelaaGreatKFnFlows5
import Derived.Test.YtomofijniefelaaGreatKFnFlows6
import Derived.Test.YtomofijniefelaaGreatKFnFlows7
import Derived.Test.YtomofijniefelaaGreatKFnFlows8
import Derived.Test.YtomofijniefelaaGreatKFnFlows9
import Derived.Test.YtomofijniefelaaGreatKFnFlows10
import Derived.Test.YtomofijniefelaaGreatKFnFlows11
import Derived.Test.YtomofijniefelaaGreatKFnFlows12
import Derived.Test.YtomofijniefelaaGreatKFnFlows13

namespace Go.Proofs.YtomofijniefelaaGreat.H
open Go.RowKit Go.Proofs.YtomofijniefelaaGreatW.PrintWords Go.Proofs.YtomofijniefelaaGreatW.PrintLast
set_option linter.unusedVariables false
set_option linter.unusedSimpArgs false
theorem listI_inj {a b : Nat} (ha : a < 18446744073709551616) (hb : b < 18446744073709551616) : listI a = listI b ↔ a = b := by
 refine ⟨fun h => ?_, fun h => by rw [h]⟩
 have h1 := bits_listI (m := a) (by rw [e64]; exact ha)
 have h2 := bits_listI (m := b) (by rw [e64]; exact hb)
 rw [← h1, ← h2, h]
set_option maxRecDepth 100000 in
set_option maxHeartbeats 2000000 in
theorem specSame (v : Value) (l : List Int) (u : Value) (ys : List Int) (w : World) (hv : ReadI w v l) (hu : ReadI w u ys) :
  Calls Tryz.prog 291 #[v, u] w fun e w' => e = .returned (.bool (decide (l = ys))) ∧ Below w.heap.size w w' := by
 have hll := hv.len
 have hyl := hu.len
 obtain ⟨A1, d1, rfl, hc1, hr1⟩ := id hv
 obtain ⟨A2, d2, rfl, hc2, hr2⟩ := id hu
 have HR1 := Aside0.mk hr1
 have HR2 := Aside0.mk hr2
 clear hv hu hc1 hr1 hc2 hr2
 by_cases hlen : l.length = ys.length
 ·have HL := Aside0.mk hlen
  have hle : ((l.length : Int) != (ys.length : Int)) = false := by simp [hlen]
  clear hlen
  go_enter Tryz.func291, Tryz.ntmps291
  go_wp2
  go_loopw [5] (fun s5 wr => ∃ i : Nat, s5 = .int .i64 i ∧ i ≤ l.length ∧ Aside0 (∀ j, j < i → l[j]? = ys[j]?) ∧ Aside0 (Below w.heap.size w wr)) (fun s5 _ => l.length - (intOf s5).toNat)
  case atStart => exact ⟨0, rfl, Nat.zero_le _, ⟨fun j hj => absurd hj (Nat.not_lt_zero _)⟩, ⟨Below.refl _ _⟩⟩
  case round =>
   obtain ⟨i, rfl, hi, HJ, HBi⟩ := hrel
   by_cases hlt : i < l.length
   ·have hlt2 : i < ys.length := by have := HL.out; omega
    obtain ⟨ad, y, rfl, hcell, HYi⟩ := ReadI.get (Kd.C_below HR1.out HBi.out) hlt
    obtain ⟨ad2, z, rfl, hcell2, HZi⟩ := ReadI.get (Kd.C_below HR2.out HBi.out) hlt2
    by_cases hyz : y = z
    ·subst hyz
     go_wp2
     go_quiet (fail)
     go_wp2
     go_roundw
     case rel => exact ⟨i + 1, by go_num, by omega, ⟨fun j hj => by
      rcases Nat.lt_succ_iff_lt_or_eq.1 hj with h | rfl
      ·exact HJ.out j h
      ·have h1 := HYi.out
       have h2 := HZi.out
       rw [List.getD_eq_getElem?_getD, List.getElem?_eq_getElem hlt] at h1
       rw [List.getD_eq_getElem?_getD, List.getElem?_eq_getElem hlt2] at h2
       rw [List.getElem?_eq_getElem hlt, List.getElem?_eq_getElem hlt2]
       exact congrArg some (h1.trans h2.symm)⟩, ⟨below_drewN HBi.out _⟩⟩
     case measure => simp [intOf]; omega
    ·have hne : (y != z) = true := by simpa using hyz
     have HF : Aside0 (decide (l = ys) = false) := ⟨decide_eq_false (fun e => hyz (by have h1 := HYi.out; rw [e, HZi.out] at h1; exact h1.symm))⟩
     clear hyz
     go_wp2
     go_quiet (fail)
     go_wp2
     go_ret
     exact ⟨by rw [HF.out]; rfl, below_drewN HBi.out _⟩
   ·have HF : Aside0 (decide (l = ys) = true) := ⟨decide_eq_true (List.ext_getElem? (fun j => by
     by_cases h : j < i
     ·exact HJ.out j h
     ·have := HL.out
      rw [List.getElem?_eq_none (by omega), List.getElem?_eq_none (by omega)]))⟩
    go_wp2
    go_ret
    exact ⟨by rw [HF.out]; rfl, HBi.out⟩
 ·have HF : Aside0 (decide (l = ys) = false) := ⟨decide_eq_false (fun e => hlen (by rw [e]))⟩
  have hle : ((l.length : Int) != (ys.length : Int)) = true := by simp; omega
  clear hlen
  go_enter Tryz.func291, Tryz.ntmps291
  go_wp2
  go_ret
  exact ⟨by rw [HF.out]; rfl, Below.refl _ _⟩
set_option maxRecDepth 100000 in
set_option maxHeartbeats 2000000 in
theorem specEnd (v : Value) (ps : List (Int × Int)) (u : Value) (m : Nat) (w : World) (hv : ReadP w v ps) (hu : ReadI w u (listI m)) (h : AcyP ps) (hm : m < 18446744073709551616) (h0 : m.testBit 0 = false) :
  Calls Tryz.prog 171 #[v, u] w fun e w' => ∃ r, e = .returned r ∧ OwnI w.heap.size w' r (listI (endB ps m)) ∧ Below w.heap.size w w' := by
 have HFL := Aside0.mk (fun j u W (hb : Below w.heap.size w W) (hu : ReadI W u (listI (flowN ps j m))) => specFlow6 v ps u (flowN ps j m) W (hv.below hb) hu h.1 h.2.1 (flowN_lt h.1 hm j) (flowN_zero h.1 h0 j))
 have HA := Aside0.mk h
 have HM := Aside0.mk hm
 have HU := Aside0.mk hu
 have HEQ := Aside0.mk (fun j => (listI_inj (flowN_lt h.1 hm (j + 1)) (flowN_lt h.1 hm j)))
 have HEND := Aside0.mk (flow_end h hm)
 obtain ⟨A1, d1, rfl, -⟩ := id hv
 clear hv hu h hm h0
 go_enter Tryz.func171, Tryz.ntmps171
 go_wp2
 go_loopg [1, 5] 130 (fun k s1 s5 wr => ∃ j, j + k = 130 ∧ Aside0 (ReadI wr s1 (listI (flowN ps j m))) ∧ Aside0 (Below w.heap.size w wr))
 case atStart => exact ⟨0, by omega, HU, ⟨Below.refl _ _⟩⟩
 case round =>
  obtain ⟨j, hj, HR, HBr⟩ := hrel
  obtain ⟨A2, d2, rfl, -⟩ := id HR.out
  obtain ⟨b, hb⟩ : ∃ b, b = decide (listI (flowN ps (j + 1) m) = listI (flowN ps j m)) := ⟨_, rfl⟩
  have HBD := Aside0.mk hb
  clear hb
  cases b with
  | true =>
   have HE : Aside0 (flowN ps (j + 1) m = endB ps m) := ⟨by
    have h1 := (HEQ.out j).1 (of_decide_eq_true HBD.out.symm)
    rw [h1]; exact (end_at (by omega) h1).symm⟩
   go_wp2_with (first | (go_at_call 169; refine (HFL.out j _ _ HBr.out HR.out).mono ?_; rintro e w3 ⟨r, rfl, ho, hb⟩; obtain ⟨A3, d3, rfl, -⟩ := ho.read; have HO3 := Aside0.mk ho; have HR3 := Aside0.mk (HR.out.below hb); have HB3 := Aside0.mk (HBr.out.trans (hb.mono HBr.out.size)); clear ho hb) | (go_at_call 291; refine (specSame _ _ _ _ _ HO3.out.read HR3.out).mono ?_; rintro e w4 ⟨rfl, hb⟩; rw [show flowB ps (flowN ps j m) = flowN ps (j + 1) m from rfl, ← HBD.out]; have HO4 := Aside0.mk ((HO3.out.below hb).lower HBr.out.size); have HB4 := Aside0.mk (HB3.out.trans (hb.mono HB3.out.size)); clear hb))
   go_ret
   exact ⟨_, rfl, by rw [← HE.out]; exact HO4.out, HB4.out⟩
  | false =>
   have hj1 : 1 ≤ gk := by
    rcases Nat.eq_zero_or_pos gk with h | h
    ·exfalso
     obtain rfl : j = 130 := by omega
     exact of_decide_eq_false HBD.out.symm (by rw [HEND.out])
    ·exact h
   go_wp2_with (first | (go_at_call 169; refine (HFL.out j _ _ HBr.out HR.out).mono ?_; rintro e w3 ⟨r, rfl, ho, hb⟩; obtain ⟨A3, d3, rfl, -⟩ := ho.read; have HO3 := Aside0.mk ho; have HR3 := Aside0.mk (HR.out.below hb); have HB3 := Aside0.mk (HBr.out.trans (hb.mono HBr.out.size)); clear ho hb) | (go_at_call 291; refine (specSame _ _ _ _ _ HO3.out.read HR3.out).mono ?_; rintro e w4 ⟨rfl, hb⟩; rw [show flowB ps (flowN ps j m) = flowN ps (j + 1) m from rfl, ← HBD.out]; have HO4 := Aside0.mk ((HO3.out.below hb).lower HBr.out.size); have HB4 := Aside0.mk (HB3.out.trans (hb.mono HB3.out.size)); clear hb))
   go_roundg (gk - 1)
   case measure => omega
   case rel => exact ⟨j + 1, by omega, ⟨HO4.out.read⟩, HB4⟩
set_option maxRecDepth 100000 in
set_option maxHeartbeats 2000000 in
theorem ends (v : Value) (ps : List (Int × Int)) (m : Nat) (w : World) (hv : ReadP w v ps) (h : AcyP ps) (hm : m < 18446744073709551616) (h0 : m.testBit 0 = false) :
  Calls Tryz.prog 170 #[v, .int .u64 m] w fun e w' => ∃ r, e = .returned r ∧ OwnI w.heap.size w' r (listI (endB ps m)) ∧ Below w.heap.size w w' := by
 have HFL := Aside0.mk (fun j W (hb : Below w.heap.size w W) => flow v ps (flowN ps j m) W (hv.below hb) h.1 (flowN_lt h.1 hm j) (flowN_zero h.1 h0 j))
 have HCL := Aside0.mk (fun j W => chainList (flowN ps j m) (flowN_lt h.1 hm j) (flowN_zero h.1 h0 j) W)
 have HLT := Aside0.mk (fun j => flowN_lt h.1 hm j)
 have HEND := Aside0.mk (flow_end h hm)
 obtain ⟨A1, d1, rfl, -⟩ := id hv
 clear hv h hm h0
 go_enter Tryz.func170, Tryz.ntmps170
 go_wp2_with (first | (go_at_call 165; refine (HFL.out 0 _ (Below.refl _ _)).mono ?_; rintro e w3 ⟨rfl, hb⟩; have HB3 := Aside0.mk hb; clear hb))
 go_loopg [1, 5] 130 (fun k s1 s5 wr => ∃ j x y, j + k = 130 ∧ s1 = .int .u64 (x : Nat) ∧ s5 = .int .u64 (y : Nat) ∧ Aside0 (x = flowN ps j m) ∧ Aside0 (y = flowN ps (j + 1) m) ∧ Aside0 (Below w.heap.size w wr))
 case atStart => exact ⟨0, _, _, by omega, rfl, rfl, ⟨rfl⟩, ⟨rfl⟩, HB3⟩
 case round =>
  obtain ⟨j, x, y, hj, rfl, rfl, HX, HY, HBr⟩ := hrel
  by_cases hxy : y = x
  ·have HE : Aside0 (x = endB ps m) := ⟨by
    have h1 := hxy
    rw [HX.out, HY.out] at h1
    rw [HX.out]; exact (end_at (by omega) h1).symm⟩
   have HC := Aside0.mk (HCL.out j)
   rw [← HX.out] at HC
   have hq : (((y : Nat) : Int) != ((x : Nat) : Int)) = false := by simp [hxy]
   clear hxy
   go_wp2_with (first | (go_at_call 167; refine (HC.out _).mono ?_; rintro e w6 ⟨r, rfl, ho, hb⟩; have HO6 := Aside0.mk (ho.lower HBr.out.size); have HB6 := Aside0.mk (HBr.out.trans (hb.mono HBr.out.size)); clear ho hb))
   go_ret
   exact ⟨_, rfl, by rw [← HE.out]; exact HO6.out, HB6.out⟩
  ·have hj1 : 1 ≤ gk := by
    rcases Nat.eq_zero_or_pos gk with h | h
    ·exfalso
     obtain rfl : j = 130 := by omega
     exact hxy (by rw [HX.out, HY.out]; exact HEND.out)
    ·exact h
   have HF := Aside0.mk (HFL.out (j + 1))
   rw [← HY.out] at HF
   have hq : (((y : Nat) : Int) != ((x : Nat) : Int)) = true := by simp; omega
   clear hxy
   go_wp2_with (first | (go_at_call 165; refine (HF.out _ HBr.out).mono ?_; rintro e w3 ⟨rfl, hb⟩; have HB4 := Aside0.mk (HBr.out.trans (hb.mono HBr.out.size)); clear hb))
   go_roundg (gk - 1)
   case measure => omega
   case rel => exact ⟨j + 1, _, _, by omega, rfl, rfl, HY, ⟨by rw [HY.out]; rfl⟩, HB4⟩
/-- a face lies in a pair -/
def inPair (f : Int) (p : Int × Int) : Bool := p.1 == f || p.2 == f
/-- the critical faces -/
def critL (xs : List Int) (ps : List (Int × Int)) : List Int := xs.filter fun f => !(ps.any (inPair f))
set_option maxRecDepth 100000 in
set_option maxHeartbeats 1000000 in
theorem crit11 (w : World) (b : Nat) (f : Int) (h0 : w.cell? ⟨b, 0, none⟩ = some (.int .i64 f)) :
  PredP w (.func (.func 300) #[] #[.pointer (some ⟨b, 0, none⟩)]) (inPair f) (fun _ => True) := by
 refine ⟨_, _, _, rfl, Enters.mk' Tryz.func300 rfl rfl, fun w1 x y hb _ => ?_⟩
 obtain ⟨w2, hw2⟩ : ∃ w2, w2 = w1.alloc (.cells #[.int .i64 x, .int .i64 y] 72) := ⟨_, rfl⟩
 have hB2 : Below w1.heap.size w1 w2 := by rw [hw2]; exact Below.alloc (Below.refl _ _) (Nat.le_refl _) _
 have ca := pw_cell_below hB2 (pw_cell_below hb h0)
 have c0 : w2.cell? ⟨w1.heap.size, 0, none⟩ = some (.int .i64 x) := by rw [hw2]; simp
 have c1 : w2.cell? ⟨w1.heap.size, 1, none⟩ = some (.int .i64 y) := by rw [hw2]; simp
 have HB := Aside0.mk hB2
 clear hb h0 hB2
 subst hw2
 show Calls _ _ #[_, _] _ _
 cases hq : (x == f) with
 | true =>
  have HI : Aside0 (inPair f (x, y) = true) := ⟨by unfold inPair; simp only; rw [hq]; rfl⟩
  go_enter Tryz.func300, Tryz.ntmps300
  go_wp2
  go_ret
  exact ⟨by rw [HI.out]; rfl, HB.out⟩
 | false =>
  have HI : Aside0 (inPair f (x, y) = (y == f)) := ⟨by unfold inPair; simp only; rw [hq]; rfl⟩
  go_enter Tryz.func300, Tryz.ntmps300
  go_wp2
  go_ret
  exact ⟨by rw [HI.out]; rfl, HB.out⟩
set_option maxRecDepth 100000 in
set_option maxHeartbeats 1000000 in
theorem crit1 (w : World) (b : Nat) (v : Value) (ps : List (Int × Int)) (h0 : w.cell? ⟨b, 0, none⟩ = some v) (hv : ReadP w v ps) :
  PredI w (.func (.func 298) #[] #[.pointer (some ⟨b, 0, none⟩)]) (fun f => ps.any (inPair f)) (fun _ => True) := by
 refine ⟨_, _, _, rfl, Enters.mk' Tryz.func298 rfl rfl, fun w1 x hb _ => ?_⟩
 obtain ⟨w2, hw2⟩ : ∃ w2, w2 = w1.alloc (.cells #[.int .i64 x] 2) := ⟨_, rfl⟩
 have hB2 : Below w1.heap.size w1 w2 := by rw [hw2]; exact Below.alloc (Below.refl _ _) (Nat.le_refl _) _
 have ca := pw_cell_below hB2 (pw_cell_below hb h0)
 have c0 : w2.cell? ⟨w1.heap.size, 0, none⟩ = some (.int .i64 x) := by rw [hw2]; simp
 have HB := Aside0.mk hB2
 have HC := Aside0.mk (containsFuncP v ps _ (inPair x) (fun _ => True) w2 (hv.below (hb.trans (hB2.mono hb.size))) (crit11 w2 w1.heap.size x c0) (fun _ _ => trivial))
 obtain ⟨A2, d2, rfl, -⟩ := id hv
 clear hb h0 hB2 hv
 subst hw2
 show Calls _ _ #[_, _] _ _
 go_enter Tryz.func298, Tryz.ntmps298
 go_wp2_with (first | (go_at_call 299; refine HC.out.mono ?_; rintro e w3 ⟨rfl, hb⟩; have HB3 := Aside0.mk hb; clear hb))
 go_ret
 exact ⟨rfl, HB.out.trans (HB3.out.mono HB.out.size)⟩
set_option maxRecDepth 100000 in
set_option maxHeartbeats 2000000 in
theorem critical (a : Int) (ku : Value) (xs : List Int) (v : Value) (ps : List (Int × Int)) (w : World) (hk : ReadI w ku xs) (hv : ReadP w v ps) (hl : xs.length ≤ 1000000) :
  Calls Tryz.prog 178 #[cx a ku, v] w fun e w' => ∃ u, e = .returned u ∧ OwnI w.heap.size w' u (critL xs ps) ∧ Below w.heap.size w w' := by
 obtain ⟨wb, hwb⟩ : ∃ wb, wb = w.alloc (.cells #[.int .i64 a, ku] 26) := ⟨_, rfl⟩
 obtain ⟨w1, hw1⟩ : ∃ w1, w1 = wb.alloc (.cells #[v] 51) := ⟨_, rfl⟩
 have hsb : wb.heap.size = w.heap.size + 1 := by rw [hwb]; simp
 have hBb : Below w.heap.size w wb := by rw [hwb]; exact Below.alloc (Below.refl _ _) (Nat.le_refl _) _
 have hB1 : Below wb.heap.size wb w1 := by rw [hw1]; exact Below.alloc (Below.refl _ _) (Nat.le_refl _) _
 have hB : Below w.heap.size w w1 := hBb.trans (hB1.mono hBb.size)
 have c0 : w1.cell? ⟨w.heap.size, 0, none⟩ = some (.int .i64 a) := pw_cell_below hB1 (by rw [hwb]; simp)
 have c1 : w1.cell? ⟨w.heap.size, 1, none⟩ = some ku := pw_cell_below hB1 (by rw [hwb]; simp)
 have cv : w1.cell? ⟨w.heap.size + 1, 0, none⟩ = some v := by rw [← hsb, hw1]; simp
 have HB := Aside0.mk hB
 have HCL := Aside0.mk (cloneI ku xs w1 (hk.below hB) hl)
 have HP := Aside0.mk (crit1 w1 (w.heap.size + 1) v ps cv (hv.below hB))
 have HL := Aside0.mk hl
 obtain ⟨A1, d1, rfl, -⟩ := id hk
 obtain ⟨A2, d2, rfl, -⟩ := id hv
 subst hwb
 clear hk hv hB hBb hB1 hsb hl cv
 go_enter Tryz.func178, Tryz.ntmps178
 go_wp2_with (first | (go_at_call 297; rw [← hw1]; clear hw1; refine HCL.out.mono ?_; rintro e w2 ⟨u, rfl, ho, hb⟩; have HO := Aside0.mk ho; have HB2 := Aside0.mk hb; obtain ⟨A3, d3, rfl, -⟩ := ho.read; clear ho hb) | (go_at_call 296; refine (deleteFunc w1 _ _ xs _ (fun f => ps.any (inPair f)) _ HB2.out HO.out HP.out (fun _ _ => trivial) HL.out).mono ?_; rintro e w3 ⟨u, rfl, ho, hb⟩; have HO3 := Aside0.mk (ho.lower HB.out.size); have HB3 := Aside0.mk hb; obtain ⟨A4, d4, rfl, -⟩ := ho.read; clear ho hb))
 go_ret
 exact ⟨_, rfl, HO3.out, HB.out.trans (HB3.out.mono HB.out.size)⟩
def freeTo (f : Int) (ps : List (Int × Int)) (j : Nat) : Bool := (ps.take j).all fun p => !(inPair f p)
theorem freeTo_next {f : Int} {ps : List (Int × Int)} {j : Nat} {x y : Int} (h : ps[j]? = some (x, y)) : freeTo f ps (j + 1) = (freeTo f ps j && (x != f && y != f)) := by
 unfold freeTo
 rw [take_pair h, List.all_append]
 congr 1
 simp [inPair, bne]
theorem freeTo_all (f : Int) (ps : List (Int × Int)) : freeTo f ps ps.length = !(ps.any (inPair f)) := by
 unfold freeTo
 rw [List.take_length, List.all_eq_not_any_not]
 simp
theorem critL_hit {xs : List Int} {ps : List (Int × Int)} {i : Nat} {f : Int} (h : i < xs.length) (hf : xs.getD i 0 = f) (b : Bool) (hb : b = !(ps.any (inPair f))) : critL (xs.take (i + 1)) ps = critL (xs.take i) ps ++ (if b then [f] else []) := by
 unfold critL
 rw [take_get h hf, List.filter_append]
 cases h2 : ps.any (inPair f) <;> rw [h2] at hb <;> subst hb <;> rw [List.filter_cons, h2] <;> rfl
set_option maxRecDepth 100000 in
set_option maxHeartbeats 4000000 in
theorem specCritL (a : Int) (ku : Value) (xs : List Int) (v : Value) (ps : List (Int × Int)) (w : World) (hk : ReadI w ku xs) (hv : ReadP w v ps) (hl : xs.length ≤ 1000000) :
  Calls Tryz.prog 302 #[cx a ku, v] w fun e w' => ∃ u, e = .returned u ∧ OwnI w.heap.size w' u (critL xs ps) ∧ Below w.heap.size w w' := by
 obtain ⟨w1, hw1⟩ : ∃ w1, w1 = w.alloc (.cells #[.int .i64 a, ku] 26) := ⟨_, rfl⟩
 have hB : Below w.heap.size w w1 := by rw [hw1]; exact Below.alloc (Below.refl _ _) (Nat.le_refl _) _
 have c0 : w1.cell? ⟨w.heap.size, 0, none⟩ = some (.int .i64 a) := by rw [hw1]; simp
 have c1 : w1.cell? ⟨w.heap.size, 1, none⟩ = some ku := by rw [hw1]; simp
 have HB0 := Aside0.mk hB
 have C1 := Aside0.mk (fun W (h : Below w1.heap.size w1 W) => pw_cell_below h c1)
 have HK := Aside0.mk (fun W (h : Below w1.heap.size w1 W) => (hk.below hB).below h)
 have HV := Aside0.mk (fun W (h : Below w1.heap.size w1 W) => (hv.below hB).below h)
 have hs1 : w1.heap.size = w.heap.size + 1 := by rw [hw1]; simp
 have HE := Aside0.mk (show OwnI w1.heap.size (w1.alloc (.cells #[] 2)) (.slice (some ⟨w.heap.size + 1, 0, none⟩) 0 0) [] by rw [← hs1]; exact OwnI.empty w1 (Nat.le_refl w1.heap.size))
 have HL := Aside0.mk hl
 have hlk := hk.len
 obtain ⟨A1, d1, rfl, -⟩ := id hk
 obtain ⟨A2, d2, rfl, hl2, -⟩ := id hv
 clear hk hv hB c0 c1 hl hs1
 go_enter Tryz.func302, Tryz.ntmps302
 go_wp2
 rw [← hw1]
 clear hw1
 go_loopw [5, 6] (fun s5 s6 wr => ∃ i : Nat, s6 = .int .i64 i ∧ i ≤ xs.length ∧ Aside0 (OwnI w1.heap.size wr s5 (critL (xs.take i) ps)) ∧ Aside0 (Below w1.heap.size w1 wr)) (fun _ s6 _ => xs.length - (intOf s6).toNat)
 case atStart => exact ⟨0, rfl, Nat.zero_le _, ⟨by rw [List.take_zero]; exact HE.out⟩, ⟨Below.alloc (Below.refl _ _) (Nat.le_refl _) _⟩⟩
 case round =>
  obtain ⟨i, rfl, hi, HO, HB⟩ := hrel
  have c1 := C1.out _ HB.out
  by_cases hlt : i < xs.length
  ·obtain ⟨A_, c_, e_, -, hcc⟩ := HK.out _ HB.out
   cases e_
   obtain ⟨ad, f, e1, hcell, HF⟩ := ReadI.get hcc hlt
   cases e1
   have HCELL := Aside0.mk (fun W (h : Below wr.heap.size wr W) => (pw_cell_below h hcell))
   have hiI : (i : Int) < (xs.length : Int) := by omega
   clear hcc hcell
   go_wp2
   go_loopw [7, 8] (fun s7 s8 wx => ∃ (j : Nat) (b : Bool), s7 = .bool b ∧ s8 = .int .i64 j ∧ j ≤ ps.length ∧ Aside0 (b = freeTo f ps j) ∧ Aside0 (Below wr.heap.size wr wx)) (fun _ s8 _ => ps.length - (intOf s8).toNat)
   case atStart => exact ⟨0, true, rfl, rfl, Nat.zero_le _, ⟨rfl⟩, ⟨Below.refl _ _⟩⟩
   case round =>
    obtain ⟨j, b, rfl, rfl, hj, HBj, HBx⟩ := hrel
    have c1x := pw_cell_below HBx.out c1
    have hcell := HCELL.out _ HBx.out
    by_cases hjt : j < ps.length
    ·obtain ⟨g, x, y, e2, hxy, hc0, hc1⟩ := ReadP.get (HV.out _ (HB.out.trans (HBx.out.mono HB.out.size))) hjt
     cases e2
     have hjI : (j : Int) < (ps.length : Int) := by omega
     have HN := Aside0.mk (freeTo_next (f := f) hxy)
     rw [← HBj.out] at HN
     clear hxy
     cases b with
     | false =>
      go_wp2
      go_quiet (fail)
      go_wp2
      go_roundw
      case rel => exact ⟨j + 1, false, by go_num, by go_num, by omega, ⟨HN.out.symm⟩, ⟨below_drewN HBx.out _⟩⟩
      case measure => simp [intOf]; omega
     | true =>
      cases hxf : (x != f) with
      | false =>
       rw [hxf] at HN
       go_wp2
       go_quiet (fail)
       go_wp2
       go_roundw
       case rel => exact ⟨j + 1, false, by go_num, by go_num, by omega, ⟨HN.out.symm⟩, ⟨below_drewN HBx.out _⟩⟩
       case measure => simp [intOf]; omega
      | true =>
       rw [hxf] at HN
       go_wp2
       go_quiet (fail)
       go_wp2
       go_roundw
       case rel => exact ⟨j + 1, y != f, by go_num, by go_num, by omega, ⟨HN.out.symm⟩, ⟨below_drewN HBx.out _⟩⟩
       case measure => simp [intOf]; omega
    ·have HX : Aside0 (critL (xs.take (i + 1)) ps = critL (xs.take i) ps ++ (if b then [f] else [])) := ⟨critL_hit hlt HF.out b (by
      have h1 := HBj.out
      rw [show j = ps.length by omega, freeTo_all] at h1
      exact h1)⟩
     have HOX := Aside0.mk (HO.out.below HBx.out)
     have HWX := Aside0.mk (HB.out.trans (HBx.out.mono HB.out.size))
     have HLC : Aside0 ((critL (xs.take i) ps).length < 1000000) := ⟨by
      have h1 := List.length_filter_le (fun f => !(ps.any (inPair f))) (xs.take i)
      have h2 := HL.out
      unfold critL
      simp only [List.length_take] at h1
      omega⟩
     cases b with
     | false =>
      go_wp2
      go_roundw
      case rel => exact ⟨i + 1, by go_num, by omega, ⟨by rw [HX.out]; simpa using HOX.out⟩, HWX⟩
      case measure => simp [intOf]; omega
     | true =>
      go_wp2_with (first | ((with_reducible refine gate_builtin (b := .append) (xs := #[.tmp 51, .tmp 57]) rfl ?_); refine app_own (w0 := w1) w1.heap.size rfl (.tmp 51) (.tmp 57) rfl u5 _ f rfl rfl HOX.out HWX.out HWX.out.size (Nat.lt_trans HLC.out (by decide)) ?_; intro v6 w6 ho6 hb6 hg6 hat6; have HO6 := Aside0.mk ho6; have HB6 := Aside0.mk hb6; clear ho6 hb6 hg6 hat6))
      go_roundw
      case rel => exact ⟨i + 1, by go_num, by omega, ⟨by rw [HX.out]; exact HO6.out⟩, HB6⟩
      case measure => simp [intOf]; omega
  ·have e : i = xs.length := by omega
   have HE := Aside0.mk e
   clear e
   go_wp2
   go_ret
   refine ⟨_, rfl, ?_, HB0.out.trans (HB.out.mono HB0.out.size)⟩
   have := HO.out
   rw [HE.out, List.take_length] at this
   exact this.lower HB0.out.size
theorem bnd_zero0 : bndB (listI 0) = 0 := by decide
theorem push_zero0 (ps : List (Int × Int)) : pushB ps 0 = 0 := by
 have h := push_add 0 0 ps
 rw [Nat.xor_self, Nat.xor_self] at h
 exact h
set_option maxRecDepth 100000 in
theorem bnd_bnd_one : ∀ t, t < 64 → bndB (listI (bndB (listI (2 ^ t)))) = 0 := by decide +kernel
theorem xsum_zero {f : Int → Nat} : ∀ l : List Int, (∀ x ∈ l, f x = 0) → xsum f l = 0
 | [], _ => xsum_nil f
 | a :: r, h => by rw [xsum_cons, h a List.mem_cons_self, xsum_zero r (fun x hx => h x (List.mem_cons_of_mem _ hx))]; rfl
theorem bnd_bnd {m : Nat} (hm : m < 18446744073709551616) : bndB (listI (bndB (listI m))) = 0 := by
 have h := xsum_map (F := fun x => bndB (listI (bndB (listI x)))) (by rw [bnd_zero0, bnd_zero0]) (fun a b => by rw [bnd_add, bnd_add]) (fun x => 2 ^ x.toNat) (listI m)
 rw [← bits_xsum, bits_listI (by rw [e64]; exact hm)] at h
 rw [h]
 refine xsum_zero _ (fun x hx => ?_)
 obtain ⟨t, rfl, ht, -⟩ := listI_mem.1 hx
 rw [Int.toNat_natCast]
 exact bnd_bnd_one t ht
/-- the boundary of a flow is the flow of the boundary -/
theorem flow_bnd {ps : List (Int × Int)} (hd : PsDom ps) {m : Nat} (hm : m < 18446744073709551616) : bndB (listI (flowB ps m)) = flowB ps (bndB (listI m)) := by
 unfold flowB
 rw [bnd_add, bnd_add, bnd_bnd (pushB_ltU hd m), Nat.xor_zero, bnd_bnd hm, push_zero0, Nat.xor_zero]
/-! a critical face stays -/
def HiO (ps : List (Int × Int)) (d : Nat) : Prop := ∀ z : Nat, d.testBit z = true → ∃ r, highTo ps r ≠ 0 ∧ highTo ps r = z
theorem HiO.xor {ps : List (Int × Int)} {a b : Nat} (h : HiO ps a) (k : HiO ps b) : HiO ps (a ^^^ b) := fun z hz => by
 rw [Nat.testBit_xor] at hz
 cases ha : a.testBit z with
 | true => exact h z ha
 | false => rw [ha] at hz; exact k z (by simpa using hz)
theorem HiO.pushed {ps : List (Int × Int)} (hd : PsDom ps) (l : List Int) : HiO ps (xsum (push1 ps) l) := fun z hz => by
 obtain ⟨x, -, h⟩ := xsum_test _ hz
 exact ⟨x, push1_test hd h⟩
theorem HiO.flow {ps : List (Int × Int)} (h : AcyP ps) {d : Nat} (hm : d < 18446744073709551616) (k : HiO ps d) : HiO ps (flowB ps d) := fun z hz => by
 obtain ⟨t, ht, h1, h2⟩ := flow_from hm hz
 obtain ⟨r, hr, e⟩ := k t h1
 rw [flow_high h ht hr e] at h2
 exact HiO.pushed h.1 _ z h2
theorem keep_form {ps : List (Int × Int)} (h : AcyP ps) {b : Nat} (hb : b < 64) (hl : highTo ps b = 0) : ∀ n, ∃ d, flowN ps n (2 ^ b) = 2 ^ b ^^^ d ∧ d < 18446744073709551616 ∧ HiO ps d
 | 0 => ⟨0, by show 2 ^ b = _; rw [Nat.xor_zero], by decide, fun z hz => by simp at hz⟩
 | n + 1 => by
  obtain ⟨d, e, hd, hh⟩ := keep_form h hb hl n
  have hp : push1 ps b = 0 := by unfold push1; rw [if_pos hl]
  have h1 : flowB ps (2 ^ b) = 2 ^ b ^^^ xsum (push1 ps) (below b) := by rw [flow_one h hb, hp, bnd_zero0, Nat.xor_zero]
  have hbl : (2 : Nat) ^ b < 18446744073709551616 := by rw [← e64]; exact Nat.pow_lt_pow_right (by decide) hb
  refine ⟨xsum (push1 ps) (below b) ^^^ flowB ps d, ?_, xor_ltU ?_ (flowB_ltU h.1 hd), (HiO.pushed h.1 _).xor (hh.flow h hd)⟩
  ·show flowB ps (flowN ps n (2 ^ b)) = _
   rw [e, flow_add, h1, Nat.xor_assoc]
  ·have h2 : xsum (push1 ps) (below b) = flowB ps (2 ^ b) ^^^ 2 ^ b := by rw [h1, Nat.xor_comm (2 ^ b), Nat.xor_assoc, Nat.xor_self, Nat.xor_zero]
   rw [h2]
   exact xor_ltU (flowB_ltU h.1 hbl) hbl
/-- the end of a critical face has it -/
theorem end_keeps {ps : List (Int × Int)} (h : AcyP ps) {b : Nat} (hb : b < 64) (hl : highTo ps b = 0) (hh : ∀ r, highTo ps r ≠ 0 → highTo ps r ≠ b) : (endB ps (2 ^ b)).testBit b = true := by
 obtain ⟨d, e, -, hd⟩ := keep_form h hb hl 130
 unfold endB
 rw [e, Nat.testBit_xor, Nat.testBit_two_pow]
 cases hz : d.testBit b with
 | false => simp
 | true =>
  obtain ⟨r, h1, h2⟩ := hd b hz
  exact absurd h2 (hh r h1)
/-- ends do not flow -/
theorem flow_ended {ps : List (Int × Int)} (h : AcyP ps) {m : Nat} (hm : m < 18446744073709551616) : flowB ps (endB ps m) = endB ps m := flow_end h hm
theorem below_ones : ∀ t, t < 64 → ∀ x ∈ below t, ones x.toNat + 1 = ones t := by decide +kernel
/-- faces of one dimension, all in xs -/
def Layer (xs : List Int) (d m : Nat) : Prop := ∀ t, t < 64 → m.testBit t = true → (t : Int) ∈ xs ∧ ones t = d
theorem chOk_of_layer {xs : List Int} {d m : Nat} (h : Layer xs d m) : chOk xs (listI m) = true := by
 have hm : ∀ j, j < (listI m).length → (listI m).getD j 0 ∈ xs ∧ ones ((listI m).getD j 0).toNat = d := fun j hj => by
  have h1 : (listI m).getD j 0 ∈ listI m := mem_at hj rfl
  obtain ⟨t, e, ht, hb⟩ := listI_mem.1 h1
  rw [e, Int.toNat_natCast]
  exact h t ht hb
 refine chOk_true (fun i hi => ?_)
 unfold chAt
 rw [Bool.and_eq_true, Bool.and_eq_true, decide_eq_true_eq, beq_iff_eq, Bool.or_eq_true, decide_eq_true_eq, decide_eq_true_eq]
 refine ⟨⟨(hm i hi).1, by rw [(hm i hi).2, (hm 0 (by omega)).2]⟩, ?_⟩
 by_cases h0 : i = 0
 ·exact .inl h0
 ·refine .inr ?_
  have := List.pairwise_iff_getElem.1 (listI_asc m) (i - 1) i (by omega) hi (by omega)
  rw [List.getD_eq_getElem?_getD, List.getElem?_eq_getElem (by omega), List.getD_eq_getElem?_getD, List.getElem?_eq_getElem hi]
  exact this
theorem layer_of_chOk {xs l : List Int} (hc : chOk xs l = true) (hbd : ∀ x ∈ l, 0 ≤ x ∧ x ≤ 63) (hasc : l.Pairwise (· < ·)) : ∃ d, Layer xs d (bitsI l) := by
 refine ⟨ones (l.getD 0 0).toNat, fun t ht hb => ?_⟩
 rw [bits_test hasc (fun x hx => (hbd x hx).1), decide_eq_true_eq] at hb
 obtain ⟨i, hi, e⟩ := List.getElem_of_mem hb
 have h := chOk_at hc hi
 unfold chAt at h
 rw [Bool.and_eq_true, Bool.and_eq_true, decide_eq_true_eq, beq_iff_eq, List.getD_eq_getElem?_getD, List.getElem?_eq_getElem hi, Option.getD_some, e, Int.toNat_natCast] at h
 exact ⟨h.1.1, by have := h.1.2; omega⟩
theorem pair_facts {n : Nat} {xs : List Int} {ps : List (Int × Int)} (hc : Cx n xs) (hp : pOk xs ps = true) {p : Int × Int} (hpm : p ∈ ps) : p.1 ∈ xs ∧ p.2 ∈ xs ∧ ones p.2.toNat = ones p.1.toNat + 1 := by
 obtain ⟨i, hi, ei⟩ := List.getElem_of_mem hpm
 have h1 : pOkAt xs ps i = true := by
  unfold pOk at hp
  exact List.all_eq_true.1 hp i (List.mem_range.2 hi)
 unfold pOkAt pairAt at h1
 rw [List.getD_eq_getElem?_getD, List.getElem?_eq_getElem hi, Option.getD_some, ei] at h1
 simp only [Bool.and_eq_true, decide_eq_true_eq, beq_iff_eq] at h1
 exact ⟨h1.1.1, h1.1.2.1, h1.1.2.2.2⟩
/-- what a face flows to, told with whence -/
theorem flow_image2 {ps : List (Int × Int)} (h : AcyP ps) {t : Nat} (ht : t < 64) {z : Nat} (hz : (flowB ps (2 ^ t)).testBit z = true) :
  (∃ r ∈ below t, highTo ps r ≠ 0 ∧ highTo ps r = z) ∨ (highTo ps t ≠ 0 ∧ (z : Int) ∈ nextOf ps t) ∨ (highTo ps t = 0 ∧ z = t) := by
 cases h3 : (xsum (push1 ps) (below t)).testBit z with
 | true =>
  obtain ⟨r, hr, h4⟩ := xsum_test _ h3
  exact .inl ⟨r, hr, push1_test h.1 h4⟩
 | false =>
  rw [flow_one h ht, Nat.testBit_xor, Nat.testBit_xor, h3, Bool.xor_false, Nat.testBit_two_pow] at hz
  by_cases h0 : highTo ps t = 0
  ·refine .inr (.inr ⟨h0, ?_⟩)
   have e : push1 ps t = 0 := by unfold push1; rw [if_pos h0]
   rw [e, bnd_zero0] at hz
   simp at hz
   exact hz.symm
  ·rcases flow_image h ht (by rw [flow_one h ht, Nat.testBit_xor, Nat.testBit_xor, h3, Bool.xor_false, Nat.testBit_two_pow]; exact hz) with ⟨r, h4, h5⟩ | h4 | h4
   ·-- bit z comes from the high's border
    refine .inr (.inl ⟨h0, ?_⟩)
    have hhd := high_dom h.1 (t : Int)
    obtain ⟨u, hu⟩ : ∃ u : Nat, highTo ps t = u := ⟨(highTo ps t).toNat, by omega⟩
    have hu64 : u < 64 := by omega
    have e : push1 ps t = 2 ^ u := by unfold push1; rw [if_neg h0, hu, Int.toNat_natCast]
    rw [e, bnd_one hu64, bits_test (below_asc u hu64) (fun x hx => (below_bd u hu64 x hx).1)] at hz
    rw [next_high h0, hu, Int.toNat_natCast, List.mem_filter]
    have hbel := h.2.2.2.2 _ (high_mem h0)
    simp only [hu, Int.toNat_natCast] at hbel
    by_cases hzt : t = z
    ·subst hzt
     rw [decide_eq_true hbel] at hz
     simp at hz
    ·have hzt' : ((z : Int) == (t : Int)) = false := by rw [beq_eq_false_iff_ne]; omega
     simp [hzt] at hz
     exact ⟨hz, by rw [hzt']; rfl⟩
   ·exact .inr (.inl h4)
   ·exact .inr (.inr h4)
theorem flow_layer {n : Nat} {xs : List Int} {ps : List (Int × Int)} (hc : Cx n xs) (hcl : xs.all (belowIn xs) = true) (hp : pOk xs ps = true) (h : AcyP ps) {d m : Nat} (hm : m < 18446744073709551616) (hl : Layer xs d m) : Layer xs d (flowB ps m) := by
 intro z hz64 hz
 obtain ⟨t, ht, h1, h2⟩ := flow_from hm hz
 obtain ⟨htx, hto⟩ := hl t ht h1
 rcases flow_image2 h ht h2 with ⟨r, hr, h3, h4⟩ | ⟨h3, h4⟩ | ⟨-, e⟩
 ·obtain ⟨h5, h6, h7⟩ := pair_facts hc hp (high_mem h3)
  simp only [h4, Int.toNat_natCast] at h6 h7
  have := below_ones t ht r hr
  exact ⟨h6, by omega⟩
 ·obtain ⟨h5, h6, h7⟩ := pair_facts hc hp (high_mem h3)
  have hd := high_dom h.1 (t : Int)
  rw [next_high h3, List.mem_filter] at h4
  have h8 := List.all_eq_true.1 hcl _ h6
  unfold belowIn at h8
  have h9 := of_decide_eq_true (List.all_eq_true.1 h8 _ h4.1)
  have h10 := below_ones (highTo ps t).toNat (by omega) _ h4.1
  simp only [Int.toNat_natCast] at h7 h10
  exact ⟨h9, by omega⟩
 ·rw [e]; exact ⟨htx, hto⟩
theorem end_layer {n : Nat} {xs : List Int} {ps : List (Int × Int)} (hc : Cx n xs) (hcl : xs.all (belowIn xs) = true) (hp : pOk xs ps = true) (h : AcyP ps) {d m : Nat} (hm : m < 18446744073709551616) (hl : Layer xs d m) : ∀ k, Layer xs d (flowN ps k m)
 | 0 => hl
 | k + 1 => flow_layer hc hcl hp h (flowN_lt h.1 hm k) (end_layer hc hcl hp h hm hl k)
theorem bnd_layer {xs : List Int} (hcl : xs.all (belowIn xs) = true) {d m : Nat} (hl : Layer xs d m) : Layer xs (d - 1) (bndB (listI m)) := by
 intro z hz64 hz
 unfold bndB at hz
 obtain ⟨x, hx, h2⟩ := xsum_test (f := fun x => bitsI (below x.toNat)) (listI m) hz
 obtain ⟨t, rfl, ht, h1⟩ := listI_mem.1 hx
 rw [Int.toNat_natCast, bits_test (below_asc t ht) (fun x hx => (below_bd t ht x hx).1), decide_eq_true_eq] at h2
 obtain ⟨h3, h4⟩ := hl t ht h1
 have h5 := List.all_eq_true.1 hcl _ h3
 unfold belowIn at h5
 rw [Int.toNat_natCast] at h5
 have h6 := below_ones t ht _ h2
 rw [Int.toNat_natCast] at h6
 exact ⟨of_decide_eq_true (List.all_eq_true.1 h5 _ h2), by omega⟩
end Go.Proofs.YtomofijniefelaaGreat.H
