/- CriticalChain of the program and of the reference. EndOfFlow of the program and of the reference: the calls. FnFlows, the plain law: what is said of the answers. A region of open order, guards allowed: most operations only reckon; the others turn memory, and what is known is told by what has been done. -/
import Derived.Test.YtomofijniefelaaGreatKFnFlows1
import Derived.Test.YtomofijniefelaaGreatKFnFlows2
import Derived.Test.YtomofijniefelaaGreatKFnFlows3
import Derived.Test.YtomofijniefelaaGreatKFnFlows4
import Derived.Test.YtomofijniefelaaGreatKFnFlows5
import Derived.Test.YtomofijniefelaaGreatKFnFlows6
import Derived.Test.YtomofijniefelaaGreatKFnFlows7
import Derived.Test.YtomofijniefelaaGreatKFnFlows8
import Derived.Test.YtomofijniefelaaGreatKFnFlows9
import Derived.Test.YtomofijniefelaaGreatKFnFlows10
import Derived.Test.YtomofijniefelaaGreatKFnFlows11
import Derived.Test.YtomofijniefelaaGreatKFnFlows12
import Derived.Test.YtomofijniefelaaGreatKFnFlows13
import Derived.Test.YtomofijniefelaaGreatKFnFlows14

namespace Go.Proofs.YtomofijniefelaaGreat.H
open Go.RowKit Go.Proofs.YtomofijniefelaaGreatW.PrintWords Go.Proofs.YtomofijniefelaaGreatW.PrintLast
set_option linter.unusedVariables false
set_option linter.unusedSimpArgs false
/-- is a face critical -/
def critB (xs : List Int) (ps : List (Int × Int)) (b : Int) : Bool := decide (b ∈ critL xs ps)
set_option maxRecDepth 100000 in
set_option maxHeartbeats 2000000 in
theorem specCrit6 (a : Int) (ku : Value) (xs : List Int) (v : Value) (ps : List (Int × Int)) (b : Int) (w : World) (hk : ReadI w ku xs) (hv : ReadP w v ps) (hl : xs.length ≤ 1000000) :
  Calls Tryz.prog 180 #[cx a ku, v, .int .i64 b] w fun e w' => e = .returned (.bool (critB xs ps b)) ∧ Below w.heap.size w w' := by
 obtain ⟨w1, hw1⟩ : ∃ w1, w1 = w.alloc (.cells #[.int .i64 a, ku] 26) := ⟨_, rfl⟩
 have hB : Below w.heap.size w w1 := by rw [hw1]; exact Below.alloc (Below.refl _ _) (Nat.le_refl _) _
 have HB := Aside0.mk hB
 have HC := Aside0.mk (specCritL a ku xs v ps w1 (hk.below hB) (hv.below hB) hl)
 have HLN : Aside0 ((critL xs ps).length ≤ xs.length) := ⟨List.length_filter_le _ _⟩
 obtain ⟨A1, d1, rfl, -⟩ := id hk
 obtain ⟨A2, d2, rfl, -⟩ := id hv
 have hl9 : (critL xs ps).length ≤ 1000000 := Nat.le_trans HLN.out hl
 clear hk hv hB
 go_enter Tryz.func180, Tryz.ntmps180
 go_wp2_with (first | (go_at_call 302; rw [← hw1]; clear hw1; refine HC.out.mono ?_; rintro e w2 ⟨u, rfl, ho, hb⟩; obtain ⟨A3, d3, rfl, -⟩ := ho.read; have HO := Aside0.mk ho; have HB2 := Aside0.mk hb; clear ho hb))
 go_loopw [8] (fun s8 wr => ∃ i : Nat, s8 = .int .i64 i ∧ i ≤ (critL xs ps).length ∧ Aside0 (∀ j, j < i → (critL xs ps).getD j 0 ≠ b) ∧ Aside0 (Below w2.heap.size w2 wr)) (fun s8 _ => (critL xs ps).length - (intOf s8).toNat)
 case atStart => exact ⟨0, rfl, Nat.zero_le _, ⟨fun j hj => absurd hj (Nat.not_lt_zero _)⟩, ⟨Below.refl _ _⟩⟩
 case round =>
  obtain ⟨i, rfl, hi, HN, HBi⟩ := hrel
  by_cases hlt : i < (critL xs ps).length
  ·obtain ⟨A_, c_, e_, -, hcc⟩ := (HO.out.below HBi.out).read
   cases e_
   obtain ⟨ad, y, e1, hcell, HY⟩ := ReadI.get hcc hlt
   cases e1
   clear hcc
   cases hq : (y == b) with
   | true =>
    have HF : Aside0 (critB xs ps b = true) := ⟨decide_eq_true (by rw [← eq_of_beq hq]; exact mem_at hlt HY.out)⟩
    go_wp2
    go_ret
    exact ⟨by rw [HF.out]; rfl, HB.out.trans ((HB2.out.trans (HBi.out.mono HB2.out.size)).mono HB.out.size)⟩
   | false =>
    have HX : Aside0 (y ≠ b) := ⟨by simpa using hq⟩
    go_wp2
    go_roundw
    case rel => exact ⟨i + 1, by go_num, by omega, ⟨fun j hj => by
     rcases Nat.lt_succ_iff_lt_or_eq.1 hj with h | rfl
     ·exact HN.out j h
     ·rw [HY.out]; exact HX.out⟩, HBi⟩
    case measure => simp [intOf]; omega
  ·have HF : Aside0 (critB xs ps b = false) := ⟨decide_eq_false (fun h => by
    obtain ⟨j, hj, e⟩ := List.getElem_of_mem h
    have := HN.out j (by omega)
    rw [List.getD_eq_getElem?_getD, List.getElem?_eq_getElem hj, Option.getD_some, e] at this
    exact this rfl)⟩
   go_wp2
   go_ret
   exact ⟨by rw [HF.out]; rfl, HB.out.trans ((HB2.out.trans (HBi.out.mono HB2.out.size)).mono HB.out.size)⟩
/-- the code of a critical face -/
def codeCrit (a : Int) (xs : List Int) (ps : List (Int × Int)) (b : Int) : Int := if cxOk a xs then (if pOk xs ps then (if critB xs ps b then (if acyB ps then 0 else 5) else 2) else 2) else 1
/-- what CriticalChain answers -/
def ansCriticalChain (a : Int) (xs : List Int) (ps : List (Int × Int)) (b : Int) : List Int × Int := if codeCrit a xs ps b = 0 then (listI (endB ps (bitsI [b])), 0) else ([], codeCrit a xs ps b)
theorem crit_mem {xs : List Int} {ps : List (Int × Int)} {b : Int} (h : critB xs ps b = true) : b ∈ xs := (List.mem_filter.1 (of_decide_eq_true h)).1
set_option maxRecDepth 100000 in
set_option maxHeartbeats 2000000 in
theorem specCriticalChain (a : Int) (ku : Value) (xs : List Int) (v : Value) (ps : List (Int × Int)) (b : Int) (w : World) (hk : ReadI w ku xs) (hv : ReadP w v ps) :
  Calls Tryz.prog 46 #[cx a ku, v, .int .i64 b] w fun e w' => ∃ r, e = .returned (.tuple #[r, .int .i64 (ansCriticalChain a xs ps b).2]) ∧ OwnI w.heap.size w' r (ansCriticalChain a xs ps b).1 ∧ Below w.heap.size w w' := by
 obtain ⟨w1, hw1⟩ : ∃ w1, w1 = w.alloc (.cells #[.int .i64 a, ku] 26) := ⟨_, rfl⟩
 have hB : Below w.heap.size w w1 := by rw [hw1]; exact Below.alloc (Below.refl _ _) (Nat.le_refl _) _
 have c0 : w1.cell? ⟨w.heap.size, 0, none⟩ = some (.int .i64 a) := by rw [hw1]; simp
 have c1 : w1.cell? ⟨w.heap.size, 1, none⟩ = some ku := by rw [hw1]; simp
 have HB := Aside0.mk hB
 have HM := Aside0.mk (specCode2 a ku xs v ps w1 (hk.below hB) (hv.below hB))
 have HKW := Aside0.mk (fun W (h : Below w1.heap.size w1 W) => (hk.below hB).below h)
 have HVW := Aside0.mk (fun W (h : Below w1.heap.size w1 W) => (hv.below hB).below h)
 obtain ⟨A1, d1, rfl, -⟩ := id hk
 obtain ⟨A2, d2, rfl, -⟩ := id hv
 clear hk hv hB
 cases hx : cxOk a xs with
 | false =>
  have HA : Aside0 (ansCriticalChain a xs ps b = ([], 1)) := ⟨by unfold ansCriticalChain codeCrit; rw [hx]; rfl⟩
  rw [hx] at HM
  clear hx
  go_enter Tryz.func46, Tryz.ntmps46
  go_wp2_with (first | (go_at_call 179; rw [← hw1]; clear hw1; refine HM.out.mono ?_; rintro e w2 ⟨rfl, hb⟩; have HB2 := Aside0.mk hb; clear hb))
  go_ret2
  exact ⟨_, by rw [HA.out]; rfl, by rw [HA.out]; exact OwnI.nil _ _, HB.out.trans (HB2.out.mono HB.out.size)⟩
 | true =>
  rw [hx] at HM
  obtain ⟨n, rfl, hc, -⟩ := cxOk_cx hx
  cases hp : pOk xs ps with
  | false =>
   have HA : Aside0 (ansCriticalChain n xs ps b = ([], 2)) := ⟨by unfold ansCriticalChain codeCrit; rw [hx, hp]; rfl⟩
   rw [hp] at HM
   clear hx hp hc
   go_enter Tryz.func46, Tryz.ntmps46
   go_wp2_with (first | (go_at_call 179; rw [← hw1]; clear hw1; refine HM.out.mono ?_; rintro e w2 ⟨rfl, hb⟩; have HB2 := Aside0.mk hb; clear hb))
   go_ret2
   exact ⟨_, by rw [HA.out]; rfl, by rw [HA.out]; exact OwnI.nil _ _, HB.out.trans (HB2.out.mono HB.out.size)⟩
  | true =>
   rw [hp] at HM
   have hd := pOk_dom hc hp
   have HCR := Aside0.mk (fun W (h : Below w1.heap.size w1 W) => specCrit6 n _ xs _ ps b W (HKW.out W h) (HVW.out W h) (Nat.le_trans hc.len (by decide)))
   have HSA := Aside0.mk (fun W (h : Below w1.heap.size w1 W) => specAcyclic _ ps W (HVW.out W h) hd)
   obtain ⟨q, hq⟩ : ∃ q, q = critB xs ps b := ⟨_, rfl⟩
   rw [← hq] at HCR
   cases q with
   | false =>
    have HA : Aside0 (ansCriticalChain n xs ps b = ([], 2)) := ⟨by unfold ansCriticalChain codeCrit; rw [hx, hp, ← hq]; rfl⟩
    clear hx hp hc hq hd
    go_enter Tryz.func46, Tryz.ntmps46
    go_wp2_with (first | (go_at_call 179; rw [← hw1]; clear hw1; refine HM.out.mono ?_; rintro e w2 ⟨rfl, hb⟩; replace c0 := pw_cell_below hb c0; replace c1 := pw_cell_below hb c1; have HB2 := Aside0.mk hb; clear hb) | (go_at_call 180; refine (HCR.out _ HB2.out).mono ?_; rintro e w3 ⟨rfl, hb⟩; have HB3 := Aside0.mk (HB2.out.trans (hb.mono HB2.out.size)); clear hb))
    go_ret2
    exact ⟨_, by rw [HA.out]; rfl, by rw [HA.out]; exact OwnI.nil _ _, HB.out.trans (HB3.out.mono HB.out.size)⟩
   | true =>
    obtain ⟨r, hr⟩ : ∃ r, r = acyB ps := ⟨_, rfl⟩
    rw [← hr] at HSA
    have hm := crit_mem hq.symm
    have hbd0 : ∀ x ∈ [b], 0 ≤ x ∧ x ≤ 63 := fun x hxb => by have h1 := hc.nat (x := x) (by simp at hxb; rw [hxb]; exact hm); obtain ⟨f, h2, h3, h4⟩ := h1; omega
    have hbd1 : ∀ x ∈ [b], 1 ≤ x ∧ x ≤ 63 := fun x hxb => by have h1 := hc.nat (x := x) (by simp at hxb; rw [hxb]; exact hm); obtain ⟨f, h2, h3, h4⟩ := h1; omega
    have hbits : listI (bitsI [b]) = [b] := list_bits (by simp) hbd0
    cases r with
    | false =>
     have HA : Aside0 (ansCriticalChain n xs ps b = ([], 5)) := ⟨by unfold ansCriticalChain codeCrit; rw [hx, hp, ← hq, ← hr]; rfl⟩
     clear hx hp hc hq hd hr hm hbd0 hbd1 hbits
     go_enter Tryz.func46, Tryz.ntmps46
     go_wp2_with (first | (go_at_call 179; rw [← hw1]; clear hw1; refine HM.out.mono ?_; rintro e w2 ⟨rfl, hb⟩; replace c0 := pw_cell_below hb c0; replace c1 := pw_cell_below hb c1; have HB2 := Aside0.mk hb; clear hb) | (go_at_call 180; refine (HCR.out _ HB2.out).mono ?_; rintro e w3 ⟨rfl, hb⟩; have HB3 := Aside0.mk (HB2.out.trans (hb.mono HB2.out.size)); clear hb) | (go_at_call 181; refine (HSA.out _ HB3.out).mono ?_; rintro e w4 ⟨rfl, hb⟩; have HB4 := Aside0.mk (HB3.out.trans (hb.mono HB3.out.size)); clear hb))
     go_ret2
     exact ⟨_, by rw [HA.out]; rfl, by rw [HA.out]; exact OwnI.nil _ _, HB.out.trans (HB4.out.mono HB.out.size)⟩
    | true =>
     have HA : Aside0 (ansCriticalChain n xs ps b = (listI (endB ps (bitsI [b])), 0)) := ⟨by unfold ansCriticalChain codeCrit; rw [hx, hp, ← hq, ← hr]; rfl⟩
     have hap := acyP_of hc hp hr.symm
     have HF := Aside0.mk (fun u W (h : Below w1.heap.size w1 W) (hu : ReadI W u [b]) => specEnd (.slice A2 ps.length d2) ps u (bitsI [b]) W (HVW.out W h) (by rw [hbits]; exact hu) hap (bitsI_lt hbd0) (bitsI_zero (by simp) hbd1))
     clear hx hp hc hq hd hr hm hbd0 hbd1 hbits hap
     go_enter Tryz.func46, Tryz.ntmps46
     go_wp2_with (first | (go_at_call 179; rw [← hw1]; clear hw1; refine HM.out.mono ?_; rintro e w2 ⟨rfl, hb⟩; replace c0 := pw_cell_below hb c0; replace c1 := pw_cell_below hb c1; have HB2 := Aside0.mk hb; clear hb) | (go_at_call 180; refine (HCR.out _ HB2.out).mono ?_; rintro e w3 ⟨rfl, hb⟩; have HB3 := Aside0.mk (HB2.out.trans (hb.mono HB2.out.size)); clear hb) | (go_at_call 181; refine (HSA.out _ HB3.out).mono ?_; rintro e w4 ⟨rfl, hb⟩; have HB4 := Aside0.mk (HB3.out.trans (hb.mono HB3.out.size)); clear hb) | (go_at_call 171; refine (HF.out _ _ (HB4.out.trans ((Below.alloc (Below.refl _ _) (Nat.le_refl _) _).mono HB4.out.size)) (OwnI.single w4 b (Nat.le_refl w4.heap.size)).read).mono ?_; rintro e w5 ⟨r, rfl, ho, hb⟩; have hsz : w4.heap.size ≤ (w4.alloc (.cells #[.int .i64 b] 2)).heap.size := (by simp); have HO5 := Aside0.mk (ho.lower (Nat.le_trans HB.out.size (Nat.le_trans HB4.out.size hsz))); have HB5 := Aside0.mk (HB4.out.trans (((Below.alloc (Below.refl _ _) (Nat.le_refl _) _).trans (hb.mono hsz)).mono HB4.out.size)); clear ho hb hsz))
     go_ret2
     exact ⟨_, by rw [HA.out]; rfl, by rw [HA.out]; exact HO5.out, HB.out.trans (HB5.out.mono HB.out.size)⟩
set_option maxRecDepth 100000 in
set_option maxHeartbeats 4000000 in
theorem implCriticalChain (a : Int) (ku : Value) (xs : List Int) (v : Value) (ps : List (Int × Int)) (b : Int) (w : World) (hk : ReadI w ku xs) (hv : ReadP w v ps) :
  Calls Tryz.prog 45 #[cx a ku, v, .int .i64 b] w fun e w' => ∃ r, e = .returned (.tuple #[r, .int .i64 (ansCriticalChain a xs ps b).2]) ∧ OwnI w.heap.size w' r (ansCriticalChain a xs ps b).1 ∧ Below w.heap.size w w' := by
 obtain ⟨w1, hw1⟩ : ∃ w1, w1 = w.alloc (.cells #[.int .i64 a, ku] 26) := ⟨_, rfl⟩
 have hB : Below w.heap.size w w1 := by rw [hw1]; exact Below.alloc (Below.refl _ _) (Nat.le_refl _) _
 have c0 : w1.cell? ⟨w.heap.size, 0, none⟩ = some (.int .i64 a) := by rw [hw1]; simp
 have c1 : w1.cell? ⟨w.heap.size, 1, none⟩ = some ku := by rw [hw1]; simp
 have HB := Aside0.mk hB
 have HM := Aside0.mk (pairingCode a ku xs v ps true w1 (hk.below hB) (hv.below hB))
 rw [Bool.true_and] at HM
 have HKW := Aside0.mk (fun W (h : Below w1.heap.size w1 W) => (hk.below hB).below h)
 have HVW := Aside0.mk (fun W (h : Below w1.heap.size w1 W) => (hv.below hB).below h)
 obtain ⟨A1, d1, rfl, -⟩ := id hk
 obtain ⟨A2, d2, rfl, -⟩ := id hv
 have hmx : Tryz.prog.follows .mixedOrders = true := by kernel_rfl
 clear hk hv hB
 cases hx : cxOk a xs with
 | false =>
  have HA : Aside0 (ansCriticalChain a xs ps b = ([], 1)) := ⟨by unfold ansCriticalChain codeCrit; rw [hx]; rfl⟩
  rw [hx] at HM
  clear hx
  go_enter Tryz.func45, Tryz.ntmps45
  go_wp2_with (first | (go_at_call 176; rw [← hw1]; clear hw1; refine HM.out.mono ?_; rintro e w2 ⟨rfl, hb⟩; have HB2 := Aside0.mk hb; clear hb))
  go_ret2
  exact ⟨_, by rw [HA.out]; rfl, by rw [HA.out]; exact OwnI.nil _ _, HB.out.trans (HB2.out.mono HB.out.size)⟩
 | true =>
  rw [hx] at HM
  obtain ⟨n, rfl, hc, -⟩ := cxOk_cx hx
  cases hp : pOk xs ps with
  | false =>
   have HA : Aside0 (ansCriticalChain n xs ps b = ([], 2)) := ⟨by unfold ansCriticalChain codeCrit; rw [hx, hp]; rfl⟩
   rw [hp] at HM
   clear hx hp hc
   go_enter Tryz.func45, Tryz.ntmps45
   go_wp2_with (first | (go_at_call 176; rw [← hw1]; clear hw1; refine HM.out.mono ?_; rintro e w2 ⟨rfl, hb⟩; have HB2 := Aside0.mk hb; clear hb))
   go_ret2
   exact ⟨_, by rw [HA.out]; rfl, by rw [HA.out]; exact OwnI.nil _ _, HB.out.trans (HB2.out.mono HB.out.size)⟩
  | true =>
   rw [hp] at HM
   have HCR := Aside0.mk (fun W (h : Below w1.heap.size w1 W) => critical n _ xs _ ps W (HKW.out W h) (HVW.out W h) (Nat.le_trans hc.len (by decide)))
   have HLC : Aside0 (True) := ⟨trivial⟩
   obtain ⟨q, hq⟩ : ∃ q, q = critB xs ps b := ⟨_, rfl⟩
   have HQ : Aside0 (q = decide (b ∈ critL xs ps)) := ⟨hq⟩
   have HAC := Aside0.mk (fun W (h : Below w1.heap.size w1 W) => acyclicCode n _ xs _ ps q W (HKW.out W h) (HVW.out W h))
   obtain ⟨z, hz⟩ : ∃ z, z = codeCrit n xs ps b := ⟨_, rfl⟩
   have hzq : (if cxOk n xs then (if q && pOk xs ps then (if acyB ps then 0 else 5) else 2) else 1) = z := by rw [hz, hq]; unfold codeCrit; rw [hx, hp]; cases critB xs ps b <;> rfl
   rw [hzq] at HAC
   by_cases h0 : z = 0
   ·have hqt : critB xs ps b = true := by
     cases hh : critB xs ps b with
     | true => rfl
     | false => exfalso; rw [h0] at hz; unfold codeCrit at hz; rw [hx, hp, hh] at hz; exact absurd hz (by simp)
    have hra : acyB ps = true := by
     cases hh : acyB ps with
     | true => rfl
     | false => exfalso; rw [h0] at hz; unfold codeCrit at hz; rw [hx, hp, hqt, hh] at hz; exact absurd hz (by simp)
    have hm := crit_mem hqt
    have hbd0 : ∀ x ∈ [b], 0 ≤ x ∧ x ≤ 63 := fun x hxb => by have h1 := hc.nat (x := x) (by simp at hxb; rw [hxb]; exact hm); obtain ⟨f, h2, h3, h4⟩ := h1; omega
    have hbd1 : ∀ x ∈ [b], 1 ≤ x ∧ x ≤ 63 := fun x hxb => by have h1 := hc.nat (x := x) (by simp at hxb; rw [hxb]; exact hm); obtain ⟨f, h2, h3, h4⟩ := h1; omega
    have hap := acyP_of hc hp hra
    have HA : Aside0 (ansCriticalChain n xs ps b = (listI (endB ps (bitsI [b])), 0)) := ⟨by unfold ansCriticalChain; rw [← hz, if_pos h0]⟩
    have HF := Aside0.mk (fun W (h : Below w1.heap.size w1 W) => ends (.slice A2 ps.length d2) ps (bitsI [b]) W (HVW.out W h) hap (bitsI_lt hbd0) (bitsI_zero (by simp) hbd1))
    have HCH := Aside0.mk (fun u W (hu : ReadI W u [b]) => chainOf u [b] W hu hbd0)
    clear hx hp hc hq hz hzq hqt hra hm hbd0 hbd1 hap
    subst h0
    go_enter Tryz.func45, Tryz.ntmps45
    go_wp2_with (first | (go_at_call 176; rw [← hw1]; clear hw1; refine HM.out.mono ?_; rintro e w2 ⟨rfl, hb⟩; replace c0 := pw_cell_below hb c0; replace c1 := pw_cell_below hb c1; have HB2 := Aside0.mk hb; clear hb))
    refine wp_region_g Bl (fun w => (Below.refl _ w).drew) (fun _ _ _ => Bl.trans) (fun i => match i with | 0 => fun v _ => v = cx n (.slice A1 xs.length d1) | 1 => fun v _ => v = .slice A2 ps.length d2 | 2 => fun v _ => v = cx n (.slice A1 xs.length d1) | 3 => fun v _ => v = .slice A2 ps.length d2 | 4 => fun v W => OwnI w.heap.size W v (critL xs ps) | 5 => fun v _ => v = .int .i64 b | 6 => fun v _ => v = .bool q | 7 => fun v _ => v = .int .i64 0 | 8 => fun v _ => v = .int .i64 0 | _ => fun _ _ => True)
     [0, 0, 0, 0, 12, 0, 60, 127, 255] hmx (by kernel_rfl) ?st ?steps ?rest
    case st =>
     intro i v w1_ w2_ hb
     match i with
     | 0 | 1 | 2 | 3 | 5 | 6 | 7 | 8 => exact id
     | 4 => exact fun h => OwnI.below h hb
     | n + 9 => exact id
    case steps =>
     refine ⟨?_, ?_, ?_, ?_, ?_, ?_, ?_, ?_, ?_, trivial⟩
     ·intro s w_ hb hd hq R hR
      generalize hA : putAll _ 0 s _ = A
      clear hq
      have c0_ := pw_cell_below hb c0
      have c1_ := pw_cell_below hb c1
      have hR' := hR (cx n (.slice A1 xs.length d1)) _ (Below.refl _ _) rfl
      clear hR hd
      refine opGives_value ?_ hR'
      subst hA
      simp only [dsOf, List.map_cons, List.map_nil, Option.getD_some, putAll, Act.put, List.setIfInBounds_toArray, List.set_cons_zero, List.set_cons_succ]
      go_simp
     ·intro s w_ hb hd hq R hR
      generalize hA : putAll _ 0 s _ = A
      clear hq
      have hR' := hR (.slice A2 ps.length d2) _ (Below.refl _ _) rfl
      clear hR hd
      refine opGives_value ?_ hR'
      subst hA
      simp only [dsOf, List.map_cons, List.map_nil, Option.getD_some, putAll, Act.put, List.setIfInBounds_toArray, List.set_cons_zero, List.set_cons_succ]
      go_simp
     ·intro s w_ hb hd hq R hR
      generalize hA : putAll _ 0 s _ = A
      clear hq
      have c0_ := pw_cell_below hb c0
      have c1_ := pw_cell_below hb c1
      have hR' := hR (cx n (.slice A1 xs.length d1)) _ (Below.refl _ _) rfl
      clear hR hd
      refine opGives_value ?_ hR'
      subst hA
      simp only [dsOf, List.map_cons, List.map_nil, Option.getD_some, putAll, Act.put, List.setIfInBounds_toArray, List.set_cons_zero, List.set_cons_succ]
      go_simp
     ·intro s w_ hb hd hq R hR
      generalize hA : putAll _ 0 s _ = A
      clear hq
      have hR' := hR (.slice A2 ps.length d2) _ (Below.refl _ _) rfl
      clear hR hd
      refine opGives_value ?_ hR'
      subst hA
      simp only [dsOf, List.map_cons, List.map_nil, Option.getD_some, putAll, Act.put, List.setIfInBounds_toArray, List.set_cons_zero, List.set_cons_succ]
      go_simp
     ·intro s w_ hb hd hq R hR
      generalize hA : putAll _ 0 s _ = A
      have e2 : s 2 = _ := hd 2 (by kernel_rfl)
      have e3 : s 3 = _ := hd 3 (by kernel_rfl)
      clear hq
      refine opGives_call (f := 178) (args := #[cx n (.slice A1 xs.length d1), .slice A2 ps.length d2]) ?_ ?_
      ·subst hA
       clear hR hd
       simp only [dsOf, List.map_cons, List.map_nil, Option.getD_some, putAll, Act.put, List.setIfInBounds_toArray, List.set_cons_zero, List.set_cons_succ]
       go_simp
      clear hA A hd
      refine (HCR.out _ (Below.trans HB2.out (Below.mono hb (Below.size HB2.out)))).mono ?_
      rintro e w3_ ⟨u, rfl, ho, hb3⟩
      exact ⟨_, rfl, hR _ _ hb3 (OwnI.lower ho (Nat.le_trans HB.out.size (Nat.le_trans (Below.size HB2.out) (Below.size hb))))⟩
     ·intro s w_ hb hd hq R hR
      generalize hA : putAll _ 0 s _ = A
      clear hq
      have hR' := hR (.int .i64 b) _ (Below.refl _ _) rfl
      clear hR hd
      refine opGives_value ?_ hR'
      subst hA
      simp only [dsOf, List.map_cons, List.map_nil, Option.getD_some, putAll, Act.put, List.setIfInBounds_toArray, List.set_cons_zero, List.set_cons_succ]
      go_simp
     ·intro s w_ hb hd hq R hR
      generalize hA : putAll _ 0 s _ = A
      have o4_ : OwnI w.heap.size w_ (s 4) (critL xs ps) := hd 4 (by kernel_rfl)
      obtain ⟨A4_, d4_, e4, -⟩ := o4_.read
      rw [e4] at o4_
      have e5 : s 5 = _ := hd 5 (by kernel_rfl)
      clear hq
      refine opGives_call (f := 177) (args := #[.slice A4_ (critL xs ps).length d4_, .int .i64 b]) ?_ ?_
      ·subst hA
       clear hR hd
       simp only [dsOf, List.map_cons, List.map_nil, Option.getD_some, putAll, Act.put, List.setIfInBounds_toArray, List.set_cons_zero, List.set_cons_succ]
       go_simp
      clear hA A hd
      refine (sliceContains _ (critL xs ps) b _ o4_.read).mono ?_
      rintro e w3_ ⟨rfl, hb3⟩
      exact ⟨_, rfl, hR _ _ hb3 (by rw [← HQ.out]; exact rfl)⟩
     ·intro s w_ hb hd hq R hR
      generalize hA : putAll _ 0 s _ = A
      have e0 : s 0 = _ := hd 0 (by kernel_rfl)
      have e1 : s 1 = _ := hd 1 (by kernel_rfl)
      have e6 : s 6 = _ := hd 6 (by kernel_rfl)
      clear hq
      refine opGives_call (f := 164) (args := #[cx n (.slice A1 xs.length d1), .slice A2 ps.length d2, .bool q]) ?_ ?_
      ·subst hA
       clear hR hd
       simp only [dsOf, List.map_cons, List.map_nil, Option.getD_some, putAll, Act.put, List.setIfInBounds_toArray, List.set_cons_zero, List.set_cons_succ]
       go_simp
      clear hA A hd
      refine (HAC.out _ (Below.trans HB2.out (Below.mono hb (Below.size HB2.out)))).mono ?_
      rintro e w3_ ⟨rfl, hb3⟩
      exact ⟨_, rfl, hR _ _ hb3 rfl⟩
     ·intro s w_ hb hd hq R hR
      generalize hA : putAll _ 0 s _ = A
      have e7 : s 7 = _ := hd 7 (by kernel_rfl)
      clear hq
      have hR' := hR (.int .i64 0) _ (Below.refl _ _) rfl
      clear hR hd
      refine opGives_value ?_ hR'
      subst hA
      simp only [dsOf, List.map_cons, List.map_nil, Option.getD_some, putAll, Act.put, List.setIfInBounds_toArray, List.set_cons_zero, List.set_cons_succ]
      go_simp
    case rest =>
     intro s9 w9 hb hv
     have e8_ : s9 8 = _ := hv 8 (by decide)
     simp only [dsOf, List.map_cons, List.map_nil, Option.getD_some, putAll, Act.put, List.setIfInBounds_toArray, List.set_cons_zero, List.set_cons_succ]
     rw [e8_]
     clear hv e8_
     have HB3 := Aside0.mk (HB2.out.trans (Below.mono hb (Below.size HB2.out)))
     clear hb
     go_wp2_with (first | (go_at_call 166; refine (HCH.out _ _ (OwnI.single _ b (Nat.le_refl _)).read).mono ?_; rintro e w4 ⟨rfl, hb⟩; have hsz : w9.heap.size ≤ (w9.alloc (.cells #[.int .i64 b] 2)).heap.size := (by simp); have HB4 := Aside0.mk (HB3.out.trans (((Below.alloc (Below.refl _ _) (Nat.le_refl _) _).trans (hb.mono hsz)).mono HB3.out.size)); clear hb hsz) | (go_at_call 170; refine (HF.out _ HB4.out).mono ?_; rintro e w5 ⟨r, rfl, ho, hb⟩; have HO5 := Aside0.mk (ho.lower (Nat.le_trans HB.out.size HB4.out.size)); have HB5 := Aside0.mk (HB4.out.trans (hb.mono HB4.out.size)); clear ho hb))
     go_ret2
     exact ⟨_, by rw [HA.out]; rfl, by rw [HA.out]; exact HO5.out, HB.out.trans (HB5.out.mono HB.out.size)⟩
   ·have HA : Aside0 (ansCriticalChain n xs ps b = ([], z)) := ⟨by unfold ansCriticalChain; rw [← hz, if_neg h0]⟩
    have hqb : (z != 0) = true := by simpa using h0
    clear hx hp hc hq hz hzq h0
    go_enter Tryz.func45, Tryz.ntmps45
    go_wp2_with (first | (go_at_call 176; rw [← hw1]; clear hw1; refine HM.out.mono ?_; rintro e w2 ⟨rfl, hb⟩; replace c0 := pw_cell_below hb c0; replace c1 := pw_cell_below hb c1; have HB2 := Aside0.mk hb; clear hb))
    refine wp_region_g Bl (fun w => (Below.refl _ w).drew) (fun _ _ _ => Bl.trans) (fun i => match i with | 0 => fun v _ => v = cx n (.slice A1 xs.length d1) | 1 => fun v _ => v = .slice A2 ps.length d2 | 2 => fun v _ => v = cx n (.slice A1 xs.length d1) | 3 => fun v _ => v = .slice A2 ps.length d2 | 4 => fun v W => OwnI w.heap.size W v (critL xs ps) | 5 => fun v _ => v = .int .i64 b | 6 => fun v _ => v = .bool q | 7 => fun v _ => v = .int .i64 z | 8 => fun v _ => v = .int .i64 z | _ => fun _ _ => True)
     [0, 0, 0, 0, 12, 0, 60, 127, 255] hmx (by kernel_rfl) ?st ?steps ?rest
    case st =>
     intro i v w1_ w2_ hb
     match i with
     | 0 | 1 | 2 | 3 | 5 | 6 | 7 | 8 => exact id
     | 4 => exact fun h => OwnI.below h hb
     | n + 9 => exact id
    case steps =>
     refine ⟨?_, ?_, ?_, ?_, ?_, ?_, ?_, ?_, ?_, trivial⟩
     ·intro s w_ hb hd hq R hR
      generalize hA : putAll _ 0 s _ = A
      clear hq
      have c0_ := pw_cell_below hb c0
      have c1_ := pw_cell_below hb c1
      have hR' := hR (cx n (.slice A1 xs.length d1)) _ (Below.refl _ _) rfl
      clear hR hd
      refine opGives_value ?_ hR'
      subst hA
      simp only [dsOf, List.map_cons, List.map_nil, Option.getD_some, putAll, Act.put, List.setIfInBounds_toArray, List.set_cons_zero, List.set_cons_succ]
      go_simp
     ·intro s w_ hb hd hq R hR
      generalize hA : putAll _ 0 s _ = A
      clear hq
      have hR' := hR (.slice A2 ps.length d2) _ (Below.refl _ _) rfl
      clear hR hd
      refine opGives_value ?_ hR'
      subst hA
      simp only [dsOf, List.map_cons, List.map_nil, Option.getD_some, putAll, Act.put, List.setIfInBounds_toArray, List.set_cons_zero, List.set_cons_succ]
      go_simp
     ·intro s w_ hb hd hq R hR
      generalize hA : putAll _ 0 s _ = A
      clear hq
      have c0_ := pw_cell_below hb c0
      have c1_ := pw_cell_below hb c1
      have hR' := hR (cx n (.slice A1 xs.length d1)) _ (Below.refl _ _) rfl
      clear hR hd
      refine opGives_value ?_ hR'
      subst hA
      simp only [dsOf, List.map_cons, List.map_nil, Option.getD_some, putAll, Act.put, List.setIfInBounds_toArray, List.set_cons_zero, List.set_cons_succ]
      go_simp
     ·intro s w_ hb hd hq R hR
      generalize hA : putAll _ 0 s _ = A
      clear hq
      have hR' := hR (.slice A2 ps.length d2) _ (Below.refl _ _) rfl
      clear hR hd
      refine opGives_value ?_ hR'
      subst hA
      simp only [dsOf, List.map_cons, List.map_nil, Option.getD_some, putAll, Act.put, List.setIfInBounds_toArray, List.set_cons_zero, List.set_cons_succ]
      go_simp
     ·intro s w_ hb hd hq R hR
      generalize hA : putAll _ 0 s _ = A
      have e2 : s 2 = _ := hd 2 (by kernel_rfl)
      have e3 : s 3 = _ := hd 3 (by kernel_rfl)
      clear hq
      refine opGives_call (f := 178) (args := #[cx n (.slice A1 xs.length d1), .slice A2 ps.length d2]) ?_ ?_
      ·subst hA
       clear hR hd
       simp only [dsOf, List.map_cons, List.map_nil, Option.getD_some, putAll, Act.put, List.setIfInBounds_toArray, List.set_cons_zero, List.set_cons_succ]
       go_simp
      clear hA A hd
      refine (HCR.out _ (Below.trans HB2.out (Below.mono hb (Below.size HB2.out)))).mono ?_
      rintro e w3_ ⟨u, rfl, ho, hb3⟩
      exact ⟨_, rfl, hR _ _ hb3 (OwnI.lower ho (Nat.le_trans HB.out.size (Nat.le_trans (Below.size HB2.out) (Below.size hb))))⟩
     ·intro s w_ hb hd hq R hR
      generalize hA : putAll _ 0 s _ = A
      clear hq
      have hR' := hR (.int .i64 b) _ (Below.refl _ _) rfl
      clear hR hd
      refine opGives_value ?_ hR'
      subst hA
      simp only [dsOf, List.map_cons, List.map_nil, Option.getD_some, putAll, Act.put, List.setIfInBounds_toArray, List.set_cons_zero, List.set_cons_succ]
      go_simp
     ·intro s w_ hb hd hq R hR
      generalize hA : putAll _ 0 s _ = A
      have o4_ : OwnI w.heap.size w_ (s 4) (critL xs ps) := hd 4 (by kernel_rfl)
      obtain ⟨A4_, d4_, e4, -⟩ := o4_.read
      rw [e4] at o4_
      have e5 : s 5 = _ := hd 5 (by kernel_rfl)
      clear hq
      refine opGives_call (f := 177) (args := #[.slice A4_ (critL xs ps).length d4_, .int .i64 b]) ?_ ?_
      ·subst hA
       clear hR hd
       simp only [dsOf, List.map_cons, List.map_nil, Option.getD_some, putAll, Act.put, List.setIfInBounds_toArray, List.set_cons_zero, List.set_cons_succ]
       go_simp
      clear hA A hd
      refine (sliceContains _ (critL xs ps) b _ o4_.read).mono ?_
      rintro e w3_ ⟨rfl, hb3⟩
      exact ⟨_, rfl, hR _ _ hb3 (by rw [← HQ.out]; exact rfl)⟩
     ·intro s w_ hb hd hq R hR
      generalize hA : putAll _ 0 s _ = A
      have e0 : s 0 = _ := hd 0 (by kernel_rfl)
      have e1 : s 1 = _ := hd 1 (by kernel_rfl)
      have e6 : s 6 = _ := hd 6 (by kernel_rfl)
      clear hq
      refine opGives_call (f := 164) (args := #[cx n (.slice A1 xs.length d1), .slice A2 ps.length d2, .bool q]) ?_ ?_
      ·subst hA
       clear hR hd
       simp only [dsOf, List.map_cons, List.map_nil, Option.getD_some, putAll, Act.put, List.setIfInBounds_toArray, List.set_cons_zero, List.set_cons_succ]
       go_simp
      clear hA A hd
      refine (HAC.out _ (Below.trans HB2.out (Below.mono hb (Below.size HB2.out)))).mono ?_
      rintro e w3_ ⟨rfl, hb3⟩
      exact ⟨_, rfl, hR _ _ hb3 rfl⟩
     ·intro s w_ hb hd hq R hR
      generalize hA : putAll _ 0 s _ = A
      have e7 : s 7 = _ := hd 7 (by kernel_rfl)
      clear hq
      have hR' := hR (.int .i64 z) _ (Below.refl _ _) rfl
      clear hR hd
      refine opGives_value ?_ hR'
      subst hA
      simp only [dsOf, List.map_cons, List.map_nil, Option.getD_some, putAll, Act.put, List.setIfInBounds_toArray, List.set_cons_zero, List.set_cons_succ]
      go_simp
    case rest =>
     intro s9 w9 hb hv
     have e8_ : s9 8 = _ := hv 8 (by decide)
     simp only [dsOf, List.map_cons, List.map_nil, Option.getD_some, putAll, Act.put, List.setIfInBounds_toArray, List.set_cons_zero, List.set_cons_succ]
     rw [e8_]
     clear hv e8_
     have HB3 := Aside0.mk (HB2.out.trans (Below.mono hb (Below.size HB2.out)))
     clear hb
     go_wp2
     go_ret2
     exact ⟨_, by rw [HA.out]; rfl, by rw [HA.out]; exact OwnI.nil _ _, HB.out.trans (HB3.out.mono HB.out.size)⟩
/-- what EndOfFlow answers -/
def ansEndOfFlow (a : Int) (xs : List Int) (ps : List (Int × Int)) (l : List Int) : List Int × Int := if codeFlow a xs ps l = 0 then (listI (endB ps (bitsI l)), 0) else ([], codeFlow a xs ps l)
set_option maxRecDepth 100000 in
set_option maxHeartbeats 2000000 in
theorem specEndOfFlow (a : Int) (ku : Value) (xs : List Int) (v : Value) (ps : List (Int × Int)) (u : Value) (l : List Int) (w : World) (hk : ReadI w ku xs) (hv : ReadP w v ps) (hu : ReadI w u l) :
  Calls Tryz.prog 40 #[cx a ku, v, u] w fun e w' => ∃ r, e = .returned (.tuple #[r, .int .i64 (ansEndOfFlow a xs ps l).2]) ∧ OwnI w.heap.size w' r (ansEndOfFlow a xs ps l).1 ∧ Below w.heap.size w w' := by
 obtain ⟨w1, hw1⟩ : ∃ w1, w1 = w.alloc (.cells #[.int .i64 a, ku] 26) := ⟨_, rfl⟩
 have hB : Below w.heap.size w w1 := by rw [hw1]; exact Below.alloc (Below.refl _ _) (Nat.le_refl _) _
 have HB := Aside0.mk hB
 have HM := Aside0.mk (specCode6 a ku xs v ps u l w1 (hk.below hB) (hv.below hB) (hu.below hB))
 have HU := Aside0.mk (fun W (h : Below w1.heap.size w1 W) => (hu.below hB).below h)
 have HV := Aside0.mk (fun W (h : Below w1.heap.size w1 W) => (hv.below hB).below h)
 obtain ⟨A1, d1, rfl, -⟩ := id hk
 obtain ⟨A2, d2, rfl, -⟩ := id hv
 obtain ⟨A3, d3, rfl, -⟩ := id hu
 obtain ⟨q, hq⟩ : ∃ q, q = codeFlow a xs ps l := ⟨_, rfl⟩
 rw [← hq] at HM
 clear hk hv hu hB
 by_cases h0 : q = 0
 ·obtain ⟨n, rfl, hc, -, hp, hl, hac⟩ := flow_dom (hq.symm.trans h0)
  obtain ⟨hasc, hbd⟩ := chain_dom hc hl
  have hap := acyP_of hc hp hac
  have HA : Aside0 (ansEndOfFlow n xs ps l = (listI (endB ps (bitsI l)), 0)) := ⟨by unfold ansEndOfFlow; rw [← hq, if_pos h0]⟩
  have hbd0 : ∀ x ∈ l, 0 ≤ x ∧ x ≤ 63 := fun x hx => by have := hbd x hx; omega
  have HF := Aside0.mk (fun W (h : Below w1.heap.size w1 W) => specEnd (.slice A2 ps.length d2) ps (.slice A3 l.length d3) (bitsI l) W (HV.out W h) (by rw [list_bits hasc hbd0]; exact HU.out W h) hap (bitsI_lt hbd0) (bitsI_zero hasc hbd))
  rw [h0] at HM
  clear hq h0 hc hp hl hac hasc hbd hbd0 hap
  go_enter Tryz.func40, Tryz.ntmps40
  go_wp2_with (first | (go_at_call 168; rw [← hw1]; clear hw1; refine HM.out.mono ?_; rintro e w2 ⟨rfl, hb⟩; have HB2 := Aside0.mk hb; clear hb) | (go_at_call 171; refine (HF.out _ HB2.out).mono ?_; rintro e w3 ⟨r, rfl, ho, hb⟩; have HO3 := Aside0.mk (ho.lower (Nat.le_trans HB.out.size HB2.out.size)); have HB3 := Aside0.mk (HB2.out.trans (hb.mono HB2.out.size)); clear ho hb))
  go_ret2
  exact ⟨_, by rw [HA.out]; rfl, by rw [HA.out]; exact HO3.out, HB.out.trans (HB3.out.mono HB.out.size)⟩
 ·have HA : Aside0 (ansEndOfFlow a xs ps l = ([], q)) := ⟨by unfold ansEndOfFlow; rw [← hq, if_neg h0]⟩
  have hqb : (q != 0) = true := by simpa using h0
  clear h0 hq
  go_enter Tryz.func40, Tryz.ntmps40
  go_wp2_with (first | (go_at_call 168; rw [← hw1]; clear hw1; refine HM.out.mono ?_; rintro e w2 ⟨rfl, hb⟩; have HB2 := Aside0.mk hb; clear hb))
  go_ret2
  exact ⟨_, by rw [HA.out]; rfl, by rw [HA.out]; exact OwnI.nil _ _, HB.out.trans (HB2.out.mono HB.out.size)⟩
set_option maxRecDepth 100000 in
set_option maxHeartbeats 2000000 in
theorem implEndOfFlow (a : Int) (ku : Value) (xs : List Int) (v : Value) (ps : List (Int × Int)) (u : Value) (l : List Int) (w : World) (hk : ReadI w ku xs) (hv : ReadP w v ps) (hu : ReadI w u l) :
  Calls Tryz.prog 39 #[cx a ku, v, u] w fun e w' => ∃ r, e = .returned (.tuple #[r, .int .i64 (ansEndOfFlow a xs ps l).2]) ∧ OwnI w.heap.size w' r (ansEndOfFlow a xs ps l).1 ∧ Below w.heap.size w w' := by
 obtain ⟨wb, hwb⟩ : ∃ wb, wb = w.alloc (.cells #[.int .i64 a, ku] 26) := ⟨_, rfl⟩
 obtain ⟨w1, hw1⟩ : ∃ w1, w1 = wb.alloc (.cells #[u] 24) := ⟨_, rfl⟩
 have hsb : wb.heap.size = w.heap.size + 1 := by rw [hwb]; simp
 have hBb : Below w.heap.size w wb := by rw [hwb]; exact Below.alloc (Below.refl _ _) (Nat.le_refl _) _
 have hB1 : Below wb.heap.size wb w1 := by rw [hw1]; exact Below.alloc (Below.refl _ _) (Nat.le_refl _) _
 have hB : Below w.heap.size w w1 := hBb.trans (hB1.mono hBb.size)
 have c0 : w1.cell? ⟨w.heap.size, 0, none⟩ = some (.int .i64 a) := pw_cell_below hB1 (by rw [hwb]; simp)
 have c1 : w1.cell? ⟨w.heap.size, 1, none⟩ = some ku := pw_cell_below hB1 (by rw [hwb]; simp)
 have HB := Aside0.mk hB
 have HK := Aside0.mk (hk.below hB)
 have HS := Aside0.mk (ReadS.one' (hu.below hBb))
 rw [← hw1, hsb] at HS
 have HU := Aside0.mk (fun W (h : Below w1.heap.size w1 W) => (hu.below hB).below h)
 have HV := Aside0.mk (fun W (h : Below w1.heap.size w1 W) => (hv.below hB).below h)
 have HK2 := Aside0.mk (fun W (h : Below w1.heap.size w1 W) => (hk.below hB).below h)
 obtain ⟨A1, d1, rfl, -⟩ := id hk
 obtain ⟨A2, d2, rfl, -⟩ := id hv
 obtain ⟨A3, d3, rfl, -⟩ := id hu
 subst hwb
 clear hk hv hu hB hBb hB1 hsb
 obtain ⟨q1, hq1⟩ : ∃ q, q = codeChn a xs l := ⟨_, rfl⟩
 have HQ1 := Aside0.mk hq1
 by_cases h1 : q1 = 0
 ·have hca := code_acy (ps := ps) (hq1.symm.trans h1)
  obtain ⟨q, hq⟩ : ∃ q, q = codeFlow a xs ps l := ⟨_, rfl⟩
  have HAC := Aside0.mk (fun W (h : Below w1.heap.size w1 W) => acyclicCode a _ xs _ ps true W (HK2.out W h) (HV.out W h))
  rw [← hca, ← hq] at HAC
  subst h1
  by_cases h0 : q = 0
  ·obtain ⟨n, rfl, hc, -, hp, hl, hac⟩ := flow_dom (hq.symm.trans h0)
   obtain ⟨hasc, hbd⟩ := chain_dom hc hl
   have hap := acyP_of hc hp hac
   have HA : Aside0 (ansEndOfFlow n xs ps l = (listI (endB ps (bitsI l)), 0)) := ⟨by unfold ansEndOfFlow; rw [← hq, if_pos h0]⟩
   have hbd0 : ∀ x ∈ l, 0 ≤ x ∧ x ≤ 63 := fun x hx => by have := hbd x hx; omega
   have HF := Aside0.mk (fun W (h : Below w1.heap.size w1 W) => ends (.slice A2 ps.length d2) ps (bitsI l) W (HV.out W h) hap (bitsI_lt hbd0) (bitsI_zero hasc hbd))
   have HC := Aside0.mk (fun W (h : Below w1.heap.size w1 W) => chainOf (.slice A3 l.length d3) l W (HU.out W h) hbd0)
   rw [h0] at HAC
   clear hq h0 hc hp hl hac hasc hbd hbd0 hap hca hq1
   go_enter Tryz.func39, Tryz.ntmps39
   go_wp2_with (first | (go_at_call 163; rw [← hw1]; clear hw1; refine (chainCode n _ xs _ l _ HK.out HS.out).mono ?_; rintro e w2 ⟨rfl, hb⟩; rw [← HQ1.out]; replace c0 := pw_cell_below hb c0; replace c1 := pw_cell_below hb c1; have HB2 := Aside0.mk hb; clear hb) | (go_at_call 164; refine (HAC.out _ HB2.out).mono ?_; rintro e w3 ⟨rfl, hb⟩; have HB3 := Aside0.mk (HB2.out.trans (hb.mono HB2.out.size)); clear hb) | (go_at_call 166; refine (HC.out _ HB3.out).mono ?_; rintro e w4 ⟨rfl, hb⟩; have HB4 := Aside0.mk (HB3.out.trans (hb.mono HB3.out.size)); clear hb) | (go_at_call 170; refine (HF.out _ HB4.out).mono ?_; rintro e w6 ⟨r, rfl, ho, hb⟩; have HO6 := Aside0.mk (ho.lower (Nat.le_trans HB.out.size HB4.out.size)); have HB6 := Aside0.mk (HB4.out.trans (hb.mono HB4.out.size)); clear ho hb))
   go_ret2
   exact ⟨_, by rw [HA.out]; rfl, by rw [HA.out]; exact HO6.out, HB.out.trans (HB6.out.mono HB.out.size)⟩
  ·have HA : Aside0 (ansEndOfFlow a xs ps l = ([], q)) := ⟨by unfold ansEndOfFlow; rw [← hq, if_neg h0]⟩
   have hqb : (q != 0) = true := by simpa using h0
   clear h0 hq hca hq1
   go_enter Tryz.func39, Tryz.ntmps39
   go_wp2_with (first | (go_at_call 163; rw [← hw1]; clear hw1; refine (chainCode a _ xs _ l _ HK.out HS.out).mono ?_; rintro e w2 ⟨rfl, hb⟩; rw [← HQ1.out]; replace c0 := pw_cell_below hb c0; replace c1 := pw_cell_below hb c1; have HB2 := Aside0.mk hb; clear hb) | (go_at_call 164; refine (HAC.out _ HB2.out).mono ?_; rintro e w3 ⟨rfl, hb⟩; have HB3 := Aside0.mk (HB2.out.trans (hb.mono HB2.out.size)); clear hb))
   go_ret2
   exact ⟨_, by rw [HA.out]; rfl, by rw [HA.out]; exact OwnI.nil _ _, HB.out.trans (HB3.out.mono HB.out.size)⟩
 ·have hcf := code_two (ps := ps) (fun h => h1 (hq1.trans h))
  have HA : Aside0 (ansEndOfFlow a xs ps l = ([], q1)) := ⟨by unfold ansEndOfFlow; rw [hcf, ← hq1, if_neg h1]⟩
  have hqb : (q1 != 0) = true := by simpa using h1
  clear h1 hq1 hcf
  go_enter Tryz.func39, Tryz.ntmps39
  go_wp2_with (first | (go_at_call 163; rw [← hw1]; clear hw1; refine (chainCode a _ xs _ l _ HK.out HS.out).mono ?_; rintro e w2 ⟨rfl, hb⟩; rw [← HQ1.out]; have HB2 := Aside0.mk hb; clear hb))
  go_ret2
  exact ⟨_, by rw [HA.out]; rfl, by rw [HA.out]; exact OwnI.nil _ _, HB.out.trans (HB2.out.mono HB.out.size)⟩
theorem codeFlow_of {a : Int} {xs : List Int} {ps : List (Int × Int)} {l : List Int} (h1 : cxOk a xs = true) (h2 : pOk xs ps = true) (h3 : chOk xs l = true) (h4 : acyB ps = true) : codeFlow a xs ps l = 0 := by
 unfold codeFlow; rw [h1, h2, h3, h4]; rfl
theorem codeChn_of {a : Int} {xs l : List Int} (h1 : cxOk a xs = true) (h3 : chOk xs l = true) : codeChn a xs l = 0 := by
 unfold codeChn; rw [h1, h3]; rfl
theorem endB_lt {ps : List (Int × Int)} (hd : PsDom ps) {m : Nat} (hm : m < 18446744073709551616) : endB ps m < 18446744073709551616 := flowN_lt hd hm 130
theorem bits_listIU {m : Nat} (hm : m < 18446744073709551616) : bitsI (listI m) = m := bits_listI (by rw [e64]; exact hm)
/-- an end does not flow -/
theorem key_end {a : Int} {n : Nat} {xs : List Int} {ps : List (Int × Int)} {d m : Nat} (hx : cxOk a xs = true) (hc : Cx n xs) (hcl : xs.all (belowIn xs) = true) (hp : pOk xs ps = true) (ha : acyB ps = true)
  (hm : m < 18446744073709551616) (hl : Layer xs d m) : ansFlowOf a xs ps (listI (endB ps m)) = (listI (endB ps m), 0) := by
 have hap := acyP_of hc hp ha
 have hl2 : Layer xs d (endB ps m) := end_layer hc hcl hp hap hm hl 130
 unfold ansFlowOf
 rw [if_pos (codeFlow_of hx hp (chOk_of_layer hl2) ha), bits_listIU (endB_lt hap.1 hm), flow_ended hap hm]
theorem crit_out {xs : List Int} {ps : List (Int × Int)} {b : Int} (h : b ∈ critL xs ps) : ∀ p ∈ ps, p.1 ≠ b ∧ p.2 ≠ b := fun p hp => by
 have h1 := (List.mem_filter.1 h).2
 rw [Bool.not_eq_true', List.any_eq_false] at h1
 have h2 := h1 p hp
 unfold inPair at h2
 rw [Bool.not_eq_true, Bool.or_eq_false_iff, beq_eq_false_iff_ne, beq_eq_false_iff_ne] at h2
 exact h2
/-- the chain of a critical face does not flow and has the face -/
theorem key_crit {a : Int} {xs : List Int} {ps : List (Int × Int)} {b : Int} (h : (ansCriticalChain a xs ps b).2 = 0) :
  ansFlowOf a xs ps (ansCriticalChain a xs ps b).1 = ((ansCriticalChain a xs ps b).1, 0) ∧ b ∈ (ansCriticalChain a xs ps b).1 := by
 have h0 : codeCrit a xs ps b = 0 := by
  unfold ansCriticalChain at h
  split at h
  ·assumption
  ·exact h
 have hA : (ansCriticalChain a xs ps b).1 = listI (endB ps (bitsI [b])) := by unfold ansCriticalChain; rw [if_pos h0]
 rw [hA]
 unfold codeCrit at h0
 cases hx : cxOk a xs with
 | false => rw [hx] at h0; simp at h0
 | true =>
  obtain ⟨n, e, hc, hcl⟩ := cxOk_cx hx
  cases hp : pOk xs ps with
  | false => rw [hx, hp] at h0; simp at h0
  | true =>
   cases hq : critB xs ps b with
   | false => rw [hx, hp, hq] at h0; simp at h0
   | true =>
    cases ha : acyB ps with
    | false => rw [hx, hp, hq, ha] at h0; simp at h0
    | true =>
     have hm := crit_mem hq
     obtain ⟨t, hbt, ht1, ht⟩ := hc.nat (x := b) hm
     subst hbt
     have hap := acyP_of hc hp ha
     have hb1 : bitsI [(t : Int)] = 2 ^ t := by
      show 0 ^^^ 2 ^ ((t : Int)).toNat = _
      rw [Nat.zero_xor, Int.toNat_natCast]
     have ht64 : t < 64 := by omega
     have hlt : (2 : Nat) ^ t < 18446744073709551616 := by rw [← e64]; exact Nat.pow_lt_pow_right (by decide) ht64
     have hlay : Layer xs (ones t) (2 ^ t) := fun u hu hut => by
      rw [Nat.testBit_two_pow, decide_eq_true_eq] at hut
      subst hut
      exact ⟨hm, rfl⟩
     have hout := crit_out (of_decide_eq_true hq)
     rw [hb1]
     refine ⟨key_end hx hc hcl hp ha hlt hlay, ?_⟩
     rw [listI_mem]
     exact ⟨t, rfl, ht64, end_keeps hap ht64 (high_not fun p hp => (hout p hp).1) (fun r hr e => (hout _ (high_mem hr)).2 e)⟩
/-- flows, their ends and their boundaries -/
theorem key_flow {a : Int} {xs : List Int} {ps : List (Int × Int)} {l : List Int} (h : (ansFlowOf a xs ps l).2 = 0) :
  (ansEndOfFlow a xs ps l).2 = 0 ∧ ansFlowOf a xs ps (ansEndOfFlow a xs ps l).1 = ((ansEndOfFlow a xs ps l).1, 0) ∧ (ansBoundaryOf a xs l).2 = 0 ∧
  (ansFlowOf a xs ps (ansBoundaryOf a xs l).1).2 = 0 ∧ ansBoundaryOf a xs (ansFlowOf a xs ps l).1 = ((ansFlowOf a xs ps (ansBoundaryOf a xs l).1).1, 0) := by
 have h0 : codeFlow a xs ps l = 0 := by
  unfold ansFlowOf at h
  split at h
  ·assumption
  ·exact h
 obtain ⟨n, e, hc, hx, hp, hl, ha⟩ := flow_dom h0
 obtain ⟨-, -, -, hcl⟩ := cxOk_cx hx
 have hap := acyP_of hc hp ha
 obtain ⟨hasc, hbd⟩ := chain_dom hc hl
 have hbd0 : ∀ x ∈ l, 0 ≤ x ∧ x ≤ 63 := fun x hx => by have := hbd x hx; omega
 obtain ⟨d, hlay⟩ := layer_of_chOk hl hbd0 hasc
 have hm := bitsI_lt hbd0
 have hlb : listI (bitsI l) = l := list_bits hasc hbd0
 have hE : ansEndOfFlow a xs ps l = (listI (endB ps (bitsI l)), 0) := by unfold ansEndOfFlow; rw [if_pos h0]
 have hF : ansFlowOf a xs ps l = (listI (flowB ps (bitsI l)), 0) := by unfold ansFlowOf; rw [if_pos h0]
 have hB : ansBoundaryOf a xs l = (listI (bndB l), 0) := by unfold ansBoundaryOf; rw [if_pos (codeChn_of hx hl), bnd_law hbd0]
 have hbl : Layer xs (d - 1) (bndB l) := by have := bnd_layer hcl hlay; rw [hlb] at this; exact this
 have hbm : bndB l < 18446744073709551616 := bndB_lt hbd0
 have hFB : ansFlowOf a xs ps (listI (bndB l)) = (listI (flowB ps (bndB l)), 0) := by
  unfold ansFlowOf
  rw [if_pos (codeFlow_of hx hp (chOk_of_layer hbl) ha), bits_listIU hbm]
 have hfl := flow_layer hc hcl hp hap hm hlay
 refine ⟨by rw [hE], by rw [hE]; exact key_end hx hc hcl hp ha hm hlay, by rw [hB], by rw [hB]; exact congrArg Prod.snd hFB, ?_⟩
 rw [hB, hF]
 show ansBoundaryOf a xs (listI (flowB ps (bitsI l))) = ((ansFlowOf a xs ps (listI (bndB l))).1, 0)
 rw [hFB]
 unfold ansBoundaryOf
 rw [if_pos (codeChn_of hx (chOk_of_layer hfl)), bnd_law (listI_bd _), flow_bnd hap.1 hm, hlb]
theorem flow_bad {a : Int} {xs : List Int} {ps : List (Int × Int)} {l : List Int} (h : (ansFlowOf a xs ps l).2 ≠ 0) : (ansFlowOf a xs ps l).1 = [] ∧ (ansEndOfFlow a xs ps l).2 = (ansFlowOf a xs ps l).2 := by
 have h0 : codeFlow a xs ps l ≠ 0 := by
  unfold ansFlowOf at h
  split at h
  ·exact absurd rfl h
  ·exact h
 unfold ansFlowOf ansEndOfFlow
 rw [if_neg h0, if_neg h0]
 exact ⟨rfl, rfl⟩
def markU (b : Nat → Bool) (i : Nat) (j : Nat) : Bool := j == i || b j
theorem markU_self (b : Nat → Bool) (i : Nat) : markU b i i = true := by unfold markU; simp
theorem markU_ne (b : Nat → Bool) {i j : Nat} (h : j ≠ i) : markU b i j = b j := by unfold markU; simp [h]
theorem upd_self (s : Nat → Value) (i : Nat) (v : Value) : upd s i v i = v := by simp [upd]
theorem upd_ne (s : Nat → Value) {i j : Nat} (v : Value) (h : j ≠ i) : upd s i v j = s j := by simp [upd, h]
/-- each step -/
def uSteps (qt : Nat → Bool) (V : Nat → Value → Prop) (I : (Nat → Bool) → (Nat → Value) → World → Prop) (P : Program) (l : List Oper) (B : List Nat) (a : Act) : Nat → List Oper → Prop
 | _, [] => True
 | i, o :: r => (∀ s b w1, I b s w1 → b i = false → (∀ j, (decide (j < l.length) && (B.getD i 0).testBit j) = true → b j = true ∧ (qt j = true → V j (s j))) →
   (∀ j, (decide (j < l.length) && (B.getD j 0).testBit i) = true → s j = (a.tmps[(dsOf l)[j]?.getD 0]?).getD undef) →
   ∀ R : Value → World → Prop, (qt i = true → ∀ v, V i v → R v w1) → (qt i = false → ∀ v w', I (markU b i) (upd s i v) w' → R v w') → stepG P l o (putAll (dsOf l) 0 s a) w1 R) ∧ uSteps qt V I P l B a (i + 1) r
theorem uSteps_at {qt : Nat → Bool} {V : Nat → Value → Prop} {I : (Nat → Bool) → (Nat → Value) → World → Prop} {P : Program} {l : List Oper} {B : List Nat} {a : Act} : ∀ (r : List Oper) (k : Nat), uSteps qt V I P l B a k r → ∀ i o, r[i]? = some o →
  ∀ s b w1, I b s w1 → b (k + i) = false → (∀ j, (decide (j < l.length) && (B.getD (k + i) 0).testBit j) = true → b j = true ∧ (qt j = true → V j (s j))) →
   (∀ j, (decide (j < l.length) && (B.getD j 0).testBit (k + i)) = true → s j = (a.tmps[(dsOf l)[j]?.getD 0]?).getD undef) →
   ∀ R : Value → World → Prop, (qt (k + i) = true → ∀ v, V (k + i) v → R v w1) → (qt (k + i) = false → ∀ v w', I (markU b (k + i)) (upd s (k + i) v) w' → R v w') → stepG P l o (putAll (dsOf l) 0 s a) w1 R
 | [], _, _, _, _, h => by cases h
 | x :: r, k, h, 0, o, ho => by cases ho; exact h.1
 | x :: r, k, h, i + 1, o, ho => by
  have := uSteps_at r (k + 1) h.2 i o ho
  rwa [show k + 1 + i = k + (i + 1) by omega] at this
theorem wp_region_u {P : Program} {id : Nat} {Q : Exit → Act → World → Prop} {a : Act} {w : World} {l : List Oper} (qt : Nat → Bool) (V : Nat → Value → Prop) (I : (Nat → Bool) → (Nat → Value) → World → Prop) (B : List Nat) (hm : P.follows .mixedOrders = true) (hok : ggOk l B a.tmps.size = true)
  (h0 : ∀ b s, (∀ i, b i = false) → I b s w.drew)
  (hI : ∀ i b s v w1, qt i = true → I b s w1 → I (markU b i) (upd s i v) w1)
  (hs : uSteps qt V I P l B a 0 l)
  (hend : ∀ s b w1, I b s w1 → (∀ i, i < l.length → b i = true) → (∀ i, i < l.length → qt i = true → V i (s i)) → Q .normal (putAll (dsOf l) 0 s a) w1) : (Code.region id l.toArray true).wp P Q a w := by
 simp only [ggOk, Bool.and_eq_true] at hok
 obtain ⟨⟨⟨⟨h1, h2⟩, h3⟩, h4⟩, h5⟩ := hok
 have hnd : (dsOf l).Nodup := of_decide_eq_true h2
 have hTl : (rtab .any l.toArray).2.length = l.length := by rw [rtab_length]; simp
 have hds : ∀ (i : Nat) (o : Oper), l[i]? = some o → o.dst = some ((dsOf l)[i]?.getD 0) ∧ (dsOf l)[i]? = some (o.dst.getD 0) := by
  intro i o ho
  have e : (dsOf l)[i]? = some (o.dst.getD 0) := by simp [dsOf, ho]
  refine ⟨?_, e⟩
  have := List.all_eq_true.1 h1 o (List.mem_of_getElem? ho)
  rw [e]
  cases hd : o.dst with
  | none => rw [hd] at this; cases this
  | some d => rfl
 have hrange : ∀ j, j < l.length → (List.range l.length).contains j = true := fun j hj => by simpa using hj
 refine wp_region_last_drew (S := fun _ => True) (ds := []) hm trivial (fun _ => ?_)
 refine inv_ (T := rtab .any l.toArray) (B := B) (List.range l.length) (fun b a' w' => ∃ s, a' = putAll (dsOf l) 0 s a ∧ I b s w' ∧ (∀ i, i < l.length → b i = true → qt i = true → V i (s i)) ∧ ∀ i, i < l.length → b i = false → s i = (a.tmps[(dsOf l)[i]?.getD 0]?).getD undef) rfl h4 h5 ?_ ?_ ?_ ?_
 ·rw [hTl, Bool.and_eq_true, beq_iff_eq, beq_iff_eq]
  refine ⟨?_, by simp⟩
  apply List.ext_getElem
  ·simp [lof]
  ·intro i hi1 hi2
   have hi : i < l.length := by simpa [lof] using hi1
   simp [lof, hi]
 ·refine ⟨fun k => (a.tmps[(dsOf l)[k]?.getD 0]?).getD undef, ?_, h0 _ _ (fun _ => rfl), (fun _ _ h => by cases h), fun _ _ _ => rfl⟩
  refine (putAll_self _ _ _ _ (fun j d hj => ?_)).symm
  have hd := List.all_eq_true.1 h3 d (List.mem_of_getElem? hj)
  have hd' : d < a.tmps.size := of_decide_eq_true hd
  simp [hj, hd']
 ·intro i hi b a' w' ⟨s, ha, hIb, hv, hq0⟩ hbi hon hoff
  subst ha
  have hil : i < l.length := List.mem_range.1 hi
  have ho : l[i]? = some l[i] := List.getElem?_eq_getElem hil
  refine ⟨l[i], by simp, fun K hK => ?_⟩
  have hK' := Shut.out hK
  have hup : up b i = markU b i := by
   funext j
   by_cases hji : j = i
   ·subst hji; rw [up_self, markU_self]
   ·rw [up_ne hji, markU_ne b hji]
  have hgo : ∀ v w2, I (markU b i) (upd s i v) w2 → (qt i = true → V i v) → K ((putAll (dsOf l) 0 s a).put l[i].dst v) w2 := by
   intro v w2 hI2 hV2
   refine hK' _ _ ⟨upd s i v, ?_, by rw [hup]; exact hI2, fun j hj hbj hqj => ?_, fun j hj hbj => ?_⟩
   ·rw [(hds i _ ho).1, (hds i _ ho).2, Option.getD_some]
    exact putAll_put _ _ _ _ _ _ _ hnd (Nat.zero_le _) (by rw [Nat.sub_zero]; exact (hds i _ ho).2)
   ·by_cases hji : j = i
    ·subst hji
     rw [upd_self]
     exact hV2 hqj
    ·rw [upd_ne s v hji]
     rw [up_ne hji] at hbj
     exact hv j hj hbj hqj
   ·have hji : j ≠ i := by
     rintro rfl
     rw [up_self] at hbj
     cases hbj
    rw [upd_ne s v hji]
    rw [up_ne hji] at hbj
    exact hq0 j hj hbj
  have hst := uSteps_at l 0 hs i _ ho s b w' hIb (by rw [Nat.zero_add]; exact hbi) (fun j hj => by
   rw [Nat.zero_add] at hj
   have h6 := Bool.and_eq_true _ _ ▸ hj
   have h7 : j < l.length := of_decide_eq_true h6.1
   have h8 : b j = true := hon j (by rw [hrange j h7]; exact h6.2)
   exact ⟨h8, hv j h7 h8⟩) (fun j hj => by
   rw [Nat.zero_add] at hj
   have h6 := Bool.and_eq_true _ _ ▸ hj
   have h7 : j < l.length := of_decide_eq_true h6.1
   exact hq0 j h7 (hoff j (by rw [hrange j h7]; exact h6.2))) (fun v w2 => K ((putAll (dsOf l) 0 s a).put l[i].dst v) w2) (fun hqi v hvi => by
   rw [Nat.zero_add] at hqi hvi
   exact hgo v w' (hI i b s v w' hqi hIb) (fun _ => hvi)) (fun hqi v w2 hI2 => by
   rw [Nat.zero_add] at hqi hI2
   exact hgo v w2 hI2 (fun h => by rw [hqi] at h; cases h))
  unfold stepG at hst
  split
  ·next h7 => rw [if_pos h7] at hst; exact opGives_wp hst
  ·next h7 => rw [if_neg h7] at hst; exact hst
 ·intro b a' w' hall hz
  obtain ⟨s, ha, hIb, hv, -⟩ := hz
  subst ha
  exact hend s b w' hIb (fun i hi => hall i (hrange i hi)) (fun i hi => hv i hi (hall i (hrange i hi)))
end Go.Proofs.YtomofijniefelaaGreat.H
