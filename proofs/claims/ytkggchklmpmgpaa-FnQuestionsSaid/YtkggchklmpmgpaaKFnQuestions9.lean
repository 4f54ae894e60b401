/- Ways and questions needed, of the reference. EvadersOf of the reference. those: the complex of the sets that are as told. A region of open order, some of its operations guarded, whose calls turn memory in a way that is told by a relation. A region of open order, guards allowed: most operations only reckon; the others turn memory, and what is known is told by what has been done. Sources of numbers: l01From, l01Next, l01Pick. -/
import Derived.Test.YtkggchklmpmgpaaKFnQuestions1
import Derived.Test.YtkggchklmpmgpaaKFnQuestions2
import Derived.Test.YtkggchklmpmgpaaKFnQuestions3
import Derived.Test.YtkggchklmpmgpaaKFnQuestions4
import Derived.Test.YtkggchklmpmgpaaKFnQuestions5
import Derived.Test.YtkggchklmpmgpaaKFnQuestions6
import Derived.Test.YtkggchklmpmgpaaKFnQuestions7
import Derived.Test.YtkggchklmpmgpaaKFnQuestions8

namespace Go.Proofs.Ytkggchklmpmgpaa.H
open Go.RowKit Go.Proofs.YtkggchklmpmgpaaW.PrintWords Go.Proofs.YtkggchklmpmgpaaW.PrintLast Go.Proofs.YtkggchklmpmgpaaW.PrintMore
set_option linter.unusedVariables false
set_option linter.unusedSimpArgs false

set_option maxRecDepth 100000 in
set_option maxHeartbeats 4000000 in
theorem specWay (n : Nat) (hn : n ≤ 6) (v : Value) (t : List Int) (h : Nat) (hh : h < 64) (w : World) (hv : ReadI w v t) (ht : treeOk n t = true) :
    Calls Try.prog 82 #[.int .i64 n, v, .int .i64 (h : Nat)] w fun e w' => ∃ u, e = .returned u ∧ OwnI w.heap.size w' u (wayL t h n) ∧ Below w.heap.size w w' := by
  obtain ⟨A2, c2, rfl, hc2, hr⟩ := id hv
  have HR := Aside0.mk hr
  have HT := Aside0.mk ht
  have HTL := Aside0.mk (tree_len ht)
  have HB0 : Aside0 (Below w.heap.size w (w.alloc (.cells #[] 2))) := ⟨Below.alloc (Below.refl _ _) (Nat.le_refl _) _⟩
  have htl : t.length ≤ 63 := by have := tree_len ht; have := (pw6 hn).2; omega
  clear hv hr ht
  go_enter Try.func82, Try.ntmps82
  go_wp2
  go_loopw [7, 8] (fun s7 s8 wr => ∃ iv : Nat, iv ≤ n ∧ s8 = .int .i64 (plc t h iv : Nat) ∧ Aside0 (OwnI w.heap.size wr s7 (wayL t h iv)) ∧ Aside0 (Below w.heap.size w wr)) (fun _ s8 _ => 200 - (intOf s8).toNat)
  case atStart => exact ⟨0, Nat.zero_le _, rfl, ⟨OwnI.empty w (Nat.le_refl _)⟩, HB0⟩
  case round =>
    obtain ⟨iv, hi, rfl, HO, HB⟩ := hrel
    have hlw := wayL_len t h iv
    obtain ⟨A8, d8, e8, -⟩ := HO.out.read
    rw [hlw] at e8
    subst e8
    have hp1 : plc t h iv < 200 := by have h1 := (plc_bd t h iv).2; have h2 : 2 ^ (iv + 1) ≤ 2 ^ 7 := Nat.pow_le_pow_right (by omega) (by omega); have : (2 : Nat) ^ 7 = 128 := rfl; omega
    clear hlw
    by_cases hlt : iv < n
    · have hpl := plc_in hn t h iv hlt
      have hqi := tree_in HT.out (p := plc t h iv) hpl.1 hpl.2.1
      have HYES := Aside0.mk (fun hb => plc_yes (t := t) (h := h) (i := iv) hb)
      have HNOT := Aside0.mk (fun hb => plc_no (t := t) (h := h) (i := iv) hb)
      have HWS := Aside0.mk (wayL_succ t h iv)
      obtain ⟨P, hPP⟩ : ∃ P, P = plc t h iv := ⟨_, rfl⟩
      rw [← hPP] at hpl hqi HYES HNOT HWS hp1 ⊢
      obtain ⟨q, hqq⟩ : ∃ q, q = qN t P := ⟨_, rfl⟩
      rw [← hqq] at hqi HYES HNOT
      obtain ⟨_, _, hq1, hq2⟩ := hqi
      have hP3 : ((P : Int) - 1).toNat = P - 1 := by omega
      have hP1 : (0 : Int) ≤ (P : Int) - 1 := by omega
      have hPt : P - 1 < t.length := by have := HTL.out; omega
      have hP2 : (P : Int) - 1 < (t.length : Int) := by omega
      obtain ⟨ad, y0, rfl, hcell, hY0⟩ := ReadI.get (Kd.C_below HR.out HB.out) hPt
      have hyq : y0 = (q : Int) := by rw [← hq1]; exact hY0.out.symm
      subst hyq
      have hbit := bit_of h q (lt_big hh)
      have hqn : q < n := hq2
      have HPP := Aside0.mk hPP
      have HQ1 := Aside0.mk hq1
      clear hPP hqq hY0 hq1 hq2
      cases hbt : h.testBit q with
      | false =>
        have HN1 := Aside0.mk (HNOT.out hbt)
        rw [hbt, if_neg (by decide)] at hbit
        clear hbt
        go_wp2_with (first | (at_builtin; refine app_own (w0 := w) w.heap.size rfl (.tmp 20) (.tmp 22) rfl _ (wayL t h iv) (q : Int) rfl rfl HO.out HB.out HB.out.size (by rw [wayL_len]; omega) ?_; intro v1 w6 ho hb hg hat; have HO6 := Aside0.mk ho; have HB6 := Aside0.mk hb; clear ho hb hg hat))
        go_roundw
        case rel => exact ⟨iv + 1, by omega, by rw [HN1.out]; go_num, by rw [HWS.out, HQ1.out]; exact HO6, HB6⟩
        case measure => have := HPP.out; simp [intOf]; omega
      | true =>
        have HN1 := Aside0.mk (HYES.out hbt)
        rw [hbt, if_pos rfl] at hbit
        clear hbt
        go_wp2_with (first | (at_builtin; refine app_own (w0 := w) w.heap.size rfl (.tmp 20) (.tmp 22) rfl _ (wayL t h iv) (q : Int) rfl rfl HO.out HB.out HB.out.size (by rw [wayL_len]; omega) ?_; intro v1 w6 ho hb hg hat; have HO6 := Aside0.mk ho; have HB6 := Aside0.mk hb; clear ho hb hg hat))
        go_roundw
        case rel => exact ⟨iv + 1, by omega, by rw [HN1.out]; go_num, by rw [HWS.out, HQ1.out]; exact HO6, HB6⟩
        case measure => have := HPP.out; simp [intOf]; omega
    · have e : iv = n := by omega
      have HE := Aside0.mk e
      clear e
      go_wp2
      go_ret
      exact ⟨_, rfl, by rw [show wayL t h n = wayL t h iv from by rw [HE.out]]; exact HO.out, HB.out⟩

set_option maxRecDepth 100000 in
set_option maxHeartbeats 4000000 in
theorem specNeeded (n : Nat) (hn : n ≤ 6) (ku : Value) (xs : List Int) (v : Value) (t : List Int) (h : Nat) (hh : h < 64) (w : World) (hk : ReadI w ku xs) (hv : ReadI w v t) (ht : treeOk n t = true) :
    Calls Try.prog 84 #[cx n ku, v, .int .i64 (h : Nat)] w fun e w' => e = .returned (.int .i64 (neededV n xs t h : Nat)) ∧ Below w.heap.size w w' := by
  obtain ⟨w1, hw1⟩ : ∃ w1, w1 = w.alloc (.cells #[.int .i64 n, ku] 28) := ⟨_, rfl⟩
  have hB : Below w.heap.size w w1 := by rw [hw1]; exact Below.alloc (Below.refl _ _) (Nat.le_refl _) _
  have c0 : w1.cell? ⟨w.heap.size, 0, none⟩ = some (.int .i64 n) := by rw [hw1]; simp
  have c1 : w1.cell? ⟨w.heap.size, 1, none⟩ = some ku := by rw [hw1]; simp
  have HB := Aside0.mk hB
  have HK := Aside0.mk (hk.below hB)
  have HT := Aside0.mk ht
  have HWY := Aside0.mk (specWay n hn v t h hh w1 (hv.below hB) ht)
  obtain ⟨A1, d1, rfl, -⟩ := id hk
  obtain ⟨A2, d2, rfl, -⟩ := id hv
  have hwl := wayL_len t h n
  have HWL := Aside0.mk hwl
  clear hk hv hB ht hwl
  go_enter Try.func84, Try.ntmps84
  go_wp2_with (first | (go_at_call 82; rw [← hw1]; clear hw1; refine HWY.out.mono ?_; rintro e w2 ⟨u, rfl, ho, hb⟩; obtain ⟨A3, d3, rfl, hd3, hr3⟩ := ho.read; rw [HWL.out]; have HR3 := Aside0.mk hr3; have HB2 := Aside0.mk hb; replace c0 := pw_cell_below hb c0; replace c1 := pw_cell_below hb c1; clear ho hb hr3 hd3))
  have HK2 := Aside0.mk (HK.out.below HB2.out)
  go_loopw [8, 9, 10] (fun s8 s9 s10 wr => ∃ iv : Nat, iv ≤ n ∧ s10 = .int .i64 iv ∧ s8 = .int .i64 (yess t h iv : Nat) ∧ s9 = .int .i64 (noes t h iv : Nat) ∧ Aside0 (∀ j, j < iv → toldAt n xs t h j = false) ∧ Aside0 (Below w2.heap.size w2 wr)) (fun _ _ s10 _ => n - (intOf s10).toNat)
  case atStart => exact ⟨0, Nat.zero_le _, rfl, rfl, rfl, ⟨fun j hj => absurd hj (Nat.not_lt_zero _)⟩, ⟨Below.refl _ _⟩⟩
  case round =>
    obtain ⟨iv, hi, rfl, rfl, rfl, HN, HBr⟩ := hrel
    have c0 := pw_cell_below HBr.out c0
    have c1 := pw_cell_below HBr.out c1
    have HBw := Aside0.mk (HB2.out.trans (HBr.out.mono HB2.out.size))
    by_cases hlt : iv < n
    · have hpp := (way_pl HT.out h iv hi).1.lt hn
      have hpl := plc_in hn t h iv hlt
      have hqi := tree_in HT.out (p := plc t h iv) hpl.1 hpl.2.1
      have HTO := Aside0.mk (fun (W : World) hr => specTold n hn (.slice A1 xs.length d1) xs (yess t h iv) (noes t h iv) hpp.1 hpp.2 W hr)
      have HTA : Aside0 (toldAt n xs t h iv = decide (0 ≤ toldV n xs (yess t h iv) (noes t h iv))) := ⟨rfl⟩
      have HYES := Aside0.mk (fun hb => And.intro (yess_yes (t := t) (h := h) (i := iv) hb) (noes_yes (t := t) (h := h) (i := iv) hb))
      have HNOT := Aside0.mk (fun hb => And.intro (yess_no (t := t) (h := h) (i := iv) hb) (noes_no (t := t) (h := h) (i := iv) hb))
      have hle3 : iv < (wayL t h n).length := by rw [HWL.out]; exact hlt
      have hgw : (wayL t h n).getD iv 0 = qAt t (plc t h iv) := by unfold wayL; simp [List.getD_eq_getElem?_getD, hlt]
      obtain ⟨ad, y0, rfl, hcell, hY0⟩ := ReadI.get (Kd.C_below HR3.out HBr.out) hle3
      obtain ⟨q, hqq⟩ : ∃ q, q = qN t (plc t h iv) := ⟨_, rfl⟩
      rw [← hqq] at hqi HYES HNOT
      obtain ⟨_, _, hq1, hq2⟩ := hqi
      have hyq : y0 = (q : Int) := by rw [← hq1, ← hgw]; exact hY0.out.symm
      subst hyq
      obtain ⟨Y, hYY⟩ : ∃ Y, Y = yess t h iv := ⟨_, rfl⟩
      obtain ⟨Z, hZZ⟩ : ∃ Z, Z = noes t h iv := ⟨_, rfl⟩
      rw [← hYY] at hpp HTO HTA HYES HNOT ⊢
      rw [← hZZ] at hpp HTO HTA HYES HNOT ⊢
      obtain ⟨T, hTT⟩ : ∃ T, T = toldV n xs Y Z := ⟨_, rfl⟩
      rw [← hTT] at HTO HTA
      clear hTT hYY hZZ hqq hgw hY0 hle3 hq1 hpl
      by_cases ht : 0 ≤ T
      · have HF : Aside0 (neededV n xs t h = iv) := ⟨firstTold_hit hlt HN.out (by rw [HTA.out]; exact decide_eq_true ht)⟩
        go_wp2_with (first | (go_at_call 125; refine (HTO.out _ (HK2.out.below HBr.out)).mono ?_; rintro e w3 ⟨rfl, hb⟩; have HB3 := Aside0.mk (HBw.out.trans (hb.mono HBw.out.size)); clear hb))
        go_ret
        exact ⟨by rw [HF.out]; rfl, HB.out.trans (HB3.out.mono HB.out.size)⟩
      · have ht' : T < 0 := by omega
        have HN2 : Aside0 (∀ j, j < iv + 1 → toldAt n xs t h j = false) := ⟨fun j hj => by
          rcases Nat.lt_succ_iff_lt_or_eq.1 hj with h1 | rfl
          · exact HN.out j h1
          · rw [HTA.out]; exact decide_eq_false ht⟩
        have hsh := pow_wrap q (by omega)
        have hV := pow_lt64 (v := q) (by omega)
        have hap := and_pow h q
        have hpb := Nat.two_pow_pos q
        obtain ⟨V, hVV⟩ : ∃ V, V = 2 ^ q := ⟨_, rfl⟩
        rw [← hVV] at hsh hV hap hpb HYES HNOT
        have hand := and_i64 h V (lt_big hh) (lt_big hV)
        have ho1 := or_i64 Y V (lt_big hpp.1) (lt_big hV)
        have ho2 := or_i64 Z V (lt_big hpp.2) (lt_big hV)
        have hne := ne_zero_nat hpb
        clear hVV ht
        cases hbt : h.testBit q with
        | true =>
          obtain ⟨hy1, hz1⟩ := HYES.out hbt
          rw [hbt, if_pos rfl] at hap
          rw [hap] at hand
          have hbne : ((V : Int) != 0) = true := by rw [bne, hne]; rfl
          have HY1 := Aside0.mk hy1
          have HZ1 := Aside0.mk hz1
          clear hbt hap hy1 hz1
          go_wp2_with (first | (go_at_call 125; refine (HTO.out _ (HK2.out.below HBr.out)).mono ?_; rintro e w3 ⟨rfl, hb⟩; have HB3 := Aside0.mk (HBr.out.trans (hb.mono HBr.out.size)); replace c0 := pw_cell_below hb c0; replace c1 := pw_cell_below hb c1; replace hcell := pw_cell_below hb hcell; clear hb))
          go_roundw
          case rel => exact ⟨iv + 1, by omega, by go_num, by rw [HY1.out], by rw [HZ1.out], HN2, HB3⟩
          case measure => simp [intOf]; omega
        | false =>
          obtain ⟨hy1, hz1⟩ := HNOT.out hbt
          rw [hbt, if_neg (by decide)] at hap
          rw [hap] at hand
          have HY1 := Aside0.mk hy1
          have HZ1 := Aside0.mk hz1
          clear hbt hap hy1 hz1
          go_wp2_with (first | (go_at_call 125; refine (HTO.out _ (HK2.out.below HBr.out)).mono ?_; rintro e w3 ⟨rfl, hb⟩; have HB3 := Aside0.mk (HBr.out.trans (hb.mono HBr.out.size)); replace c0 := pw_cell_below hb c0; replace c1 := pw_cell_below hb c1; replace hcell := pw_cell_below hb hcell; clear hb))
          go_roundw
          case rel => exact ⟨iv + 1, by omega, by go_num, by rw [HY1.out], by rw [HZ1.out], HN2, HB3⟩
          case measure => simp [intOf]; omega
    · have e : iv = n := by omega
      have HF : Aside0 (neededV n xs t h = n) := ⟨firstTold_none (fun j hj => HN.out j (by omega))⟩
      clear e
      go_wp2
      go_ret
      exact ⟨by rw [HF.out]; rfl, HB.out.trans (HBw.out.mono HB.out.size)⟩

set_option maxRecDepth 100000 in
set_option maxHeartbeats 1000000 in
theorem specTreeCode (a : Int) (ku : Value) (xs : List Int) (v : Value) (t : List Int) (w : World) (hk : ReadI w ku xs) (hv : ReadI w v t) :
    Calls Try.prog 80 #[cx a ku, v] w fun e w' => e = .returned (.int .i64 (if cxOk a xs then (if treeOk a.toNat t then 0 else 2) else 1)) ∧ Below w.heap.size w w' := by
  obtain ⟨cd, hcd⟩ : ∃ cd : Int, cd = (if cxOk a xs then (if treeOk a.toNat t then 0 else 2) else 1) := ⟨_, rfl⟩
  rw [← hcd]
  obtain ⟨w1, hw1⟩ : ∃ w1, w1 = w.alloc (.cells #[.int .i64 a, ku] 28) := ⟨_, rfl⟩
  have hB : Below w.heap.size w w1 := by rw [hw1]; exact Below.alloc (Below.refl _ _) (Nat.le_refl _) _
  have c0 : w1.cell? ⟨w.heap.size, 0, none⟩ = some (.int .i64 a) := by rw [hw1]; simp
  have c1 : w1.cell? ⟨w.heap.size, 1, none⟩ = some ku := by rw [hw1]; simp
  have HB := Aside0.mk hB
  have HV := Aside0.mk (hv.below hB)
  have HM := Aside0.mk (specIs a ku xs w1 (hk.below hB))
  obtain ⟨A1, d1, rfl, -⟩ := id hk
  obtain ⟨A2, d2, rfl, -⟩ := id hv
  clear hk hv hB
  cases hx : cxOk a xs with
  | false =>
    rw [hx] at HM hcd
    have HCD : Aside0 (cd = 1) := ⟨hcd⟩
    clear hx hcd
    go_enter Try.func80, Try.ntmps80
    go_wp2_with (first | (go_at_call 38; rw [← hw1]; clear hw1; refine HM.out.mono ?_; rintro e w2 ⟨rfl, hb⟩; have HB2 := Aside0.mk hb; clear hb))
    go_ret
    exact ⟨by rw [HCD.out]; rfl, HB.out.trans (HB2.out.mono HB.out.size)⟩
  | true =>
    obtain ⟨n, rfl, hc⟩ := cxOk_nat hx
    rw [hx] at HM hcd
    have HTR := Aside0.mk (fun W hr => specTree (.slice A2 t.length d2) t n ⟨hc.lo, hc.hi⟩ W hr)
    have hcd2 : cd = if treeOk n t then 0 else 2 := hcd
    clear hx hc hcd
    cases hto : treeOk n t with
    | true =>
      rw [hto] at HTR hcd2
      have HCD : Aside0 (cd = 0) := ⟨hcd2⟩
      clear hto hcd2
      go_enter Try.func80, Try.ntmps80
      go_wp2_with (first | (go_at_call 38; rw [← hw1]; clear hw1; refine HM.out.mono ?_; rintro e w2 ⟨rfl, hb⟩; have HB2 := Aside0.mk hb; replace c0 := pw_cell_below hb c0; clear hb) | (go_at_call 132; refine (HTR.out _ (HV.out.below HB2.out)).mono ?_; rintro e w3 ⟨rfl, hb⟩; have HB3 := Aside0.mk (HB2.out.trans (hb.mono HB2.out.size)); clear hb))
      go_ret
      exact ⟨by rw [HCD.out]; rfl, HB.out.trans (HB3.out.mono HB.out.size)⟩
    | false =>
      rw [hto] at HTR hcd2
      have HCD : Aside0 (cd = 2) := ⟨hcd2⟩
      clear hto hcd2
      go_enter Try.func80, Try.ntmps80
      go_wp2_with (first | (go_at_call 38; rw [← hw1]; clear hw1; refine HM.out.mono ?_; rintro e w2 ⟨rfl, hb⟩; have HB2 := Aside0.mk hb; replace c0 := pw_cell_below hb c0; clear hb) | (go_at_call 132; refine (HTR.out _ (HV.out.below HB2.out)).mono ?_; rintro e w3 ⟨rfl, hb⟩; have HB3 := Aside0.mk (HB2.out.trans (hb.mono HB2.out.size)); clear hb))
      go_ret
      exact ⟨by rw [HCD.out]; rfl, HB.out.trans (HB3.out.mono HB.out.size)⟩
end Go.Proofs.Ytkggchklmpmgpaa.H

namespace Go.Proofs.Ytkggchklmpmgpaa.H
open Go.RowKit Go.Proofs.YtkggchklmpmgpaaW.PrintWords Go.Proofs.YtkggchklmpmgpaaW.PrintLast Go.Proofs.YtkggchklmpmgpaaW.PrintMore
set_option linter.unusedVariables false
set_option linter.unusedSimpArgs false

set_option maxRecDepth 100000 in
set_option maxHeartbeats 4000000 in
theorem specEvadersOf (a : Int) (ku : Value) (xs : List Int) (v : Value) (t : List Int) (w : World) (hk : ReadI w ku xs) (hv : ReadI w v t) :
    Calls Try.prog 34 #[cx a ku, v] w fun e w' => ∃ u, e = .returned (.tuple #[u, .int .i64 (ansEvadersOf a xs t).2]) ∧ OwnI w.heap.size w' u (ansEvadersOf a xs t).1 ∧ Below w.heap.size w w' := by
  obtain ⟨w1, hw1⟩ : ∃ w1, w1 = w.alloc (.cells #[.int .i64 a, ku] 28) := ⟨_, rfl⟩
  have hB : Below w.heap.size w w1 := by rw [hw1]; exact Below.alloc (Below.refl _ _) (Nat.le_refl _) _
  have c0 : w1.cell? ⟨w.heap.size, 0, none⟩ = some (.int .i64 a) := by rw [hw1]; simp
  have c1 : w1.cell? ⟨w.heap.size, 1, none⟩ = some ku := by rw [hw1]; simp
  have HB := Aside0.mk hB
  have HK := Aside0.mk (hk.below hB)
  have HV := Aside0.mk (hv.below hB)
  have HM := Aside0.mk (specTreeCode a ku xs v t w1 HK.out HV.out)
  obtain ⟨A1, d1, rfl, -⟩ := id hk
  obtain ⟨A2, d2, rfl, -⟩ := id hv
  clear hk hv hB
  have hmx : Try.prog.follows .mixedOrders = true := by kernel_rfl
  cases hx : cxOk a xs with
  | false =>
    have HA : Aside0 (ansEvadersOf a xs t = ([], 1)) := ⟨by unfold ansEvadersOf; rw [hx]; rfl⟩
    rw [hx] at HM
    clear hx
    go_enter Try.func34, Try.ntmps34
    go_wp2_with (first | (go_at_call 80; rw [← hw1]; clear hw1; refine HM.out.mono ?_; rintro e w2 ⟨rfl, hb⟩; have HB2 := Aside0.mk hb; clear hb))
    go_ret2
    exact ⟨_, by rw [HA.out]; rfl, by rw [HA.out]; exact OwnI.nil _ _, HB.out.trans (HB2.out.mono HB.out.size)⟩
  | true =>
    obtain ⟨n, rfl, hc⟩ := cxOk_nat hx
    rw [hx] at HM
    cases hto : treeOk n t with
    | false =>
      have HA : Aside0 (ansEvadersOf n xs t = ([], 2)) := ⟨by unfold ansEvadersOf; rw [hx]; show (if treeOk n t = true then _ else _) = _; rw [hto]; rfl⟩
      rw [show treeOk (n : Int).toNat t = false from hto] at HM
      clear hx hto hc
      go_enter Try.func34, Try.ntmps34
      go_wp2_with (first | (go_at_call 80; rw [← hw1]; clear hw1; refine HM.out.mono ?_; rintro e w2 ⟨rfl, hb⟩; have HB2 := Aside0.mk hb; clear hb))
      go_ret2
      exact ⟨_, by rw [HA.out]; rfl, by rw [HA.out]; exact OwnI.nil _ _, HB.out.trans (HB2.out.mono HB.out.size)⟩
    | true =>
      have HA : Aside0 (ansEvadersOf n xs t = (evTo n xs t (2 ^ n), 0)) := ⟨by unfold ansEvadersOf; rw [hx]; show (if treeOk n t = true then _ else _) = _; rw [hto]; rfl⟩
      rw [show treeOk (n : Int).toNat t = true from hto] at HM
      have HC := Aside0.mk hc
      have HTO := Aside0.mk hto
      have hb64 := pw6 hc.hi
      have hn := hc.hi
      have hsh := pow_wrap n (by omega)
      obtain ⟨N, hN⟩ : ∃ N : Nat, N = 2 ^ n := ⟨_, rfl⟩
      rw [← hN] at HA hb64 hsh
      clear hx hto hc hN
      go_enter Try.func34, Try.ntmps34
      go_wp2_with (first | (go_at_call 80; rw [← hw1]; clear hw1; refine HM.out.mono ?_; rintro e w2 ⟨rfl, hb⟩; have HB2 := Aside0.mk hb; replace c0 := pw_cell_below hb c0; replace c1 := pw_cell_below hb c1; clear hb))
      go_loopw [7, 8] (fun s7 s8 wr => ∃ iv : Nat, s8 = .int .i64 iv ∧ iv ≤ N ∧ Aside0 (OwnI w2.heap.size wr s7 (evTo n xs t iv)) ∧ Aside0 (Below w2.heap.size w2 wr)) (fun _ s8 _ => N - (intOf s8).toNat)
      case atStart => exact ⟨0, rfl, Nat.zero_le _, ⟨OwnI.empty w2 (Nat.le_refl _)⟩, ⟨Below.alloc (Below.refl _ _) (Nat.le_refl _) _⟩⟩
      case round =>
        obtain ⟨iv, rfl, hi, HO, HBr⟩ := hrel
        have c0 := pw_cell_below HBr.out c0
        have c1 := pw_cell_below HBr.out c1
        have HBw := Aside0.mk (HB2.out.trans (HBr.out.mono HB2.out.size))
        obtain ⟨A8, d8, rfl, -⟩ := id HO.out.read
        by_cases hlt : iv < N
        · have HND := Aside0.mk (fun (W : World) hk hv => specNeeded n hn (.slice A1 xs.length d1) xs (.slice A2 t.length d2) t iv (by omega) W hk hv HTO.out)
          have HH := Aside0.mk (fun h => evTo_hit (n := n) (xs := xs) (t := t) (k := iv) h)
          have HM2 := Aside0.mk (fun h => evTo_miss (n := n) (xs := xs) (t := t) (k := iv) h)
          have hnl : neededV n xs t iv ≤ n := firstTold_le _ _ _ _ _
          obtain ⟨nd, hnd⟩ : ∃ nd, nd = neededV n xs t iv := ⟨_, rfl⟩
          rw [← hnd] at HND HH HM2 hnl
          clear hnd
          go_wp2
          refine wp_region_g Bl (fun w => (Below.refl _ w).drew) (fun _ _ _ => Bl.trans) (fun i => match i with | 0 => fun v _ => v = .agg #[.int .i64 (n : Int), .slice A1 xs.length d1] | 1 => fun v _ => v = .slice A2 t.length d2 | 2 => fun v _ => v = .int .i64 (iv : Int) | 3 => fun v _ => v = .int .i64 ((nd : Nat) : Int) | 4 => fun v _ => v = .pointer (some ⟨w.heap.size, 0, none⟩) | 5 => fun v _ => v = .int .i64 (n : Int) | 6 => fun v _ => v = .bool ((nd : Int) == (n : Int)) | _ => fun _ _ => True)
            [0, 0, 0, 7, 0, 16, 63] hmx (by kernel_rfl) ?st ?steps ?rest
          case st =>
            intro i v w1_ w2_ hb
            match i with
            | 0 | 1 | 2 | 3 | 4 | 5 | 6 => exact id
            | n + 7 => exact id
          case steps =>
            refine ⟨?_, ?_, ?_, ?_, ?_, ?_, ?_, trivial⟩
            · intro s w_ hb hd hq R hR
              generalize hA : putAll _ 0 s _ = A
              clear hq
              have c0 := pw_cell_below hb c0
              have c1 := pw_cell_below hb c1
              have hR' := hR (.agg #[.int .i64 (n : Int), .slice A1 xs.length d1]) _ (Below.refl _ _) rfl
              clear hR hd
              refine opGives_value ?_ hR'
              subst hA
              simp only [dsOf, List.map_cons, List.map_nil, Option.getD_some, putAll, Act.put, List.setIfInBounds_toArray, List.set_cons_zero, List.set_cons_succ]
              go_simp
            · intro s w_ hb hd hq R hR
              generalize hA : putAll _ 0 s _ = A
              clear hq
              have hR' := hR (.slice A2 t.length d2) _ (Below.refl _ _) rfl
              clear hR hd
              refine opGives_value ?_ hR'
              subst hA
              simp only [dsOf, List.map_cons, List.map_nil, Option.getD_some, putAll, Act.put, List.setIfInBounds_toArray, List.set_cons_zero, List.set_cons_succ]
              go_simp
            · intro s w_ hb hd hq R hR
              generalize hA : putAll _ 0 s _ = A
              clear hq
              have hR' := hR (.int .i64 (iv : Int)) _ (Below.refl _ _) rfl
              clear hR hd
              refine opGives_value ?_ hR'
              subst hA
              simp only [dsOf, List.map_cons, List.map_nil, Option.getD_some, putAll, Act.put, List.setIfInBounds_toArray, List.set_cons_zero, List.set_cons_succ]
              go_simp
            · intro s w_ hb hd hq R hR
              generalize hA : putAll _ 0 s _ = A
              have e0 : s 0 = _ := hd 0 (by kernel_rfl)
              have e1 : s 1 = _ := hd 1 (by kernel_rfl)
              have e2 : s 2 = _ := hd 2 (by kernel_rfl)
              clear hq
              refine opGives_call (f := 84) (args := #[.agg #[.int .i64 (n : Int), .slice A1 xs.length d1], .slice A2 t.length d2, .int .i64 (iv : Int)]) ?_ ?_
              · subst hA
                clear hR hd
                simp only [dsOf, List.map_cons, List.map_nil, Option.getD_some, putAll, Act.put, List.setIfInBounds_toArray, List.set_cons_zero, List.set_cons_succ]
                go_simp
              clear hA A hd
              have hbw : Below w1.heap.size w1 w_ := HBw.out.trans (Below.mono hb HBw.out.size)
              refine (HND.out w_ (HK.out.below hbw) (HV.out.below hbw)).mono ?_
              rintro e w3_ ⟨rfl, hb3⟩
              exact ⟨_, rfl, hR _ _ hb3 rfl⟩
            · intro s w_ hb hd hq R hR
              generalize hA : putAll _ 0 s _ = A
              clear hq
              have hR' := hR (.pointer (some ⟨w.heap.size, 0, none⟩)) _ (Below.refl _ _) rfl
              clear hR hd
              refine opGives_value ?_ hR'
              subst hA
              simp only [dsOf, List.map_cons, List.map_nil, Option.getD_some, putAll, Act.put, List.setIfInBounds_toArray, List.set_cons_zero, List.set_cons_succ]
              go_simp
            · intro s w_ hb hd hq R hR
              generalize hA : putAll _ 0 s _ = A
              have e4 : s 4 = _ := hd 4 (by kernel_rfl)
              clear hq
              have c0 := pw_cell_below hb c0
              have hR' := hR (.int .i64 (n : Int)) _ (Below.refl _ _) rfl
              clear hR hd
              refine opGives_value ?_ hR'
              subst hA
              simp only [dsOf, List.map_cons, List.map_nil, Option.getD_some, putAll, Act.put, List.setIfInBounds_toArray, List.set_cons_zero, List.set_cons_succ]
              go_simp
            · intro s w_ hb hd hq R hR
              generalize hA : putAll _ 0 s _ = A
              have e3 : s 3 = _ := hd 3 (by kernel_rfl)
              have e5 : s 5 = _ := hd 5 (by kernel_rfl)
              clear hq
              have hR' := hR (.bool ((nd : Int) == (n : Int))) _ (Below.refl _ _) rfl
              clear hR hd
              refine opGives_value ?_ hR'
              subst hA
              simp only [dsOf, List.map_cons, List.map_nil, Option.getD_some, putAll, Act.put, List.setIfInBounds_toArray, List.set_cons_zero, List.set_cons_succ]
              go_simp
          case rest =>
            intro s9 w9 hb hv
            have e6_ : s9 6 = _ := hv 6 (by decide)
            simp only [dsOf, List.map_cons, List.map_nil, Option.getD_some, putAll, Act.put, List.setIfInBounds_toArray, List.set_cons_zero, List.set_cons_succ]
            rw [e6_]
            clear hv e6_
            have HO5 := Aside0.mk (HO.out.below hb)
            have HB5 := Aside0.mk (HBr.out.trans (hb.mono HBr.out.size))
            clear hb
            by_cases hq : nd = n
            · have HK2 := Aside0.mk (HH.out hq)
              have hqb : ((nd : Int) == (n : Int)) = true := by rw [hq]; exact beq_self_eq_true _
              clear hq
              go_wp2_with (first | (at_builtin; refine app_own (w0 := w2) w2.heap.size rfl (.tmp 31) (.tmp 33) rfl _ (evTo n xs t iv) (iv : Int) rfl rfl HO5.out HB5.out HB5.out.size (by have := evTo_len n xs t iv; omega) ?_; intro v1 w6 ho hb hg hat; have HO6 := Aside0.mk ho; have HB6 := Aside0.mk hb; clear ho hb hg hat))
              go_roundw
              case rel => exact ⟨iv + 1, by go_num, by omega, by rw [HK2.out]; exact HO6, HB6⟩
              case measure => simp [intOf]; omega
            · have HK2 := Aside0.mk (HM2.out hq)
              have hqb : ((nd : Int) == (n : Int)) = false := by rw [beq_eq_false_iff_ne]; omega
              clear hq
              go_wp2
              go_roundw
              case rel => exact ⟨iv + 1, by go_num, by omega, by rw [HK2.out]; exact HO5, HB5⟩
              case measure => simp [intOf]; omega
        · have e : iv = N := by omega
          have HE := Aside0.mk e
          have HZ := Aside0.mk HB2.out.size
          clear e
          go_wp2
          go_ret2
          refine ⟨_, by rw [HA.out]; rfl, ?_, HB.out.trans (HBw.out.mono HB.out.size)⟩
          rw [HA.out]
          show OwnI _ _ _ (evTo n xs t N)
          rw [← HE.out]
          exact HO.out.lower (by have := HB.out.size; have := HZ.out; omega)
end Go.Proofs.Ytkggchklmpmgpaa.H

namespace Go.Proofs.Ytkggchklmpmgpaa.H
open Go.RowKit Go.Proofs.YtkggchklmpmgpaaW.PrintWords Go.Proofs.YtkggchklmpmgpaaW.PrintLast Go.Proofs.YtkggchklmpmgpaaW.PrintMore
set_option linter.unusedVariables false
set_option linter.unusedSimpArgs false

/-- those of 1 .. k - 1 that are as told -/
def thL (p : Int → Bool) (k : Nat) : List Int := (List.range k).filterMap fun (f : Nat) => if decide (1 ≤ f) && p (f : Int) then some (f : Int) else none
theorem thL_hit {p : Int → Bool} {k : Nat} (h1 : 1 ≤ k) (h : p k = true) : thL p (k + 1) = thL p k ++ [(k : Int)] := by
  unfold thL
  rw [List.range_succ, List.filterMap_append]
  simp [h, h1]
theorem thL_miss {p : Int → Bool} {k : Nat} (h : p k = false) : thL p (k + 1) = thL p k := by
  unfold thL
  rw [List.range_succ, List.filterMap_append]
  simp [h]
theorem thL_len (p : Int → Bool) (k : Nat) : (thL p k).length ≤ k := by
  unfold thL
  exact Nat.le_trans (List.length_filterMap_le _ _) (by simp)
theorem thL_one (p : Int → Bool) : thL p 1 = [] := by simp [thL]
theorem set_grown' (w : World) (b i : Nat) (v : Value) : w.grownBy (w.setCell ⟨b, i, none⟩ v) (some b) :=
  ⟨rfl, rfl, rfl, by simp, fun k _ hne => Below.heap_setCell w ⟨b, i, none⟩ v k (fun e => hne (by rw [e]))⟩

end Go.Proofs.Ytkggchklmpmgpaa.H

namespace Go.Proofs.Ytkggchklmpmgpaa.H
open Go.RowKit Go.Proofs.YtkggchklmpmgpaaW.PrintWords Go.Proofs.YtkggchklmpmgpaaW.PrintLast Go.Proofs.YtkggchklmpmgpaaW.PrintMore
set_option linter.unusedVariables false
set_option linter.unusedSimpArgs false

/-- an operation that may be struck by its guard -/
def stepG (P : Program) (l : List Oper) (o : Oper) (A : Act) (w : World) (R : Value → World → Prop) : Prop :=
  if Region.wanted o (yielded l.toArray A.tmps) = true then opGives P o A.eval w R else R undef w
theorem stepG_on {P : Program} {l : List Oper} {o : Oper} {A : Act} {w : World} {R : Value → World → Prop} (h : Region.wanted o (yielded l.toArray A.tmps) = true) (hR : opGives P o A.eval w R) : stepG P l o A w R := by
  unfold stepG; rw [if_pos h]; exact hR
def ggOk (l : List Oper) (B : List Nat) (n : Nat) : Bool :=
  l.all (fun o => o.dst.isSome) && decide (dsOf l).Nodup && (dsOf l).all (fun d => decide (d < n)) && waitsOk (rtab .any l.toArray).2 B && baseOk (rtab .any l.toArray).2 (List.range l.length)
end Go.Proofs.Ytkggchklmpmgpaa.H

namespace Go.Proofs.Ytkggchklmpmgpaa.H
open Go.RowKit Go.Proofs.YtkggchklmpmgpaaW.PrintWords Go.Proofs.YtkggchklmpmgpaaW.PrintLast Go.Proofs.YtkggchklmpmgpaaW.PrintMore
set_option linter.unusedVariables false
set_option linter.unusedSimpArgs false

def markU (b : Nat → Bool) (i : Nat) (j : Nat) : Bool := j == i || b j
theorem markU_self (b : Nat → Bool) (i : Nat) : markU b i i = true := by unfold markU; simp
theorem markU_ne (b : Nat → Bool) {i j : Nat} (h : j ≠ i) : markU b i j = b j := by unfold markU; simp [h]
theorem upd_self (s : Nat → Value) (i : Nat) (v : Value) : upd s i v i = v := by simp [upd]
theorem upd_ne (s : Nat → Value) {i j : Nat} (v : Value) (h : j ≠ i) : upd s i v j = s j := by simp [upd, h]
/-- each step -/
def uSteps (qt : Nat → Bool) (V : Nat → Value → Prop) (I : (Nat → Bool) → (Nat → Value) → World → Prop) (P : Program) (l : List Oper) (B : List Nat) (a : Act) : Nat → List Oper → Prop
  | _, [] => True
  | i, o :: r => (∀ s b w1, I b s w1 → b i = false → (∀ j, (decide (j < l.length) && (B.getD i 0).testBit j) = true → b j = true ∧ (qt j = true → V j (s j))) →
      (∀ j, (decide (j < l.length) && (B.getD j 0).testBit i) = true → s j = (a.tmps[(dsOf l)[j]?.getD 0]?).getD undef) →
      ∀ R : Value → World → Prop, (qt i = true → ∀ v, V i v → R v w1) → (qt i = false → ∀ v w', I (markU b i) (upd s i v) w' → R v w') → stepG P l o (putAll (dsOf l) 0 s a) w1 R) ∧ uSteps qt V I P l B a (i + 1) r
theorem uSteps_at {qt : Nat → Bool} {V : Nat → Value → Prop} {I : (Nat → Bool) → (Nat → Value) → World → Prop} {P : Program} {l : List Oper} {B : List Nat} {a : Act} : ∀ (r : List Oper) (k : Nat), uSteps qt V I P l B a k r → ∀ i o, r[i]? = some o →
    ∀ s b w1, I b s w1 → b (k + i) = false → (∀ j, (decide (j < l.length) && (B.getD (k + i) 0).testBit j) = true → b j = true ∧ (qt j = true → V j (s j))) →
      (∀ j, (decide (j < l.length) && (B.getD j 0).testBit (k + i)) = true → s j = (a.tmps[(dsOf l)[j]?.getD 0]?).getD undef) →
      ∀ R : Value → World → Prop, (qt (k + i) = true → ∀ v, V (k + i) v → R v w1) → (qt (k + i) = false → ∀ v w', I (markU b (k + i)) (upd s (k + i) v) w' → R v w') → stepG P l o (putAll (dsOf l) 0 s a) w1 R
  | [], _, _, _, _, h => by cases h
  | x :: r, k, h, 0, o, ho => by cases ho; exact h.1
  | x :: r, k, h, i + 1, o, ho => by
    have := uSteps_at r (k + 1) h.2 i o ho
    rwa [show k + 1 + i = k + (i + 1) by omega] at this

theorem wp_region_u {P : Program} {id : Nat} {Q : Exit → Act → World → Prop} {a : Act} {w : World} {l : List Oper} (qt : Nat → Bool) (V : Nat → Value → Prop) (I : (Nat → Bool) → (Nat → Value) → World → Prop) (B : List Nat) (hm : P.follows .mixedOrders = true) (hok : ggOk l B a.tmps.size = true)
    (h0 : ∀ b s, (∀ i, b i = false) → I b s w.drew)
    (hI : ∀ i b s v w1, qt i = true → I b s w1 → I (markU b i) (upd s i v) w1)
    (hs : uSteps qt V I P l B a 0 l)
    (hend : ∀ s b w1, I b s w1 → (∀ i, i < l.length → b i = true) → (∀ i, i < l.length → qt i = true → V i (s i)) → Q .normal (putAll (dsOf l) 0 s a) w1) : (Code.region id l.toArray true).wp P Q a w := by
  simp only [ggOk, Bool.and_eq_true] at hok
  obtain ⟨⟨⟨⟨h1, h2⟩, h3⟩, h4⟩, h5⟩ := hok
  have hnd : (dsOf l).Nodup := of_decide_eq_true h2
  have hTl : (rtab .any l.toArray).2.length = l.length := by rw [rtab_length]; simp
  have hds : ∀ (i : Nat) (o : Oper), l[i]? = some o → o.dst = some ((dsOf l)[i]?.getD 0) ∧ (dsOf l)[i]? = some (o.dst.getD 0) := by
    intro i o ho
    have e : (dsOf l)[i]? = some (o.dst.getD 0) := by simp [dsOf, ho]
    refine ⟨?_, e⟩
    have := List.all_eq_true.1 h1 o (List.mem_of_getElem? ho)
    rw [e]
    cases hd : o.dst with
    | none => rw [hd] at this; cases this
    | some d => rfl
  have hrange : ∀ j, j < l.length → (List.range l.length).contains j = true := fun j hj => by simpa using hj
  refine wp_region_last_drew (S := fun _ => True) (ds := []) hm trivial (fun _ => ?_)
  refine inv_ (T := rtab .any l.toArray) (B := B) (List.range l.length) (fun b a' w' => ∃ s, a' = putAll (dsOf l) 0 s a ∧ I b s w' ∧ (∀ i, i < l.length → b i = true → qt i = true → V i (s i)) ∧ ∀ i, i < l.length → b i = false → s i = (a.tmps[(dsOf l)[i]?.getD 0]?).getD undef) rfl h4 h5 ?_ ?_ ?_ ?_
  · rw [hTl, Bool.and_eq_true, beq_iff_eq, beq_iff_eq]
    refine ⟨?_, by simp⟩
    apply List.ext_getElem
    · simp [lof]
    · intro i hi1 hi2
      have hi : i < l.length := by simpa [lof] using hi1
      simp [lof, hi]
  · refine ⟨fun k => (a.tmps[(dsOf l)[k]?.getD 0]?).getD undef, ?_, h0 _ _ (fun _ => rfl), (fun _ _ h => by cases h), fun _ _ _ => rfl⟩
    refine (putAll_self _ _ _ _ (fun j d hj => ?_)).symm
    have hd := List.all_eq_true.1 h3 d (List.mem_of_getElem? hj)
    have hd' : d < a.tmps.size := of_decide_eq_true hd
    simp [hj, hd']
  · intro i hi b a' w' ⟨s, ha, hIb, hv, hq0⟩ hbi hon hoff
    subst ha
    have hil : i < l.length := List.mem_range.1 hi
    have ho : l[i]? = some l[i] := List.getElem?_eq_getElem hil
    refine ⟨l[i], by simp, fun K hK => ?_⟩
    have hK' := Shut.out hK
    have hup : up b i = markU b i := by
      funext j
      by_cases hji : j = i
      · subst hji; rw [up_self, markU_self]
      · rw [up_ne hji, markU_ne b hji]
    have hgo : ∀ v w2, I (markU b i) (upd s i v) w2 → (qt i = true → V i v) → K ((putAll (dsOf l) 0 s a).put l[i].dst v) w2 := by
      intro v w2 hI2 hV2
      refine hK' _ _ ⟨upd s i v, ?_, by rw [hup]; exact hI2, fun j hj hbj hqj => ?_, fun j hj hbj => ?_⟩
      · rw [(hds i _ ho).1, (hds i _ ho).2, Option.getD_some]
        exact putAll_put _ _ _ _ _ _ _ hnd (Nat.zero_le _) (by rw [Nat.sub_zero]; exact (hds i _ ho).2)
      · by_cases hji : j = i
        · subst hji
          rw [upd_self]
          exact hV2 hqj
        · rw [upd_ne s v hji]
          rw [up_ne hji] at hbj
          exact hv j hj hbj hqj
      · have hji : j ≠ i := by
          rintro rfl
          rw [up_self] at hbj
          cases hbj
        rw [upd_ne s v hji]
        rw [up_ne hji] at hbj
        exact hq0 j hj hbj
    have hst := uSteps_at l 0 hs i _ ho s b w' hIb (by rw [Nat.zero_add]; exact hbi) (fun j hj => by
      rw [Nat.zero_add] at hj
      have h6 := Bool.and_eq_true _ _ ▸ hj
      have h7 : j < l.length := of_decide_eq_true h6.1
      have h8 : b j = true := hon j (by rw [hrange j h7]; exact h6.2)
      exact ⟨h8, hv j h7 h8⟩) (fun j hj => by
      rw [Nat.zero_add] at hj
      have h6 := Bool.and_eq_true _ _ ▸ hj
      have h7 : j < l.length := of_decide_eq_true h6.1
      exact hq0 j h7 (hoff j (by rw [hrange j h7]; exact h6.2))) (fun v w2 => K ((putAll (dsOf l) 0 s a).put l[i].dst v) w2) (fun hqi v hvi => by
      rw [Nat.zero_add] at hqi hvi
      exact hgo v w' (hI i b s v w' hqi hIb) (fun _ => hvi)) (fun hqi v w2 hI2 => by
      rw [Nat.zero_add] at hqi hI2
      exact hgo v w2 hI2 (fun h => by rw [hqi] at h; cases h))
    unfold stepG at hst
    split
    · next h7 => rw [if_pos h7] at hst; exact opGives_wp hst
    · next h7 => rw [if_neg h7] at hst; exact hst
  · intro b a' w' hall hz
    obtain ⟨s, ha, hIb, hv, -⟩ := hz
    subst ha
    exact hend s b w' hIb (fun i hi => hall i (hrange i hi)) (fun i hi => hv i hi (hall i (hrange i hi)))
end Go.Proofs.Ytkggchklmpmgpaa.H

namespace Go.Proofs.Ytkggchklmpmgpaa.H
open Go.RowKit Go.Proofs.YtkggchklmpmgpaaW.PrintWords Go.Proofs.YtkggchklmpmgpaaW.PrintLast Go.Proofs.YtkggchklmpmgpaaW.PrintMore
set_option linter.unusedVariables false
set_option linter.unusedSimpArgs false

/-- block bs is a source of numbers -/
def Src (bs : Nat) (w : World) : Prop :=
  ∃ (A : Option Addr) (n c at_ : Nat) (h : Nat), w.heap[bs]? = some (.cells #[.slice A n c, .int .i64 at_, .int .u64 h] 123) ∧ at_ ≤ n ∧ n ≤ 4096 ∧ h < 18446744073709551616 ∧
    (0 < n → ∃ ad : Addr, A = some ad ∧ ad.block < bs ∧ ∀ i, i < n → ∃ y : Nat, y < 256 ∧ w.cell? (ad.add i) = some (.int .u8 y))
theorem Src.below {bs : Nat} {w w' : World} (h : Src bs w) (hb : Below w.heap.size w w') : Src bs w' := by
  obtain ⟨A, n, c, at_, hh, h1, h2, h3, h4, h5⟩ := h
  refine ⟨A, n, c, at_, hh, by rw [hb.block bs (blk_lt h1)]; exact h1, h2, h3, h4, fun hn => ?_⟩
  obtain ⟨ad, e, hne, hc⟩ := h5 hn
  exact ⟨ad, e, hne, fun i hi => by obtain ⟨y, hy, hcy⟩ := hc i hi; exact ⟨y, hy, pw_cell_below hb hcy⟩⟩
theorem Src.lt {bs : Nat} {w : World} (h : Src bs w) : bs < w.heap.size := by
  obtain ⟨A, n, c, at_, hh, h1, -⟩ := h
  exact blk_lt h1
/-- what lies above the source does not count -/
theorem Src.up {bs B : Nat} {w w' : World} (h : Src bs w) (hb : Below B w w') (hB : bs < B) : Src bs w' := by
  obtain ⟨A, n, c, at_, hh, h1, h2, h3, h4, h5⟩ := h
  refine ⟨A, n, c, at_, hh, by rw [hb.block bs hB]; exact h1, h2, h3, h4, fun hn => ?_⟩
  obtain ⟨ad, e, hne, hc⟩ := h5 hn
  refine ⟨ad, e, hne, fun i hi => ?_⟩
  obtain ⟨y, hy, hcy⟩ := hc i hi
  refine ⟨y, hy, ?_⟩
  have hbl : (ad.add i).block = ad.block := by unfold Addr.add; split <;> rfl
  rw [World.cell?_of_block (w := w) (hb.block _ (by rw [hbl]; omega))]; exact hcy
/-- a draw turns the source alone -/
def Dw (bs : Nat) (w w' : World) : Prop := w.grownBy w' (some bs) ∧ Src bs w'
theorem wrapUn {n : Nat} (h : n < 18446744073709551616) : IntKind.u64.wrap (n : Int) = n := by
  show ((n : Int) % 18446744073709551616) = n
  omega
theorem ofIntU {a : Nat} (h : a < 18446744073709551616) : (BitVec.ofInt 64 (a : Int)).toNat = a := by
  rw [BitVec.ofInt_natCast, BitVec.toNat_ofNat]; exact Nat.mod_eq_of_lt h
theorem and_u64 (a b : Nat) (ha : a < 18446744073709551616) (hb : b < 18446744073709551616) : bits .and .u64 (a : Int) (b : Int) = ((a &&& b : Nat) : Int) := by
  have hx : a &&& b < 2 ^ 64 := Nat.and_lt_two_pow _ hb
  show IntKind.u64.wrap ((BitVec.ofInt 64 (a : Int) &&& BitVec.ofInt 64 (b : Int)).toNat : Int) = _
  rw [BitVec.toNat_and, ofIntU ha, ofIntU hb, wrapUn (by omega)]
theorem wrapU_nat (x : Int) : ∃ m : Nat, IntKind.u64.wrap x = (m : Int) ∧ m < 18446744073709551616 := by
  refine ⟨(IntKind.u64.wrap x).toNat, ?_, ?_⟩
  · have : 0 ≤ IntKind.u64.wrap x := by rw [IntKind.wrap_u64]; omega
    omega
  · have : IntKind.u64.wrap x < 18446744073709551616 := by rw [IntKind.wrap_u64]; omega
    omega

set_option maxRecDepth 100000 in
set_option maxHeartbeats 2000000 in
theorem next (bs : Nat) (n : Int) (w : World) (hn : n ≤ 1000000) (hs : Src bs w) :
    Calls Try.prog 74 #[.pointer (some ⟨bs, 0, none⟩), .int .i64 n] w fun e w' => ∃ r : Int, e = .returned (.int .i64 r) ∧ (n < 1 → r = 0) ∧ (1 ≤ n → 0 ≤ r ∧ r < n) ∧ Dw bs w w' := by
  have HS := Aside0.mk hs
  obtain ⟨A, nn, c, at_, hh, h1, h2, h3, h4, h5⟩ := hs
  by_cases hn1 : n < 1
  · go_enter Try.func74, Try.ntmps74
    go_wp2
    go_ret
    exact ⟨0, rfl, fun _ => rfl, fun h => by omega, grown_below (Below.refl _ _) _, HS.out⟩
  · have H1 := Aside0.mk h1
    have c0 : w.cell? ⟨bs, 0, none⟩ = some (.slice A nn c) := blk_cell h1 0
    have c1 : w.cell? ⟨bs, 1, none⟩ = some (.int .i64 at_) := blk_cell h1 1
    have c2 : w.cell? ⟨bs, 2, none⟩ = some (.int .u64 hh) := blk_cell h1 2
    have f2 : w.frozen? ⟨bs, 2, none⟩ = false := blk_frozen h1 2
    obtain ⟨g, hg, hg2⟩ := wrapU_nat (IntKind.u64.wrap ((hh : Int) * 6364136223846793005) + 1442695040888963407)
    obtain ⟨z, hz⟩ : ∃ z : Nat, z = (g / 8589934592) &&& 16777215 := ⟨_, rfl⟩
    have hz2 : z ≤ 16777215 := by rw [hz]; exact Nat.and_le_right
    have hx : bits .and .u64 ((g : Int) / 8589934592) 16777215 = (z : Int) := by
      rw [show ((g : Int) / 8589934592) = ((g / 8589934592 : Nat) : Int) by omega, show (16777215 : Int) = ((16777215 : Nat) : Int) from rfl, and_u64 _ _ (by omega) (by omega), hz]
    clear hz
    obtain ⟨W1, hW1⟩ : ∃ W1, W1 = w.setCell ⟨bs, 2, none⟩ (.int .u64 (g : Int)) := ⟨_, rfl⟩
    have k1 : W1.heap[bs]? = some (.cells #[.slice A nn c, .int .i64 at_, .int .u64 (g : Int)] 123) := by rw [hW1]; exact blk_put H1.out 2 _ rfl
    have g1 : w.grownBy W1 (some bs) := by rw [hW1]; exact set_grown' _ _ _ _
    have K1 := Aside0.mk k1
    have G1 := Aside0.mk g1
    have d0 : W1.cell? ⟨bs, 0, none⟩ = some (.slice A nn c) := blk_cell k1 0
    have d1 : W1.cell? ⟨bs, 1, none⟩ = some (.int .i64 at_) := blk_cell k1 1
    have x0 : ∀ x : Ext W1, x.1.cell? ⟨bs, 0, none⟩ = some (.slice A nn c) := fun x => Ext.cell d0 x
    have x1 : ∀ x : Ext W1, x.1.cell? ⟨bs, 1, none⟩ = some (.int .i64 at_) := fun x => Ext.cell d1 x
    have HD := Aside0.mk (fun (hn : 0 < nn) => by
      obtain ⟨ad, e, hne, hc⟩ := h5 hn
      exact (⟨ad, e, hne, hc⟩ : ∃ ad : Addr, A = some ad ∧ ad.block < bs ∧ ∀ i, i < nn → ∃ y : Nat, y < 256 ∧ w.cell? (ad.add i) = some (.int .u8 y)))
    have hn0 : ¬ (n = 0) := by omega
    have HT := Aside0.mk (fun (x : Nat) (hxx : x ≤ 16777470) => (show 0 ≤ Int.tmod (x : Int) n ∧ Int.tmod (x : Int) n < n ∧ -9223372036854775808 ≤ Int.tmod (x : Int) n ∧ Int.tmod (x : Int) n ≤ 9223372036854775807 from by
      have h1 := Int.tmod_nonneg n (show (0 : Int) ≤ (x : Int) by omega)
      have h2 := Int.tmod_lt_of_pos (x : Int) (show (0 : Int) < n by omega)
      omega))
    have hmx : Try.prog.follows .mixedOrders = true := by kernel_rfl
    have hn1' : (1 : Int) ≤ n := by omega
    clear h1 k1 g1 h5 d0 d1
    by_cases hat : at_ < nn
    · have hatI : (at_ : Int) < (nn : Int) := by omega
      obtain ⟨ad, rfl, hne, hby⟩ := HD.out (by omega)
      obtain ⟨y, hy, hyc⟩ := hby at_ hat
      have HBY := Aside0.mk (fun i hi => by
        obtain ⟨y, h1, h2⟩ := hby i hi
        exact (⟨y, h1, h2⟩ : ∃ y : Nat, y < 256 ∧ w.cell? (ad.add i) = some (.int .u8 y)))
      have HNE := Aside0.mk hne
      have hblk : ∀ i, (ad.add i).block = ad.block := fun i => by unfold Addr.add; split <;> rfl
      have HBLK := Aside0.mk hblk
      have hyc1 := grown_cell G1.out hyc (by rw [hblk]; exact Nat.ne_of_lt hne)
      have x2 : ∀ x : Ext W1, x.1.cell? (ad.add at_) = some (.int .u8 y) := fun x => Ext.cell hyc1 x
      clear hby hne hblk hyc1 hyc
      go_enter Try.func74, Try.ntmps74
      go_wp2
      rw [← hW1]
      clear hW1
      refine wp_region_ext (by kernel_rfl) (by kernel_rfl) ?_
      repeat (go_big_quiet_step (fail))
      refine wpQuiet_nil ?_
      rintro _ ⟨v, rfl⟩
      obtain ⟨W2, hW2⟩ : ∃ W2, W2 = v.1 := ⟨_, rfl⟩
      have HB2 : Aside0 (Below W1.heap.size W1 W2) := ⟨by rw [hW2]; exact v.2⟩
      have e0 := x0 ⟨W2, HB2.out⟩
      have e1 := x1 ⟨W2, HB2.out⟩
      have e2 := x2 ⟨W2, HB2.out⟩
      rw [← hW2]
      clear hW2 x0 x1 x2
      have x0 : ∀ x : Ext W2, x.1.cell? ⟨bs, 0, none⟩ = some (.slice (some ad) nn c) := fun x => Ext.cell e0 x
      have x1 : ∀ x : Ext W2, x.1.cell? ⟨bs, 1, none⟩ = some (.int .i64 at_) := fun x => Ext.cell e1 x
      have x2 : ∀ x : Ext W2, x.1.cell? (ad.add at_) = some (.int .u8 y) := fun x => Ext.cell e2 x
      clear e0 e1 e2
      go_wp2
      refine wp_region_ext (by kernel_rfl) (by kernel_rfl) ?_
      repeat (go_big_quiet_step (fail))
      refine wpQuiet_nil ?_
      rintro _ ⟨v3, rfl⟩
      obtain ⟨W3, hW3⟩ : ∃ W3, W3 = v3.1 := ⟨_, rfl⟩
      have HB3 : Aside0 (Below W1.heap.size W1 W3) := ⟨by rw [hW3]; exact HB2.out.trans (v3.2.mono HB2.out.size)⟩
      rw [← hW3]
      clear hW3 x0 x1 x2
      have k3 : W3.heap[bs]? = some (.cells #[.slice (some ad) nn c, .int .i64 at_, .int .u64 (g : Int)] 123) := by rw [HB3.out.block bs (blk_lt K1.out)]; exact K1.out
      have K3 := Aside0.mk k3
      have e1 : W3.cell? ⟨bs, 1, none⟩ = some (.int .i64 at_) := blk_cell k3 1
      have f1 : W3.frozen? ⟨bs, 1, none⟩ = false := blk_frozen k3 1
      have HTT := Aside0.mk (HT.out (z + y) (by omega))
      have hzy : wrap64 ((z : Int) + (y : Int)) = (z : Int) + (y : Int) := by unfold wrap64; omega
      have hTw : wrap64 (Int.tmod ((z : Int) + (y : Int)) n) = Int.tmod ((z : Int) + (y : Int)) n := by
        have h1 := HTT.out
        rw [Int.natCast_add] at h1
        unfold wrap64; omega
      have haw : wrap64 ((at_ : Int) + 1) = (at_ : Int) + 1 := by unfold wrap64; omega
      have H234 := Aside0.mk (⟨h2, h3, hg2, hat⟩ : at_ ≤ nn ∧ nn ≤ 4096 ∧ g < 18446744073709551616 ∧ at_ < nn)
      clear k3 h2 h3 h4 hg2 hz2 hy hn hat HT c0 c1 c2 f2 hg hx
      go_wp2
      go_ret
      have hgr : w.grownBy (W3.setCell ⟨bs, 1, none⟩ (.int .i64 ((at_ : Int) + 1))) (some bs) := grown_trans G1.out (grown_trans (grown_below HB3.out _) (set_grown' _ _ _ _))
      have h1 := HTT.out
      rw [Int.natCast_add] at h1
      obtain ⟨i1, i2, i3, i4⟩ := H234.out
      refine ⟨_, rfl, fun h => by omega, fun _ => ⟨Int.emod_nonneg _ hn0, Int.emod_lt_of_pos _ (by omega)⟩, hgr, ⟨some ad, nn, c, at_ + 1, g, ?_, by omega, i2, i3, fun _ => ⟨ad, rfl, HNE.out, fun i hi => ?_⟩⟩⟩
      · rw [Int.natCast_add]; exact blk_put K3.out 1 _ rfl
      · obtain ⟨y', h5, h6⟩ := HBY.out i hi
        exact ⟨y', h5, grown_cell hgr h6 (by rw [HBLK.out]; exact Nat.ne_of_lt HNE.out)⟩
    · have hatI : ¬ (at_ : Int) < (nn : Int) := by omega
      have HTT := Aside0.mk (HT.out z (by omega))
      have hTw : wrap64 (Int.tmod (z : Int) n) = Int.tmod (z : Int) n := by
        have h1 := HTT.out
        unfold wrap64; omega
      go_enter Try.func74, Try.ntmps74
      go_wp2
      rw [← hW1]
      clear hW1
      refine wp_region_ext (by kernel_rfl) (by kernel_rfl) ?_
      repeat (go_big_quiet_step (fail))
      refine wpQuiet_nil ?_
      rintro _ ⟨v, rfl⟩
      obtain ⟨W2, hW2⟩ : ∃ W2, W2 = v.1 := ⟨_, rfl⟩
      have HB2 : Aside0 (Below W1.heap.size W1 W2) := ⟨by rw [hW2]; exact v.2⟩
      rw [← hW2]
      have H234 := Aside0.mk (⟨h2, h3, hg2⟩ : at_ ≤ nn ∧ nn ≤ 4096 ∧ g < 18446744073709551616)
      clear hW2 x0 x1 h2 h3 h4 hg2 hz2 hn hat HT c0 c1 c2 f2 hg hx
      go_wp2
      go_ret
      have hgr : w.grownBy W2 (some bs) := grown_trans G1.out (grown_below HB2.out _)
      have h1 := HTT.out
      obtain ⟨i1, i2, i3⟩ := H234.out
      refine ⟨_, rfl, fun h => by omega, fun _ => ⟨Int.emod_nonneg _ hn0, Int.emod_lt_of_pos _ (by omega)⟩, hgr, ⟨A, nn, c, at_, g, ?_, i1, i2, i3, fun h0 => ?_⟩⟩
      · rw [HB2.out.block bs (blk_lt K1.out)]; exact K1.out
      · obtain ⟨ad, e, hne, hby⟩ := HD.out h0
        refine ⟨ad, e, hne, fun i hi => ?_⟩
        obtain ⟨y', h5, h6⟩ := hby i hi
        exact ⟨y', h5, grown_cell hgr h6 (by rw [show (ad.add i).block = ad.block by unfold Addr.add; split <;> rfl]; exact Nat.ne_of_lt hne)⟩
end Go.Proofs.Ytkggchklmpmgpaa.H
