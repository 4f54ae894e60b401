/- Ways and questions needed, of the reference. -/
import Derived.Test.YtpcjbdkdpcgdiaaEvOf
namespace Go.Proofs.Ytpcjbdkdpcgdiaa.H
open Go.RowKit Go.Proofs.YtpcjbdkdpcgdiaaW.PrintWords Go.Proofs.YtpcjbdkdpcgdiaaW.PrintLast Go.Proofs.YtpcjbdkdpcgdiaaW.PrintMore
set_option linter.unusedVariables false
set_option linter.unusedSimpArgs false

set_option maxRecDepth 100000 in
set_option maxHeartbeats 4000000 in
theorem specWay (n : Nat) (hn : n ≤ 6) (v : Value) (t : List Int) (h : Nat) (hh : h < 64) (w : World) (hv : ReadI w v t) (ht : treeOk n t = true) :
    Calls Try.prog 53 #[.int .i64 n, v, .int .i64 (h : Nat)] w fun e w' => ∃ u, e = .returned u ∧ OwnI w.heap.size w' u (wayL t h n) ∧ Below w.heap.size w w' := by
  obtain ⟨A2, c2, rfl, hc2, hr⟩ := id hv
  have HR := Aside0.mk hr
  have HT := Aside0.mk ht
  have HTL := Aside0.mk (tree_len ht)
  have HB0 : Aside0 (Below w.heap.size w (w.alloc (.cells #[] 2))) := ⟨Below.alloc (Below.refl _ _) (Nat.le_refl _) _⟩
  have htl : t.length ≤ 63 := by have := tree_len ht; have := (pw6 hn).2; omega
  clear hv hr ht
  go_enter Try.func53, Try.ntmps53
  go_wp2
  go_loopw [7, 8] (fun s7 s8 wr => ∃ iv : Nat, iv ≤ n ∧ s8 = .int .i64 (plc t h iv : Nat) ∧ Aside0 (OwnI w.heap.size wr s7 (wayL t h iv)) ∧ Aside0 (Below w.heap.size w wr)) (fun _ s8 _ => 200 - (intOf s8).toNat)
  case atStart => exact ⟨0, Nat.zero_le _, rfl, ⟨OwnI.empty w (Nat.le_refl _)⟩, HB0⟩
  case round =>
    obtain ⟨iv, hi, rfl, HO, HB⟩ := hrel
    have hlw := wayL_len t h iv
    obtain ⟨A8, d8, e8, -⟩ := HO.out.read
    rw [hlw] at e8
    subst e8
    have hp1 : plc t h iv < 200 := by have h1 := (plc_bd t h iv).2; have h2 : 2 ^ (iv + 1) ≤ 2 ^ 7 := Nat.pow_le_pow_right (by omega) (by omega); have : (2 : Nat) ^ 7 = 128 := rfl; omega
    clear hlw
    by_cases hlt : iv < n
    · have hpl := plc_in hn t h iv hlt
      have hqi := tree_in HT.out (p := plc t h iv) hpl.1 hpl.2.1
      have HYES := Aside0.mk (fun hb => plc_yes (t := t) (h := h) (i := iv) hb)
      have HNOT := Aside0.mk (fun hb => plc_no (t := t) (h := h) (i := iv) hb)
      have HWS := Aside0.mk (wayL_succ t h iv)
      obtain ⟨P, hPP⟩ : ∃ P, P = plc t h iv := ⟨_, rfl⟩
      rw [← hPP] at hpl hqi HYES HNOT HWS hp1 ⊢
      obtain ⟨q, hqq⟩ : ∃ q, q = qN t P := ⟨_, rfl⟩
      rw [← hqq] at hqi HYES HNOT
      obtain ⟨_, _, hq1, hq2⟩ := hqi
      have hP3 : ((P : Int) - 1).toNat = P - 1 := by omega
      have hP1 : (0 : Int) ≤ (P : Int) - 1 := by omega
      have hPt : P - 1 < t.length := by have := HTL.out; omega
      have hP2 : (P : Int) - 1 < (t.length : Int) := by omega
      obtain ⟨ad, y0, rfl, hcell, hY0⟩ := ReadI.get (Kd.C_below HR.out HB.out) hPt
      have hyq : y0 = (q : Int) := by rw [← hq1]; exact hY0.out.symm
      subst hyq
      have hbit := bit_of h q (lt_big hh)
      have hqn : q < n := hq2
      have HPP := Aside0.mk hPP
      have HQ1 := Aside0.mk hq1
      clear hPP hqq hY0 hq1 hq2
      cases hbt : h.testBit q with
      | false =>
        have HN1 := Aside0.mk (HNOT.out hbt)
        rw [hbt, if_neg (by decide)] at hbit
        clear hbt
        go_wp2_with (first | (at_builtin; refine app_own (w0 := w) w.heap.size rfl (.tmp 20) (.tmp 22) rfl _ (wayL t h iv) (q : Int) rfl rfl HO.out HB.out HB.out.size (by rw [wayL_len]; omega) ?_; intro v1 w6 ho hb hg hat; have HO6 := Aside0.mk ho; have HB6 := Aside0.mk hb; clear ho hb hg hat))
        go_roundw
        case rel => exact ⟨iv + 1, by omega, by rw [HN1.out]; go_num, by rw [HWS.out, HQ1.out]; exact HO6, HB6⟩
        case measure => have := HPP.out; simp [intOf]; omega
      | true =>
        have HN1 := Aside0.mk (HYES.out hbt)
        rw [hbt, if_pos rfl] at hbit
        clear hbt
        go_wp2_with (first | (at_builtin; refine app_own (w0 := w) w.heap.size rfl (.tmp 20) (.tmp 22) rfl _ (wayL t h iv) (q : Int) rfl rfl HO.out HB.out HB.out.size (by rw [wayL_len]; omega) ?_; intro v1 w6 ho hb hg hat; have HO6 := Aside0.mk ho; have HB6 := Aside0.mk hb; clear ho hb hg hat))
        go_roundw
        case rel => exact ⟨iv + 1, by omega, by rw [HN1.out]; go_num, by rw [HWS.out, HQ1.out]; exact HO6, HB6⟩
        case measure => have := HPP.out; simp [intOf]; omega
    · have e : iv = n := by omega
      have HE := Aside0.mk e
      clear e
      go_wp2
      go_ret
      exact ⟨_, rfl, by rw [show wayL t h n = wayL t h iv from by rw [HE.out]]; exact HO.out, HB.out⟩

set_option maxRecDepth 100000 in
set_option maxHeartbeats 4000000 in
theorem specNeeded (n : Nat) (hn : n ≤ 6) (ku : Value) (xs : List Int) (v : Value) (t : List Int) (h : Nat) (hh : h < 64) (w : World) (hk : ReadI w ku xs) (hv : ReadI w v t) (ht : treeOk n t = true) :
    Calls Try.prog 55 #[cx n ku, v, .int .i64 (h : Nat)] w fun e w' => e = .returned (.int .i64 (neededV n xs t h : Nat)) ∧ Below w.heap.size w w' := by
  obtain ⟨w1, hw1⟩ : ∃ w1, w1 = w.alloc (.cells #[.int .i64 n, ku] 28) := ⟨_, rfl⟩
  have hB : Below w.heap.size w w1 := by rw [hw1]; exact Below.alloc (Below.refl _ _) (Nat.le_refl _) _
  have c0 : w1.cell? ⟨w.heap.size, 0, none⟩ = some (.int .i64 n) := by rw [hw1]; simp
  have c1 : w1.cell? ⟨w.heap.size, 1, none⟩ = some ku := by rw [hw1]; simp
  have HB := Aside0.mk hB
  have HK := Aside0.mk (hk.below hB)
  have HT := Aside0.mk ht
  have HWY := Aside0.mk (specWay n hn v t h hh w1 (hv.below hB) ht)
  obtain ⟨A1, d1, rfl, -⟩ := id hk
  obtain ⟨A2, d2, rfl, -⟩ := id hv
  have hwl := wayL_len t h n
  have HWL := Aside0.mk hwl
  clear hk hv hB ht hwl
  go_enter Try.func55, Try.ntmps55
  go_wp2_with (first | (go_at_call 53; rw [← hw1]; clear hw1; refine HWY.out.mono ?_; rintro e w2 ⟨u, rfl, ho, hb⟩; obtain ⟨A3, d3, rfl, hd3, hr3⟩ := ho.read; rw [HWL.out]; have HR3 := Aside0.mk hr3; have HB2 := Aside0.mk hb; replace c0 := pw_cell_below hb c0; replace c1 := pw_cell_below hb c1; clear ho hb hr3 hd3))
  have HK2 := Aside0.mk (HK.out.below HB2.out)
  go_loopw [8, 9, 10] (fun s8 s9 s10 wr => ∃ iv : Nat, iv ≤ n ∧ s10 = .int .i64 iv ∧ s8 = .int .i64 (yess t h iv : Nat) ∧ s9 = .int .i64 (noes t h iv : Nat) ∧ Aside0 (∀ j, j < iv → toldAt n xs t h j = false) ∧ Aside0 (Below w2.heap.size w2 wr)) (fun _ _ s10 _ => n - (intOf s10).toNat)
  case atStart => exact ⟨0, Nat.zero_le _, rfl, rfl, rfl, ⟨fun j hj => absurd hj (Nat.not_lt_zero _)⟩, ⟨Below.refl _ _⟩⟩
  case round =>
    obtain ⟨iv, hi, rfl, rfl, rfl, HN, HBr⟩ := hrel
    have c0 := pw_cell_below HBr.out c0
    have c1 := pw_cell_below HBr.out c1
    have HBw := Aside0.mk (HB2.out.trans (HBr.out.mono HB2.out.size))
    by_cases hlt : iv < n
    · have hpp := (way_pl HT.out h iv hi).1.lt hn
      have hpl := plc_in hn t h iv hlt
      have hqi := tree_in HT.out (p := plc t h iv) hpl.1 hpl.2.1
      have HTO := Aside0.mk (fun (W : World) hr => specTold n hn (.slice A1 xs.length d1) xs (yess t h iv) (noes t h iv) hpp.1 hpp.2 W hr)
      have HTA : Aside0 (toldAt n xs t h iv = decide (0 ≤ toldV n xs (yess t h iv) (noes t h iv))) := ⟨rfl⟩
      have HYES := Aside0.mk (fun hb => And.intro (yess_yes (t := t) (h := h) (i := iv) hb) (noes_yes (t := t) (h := h) (i := iv) hb))
      have HNOT := Aside0.mk (fun hb => And.intro (yess_no (t := t) (h := h) (i := iv) hb) (noes_no (t := t) (h := h) (i := iv) hb))
      have hle3 : iv < (wayL t h n).length := by rw [HWL.out]; exact hlt
      have hgw : (wayL t h n).getD iv 0 = qAt t (plc t h iv) := by unfold wayL; simp [List.getD_eq_getElem?_getD, hlt]
      obtain ⟨ad, y0, rfl, hcell, hY0⟩ := ReadI.get (Kd.C_below HR3.out HBr.out) hle3
      obtain ⟨q, hqq⟩ : ∃ q, q = qN t (plc t h iv) := ⟨_, rfl⟩
      rw [← hqq] at hqi HYES HNOT
      obtain ⟨_, _, hq1, hq2⟩ := hqi
      have hyq : y0 = (q : Int) := by rw [← hq1, ← hgw]; exact hY0.out.symm
      subst hyq
      obtain ⟨Y, hYY⟩ : ∃ Y, Y = yess t h iv := ⟨_, rfl⟩
      obtain ⟨Z, hZZ⟩ : ∃ Z, Z = noes t h iv := ⟨_, rfl⟩
      rw [← hYY] at hpp HTO HTA HYES HNOT ⊢
      rw [← hZZ] at hpp HTO HTA HYES HNOT ⊢
      obtain ⟨T, hTT⟩ : ∃ T, T = toldV n xs Y Z := ⟨_, rfl⟩
      rw [← hTT] at HTO HTA
      clear hTT hYY hZZ hqq hgw hY0 hle3 hq1 hpl
      by_cases ht : 0 ≤ T
      · have HF : Aside0 (neededV n xs t h = iv) := ⟨firstTold_hit hlt HN.out (by rw [HTA.out]; exact decide_eq_true ht)⟩
        go_wp2_with (first | (go_at_call 80; refine (HTO.out _ (HK2.out.below HBr.out)).mono ?_; rintro e w3 ⟨rfl, hb⟩; have HB3 := Aside0.mk (HBw.out.trans (hb.mono HBw.out.size)); clear hb))
        go_ret
        exact ⟨by rw [HF.out]; rfl, HB.out.trans (HB3.out.mono HB.out.size)⟩
      · have ht' : T < 0 := by omega
        have HN2 : Aside0 (∀ j, j < iv + 1 → toldAt n xs t h j = false) := ⟨fun j hj => by
          rcases Nat.lt_succ_iff_lt_or_eq.1 hj with h1 | rfl
          · exact HN.out j h1
          · rw [HTA.out]; exact decide_eq_false ht⟩
        have hsh := pow_wrap q (by omega)
        have hV := pow_lt64 (v := q) (by omega)
        have hap := and_pow h q
        have hpb := Nat.two_pow_pos q
        obtain ⟨V, hVV⟩ : ∃ V, V = 2 ^ q := ⟨_, rfl⟩
        rw [← hVV] at hsh hV hap hpb HYES HNOT
        have hand := and_i64 h V (lt_big hh) (lt_big hV)
        have ho1 := or_i64 Y V (lt_big hpp.1) (lt_big hV)
        have ho2 := or_i64 Z V (lt_big hpp.2) (lt_big hV)
        have hne := ne_zero_nat hpb
        clear hVV ht
        cases hbt : h.testBit q with
        | true =>
          obtain ⟨hy1, hz1⟩ := HYES.out hbt
          rw [hbt, if_pos rfl] at hap
          rw [hap] at hand
          have hbne : ((V : Int) != 0) = true := by rw [bne, hne]; rfl
          have HY1 := Aside0.mk hy1
          have HZ1 := Aside0.mk hz1
          clear hbt hap hy1 hz1
          go_wp2_with (first | (go_at_call 80; refine (HTO.out _ (HK2.out.below HBr.out)).mono ?_; rintro e w3 ⟨rfl, hb⟩; have HB3 := Aside0.mk (HBr.out.trans (hb.mono HBr.out.size)); replace c0 := pw_cell_below hb c0; replace c1 := pw_cell_below hb c1; replace hcell := pw_cell_below hb hcell; clear hb))
          go_roundw
          case rel => exact ⟨iv + 1, by omega, by go_num, by rw [HY1.out], by rw [HZ1.out], HN2, HB3⟩
          case measure => simp [intOf]; omega
        | false =>
          obtain ⟨hy1, hz1⟩ := HNOT.out hbt
          rw [hbt, if_neg (by decide)] at hap
          rw [hap] at hand
          have HY1 := Aside0.mk hy1
          have HZ1 := Aside0.mk hz1
          clear hbt hap hy1 hz1
          go_wp2_with (first | (go_at_call 80; refine (HTO.out _ (HK2.out.below HBr.out)).mono ?_; rintro e w3 ⟨rfl, hb⟩; have HB3 := Aside0.mk (HBr.out.trans (hb.mono HBr.out.size)); replace c0 := pw_cell_below hb c0; replace c1 := pw_cell_below hb c1; replace hcell := pw_cell_below hb hcell; clear hb))
          go_roundw
          case rel => exact ⟨iv + 1, by omega, by go_num, by rw [HY1.out], by rw [HZ1.out], HN2, HB3⟩
          case measure => simp [intOf]; omega
    · have e : iv = n := by omega
      have HF : Aside0 (neededV n xs t h = n) := ⟨firstTold_none (fun j hj => HN.out j (by omega))⟩
      clear e
      go_wp2
      go_ret
      exact ⟨by rw [HF.out]; rfl, HB.out.trans (HBw.out.mono HB.out.size)⟩

set_option maxRecDepth 100000 in
set_option maxHeartbeats 1000000 in
theorem specTreeCode (a : Int) (ku : Value) (xs : List Int) (v : Value) (t : List Int) (w : World) (hk : ReadI w ku xs) (hv : ReadI w v t) :
    Calls Try.prog 51 #[cx a ku, v] w fun e w' => e = .returned (.int .i64 (if cxOk a xs then (if treeOk a.toNat t then 0 else 2) else 1)) ∧ Below w.heap.size w w' := by
  obtain ⟨cd, hcd⟩ : ∃ cd : Int, cd = (if cxOk a xs then (if treeOk a.toNat t then 0 else 2) else 1) := ⟨_, rfl⟩
  rw [← hcd]
  obtain ⟨w1, hw1⟩ : ∃ w1, w1 = w.alloc (.cells #[.int .i64 a, ku] 28) := ⟨_, rfl⟩
  have hB : Below w.heap.size w w1 := by rw [hw1]; exact Below.alloc (Below.refl _ _) (Nat.le_refl _) _
  have c0 : w1.cell? ⟨w.heap.size, 0, none⟩ = some (.int .i64 a) := by rw [hw1]; simp
  have c1 : w1.cell? ⟨w.heap.size, 1, none⟩ = some ku := by rw [hw1]; simp
  have HB := Aside0.mk hB
  have HV := Aside0.mk (hv.below hB)
  have HM := Aside0.mk (specIs a ku xs w1 (hk.below hB))
  obtain ⟨A1, d1, rfl, -⟩ := id hk
  obtain ⟨A2, d2, rfl, -⟩ := id hv
  clear hk hv hB
  cases hx : cxOk a xs with
  | false =>
    rw [hx] at HM hcd
    have HCD : Aside0 (cd = 1) := ⟨hcd⟩
    clear hx hcd
    go_enter Try.func51, Try.ntmps51
    go_wp2_with (first | (go_at_call 43; rw [← hw1]; clear hw1; refine HM.out.mono ?_; rintro e w2 ⟨rfl, hb⟩; have HB2 := Aside0.mk hb; clear hb))
    go_ret
    exact ⟨by rw [HCD.out]; rfl, HB.out.trans (HB2.out.mono HB.out.size)⟩
  | true =>
    obtain ⟨n, rfl, hc⟩ := cxOk_nat hx
    rw [hx] at HM hcd
    have HTR := Aside0.mk (fun W hr => specTree (.slice A2 t.length d2) t n ⟨hc.lo, hc.hi⟩ W hr)
    have hcd2 : cd = if treeOk n t then 0 else 2 := hcd
    clear hx hc hcd
    cases hto : treeOk n t with
    | true =>
      rw [hto] at HTR hcd2
      have HCD : Aside0 (cd = 0) := ⟨hcd2⟩
      clear hto hcd2
      go_enter Try.func51, Try.ntmps51
      go_wp2_with (first | (go_at_call 43; rw [← hw1]; clear hw1; refine HM.out.mono ?_; rintro e w2 ⟨rfl, hb⟩; have HB2 := Aside0.mk hb; replace c0 := pw_cell_below hb c0; clear hb) | (go_at_call 83; refine (HTR.out _ (HV.out.below HB2.out)).mono ?_; rintro e w3 ⟨rfl, hb⟩; have HB3 := Aside0.mk (HB2.out.trans (hb.mono HB2.out.size)); clear hb))
      go_ret
      exact ⟨by rw [HCD.out]; rfl, HB.out.trans (HB3.out.mono HB.out.size)⟩
    | false =>
      rw [hto] at HTR hcd2
      have HCD : Aside0 (cd = 2) := ⟨hcd2⟩
      clear hto hcd2
      go_enter Try.func51, Try.ntmps51
      go_wp2_with (first | (go_at_call 43; rw [← hw1]; clear hw1; refine HM.out.mono ?_; rintro e w2 ⟨rfl, hb⟩; have HB2 := Aside0.mk hb; replace c0 := pw_cell_below hb c0; clear hb) | (go_at_call 83; refine (HTR.out _ (HV.out.below HB2.out)).mono ?_; rintro e w3 ⟨rfl, hb⟩; have HB3 := Aside0.mk (HB2.out.trans (hb.mono HB2.out.size)); clear hb))
      go_ret
      exact ⟨by rw [HCD.out]; rfl, HB.out.trans (HB3.out.mono HB.out.size)⟩
end Go.Proofs.Ytpcjbdkdpcgdiaa.H
