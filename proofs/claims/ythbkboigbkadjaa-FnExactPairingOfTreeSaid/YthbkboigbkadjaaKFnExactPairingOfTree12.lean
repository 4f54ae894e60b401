/- PairingOfTree of the program. Ways and questions needed, of the reference. -/
import Derived.Test.YthbkboigbkadjaaKFnExactPairingOfTree1
import Derived.Test.YthbkboigbkadjaaKFnExactPairingOfTree2
import Derived.Test.YthbkboigbkadjaaKFnExactPairingOfTree3
import Derived.Test.YthbkboigbkadjaaKFnExactPairingOfTree4
import Derived.Test.YthbkboigbkadjaaKFnExactPairingOfTree5
import Derived.Test.YthbkboigbkadjaaKFnExactPairingOfTree6
import Derived.Test.YthbkboigbkadjaaKFnExactPairingOfTree7
import Derived.Test.YthbkboigbkadjaaKFnExactPairingOfTree8
import Derived.Test.YthbkboigbkadjaaKFnExactPairingOfTree9
import Derived.Test.YthbkboigbkadjaaKFnExactPairingOfTree10
import Derived.Test.YthbkboigbkadjaaKFnExactPairingOfTree11

namespace Go.Proofs.Ythbkboigbkadjaa.H
open Go.RowKit Go.Proofs.YthbkboigbkadjaaW.PrintWords Go.Proofs.YthbkboigbkadjaaW.PrintLast Go.Proofs.YthbkboigbkadjaaW.PrintMore
set_option linter.unusedVariables false
set_option linter.unusedSimpArgs false

section
variable {P : Program} {ops : Array Oper} {rest : List Oper} {o : Oper} {a : Act} {Q : Exit → Act → World → Prop}
/-- append(v, Pair) -/
theorem app_pairT {w0 W : World} (base : Nat) (hgd : o.guard = none) (s x : Operand) (ho : o.op = .call { callee := .builtin .append, args := #[s, x], argTypes := #[38, 38] })
    (v : Value) (ps : List (Int × Int)) (p q : Int) (hs : a.eval s = v) (hx : a.eval x = .slice (some ⟨W.heap.size, 0, none⟩) 1 1)
    (HO : OwnP base W v ps) (HB : Below base w0 W) (hbase : base ≤ W.heap.size) (hl : ps.length < 1000000)
    (h : ∀ v1 w1, OwnP base w1 v1 (ps ++ [(p, q)]) → Below base w0 w1 → W.grownBy w1 v.ownBlock → (v1.ownBlock = v.ownBlock ∨ ∃ b, v1.ownBlock = some b ∧ W.heap.size ≤ b) → wpList Try.prog ops Q rest (a.put o.dst v1) w1) :
    wpList Try.prog ops Q (o :: rest) a (W.alloc (.cells #[.int .i64 p, .int .i64 q] 70)) := by
  refine print_append_cells base hgd s x 38 70 (.agg #[.int .i64 0, .int .i64 0]) 2 16 ho Try.underlying38 infoQ rfl (by decide) (by decide) v ps.length ((flat ps).map (Value.int .i64)) [.int .i64 p, .int .i64 q] hs hx rfl (fun u hu => ?_) HO HB hbase (by omega) ?_
  · rcases List.mem_cons.1 hu with rfl | hu
    · rfl
    · rcases List.mem_cons.1 hu with rfl | hu
      · rfl
      · cases hu
  · intro v1 w1 h1 h2 h3 h4
    refine h v1 w1 ?_ h2 h3 h4
    unfold OwnP
    rw [List.length_append, List.length_singleton, flat_snoc, List.map_append]
    exact h1
end

set_option maxHeartbeats 1000000 in
theorem pairingOfTree1 (w : World) (bk bt : Nat) (n : Nat) (hn : 1 ≤ n ∧ n ≤ 6) (v : Value) (t : List Int) (hv : ReadI w v t) (h0 : w.cell? ⟨bk, 0, none⟩ = some (.int .i64 n)) (h1 : w.cell? ⟨bt, 0, none⟩ = some v) :
    ThunkB w (.func (.func 59) #[] #[.pointer (some ⟨bk, 0, none⟩), .pointer (some ⟨bt, 0, none⟩)]) (treeOk n t) := by
  refine ⟨_, _, _, rfl, Enters.mk' Try.func59 rfl rfl, fun w1 hb => ?_⟩
  have c0 := pw_cell_below hb h0
  have c1 := pw_cell_below hb h1
  have HV := Aside0.mk (hv.below hb)
  obtain ⟨A2, d2, rfl, -⟩ := id hv
  clear hb h0 h1 hv
  show Calls _ _ #[_, _] _ _
  go_enter Try.func59, Try.ntmps59
  go_wp2_with (first | (go_at_call 60; refine (isTree _ t n hn _ HV.out).mono ?_; rintro e w4 ⟨rfl, hb4⟩))
  go_ret
  exact ⟨rfl, hb4⟩

set_option maxRecDepth 100000 in
set_option maxHeartbeats 4000000 in
theorem implPairingOfTree (a : Int) (ku : Value) (xs : List Int) (v : Value) (t : List Int) (w : World) (hk : ReadI w ku xs) (hv : ReadI w v t) :
    Calls Try.prog 22 #[cx a ku, v] w fun e w' => ∃ u, e = .returned (.tuple #[u, .int .i64 (ansPairingOfTree a xs t).2]) ∧ OwnP w.heap.size w' u (ansPairingOfTree a xs t).1 ∧ Below w.heap.size w w' := by
  obtain ⟨wb, hwb⟩ : ∃ wb, wb = w.alloc (.cells #[.int .i64 a, ku] 28) := ⟨_, rfl⟩
  obtain ⟨w1, hw1⟩ : ∃ w1, w1 = wb.alloc (.cells #[v] 22) := ⟨_, rfl⟩
  have hsb : wb.heap.size = w.heap.size + 1 := by rw [hwb]; simp
  have hBb : Below w.heap.size w wb := by rw [hwb]; exact Below.alloc (Below.refl _ _) (Nat.le_refl _) _
  have hB1 : Below wb.heap.size wb w1 := by rw [hw1]; exact Below.alloc (Below.refl _ _) (Nat.le_refl _) _
  have hB : Below w.heap.size w w1 := hBb.trans (hB1.mono hBb.size)
  have c0 : w1.cell? ⟨w.heap.size, 0, none⟩ = some (.int .i64 a) := pw_cell_below hB1 (by rw [hwb]; simp)
  have c1 : w1.cell? ⟨w.heap.size, 1, none⟩ = some ku := pw_cell_below hB1 (by rw [hwb]; simp)
  have ct : w1.cell? ⟨w.heap.size + 1, 0, none⟩ = some v := by rw [hw1, ← hsb]; exact new_cell _ _ _ 0 _ rfl
  have HB := Aside0.mk hB
  have HK := Aside0.mk (hk.below hB)
  have HV := Aside0.mk (hv.below hB)
  have HM := Aside0.mk (complexCode2 a ku xs (.func (.func 59) #[] #[.pointer (some ⟨w.heap.size, 0, none⟩), .pointer (some ⟨w.heap.size + 1, 0, none⟩)]) (treeOk a.toNat t) w1 HK.out (fun h => by
    obtain ⟨n, rfl, hc⟩ := cxOk_nat h
    exact pairingOfTree1 w1 _ _ n ⟨hc.lo, hc.hi⟩ v t HV.out c0 ct) ⟨_, _, _, rfl⟩)
  obtain ⟨A1, d1, rfl, -⟩ := id hk
  obtain ⟨A2, d2, rfl, -⟩ := id hv
  subst hwb
  clear hk hv hsb hBb hB1 hB
  cases hx : cxOk a xs with
  | false =>
    have HA : Aside0 (ansPairingOfTree a xs t = ([], 1)) := ⟨by unfold ansPairingOfTree; rw [hx]; rfl⟩
    rw [hx] at HM
    clear hx
    go_enter Try.func22, Try.ntmps22
    go_wp2_with (first | (go_at_call 49; rw [← hw1]; clear hw1; refine HM.out.mono ?_; rintro e w2 ⟨rfl, hb⟩; have HB2 := Aside0.mk hb; clear hb))
    go_ret2
    exact ⟨_, by rw [HA.out]; rfl, by rw [HA.out]; exact OwnP.nil _ _, HB.out.trans (HB2.out.mono HB.out.size)⟩
  | true =>
    obtain ⟨n, rfl, hc⟩ := cxOk_nat hx
    rw [hx] at HM
    cases hto : treeOk n t with
    | false =>
      have HA : Aside0 (ansPairingOfTree n xs t = ([], 2)) := ⟨by unfold ansPairingOfTree; rw [hx]; show (if treeOk n t = true then _ else _) = _; rw [hto]; rfl⟩
      rw [show treeOk (n : Int).toNat t = false from hto] at HM
      clear hx hto hc
      go_enter Try.func22, Try.ntmps22
      go_wp2_with (first | (go_at_call 49; rw [← hw1]; clear hw1; refine HM.out.mono ?_; rintro e w2 ⟨rfl, hb⟩; have HB2 := Aside0.mk hb; clear hb))
      go_ret2
      exact ⟨_, by rw [HA.out]; rfl, by rw [HA.out]; exact OwnP.nil _ _, HB.out.trans (HB2.out.mono HB.out.size)⟩
    | true =>
      have HA : Aside0 (ansPairingOfTree n xs t = (sortL (potL n xs t xs), 0)) := ⟨by unfold ansPairingOfTree; rw [hx]; show (if treeOk n t = true then _ else _) = _; rw [hto]; rfl⟩
      rw [show treeOk (n : Int).toNat t = true from hto] at HM
      have HC := Aside0.mk hc
      have HTO := Aside0.mk hto
      have hn := hc.hi
      have hn1 := hc.lo
      have hxl := hc.len
      clear hx hto hc
      go_enter Try.func22, Try.ntmps22
      go_wp2_with (first | (go_at_call 49; rw [← hw1]; clear hw1; refine HM.out.mono ?_; rintro e w3 ⟨rfl, hb⟩; have HB3 := Aside0.mk hb; replace c0 := pw_cell_below hb c0; replace c1 := pw_cell_below hb c1; replace ct := pw_cell_below hb ct; clear hb))
      go_loopw [7, 22] (fun s7 s22 wr => ∃ iv : Nat, s22 = .int .i64 iv ∧ iv ≤ xs.length ∧ Aside0 (OwnP w3.heap.size wr s7 (potL n xs t (xs.take iv))) ∧ Aside0 (Below w3.heap.size w3 wr)) (fun _ s22 _ => xs.length - (intOf s22).toNat)
      case atStart => exact ⟨0, rfl, Nat.zero_le _, ⟨OwnP.nil _ _⟩, ⟨Below.refl _ _⟩⟩
      case round =>
        obtain ⟨iv, rfl, hi, HO, HBr⟩ := hrel
        have c0 := pw_cell_below HBr.out c0
        have c1 := pw_cell_below HBr.out c1
        have ct := pw_cell_below HBr.out ct
        have HBw := Aside0.mk (HB3.out.trans (HBr.out.mono HB3.out.size))
        have HPL : Aside0 ((potL n xs t (xs.take iv)).length ≤ 63) := ⟨by have h1 := potL_len n xs t (xs.take iv); rw [List.length_take] at h1; omega⟩
        by_cases hlt : iv < xs.length
        · obtain ⟨A_, c_, e_, -, hcc⟩ := HK.out.below HBw.out
          cases e_
          obtain ⟨ad, y, rfl, hcell, HY⟩ := ReadI.get hcc hlt
          obtain ⟨b, rfl, hb1, hb2⟩ := HC.out.nat (mem_at hlt HY.out)
          clear hcc
          have HWY := Aside0.mk (fun (W : World) hk hv => wayI n (.slice (some ad) xs.length d1) xs HC.out (.slice A2 t.length d2) t b (by omega) W hk hv HTO.out)
          have hb64 : b < 64 := by omega
          have hlq := last_q HC.out.lo hn HTO.out b
          have HPB : Aside0 (potB n xs t b = (b.testBit (lastQ n t b) && decide (((b ^^^ 2 ^ lastQ n t b : Nat) : Int) ∈ xs))) := ⟨rfl⟩
          have HHIT := Aside0.mk (fun h => potL_hit (n := n) (xs := xs) (t := t) hlt HY.out h)
          have HMISS := Aside0.mk (fun h => potL_miss (n := n) (xs := xs) (t := t) hlt HY.out h)
          obtain ⟨q, hq⟩ : ∃ q, q = lastQ n t b := ⟨_, rfl⟩
          rw [← hq] at hlq HPB HHIT
          obtain ⟨hlq1, hlq2⟩ := hlq
          have hsh := pow_wrap' q (by omega)
          have hpp := pow_bd q (by omega)
          have hand := and_i64 b (2 ^ q) (by omega) (by omega)
          have hxor := xor_i64 b (2 ^ q) (by omega) (by omega)
          have hnot := andNot_i64 b (2 ^ q) (by omega) (by omega)
          rw [and_bitP] at hand hnot
          obtain ⟨P, hP⟩ : ∃ P, P = 2 ^ q := ⟨_, rfl⟩
          have hP0 : P ≠ 0 := by rw [hP]; exact Nat.ne_of_gt (Nat.two_pow_pos q)
          rw [← hP] at hsh hpp hand hxor hnot HPB HHIT
          obtain ⟨lo, hlo⟩ : ∃ lo, lo = b ^^^ P := ⟨_, rfl⟩
          have hlo64 : lo < 64 := by rw [hlo]; exact Nat.xor_lt_two_pow (n := 6) (by omega) (by omega)
          rw [← hlo] at hxor HPB HHIT
          have HWL := Aside0.mk (wayL_len t b n)
          have HWG := Aside0.mk hlq1
          have hqn6 : q < 7 := by omega
          have hqI : (q : Int) < 64 := by omega
          clear hlq1 hlq2 hP hq
          cases htb : b.testBit q with
          | false =>
            rw [htb, if_neg (by decide)] at hand
            have HK2 := Aside0.mk (HMISS.out (by rw [HPB.out, htb]; rfl))
            clear htb hnot hxor hlo
            go_wp2_with (first | (go_at_call 61; refine (HWY.out _ (HK.out.below HBw.out) (HV.out.below HBw.out)).mono ?_; rintro e w5 ⟨u5, rfl, ho, hb⟩; obtain ⟨A5, c5, e5, hc5, hr5⟩ := id ho.read; rw [HWL.out] at e5; subst e5; obtain ⟨ad5, y5, rfl, hcell5, HY5⟩ := ReadI.get hr5 (i := n - 1) (by rw [HWL.out]; omega); have hy5 : y5 = (q : Int) := (HY5.out.symm.trans HWG.out); subst hy5; have HO5 := Aside0.mk (OwnP.below HO.out hb); have HB5 := Aside0.mk (HBr.out.trans (hb.mono HBr.out.size)); replace c0 := pw_cell_below hb c0; replace c1 := pw_cell_below hb c1; clear ho hb hr5 hc5))
            go_roundw
            case rel => exact ⟨iv + 1, by go_num, by omega, ⟨by rw [HK2.out]; exact HO5.out⟩, HB5⟩
            case measure => simp [intOf]; omega
          | true =>
            rw [htb, if_pos rfl] at hand hnot
            rw [← hlo] at hnot
            have hPb : ((P : Int) != 0) = true := by simpa using hP0
            cases hin : decide ((lo : Int) ∈ xs) with
            | false =>
              have HK2 := Aside0.mk (HMISS.out (by rw [HPB.out, htb, hin]; rfl))
              clear htb hxor hlo
              go_wp2_with (first | (go_at_call 61; refine (HWY.out _ (HK.out.below HBw.out) (HV.out.below HBw.out)).mono ?_; rintro e w5 ⟨u5, rfl, ho, hb⟩; obtain ⟨A5, c5, e5, hc5, hr5⟩ := id ho.read; rw [HWL.out] at e5; subst e5; obtain ⟨ad5, y5, rfl, hcell5, HY5⟩ := ReadI.get hr5 (i := n - 1) (by rw [HWL.out]; omega); have hy5 : y5 = (q : Int) := (HY5.out.symm.trans HWG.out); subst hy5; have HO5 := Aside0.mk (OwnP.below HO.out hb); have HB5 := Aside0.mk (HBr.out.trans (hb.mono HBr.out.size)); replace c0 := pw_cell_below hb c0; replace c1 := pw_cell_below hb c1; clear ho hb hr5 hc5) | (go_at_call 62; refine (has n _ xs (lo : Int) _ (HK.out.below (HB3.out.trans (HB5.out.mono HB3.out.size))) HC.out.asc (by have := HC.out.len; omega)).mono ?_; rintro e w7 ⟨rfl, hb⟩; rw [hin]; have HO7 := Aside0.mk (OwnP.below HO5.out hb); have HB7 := Aside0.mk (HB5.out.trans (hb.mono HB5.out.size)); clear hb))
              go_roundw
              case rel => exact ⟨iv + 1, by go_num, by omega, ⟨by rw [HK2.out]; exact HO7.out⟩, HB7⟩
              case measure => simp [intOf]; omega
            | true =>
              have HK2 := Aside0.mk (HHIT.out (by rw [HPB.out, htb, hin]; rfl))
              clear htb hxor hlo
              go_wp2_with (first | (go_at_call 61; refine (HWY.out _ (HK.out.below HBw.out) (HV.out.below HBw.out)).mono ?_; rintro e w5 ⟨u5, rfl, ho, hb⟩; obtain ⟨A5, c5, e5, hc5, hr5⟩ := id ho.read; rw [HWL.out] at e5; subst e5; obtain ⟨ad5, y5, rfl, hcell5, HY5⟩ := ReadI.get hr5 (i := n - 1) (by rw [HWL.out]; omega); have hy5 : y5 = (q : Int) := (HY5.out.symm.trans HWG.out); subst hy5; have HO5 := Aside0.mk (OwnP.below HO.out hb); have HB5 := Aside0.mk (HBr.out.trans (hb.mono HBr.out.size)); replace c0 := pw_cell_below hb c0; replace c1 := pw_cell_below hb c1; clear ho hb hr5 hc5) | (go_at_call 62; refine (has n _ xs (lo : Int) _ (HK.out.below (HB3.out.trans (HB5.out.mono HB3.out.size))) HC.out.asc (by have := HC.out.len; omega)).mono ?_; rintro e w7 ⟨rfl, hb⟩; rw [hin]; have HO7 := Aside0.mk (OwnP.below HO5.out hb); have HB7 := Aside0.mk (HB5.out.trans (hb.mono HB5.out.size)); clear hb) | (at_builtin; refine app_pairT (w0 := w3) w3.heap.size rfl (.tmp 51) (.tmp 57) rfl _ (potL n xs t (xs.take iv)) lo b rfl rfl HO7.out HB7.out HB7.out.size (by have := HPL.out; omega) ?_; intro v1 w6 ho hb hg hat; have HO6 := Aside0.mk ho; have HB6 := Aside0.mk hb; clear ho hb hg hat))
              go_roundw
              case rel => exact ⟨iv + 1, by go_num, by omega, ⟨by rw [HK2.out]; exact HO6.out⟩, HB6⟩
              case measure => simp [intOf]; omega
        · have e : iv = xs.length := by omega
          have HE : Aside0 (OwnP w3.heap.size wr u7 (potL n xs t xs)) := ⟨by have h := HO.out; rw [e, List.take_length] at h; exact h⟩
          have HLL : Aside0 ((potL n xs t xs).length ≤ 1000000) := ⟨Nat.le_trans (potL_len n xs t xs) (by omega)⟩
          clear e
          go_wp2_with (first | (go_at_call 63; refine (sortPairs w3.heap.size _ _ (potL n xs t xs) HE.out HLL.out).mono ?_; rintro e w7 ⟨rfl, ho, hb⟩; have HO7 := Aside0.mk (ho.lower (HB.out.trans (HB3.out.mono HB.out.size)).size); have HB7 := Aside0.mk (HBr.out.trans hb); clear ho hb))
          go_ret2
          exact ⟨_, by rw [HA.out]; rfl, by rw [HA.out]; exact HO7.out, HB.out.trans ((HB3.out.trans (HB7.out.mono HB3.out.size)).mono HB.out.size)⟩
end Go.Proofs.Ythbkboigbkadjaa.H

namespace Go.Proofs.Ythbkboigbkadjaa.H
open Go.RowKit Go.Proofs.YthbkboigbkadjaaW.PrintWords Go.Proofs.YthbkboigbkadjaaW.PrintLast Go.Proofs.YthbkboigbkadjaaW.PrintMore
set_option linter.unusedVariables false
set_option linter.unusedSimpArgs false

set_option maxRecDepth 100000 in
set_option maxHeartbeats 4000000 in
theorem specWay (n : Nat) (hn : n ≤ 6) (v : Value) (t : List Int) (h : Nat) (hh : h < 64) (w : World) (hv : ReadI w v t) (ht : treeOk n t = true) :
    Calls Try.prog 56 #[.int .i64 n, v, .int .i64 (h : Nat)] w fun e w' => ∃ u, e = .returned u ∧ OwnI w.heap.size w' u (wayL t h n) ∧ Below w.heap.size w w' := by
  obtain ⟨A2, c2, rfl, hc2, hr⟩ := id hv
  have HR := Aside0.mk hr
  have HT := Aside0.mk ht
  have HTL := Aside0.mk (tree_len ht)
  have HB0 : Aside0 (Below w.heap.size w (w.alloc (.cells #[] 2))) := ⟨Below.alloc (Below.refl _ _) (Nat.le_refl _) _⟩
  have htl : t.length ≤ 63 := by have := tree_len ht; have := (pw6 hn).2; omega
  clear hv hr ht
  go_enter Try.func56, Try.ntmps56
  go_wp2
  go_loopw [7, 8] (fun s7 s8 wr => ∃ iv : Nat, iv ≤ n ∧ s8 = .int .i64 (plc t h iv : Nat) ∧ Aside0 (OwnI w.heap.size wr s7 (wayL t h iv)) ∧ Aside0 (Below w.heap.size w wr)) (fun _ s8 _ => 200 - (intOf s8).toNat)
  case atStart => exact ⟨0, Nat.zero_le _, rfl, ⟨OwnI.empty w (Nat.le_refl _)⟩, HB0⟩
  case round =>
    obtain ⟨iv, hi, rfl, HO, HB⟩ := hrel
    have hlw := wayL_len t h iv
    obtain ⟨A8, d8, e8, -⟩ := HO.out.read
    rw [hlw] at e8
    subst e8
    have hp1 : plc t h iv < 200 := by have h1 := (plc_bd t h iv).2; have h2 : 2 ^ (iv + 1) ≤ 2 ^ 7 := Nat.pow_le_pow_right (by omega) (by omega); have : (2 : Nat) ^ 7 = 128 := rfl; omega
    clear hlw
    by_cases hlt : iv < n
    · have hpl := plc_in hn t h iv hlt
      have hqi := tree_in HT.out (p := plc t h iv) hpl.1 hpl.2.1
      have HYES := Aside0.mk (fun hb => plc_yes (t := t) (h := h) (i := iv) hb)
      have HNOT := Aside0.mk (fun hb => plc_no (t := t) (h := h) (i := iv) hb)
      have HWS := Aside0.mk (wayL_succ t h iv)
      obtain ⟨P, hPP⟩ : ∃ P, P = plc t h iv := ⟨_, rfl⟩
      rw [← hPP] at hpl hqi HYES HNOT HWS hp1 ⊢
      obtain ⟨q, hqq⟩ : ∃ q, q = qN t P := ⟨_, rfl⟩
      rw [← hqq] at hqi HYES HNOT
      obtain ⟨_, _, hq1, hq2⟩ := hqi
      have hP3 : ((P : Int) - 1).toNat = P - 1 := by omega
      have hP1 : (0 : Int) ≤ (P : Int) - 1 := by omega
      have hPt : P - 1 < t.length := by have := HTL.out; omega
      have hP2 : (P : Int) - 1 < (t.length : Int) := by omega
      obtain ⟨ad, y0, rfl, hcell, hY0⟩ := ReadI.get (Kd.C_below HR.out HB.out) hPt
      have hyq : y0 = (q : Int) := by rw [← hq1]; exact hY0.out.symm
      subst hyq
      have hbit := bit_of h q (lt_big hh)
      have hqn : q < n := hq2
      have HPP := Aside0.mk hPP
      have HQ1 := Aside0.mk hq1
      clear hPP hqq hY0 hq1 hq2
      cases hbt : h.testBit q with
      | false =>
        have HN1 := Aside0.mk (HNOT.out hbt)
        rw [hbt, if_neg (by decide)] at hbit
        clear hbt
        go_wp2_with (first | (at_builtin; refine app_own (w0 := w) w.heap.size rfl (.tmp 20) (.tmp 22) rfl _ (wayL t h iv) (q : Int) rfl rfl HO.out HB.out HB.out.size (by rw [wayL_len]; omega) ?_; intro v1 w6 ho hb hg hat; have HO6 := Aside0.mk ho; have HB6 := Aside0.mk hb; clear ho hb hg hat))
        go_roundw
        case rel => exact ⟨iv + 1, by omega, by rw [HN1.out]; go_num, by rw [HWS.out, HQ1.out]; exact HO6, HB6⟩
        case measure => have := HPP.out; simp [intOf]; omega
      | true =>
        have HN1 := Aside0.mk (HYES.out hbt)
        rw [hbt, if_pos rfl] at hbit
        clear hbt
        go_wp2_with (first | (at_builtin; refine app_own (w0 := w) w.heap.size rfl (.tmp 20) (.tmp 22) rfl _ (wayL t h iv) (q : Int) rfl rfl HO.out HB.out HB.out.size (by rw [wayL_len]; omega) ?_; intro v1 w6 ho hb hg hat; have HO6 := Aside0.mk ho; have HB6 := Aside0.mk hb; clear ho hb hg hat))
        go_roundw
        case rel => exact ⟨iv + 1, by omega, by rw [HN1.out]; go_num, by rw [HWS.out, HQ1.out]; exact HO6, HB6⟩
        case measure => have := HPP.out; simp [intOf]; omega
    · have e : iv = n := by omega
      have HE := Aside0.mk e
      clear e
      go_wp2
      go_ret
      exact ⟨_, rfl, by rw [show wayL t h n = wayL t h iv from by rw [HE.out]]; exact HO.out, HB.out⟩

set_option maxRecDepth 100000 in
set_option maxHeartbeats 4000000 in
theorem specNeeded (n : Nat) (hn : n ≤ 6) (ku : Value) (xs : List Int) (v : Value) (t : List Int) (h : Nat) (hh : h < 64) (w : World) (hk : ReadI w ku xs) (hv : ReadI w v t) (ht : treeOk n t = true) :
    Calls Try.prog 102 #[cx n ku, v, .int .i64 (h : Nat)] w fun e w' => e = .returned (.int .i64 (neededV n xs t h : Nat)) ∧ Below w.heap.size w w' := by
  obtain ⟨w1, hw1⟩ : ∃ w1, w1 = w.alloc (.cells #[.int .i64 n, ku] 28) := ⟨_, rfl⟩
  have hB : Below w.heap.size w w1 := by rw [hw1]; exact Below.alloc (Below.refl _ _) (Nat.le_refl _) _
  have c0 : w1.cell? ⟨w.heap.size, 0, none⟩ = some (.int .i64 n) := by rw [hw1]; simp
  have c1 : w1.cell? ⟨w.heap.size, 1, none⟩ = some ku := by rw [hw1]; simp
  have HB := Aside0.mk hB
  have HK := Aside0.mk (hk.below hB)
  have HT := Aside0.mk ht
  have HWY := Aside0.mk (specWay n hn v t h hh w1 (hv.below hB) ht)
  obtain ⟨A1, d1, rfl, -⟩ := id hk
  obtain ⟨A2, d2, rfl, -⟩ := id hv
  have hwl := wayL_len t h n
  have HWL := Aside0.mk hwl
  clear hk hv hB ht hwl
  go_enter Try.func102, Try.ntmps102
  go_wp2_with (first | (go_at_call 56; rw [← hw1]; clear hw1; refine HWY.out.mono ?_; rintro e w2 ⟨u, rfl, ho, hb⟩; obtain ⟨A3, d3, rfl, hd3, hr3⟩ := ho.read; rw [HWL.out]; have HR3 := Aside0.mk hr3; have HB2 := Aside0.mk hb; replace c0 := pw_cell_below hb c0; replace c1 := pw_cell_below hb c1; clear ho hb hr3 hd3))
  have HK2 := Aside0.mk (HK.out.below HB2.out)
  go_loopw [8, 9, 10] (fun s8 s9 s10 wr => ∃ iv : Nat, iv ≤ n ∧ s10 = .int .i64 iv ∧ s8 = .int .i64 (yess t h iv : Nat) ∧ s9 = .int .i64 (noes t h iv : Nat) ∧ Aside0 (∀ j, j < iv → toldAt n xs t h j = false) ∧ Aside0 (Below w2.heap.size w2 wr)) (fun _ _ s10 _ => n - (intOf s10).toNat)
  case atStart => exact ⟨0, Nat.zero_le _, rfl, rfl, rfl, ⟨fun j hj => absurd hj (Nat.not_lt_zero _)⟩, ⟨Below.refl _ _⟩⟩
  case round =>
    obtain ⟨iv, hi, rfl, rfl, rfl, HN, HBr⟩ := hrel
    have c0 := pw_cell_below HBr.out c0
    have c1 := pw_cell_below HBr.out c1
    have HBw := Aside0.mk (HB2.out.trans (HBr.out.mono HB2.out.size))
    by_cases hlt : iv < n
    · have hpp := (way_pl HT.out h iv hi).1.lt hn
      have hpl := plc_in hn t h iv hlt
      have hqi := tree_in HT.out (p := plc t h iv) hpl.1 hpl.2.1
      have HTO := Aside0.mk (fun (W : World) hr => specTold n hn (.slice A1 xs.length d1) xs (yess t h iv) (noes t h iv) hpp.1 hpp.2 W hr)
      have HTA : Aside0 (toldAt n xs t h iv = decide (0 ≤ toldV n xs (yess t h iv) (noes t h iv))) := ⟨rfl⟩
      have HYES := Aside0.mk (fun hb => And.intro (yess_yes (t := t) (h := h) (i := iv) hb) (noes_yes (t := t) (h := h) (i := iv) hb))
      have HNOT := Aside0.mk (fun hb => And.intro (yess_no (t := t) (h := h) (i := iv) hb) (noes_no (t := t) (h := h) (i := iv) hb))
      have hle3 : iv < (wayL t h n).length := by rw [HWL.out]; exact hlt
      have hgw : (wayL t h n).getD iv 0 = qAt t (plc t h iv) := by unfold wayL; simp [List.getD_eq_getElem?_getD, hlt]
      obtain ⟨ad, y0, rfl, hcell, hY0⟩ := ReadI.get (Kd.C_below HR3.out HBr.out) hle3
      obtain ⟨q, hqq⟩ : ∃ q, q = qN t (plc t h iv) := ⟨_, rfl⟩
      rw [← hqq] at hqi HYES HNOT
      obtain ⟨_, _, hq1, hq2⟩ := hqi
      have hyq : y0 = (q : Int) := by rw [← hq1, ← hgw]; exact hY0.out.symm
      subst hyq
      obtain ⟨Y, hYY⟩ : ∃ Y, Y = yess t h iv := ⟨_, rfl⟩
      obtain ⟨Z, hZZ⟩ : ∃ Z, Z = noes t h iv := ⟨_, rfl⟩
      rw [← hYY] at hpp HTO HTA HYES HNOT ⊢
      rw [← hZZ] at hpp HTO HTA HYES HNOT ⊢
      obtain ⟨T, hTT⟩ : ∃ T, T = toldV n xs Y Z := ⟨_, rfl⟩
      rw [← hTT] at HTO HTA
      clear hTT hYY hZZ hqq hgw hY0 hle3 hq1 hpl
      by_cases ht : 0 ≤ T
      · have HF : Aside0 (neededV n xs t h = iv) := ⟨firstTold_hit hlt HN.out (by rw [HTA.out]; exact decide_eq_true ht)⟩
        go_wp2_with (first | (go_at_call 152; refine (HTO.out _ (HK2.out.below HBr.out)).mono ?_; rintro e w3 ⟨rfl, hb⟩; have HB3 := Aside0.mk (HBw.out.trans (hb.mono HBw.out.size)); clear hb))
        go_ret
        exact ⟨by rw [HF.out]; rfl, HB.out.trans (HB3.out.mono HB.out.size)⟩
      · have ht' : T < 0 := by omega
        have HN2 : Aside0 (∀ j, j < iv + 1 → toldAt n xs t h j = false) := ⟨fun j hj => by
          rcases Nat.lt_succ_iff_lt_or_eq.1 hj with h1 | rfl
          · exact HN.out j h1
          · rw [HTA.out]; exact decide_eq_false ht⟩
        have hsh := pow_wrap q (by omega)
        have hV := pow_lt64 (v := q) (by omega)
        have hap := and_pow h q
        have hpb := Nat.two_pow_pos q
        obtain ⟨V, hVV⟩ : ∃ V, V = 2 ^ q := ⟨_, rfl⟩
        rw [← hVV] at hsh hV hap hpb HYES HNOT
        have hand := and_i64 h V (lt_big hh) (lt_big hV)
        have ho1 := or_i64 Y V (lt_big hpp.1) (lt_big hV)
        have ho2 := or_i64 Z V (lt_big hpp.2) (lt_big hV)
        have hne := ne_zero_nat hpb
        clear hVV ht
        cases hbt : h.testBit q with
        | true =>
          obtain ⟨hy1, hz1⟩ := HYES.out hbt
          rw [hbt, if_pos rfl] at hap
          rw [hap] at hand
          have hbne : ((V : Int) != 0) = true := by rw [bne, hne]; rfl
          have HY1 := Aside0.mk hy1
          have HZ1 := Aside0.mk hz1
          clear hbt hap hy1 hz1
          go_wp2_with (first | (go_at_call 152; refine (HTO.out _ (HK2.out.below HBr.out)).mono ?_; rintro e w3 ⟨rfl, hb⟩; have HB3 := Aside0.mk (HBr.out.trans (hb.mono HBr.out.size)); replace c0 := pw_cell_below hb c0; replace c1 := pw_cell_below hb c1; replace hcell := pw_cell_below hb hcell; clear hb))
          go_roundw
          case rel => exact ⟨iv + 1, by omega, by go_num, by rw [HY1.out], by rw [HZ1.out], HN2, HB3⟩
          case measure => simp [intOf]; omega
        | false =>
          obtain ⟨hy1, hz1⟩ := HNOT.out hbt
          rw [hbt, if_neg (by decide)] at hap
          rw [hap] at hand
          have HY1 := Aside0.mk hy1
          have HZ1 := Aside0.mk hz1
          clear hbt hap hy1 hz1
          go_wp2_with (first | (go_at_call 152; refine (HTO.out _ (HK2.out.below HBr.out)).mono ?_; rintro e w3 ⟨rfl, hb⟩; have HB3 := Aside0.mk (HBr.out.trans (hb.mono HBr.out.size)); replace c0 := pw_cell_below hb c0; replace c1 := pw_cell_below hb c1; replace hcell := pw_cell_below hb hcell; clear hb))
          go_roundw
          case rel => exact ⟨iv + 1, by omega, by go_num, by rw [HY1.out], by rw [HZ1.out], HN2, HB3⟩
          case measure => simp [intOf]; omega
    · have e : iv = n := by omega
      have HF : Aside0 (neededV n xs t h = n) := ⟨firstTold_none (fun j hj => HN.out j (by omega))⟩
      clear e
      go_wp2
      go_ret
      exact ⟨by rw [HF.out]; rfl, HB.out.trans (HBw.out.mono HB.out.size)⟩

set_option maxRecDepth 100000 in
set_option maxHeartbeats 1000000 in
theorem specTreeCode (a : Int) (ku : Value) (xs : List Int) (v : Value) (t : List Int) (w : World) (hk : ReadI w ku xs) (hv : ReadI w v t) :
    Calls Try.prog 55 #[cx a ku, v] w fun e w' => e = .returned (.int .i64 (if cxOk a xs then (if treeOk a.toNat t then 0 else 2) else 1)) ∧ Below w.heap.size w w' := by
  obtain ⟨cd, hcd⟩ : ∃ cd : Int, cd = (if cxOk a xs then (if treeOk a.toNat t then 0 else 2) else 1) := ⟨_, rfl⟩
  rw [← hcd]
  obtain ⟨w1, hw1⟩ : ∃ w1, w1 = w.alloc (.cells #[.int .i64 a, ku] 28) := ⟨_, rfl⟩
  have hB : Below w.heap.size w w1 := by rw [hw1]; exact Below.alloc (Below.refl _ _) (Nat.le_refl _) _
  have c0 : w1.cell? ⟨w.heap.size, 0, none⟩ = some (.int .i64 a) := by rw [hw1]; simp
  have c1 : w1.cell? ⟨w.heap.size, 1, none⟩ = some ku := by rw [hw1]; simp
  have HB := Aside0.mk hB
  have HV := Aside0.mk (hv.below hB)
  have HM := Aside0.mk (specIs a ku xs w1 (hk.below hB))
  obtain ⟨A1, d1, rfl, -⟩ := id hk
  obtain ⟨A2, d2, rfl, -⟩ := id hv
  clear hk hv hB
  cases hx : cxOk a xs with
  | false =>
    rw [hx] at HM hcd
    have HCD : Aside0 (cd = 1) := ⟨hcd⟩
    clear hx hcd
    go_enter Try.func55, Try.ntmps55
    go_wp2_with (first | (go_at_call 47; rw [← hw1]; clear hw1; refine HM.out.mono ?_; rintro e w2 ⟨rfl, hb⟩; have HB2 := Aside0.mk hb; clear hb))
    go_ret
    exact ⟨by rw [HCD.out]; rfl, HB.out.trans (HB2.out.mono HB.out.size)⟩
  | true =>
    obtain ⟨n, rfl, hc⟩ := cxOk_nat hx
    rw [hx] at HM hcd
    have HTR := Aside0.mk (fun W hr => specTree (.slice A2 t.length d2) t n ⟨hc.lo, hc.hi⟩ W hr)
    have hcd2 : cd = if treeOk n t then 0 else 2 := hcd
    clear hx hc hcd
    cases hto : treeOk n t with
    | true =>
      rw [hto] at HTR hcd2
      have HCD : Aside0 (cd = 0) := ⟨hcd2⟩
      clear hto hcd2
      go_enter Try.func55, Try.ntmps55
      go_wp2_with (first | (go_at_call 47; rw [← hw1]; clear hw1; refine HM.out.mono ?_; rintro e w2 ⟨rfl, hb⟩; have HB2 := Aside0.mk hb; replace c0 := pw_cell_below hb c0; clear hb) | (go_at_call 117; refine (HTR.out _ (HV.out.below HB2.out)).mono ?_; rintro e w3 ⟨rfl, hb⟩; have HB3 := Aside0.mk (HB2.out.trans (hb.mono HB2.out.size)); clear hb))
      go_ret
      exact ⟨by rw [HCD.out]; rfl, HB.out.trans (HB3.out.mono HB.out.size)⟩
    | false =>
      rw [hto] at HTR hcd2
      have HCD : Aside0 (cd = 2) := ⟨hcd2⟩
      clear hto hcd2
      go_enter Try.func55, Try.ntmps55
      go_wp2_with (first | (go_at_call 47; rw [← hw1]; clear hw1; refine HM.out.mono ?_; rintro e w2 ⟨rfl, hb⟩; have HB2 := Aside0.mk hb; replace c0 := pw_cell_below hb c0; clear hb) | (go_at_call 117; refine (HTR.out _ (HV.out.below HB2.out)).mono ?_; rintro e w3 ⟨rfl, hb⟩; have HB3 := Aside0.mk (HB2.out.trans (hb.mono HB2.out.size)); clear hb))
      go_ret
      exact ⟨by rw [HCD.out]; rfl, HB.out.trans (HB3.out.mono HB.out.size)⟩
end Go.Proofs.Ythbkboigbkadjaa.H
