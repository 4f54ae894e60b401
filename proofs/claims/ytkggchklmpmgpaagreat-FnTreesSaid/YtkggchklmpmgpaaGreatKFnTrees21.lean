/- PairingOfTree of the program. Ways and questions needed, of the reference. PairingOfTree of the reference. -/
import Derived.Test.YtkggchklmpmgpaaGreatKFnTrees1
import Derived.Test.YtkggchklmpmgpaaGreatKFnTrees2
import Derived.Test.YtkggchklmpmgpaaGreatKFnTrees3
import Derived.Test.YtkggchklmpmgpaaGreatKFnTrees4
import Derived.Test.YtkggchklmpmgpaaGreatKFnTrees5
import Derived.Test.YtkggchklmpmgpaaGreatKFnTrees6
import Derived.Test.YtkggchklmpmgpaaGreatKFnTrees7
import Derived.Test.YtkggchklmpmgpaaGreatKFnTrees8
import Derived.Test.YtkggchklmpmgpaaGreatKFnTrees9
import Derived.Test.YtkggchklmpmgpaaGreatKFnTrees10
import Derived.Test.YtkggchklmpmgpaaGreatKFnTrees11
import Derived.Test.YtkggchklmpmgpaaGreatKFnTrees12
import Derived.Test.YtkggchklmpmgpaaGreatKFnTrees13
import Derived.Test.YtkggchklmpmgpaaGreatKFnTrees14
import Derived.Test.YtkggchklmpmgpaaGreatKFnTrees15
import Derived.Test.YtkggchklmpmgpaaGreatKFnTrees16
import Derived.Test.YtkggchklmpmgpaaGreatKFnTrees17
import Derived.Test.YtkggchklmpmgpaaGreatKFnTrees18
import Derived.Test.YtkggchklmpmgpaaGreatKFnTrees19
import Derived.Test.YtkggchklmpmgpaaGreatKFnTrees20

namespace Go.Proofs.YtkggchklmpmgpaaGreat.H
open Go.RowKit Go.Proofs.YtkggchklmpmgpaaGreatW.PrintWords Go.Proofs.YtkggchklmpmgpaaGreatW.PrintLast
set_option linter.unusedVariables false
set_option linter.unusedSimpArgs false
section
variable {P : Program} {ops : Array Oper} {rest : List Oper} {o : Oper} {a : Act} {Q : Exit → Act → World → Prop}
/-- append(v, Pair) -/
theorem app_pairT {w0 W : World} (base : Nat) (hgd : o.guard = none) (s x : Operand) (ho : o.op = .call { callee := .builtin .append, args := #[s, x], argTypes := #[51, 51] })
  (v : Value) (ps : List (Int × Int)) (p q : Int) (hs : a.eval s = v) (hx : a.eval x = .slice (some ⟨W.heap.size, 0, none⟩) 1 1)
  (HO : OwnP base W v ps) (HB : Below base w0 W) (hbase : base ≤ W.heap.size) (hl : ps.length < 1000000)
  (h : ∀ v1 w1, OwnP base w1 v1 (ps ++ [(p, q)]) → Below base w0 w1 → W.grownBy w1 v.ownBlock → (v1.ownBlock = v.ownBlock ∨ ∃ b, v1.ownBlock = some b ∧ W.heap.size ≤ b) → wpList Tryz.prog ops Q rest (a.put o.dst v1) w1) :
  wpList Tryz.prog ops Q (o :: rest) a (W.alloc (.cells #[.int .i64 p, .int .i64 q] 83)) := by
 refine print_append_cells base hgd s x 51 83 (.agg #[.int .i64 0, .int .i64 0]) 2 16 ho Tryz.underlying51 infoQ rfl (by decide) (by decide) v ps.length ((flat ps).map (Value.int .i64)) [.int .i64 p, .int .i64 q] hs hx rfl (fun u hu => ?_) HO HB hbase (by omega) ?_
 ·rcases List.mem_cons.1 hu with rfl | hu
  ·rfl
  ·rcases List.mem_cons.1 hu with rfl | hu
   ·rfl
   ·cases hu
 ·intro v1 w1 h1 h2 h3 h4
  refine h v1 w1 ?_ h2 h3 h4
  unfold OwnP
  rw [List.length_append, List.length_singleton, flat_snoc, List.map_append]
  exact h1
end
set_option maxHeartbeats 1000000 in
theorem pairingOfTree1 (w : World) (bk bt : Nat) (n : Nat) (hn : 1 ≤ n ∧ n ≤ 6) (v : Value) (t : List Int) (hv : ReadI w v t) (h0 : w.cell? ⟨bk, 0, none⟩ = some (.int .i64 n)) (h1 : w.cell? ⟨bt, 0, none⟩ = some v) :
  ThunkB w (.func (.func 207) #[] #[.pointer (some ⟨bk, 0, none⟩), .pointer (some ⟨bt, 0, none⟩)]) (treeOk n t) := by
 refine ⟨_, _, _, rfl, Enters.mk' Tryz.func207 rfl rfl, fun w1 hb => ?_⟩
 have c0 := pw_cell_below hb h0
 have c1 := pw_cell_below hb h1
 have HV := Aside0.mk (hv.below hb)
 obtain ⟨A2, d2, rfl, -⟩ := id hv
 clear hb h0 h1 hv
 show Calls _ _ #[_, _] _ _
 go_enter Tryz.func207, Tryz.ntmps207
 go_wp2_with (first | (go_at_call 208; refine (isTree _ t n hn _ HV.out).mono ?_; rintro e w4 ⟨rfl, hb4⟩))
 go_ret
 exact ⟨rfl, hb4⟩
set_option maxRecDepth 100000 in
set_option maxHeartbeats 4000000 in
theorem implPairingOfTree (a : Int) (ku : Value) (xs : List Int) (v : Value) (t : List Int) (w : World) (hk : ReadI w ku xs) (hv : ReadI w v t) :
  Calls Tryz.prog 53 #[cx a ku, v] w fun e w' => ∃ u, e = .returned (.tuple #[u, .int .i64 (ansPairingOfTree a xs t).2]) ∧ OwnP w.heap.size w' u (ansPairingOfTree a xs t).1 ∧ Below w.heap.size w w' := by
 obtain ⟨wb, hwb⟩ : ∃ wb, wb = w.alloc (.cells #[.int .i64 a, ku] 26) := ⟨_, rfl⟩
 obtain ⟨w1, hw1⟩ : ∃ w1, w1 = wb.alloc (.cells #[v] 24) := ⟨_, rfl⟩
 have hsb : wb.heap.size = w.heap.size + 1 := by rw [hwb]; simp
 have hBb : Below w.heap.size w wb := by rw [hwb]; exact Below.alloc (Below.refl _ _) (Nat.le_refl _) _
 have hB1 : Below wb.heap.size wb w1 := by rw [hw1]; exact Below.alloc (Below.refl _ _) (Nat.le_refl _) _
 have hB : Below w.heap.size w w1 := hBb.trans (hB1.mono hBb.size)
 have c0 : w1.cell? ⟨w.heap.size, 0, none⟩ = some (.int .i64 a) := pw_cell_below hB1 (by rw [hwb]; simp)
 have c1 : w1.cell? ⟨w.heap.size, 1, none⟩ = some ku := pw_cell_below hB1 (by rw [hwb]; simp)
 have ct : w1.cell? ⟨w.heap.size + 1, 0, none⟩ = some v := by rw [hw1, ← hsb]; exact new_cell _ _ _ 0 _ rfl
 have HB := Aside0.mk hB
 have HK := Aside0.mk (hk.below hB)
 have HV := Aside0.mk (hv.below hB)
 have HM := Aside0.mk (complexCode2 a ku xs (.func (.func 207) #[] #[.pointer (some ⟨w.heap.size, 0, none⟩), .pointer (some ⟨w.heap.size + 1, 0, none⟩)]) (treeOk a.toNat t) w1 HK.out (fun h => by
  obtain ⟨n, rfl, hc⟩ := cxOk_nat h
  exact pairingOfTree1 w1 _ _ n ⟨hc.lo, hc.hi⟩ v t HV.out c0 ct) ⟨_, _, _, rfl⟩)
 obtain ⟨A1, d1, rfl, -⟩ := id hk
 obtain ⟨A2, d2, rfl, -⟩ := id hv
 subst hwb
 clear hk hv hsb hBb hB1 hB
 cases hx : cxOk a xs with
 | false =>
  have HA : Aside0 (ansPairingOfTree a xs t = ([], 1)) := ⟨by unfold ansPairingOfTree; rw [hx]; rfl⟩
  rw [hx] at HM
  clear hx
  go_enter Tryz.func53, Tryz.ntmps53
  go_wp2_with (first | (go_at_call 188; rw [← hw1]; clear hw1; refine HM.out.mono ?_; rintro e w2 ⟨rfl, hb⟩; have HB2 := Aside0.mk hb; clear hb))
  go_ret2
  exact ⟨_, by rw [HA.out]; rfl, by rw [HA.out]; exact OwnP.nil _ _, HB.out.trans (HB2.out.mono HB.out.size)⟩
 | true =>
  obtain ⟨n, rfl, hc⟩ := cxOk_nat hx
  rw [hx] at HM
  cases hto : treeOk n t with
  | false =>
   have HA : Aside0 (ansPairingOfTree n xs t = ([], 2)) := ⟨by unfold ansPairingOfTree; rw [hx]; show (if treeOk n t = true then _ else _) = _; rw [hto]; rfl⟩
   rw [show treeOk (n : Int).toNat t = false from hto] at HM
   clear hx hto hc
   go_enter Tryz.func53, Tryz.ntmps53
   go_wp2_with (first | (go_at_call 188; rw [← hw1]; clear hw1; refine HM.out.mono ?_; rintro e w2 ⟨rfl, hb⟩; have HB2 := Aside0.mk hb; clear hb))
   go_ret2
   exact ⟨_, by rw [HA.out]; rfl, by rw [HA.out]; exact OwnP.nil _ _, HB.out.trans (HB2.out.mono HB.out.size)⟩
  | true =>
   have HA : Aside0 (ansPairingOfTree n xs t = (sortL (potL n xs t xs), 0)) := ⟨by unfold ansPairingOfTree; rw [hx]; show (if treeOk n t = true then _ else _) = _; rw [hto]; rfl⟩
   rw [show treeOk (n : Int).toNat t = true from hto] at HM
   have HC := Aside0.mk hc
   have HTO := Aside0.mk hto
   have hn := hc.hi
   have hn1 := hc.lo
   have hxl := hc.len
   clear hx hto hc
   go_enter Tryz.func53, Tryz.ntmps53
   go_wp2_with (first | (go_at_call 188; rw [← hw1]; clear hw1; refine HM.out.mono ?_; rintro e w3 ⟨rfl, hb⟩; have HB3 := Aside0.mk hb; replace c0 := pw_cell_below hb c0; replace c1 := pw_cell_below hb c1; replace ct := pw_cell_below hb ct; clear hb))
   go_loopw [7, 22] (fun s7 s22 wr => ∃ iv : Nat, s22 = .int .i64 iv ∧ iv ≤ xs.length ∧ Aside0 (OwnP w3.heap.size wr s7 (potL n xs t (xs.take iv))) ∧ Aside0 (Below w3.heap.size w3 wr)) (fun _ s22 _ => xs.length - (intOf s22).toNat)
   case atStart => exact ⟨0, rfl, Nat.zero_le _, ⟨OwnP.nil _ _⟩, ⟨Below.refl _ _⟩⟩
   case round =>
    obtain ⟨iv, rfl, hi, HO, HBr⟩ := hrel
    have c0 := pw_cell_below HBr.out c0
    have c1 := pw_cell_below HBr.out c1
    have ct := pw_cell_below HBr.out ct
    have HBw := Aside0.mk (HB3.out.trans (HBr.out.mono HB3.out.size))
    have HPL : Aside0 ((potL n xs t (xs.take iv)).length ≤ 63) := ⟨by have h1 := potL_len n xs t (xs.take iv); rw [List.length_take] at h1; omega⟩
    by_cases hlt : iv < xs.length
    ·obtain ⟨A_, c_, e_, -, hcc⟩ := HK.out.below HBw.out
     cases e_
     obtain ⟨ad, y, rfl, hcell, HY⟩ := ReadI.get hcc hlt
     obtain ⟨b, rfl, hb1, hb2⟩ := HC.out.nat (mem_at hlt HY.out)
     clear hcc
     have HWY := Aside0.mk (fun (W : World) hk hv => wayI n (.slice (some ad) xs.length d1) xs HC.out (.slice A2 t.length d2) t b (by omega) W hk hv HTO.out)
     have hb64 : b < 64 := by omega
     have hlq := last_q HC.out.lo hn HTO.out b
     have HPB : Aside0 (potB n xs t b = (b.testBit (lastQ n t b) && decide (((b ^^^ 2 ^ lastQ n t b : Nat) : Int) ∈ xs))) := ⟨rfl⟩
     have HHIT := Aside0.mk (fun h => potL_hit (n := n) (xs := xs) (t := t) hlt HY.out h)
     have HMISS := Aside0.mk (fun h => potL_miss (n := n) (xs := xs) (t := t) hlt HY.out h)
     obtain ⟨q, hq⟩ : ∃ q, q = lastQ n t b := ⟨_, rfl⟩
     rw [← hq] at hlq HPB HHIT
     obtain ⟨hlq1, hlq2⟩ := hlq
     have hsh := pow_wrap' q (by omega)
     have hpp := pow_bd q (by omega)
     have hand := and_i64 b (2 ^ q) (by omega) (by omega)
     have hxor := xor_i64 b (2 ^ q) (by omega) (by omega)
     have hnot := andNot_i64 b (2 ^ q) (by omega) (by omega)
     rw [and_bitP] at hand hnot
     obtain ⟨P, hP⟩ : ∃ P, P = 2 ^ q := ⟨_, rfl⟩
     have hP0 : P ≠ 0 := by rw [hP]; exact Nat.ne_of_gt (Nat.two_pow_pos q)
     rw [← hP] at hsh hpp hand hxor hnot HPB HHIT
     obtain ⟨lo, hlo⟩ : ∃ lo, lo = b ^^^ P := ⟨_, rfl⟩
     have hlo64 : lo < 64 := by rw [hlo]; exact Nat.xor_lt_two_pow (n := 6) (by omega) (by omega)
     rw [← hlo] at hxor HPB HHIT
     have HWL := Aside0.mk (wayL_len t b n)
     have HWG := Aside0.mk hlq1
     have hqn6 : q < 7 := by omega
     have hqI : (q : Int) < 64 := by omega
     clear hlq1 hlq2 hP hq
     cases htb : b.testBit q with
     | false =>
      rw [htb, if_neg (by decide)] at hand
      have HK2 := Aside0.mk (HMISS.out (by rw [HPB.out, htb]; rfl))
      clear htb hnot hxor hlo
      go_wp2_with (first | (go_at_call 209; refine (HWY.out _ (HK.out.below HBw.out) (HV.out.below HBw.out)).mono ?_; rintro e w5 ⟨u5, rfl, ho, hb⟩; obtain ⟨A5, c5, e5, hc5, hr5⟩ := id ho.read; rw [HWL.out] at e5; subst e5; obtain ⟨ad5, y5, rfl, hcell5, HY5⟩ := ReadI.get hr5 (i := n - 1) (by rw [HWL.out]; omega); have hy5 : y5 = (q : Int) := (HY5.out.symm.trans HWG.out); subst hy5; have HO5 := Aside0.mk (OwnP.below HO.out hb); have HB5 := Aside0.mk (HBr.out.trans (hb.mono HBr.out.size)); replace c0 := pw_cell_below hb c0; replace c1 := pw_cell_below hb c1; clear ho hb hr5 hc5))
      go_roundw
      case rel => exact ⟨iv + 1, by go_num, by omega, ⟨by rw [HK2.out]; exact HO5.out⟩, HB5⟩
      case measure => simp [intOf]; omega
     | true =>
      rw [htb, if_pos rfl] at hand hnot
      rw [← hlo] at hnot
      have hPb : ((P : Int) != 0) = true := by simpa using hP0
      cases hin : decide ((lo : Int) ∈ xs) with
      | false =>
       have HK2 := Aside0.mk (HMISS.out (by rw [HPB.out, htb, hin]; rfl))
       clear htb hxor hlo
       go_wp2_with (first | (go_at_call 209; refine (HWY.out _ (HK.out.below HBw.out) (HV.out.below HBw.out)).mono ?_; rintro e w5 ⟨u5, rfl, ho, hb⟩; obtain ⟨A5, c5, e5, hc5, hr5⟩ := id ho.read; rw [HWL.out] at e5; subst e5; obtain ⟨ad5, y5, rfl, hcell5, HY5⟩ := ReadI.get hr5 (i := n - 1) (by rw [HWL.out]; omega); have hy5 : y5 = (q : Int) := (HY5.out.symm.trans HWG.out); subst hy5; have HO5 := Aside0.mk (OwnP.below HO.out hb); have HB5 := Aside0.mk (HBr.out.trans (hb.mono HBr.out.size)); replace c0 := pw_cell_below hb c0; replace c1 := pw_cell_below hb c1; clear ho hb hr5 hc5) | (go_at_call 145; refine (has n _ xs (lo : Int) _ (HK.out.below (HB3.out.trans (HB5.out.mono HB3.out.size))) HC.out.asc (by have := HC.out.len; omega)).mono ?_; rintro e w7 ⟨rfl, hb⟩; rw [hin]; have HO7 := Aside0.mk (OwnP.below HO5.out hb); have HB7 := Aside0.mk (HB5.out.trans (hb.mono HB5.out.size)); clear hb))
       go_roundw
       case rel => exact ⟨iv + 1, by go_num, by omega, ⟨by rw [HK2.out]; exact HO7.out⟩, HB7⟩
       case measure => simp [intOf]; omega
      | true =>
       have HK2 := Aside0.mk (HHIT.out (by rw [HPB.out, htb, hin]; rfl))
       clear htb hxor hlo
       go_wp2_with (first | (go_at_call 209; refine (HWY.out _ (HK.out.below HBw.out) (HV.out.below HBw.out)).mono ?_; rintro e w5 ⟨u5, rfl, ho, hb⟩; obtain ⟨A5, c5, e5, hc5, hr5⟩ := id ho.read; rw [HWL.out] at e5; subst e5; obtain ⟨ad5, y5, rfl, hcell5, HY5⟩ := ReadI.get hr5 (i := n - 1) (by rw [HWL.out]; omega); have hy5 : y5 = (q : Int) := (HY5.out.symm.trans HWG.out); subst hy5; have HO5 := Aside0.mk (OwnP.below HO.out hb); have HB5 := Aside0.mk (HBr.out.trans (hb.mono HBr.out.size)); replace c0 := pw_cell_below hb c0; replace c1 := pw_cell_below hb c1; clear ho hb hr5 hc5) | (go_at_call 145; refine (has n _ xs (lo : Int) _ (HK.out.below (HB3.out.trans (HB5.out.mono HB3.out.size))) HC.out.asc (by have := HC.out.len; omega)).mono ?_; rintro e w7 ⟨rfl, hb⟩; rw [hin]; have HO7 := Aside0.mk (OwnP.below HO5.out hb); have HB7 := Aside0.mk (HB5.out.trans (hb.mono HB5.out.size)); clear hb) | (at_builtin; refine app_pairT (w0 := w3) w3.heap.size rfl (.tmp 51) (.tmp 57) rfl _ (potL n xs t (xs.take iv)) lo b rfl rfl HO7.out HB7.out HB7.out.size (by have := HPL.out; omega) ?_; intro v1 w6 ho hb hg hat; have HO6 := Aside0.mk ho; have HB6 := Aside0.mk hb; clear ho hb hg hat))
       go_roundw
       case rel => exact ⟨iv + 1, by go_num, by omega, ⟨by rw [HK2.out]; exact HO6.out⟩, HB6⟩
       case measure => simp [intOf]; omega
    ·have e : iv = xs.length := by omega
     have HE : Aside0 (OwnP w3.heap.size wr u7 (potL n xs t xs)) := ⟨by have h := HO.out; rw [e, List.take_length] at h; exact h⟩
     have HLL : Aside0 ((potL n xs t xs).length ≤ 1000000) := ⟨Nat.le_trans (potL_len n xs t xs) (by omega)⟩
     clear e
     go_wp2_with (first | (go_at_call 210; refine (sortPairs w3.heap.size _ _ (potL n xs t xs) HE.out HLL.out).mono ?_; rintro e w7 ⟨rfl, ho, hb⟩; have HO7 := Aside0.mk (ho.lower (HB.out.trans (HB3.out.mono HB.out.size)).size); have HB7 := Aside0.mk (HBr.out.trans hb); clear ho hb))
     go_ret2
     exact ⟨_, by rw [HA.out]; rfl, by rw [HA.out]; exact HO7.out, HB.out.trans ((HB3.out.trans (HB7.out.mono HB3.out.size)).mono HB.out.size)⟩
set_option maxRecDepth 100000 in
set_option maxHeartbeats 4000000 in
theorem specWay (n : Nat) (hn : n ≤ 6) (v : Value) (t : List Int) (h : Nat) (hh : h < 64) (w : World) (hv : ReadI w v t) (ht : treeOk n t = true) :
  Calls Tryz.prog 213 #[.int .i64 n, v, .int .i64 (h : Nat)] w fun e w' => ∃ u, e = .returned u ∧ OwnI w.heap.size w' u (wayL t h n) ∧ Below w.heap.size w w' := by
 obtain ⟨A2, c2, rfl, hc2, hr⟩ := id hv
 have HR := Aside0.mk hr
 have HT := Aside0.mk ht
 have HTL := Aside0.mk (tree_len ht)
 have HB0 : Aside0 (Below w.heap.size w (w.alloc (.cells #[] 2))) := ⟨Below.alloc (Below.refl _ _) (Nat.le_refl _) _⟩
 have htl : t.length ≤ 63 := by have := tree_len ht; have := (pw6 hn).2; omega
 clear hv hr ht
 go_enter Tryz.func213, Tryz.ntmps213
 go_wp2
 go_loopw [7, 8] (fun s7 s8 wr => ∃ iv : Nat, iv ≤ n ∧ s8 = .int .i64 (plc t h iv : Nat) ∧ Aside0 (OwnI w.heap.size wr s7 (wayL t h iv)) ∧ Aside0 (Below w.heap.size w wr)) (fun _ s8 _ => 200 - (intOf s8).toNat)
 case atStart => exact ⟨0, Nat.zero_le _, rfl, ⟨OwnI.empty w (Nat.le_refl _)⟩, HB0⟩
 case round =>
  obtain ⟨iv, hi, rfl, HO, HB⟩ := hrel
  have hlw := wayL_len t h iv
  obtain ⟨A8, d8, e8, -⟩ := HO.out.read
  rw [hlw] at e8
  subst e8
  have hp1 : plc t h iv < 200 := by have h1 := (plc_bd t h iv).2; have h2 : 2 ^ (iv + 1) ≤ 2 ^ 7 := Nat.pow_le_pow_right (by omega) (by omega); have : (2 : Nat) ^ 7 = 128 := rfl; omega
  clear hlw
  by_cases hlt : iv < n
  ·have hpl := plc_in hn t h iv hlt
   have hqi := tree_in HT.out (p := plc t h iv) hpl.1 hpl.2.1
   have HYES := Aside0.mk (fun hb => plc_yes (t := t) (h := h) (i := iv) hb)
   have HNOT := Aside0.mk (fun hb => plc_no (t := t) (h := h) (i := iv) hb)
   have HWS := Aside0.mk (wayL_succ t h iv)
   obtain ⟨P, hPP⟩ : ∃ P, P = plc t h iv := ⟨_, rfl⟩
   rw [← hPP] at hpl hqi HYES HNOT HWS hp1 ⊢
   obtain ⟨q, hqq⟩ : ∃ q, q = qN t P := ⟨_, rfl⟩
   rw [← hqq] at hqi HYES HNOT
   obtain ⟨_, _, hq1, hq2⟩ := hqi
   have hP3 : ((P : Int) - 1).toNat = P - 1 := by omega
   have hP1 : (0 : Int) ≤ (P : Int) - 1 := by omega
   have hPt : P - 1 < t.length := by have := HTL.out; omega
   have hP2 : (P : Int) - 1 < (t.length : Int) := by omega
   obtain ⟨ad, y0, rfl, hcell, hY0⟩ := ReadI.get (Kd.C_below HR.out HB.out) hPt
   have hyq : y0 = (q : Int) := by rw [← hq1]; exact hY0.out.symm
   subst hyq
   have hbit := bit_of h q (lt_big hh)
   have hqn : q < n := hq2
   have HPP := Aside0.mk hPP
   have HQ1 := Aside0.mk hq1
   clear hPP hqq hY0 hq1 hq2
   cases hbt : h.testBit q with
   | false =>
    have HN1 := Aside0.mk (HNOT.out hbt)
    rw [hbt, if_neg (by decide)] at hbit
    clear hbt
    go_wp2_with (first | (at_builtin; refine app_own (w0 := w) w.heap.size rfl (.tmp 20) (.tmp 22) rfl _ (wayL t h iv) (q : Int) rfl rfl HO.out HB.out HB.out.size (by rw [wayL_len]; omega) ?_; intro v1 w6 ho hb hg hat; have HO6 := Aside0.mk ho; have HB6 := Aside0.mk hb; clear ho hb hg hat))
    go_roundw
    case rel => exact ⟨iv + 1, by omega, by rw [HN1.out]; go_num, by rw [HWS.out, HQ1.out]; exact HO6, HB6⟩
    case measure => have := HPP.out; simp [intOf]; omega
   | true =>
    have HN1 := Aside0.mk (HYES.out hbt)
    rw [hbt, if_pos rfl] at hbit
    clear hbt
    go_wp2_with (first | (at_builtin; refine app_own (w0 := w) w.heap.size rfl (.tmp 20) (.tmp 22) rfl _ (wayL t h iv) (q : Int) rfl rfl HO.out HB.out HB.out.size (by rw [wayL_len]; omega) ?_; intro v1 w6 ho hb hg hat; have HO6 := Aside0.mk ho; have HB6 := Aside0.mk hb; clear ho hb hg hat))
    go_roundw
    case rel => exact ⟨iv + 1, by omega, by rw [HN1.out]; go_num, by rw [HWS.out, HQ1.out]; exact HO6, HB6⟩
    case measure => have := HPP.out; simp [intOf]; omega
  ·have e : iv = n := by omega
   have HE := Aside0.mk e
   clear e
   go_wp2
   go_ret
   exact ⟨_, rfl, by rw [show wayL t h n = wayL t h iv from by rw [HE.out]]; exact HO.out, HB.out⟩
set_option maxRecDepth 100000 in
set_option maxHeartbeats 1000000 in
theorem specTreeCode (a : Int) (ku : Value) (xs : List Int) (v : Value) (t : List Int) (w : World) (hk : ReadI w ku xs) (hv : ReadI w v t) :
  Calls Tryz.prog 212 #[cx a ku, v] w fun e w' => e = .returned (.int .i64 (if cxOk a xs then (if treeOk a.toNat t then 0 else 2) else 1)) ∧ Below w.heap.size w w' := by
 obtain ⟨cd, hcd⟩ : ∃ cd : Int, cd = (if cxOk a xs then (if treeOk a.toNat t then 0 else 2) else 1) := ⟨_, rfl⟩
 rw [← hcd]
 obtain ⟨w1, hw1⟩ : ∃ w1, w1 = w.alloc (.cells #[.int .i64 a, ku] 26) := ⟨_, rfl⟩
 have hB : Below w.heap.size w w1 := by rw [hw1]; exact Below.alloc (Below.refl _ _) (Nat.le_refl _) _
 have c0 : w1.cell? ⟨w.heap.size, 0, none⟩ = some (.int .i64 a) := by rw [hw1]; simp
 have c1 : w1.cell? ⟨w.heap.size, 1, none⟩ = some ku := by rw [hw1]; simp
 have HB := Aside0.mk hB
 have HV := Aside0.mk (hv.below hB)
 have HM := Aside0.mk (specIs a ku xs w1 (hk.below hB))
 obtain ⟨A1, d1, rfl, -⟩ := id hk
 obtain ⟨A2, d2, rfl, -⟩ := id hv
 clear hk hv hB
 cases hx : cxOk a xs with
 | false =>
  rw [hx] at HM hcd
  have HCD : Aside0 (cd = 1) := ⟨hcd⟩
  clear hx hcd
  go_enter Tryz.func212, Tryz.ntmps212
  go_wp2_with (first | (go_at_call 171; rw [← hw1]; clear hw1; refine HM.out.mono ?_; rintro e w2 ⟨rfl, hb⟩; have HB2 := Aside0.mk hb; clear hb))
  go_ret
  exact ⟨by rw [HCD.out]; rfl, HB.out.trans (HB2.out.mono HB.out.size)⟩
 | true =>
  obtain ⟨n, rfl, hc⟩ := cxOk_nat hx
  rw [hx] at HM hcd
  have HTR := Aside0.mk (fun W hr => specTree (.slice A2 t.length d2) t n ⟨hc.lo, hc.hi⟩ W hr)
  have hcd2 : cd = if treeOk n t then 0 else 2 := hcd
  clear hx hc hcd
  cases hto : treeOk n t with
  | true =>
   rw [hto] at HTR hcd2
   have HCD : Aside0 (cd = 0) := ⟨hcd2⟩
   clear hto hcd2
   go_enter Tryz.func212, Tryz.ntmps212
   go_wp2_with (first | (go_at_call 171; rw [← hw1]; clear hw1; refine HM.out.mono ?_; rintro e w2 ⟨rfl, hb⟩; have HB2 := Aside0.mk hb; replace c0 := pw_cell_below hb c0; clear hb) | (go_at_call 217; refine (HTR.out _ (HV.out.below HB2.out)).mono ?_; rintro e w3 ⟨rfl, hb⟩; have HB3 := Aside0.mk (HB2.out.trans (hb.mono HB2.out.size)); clear hb))
   go_ret
   exact ⟨by rw [HCD.out]; rfl, HB.out.trans (HB3.out.mono HB.out.size)⟩
  | false =>
   rw [hto] at HTR hcd2
   have HCD : Aside0 (cd = 2) := ⟨hcd2⟩
   clear hto hcd2
   go_enter Tryz.func212, Tryz.ntmps212
   go_wp2_with (first | (go_at_call 171; rw [← hw1]; clear hw1; refine HM.out.mono ?_; rintro e w2 ⟨rfl, hb⟩; have HB2 := Aside0.mk hb; replace c0 := pw_cell_below hb c0; clear hb) | (go_at_call 217; refine (HTR.out _ (HV.out.below HB2.out)).mono ?_; rintro e w3 ⟨rfl, hb⟩; have HB3 := Aside0.mk (HB2.out.trans (hb.mono HB2.out.size)); clear hb))
   go_ret
   exact ⟨by rw [HCD.out]; rfl, HB.out.trans (HB3.out.mono HB.out.size)⟩
set_option maxRecDepth 100000 in
set_option maxHeartbeats 4000000 in
theorem specPairingOfTree (a : Int) (ku : Value) (xs : List Int) (v : Value) (t : List Int) (w : World) (hk : ReadI w ku xs) (hv : ReadI w v t) :
  Calls Tryz.prog 54 #[cx a ku, v] w fun e w' => ∃ u, e = .returned (.tuple #[u, .int .i64 (ansPairingOfTree a xs t).2]) ∧ OwnP w.heap.size w' u (ansPairingOfTree a xs t).1 ∧ Below w.heap.size w w' := by
 obtain ⟨w1, hw1⟩ : ∃ w1, w1 = w.alloc (.cells #[.int .i64 a, ku] 26) := ⟨_, rfl⟩
 have hB : Below w.heap.size w w1 := by rw [hw1]; exact Below.alloc (Below.refl _ _) (Nat.le_refl _) _
 have c0 : w1.cell? ⟨w.heap.size, 0, none⟩ = some (.int .i64 a) := by rw [hw1]; simp
 have c1 : w1.cell? ⟨w.heap.size, 1, none⟩ = some ku := by rw [hw1]; simp
 have HB := Aside0.mk hB
 have HK := Aside0.mk (hk.below hB)
 have HV := Aside0.mk (hv.below hB)
 have HM := Aside0.mk (specTreeCode a ku xs v t w1 HK.out HV.out)
 obtain ⟨A1, d1, rfl, -⟩ := id hk
 obtain ⟨A2, d2, rfl, -⟩ := id hv
 clear hk hv hB
 have hmx : Tryz.prog.follows .mixedOrders = true := by kernel_rfl
 cases hx : cxOk a xs with
 | false =>
  have HA : Aside0 (ansPairingOfTree a xs t = ([], 1)) := ⟨by unfold ansPairingOfTree; rw [hx]; rfl⟩
  rw [hx] at HM
  clear hx
  go_enter Tryz.func54, Tryz.ntmps54
  go_wp2_with (first | (go_at_call 212; rw [← hw1]; clear hw1; refine HM.out.mono ?_; rintro e w2 ⟨rfl, hb⟩; have HB2 := Aside0.mk hb; clear hb))
  go_ret2
  exact ⟨_, by rw [HA.out]; rfl, by rw [HA.out]; exact OwnP.nil _ _, HB.out.trans (HB2.out.mono HB.out.size)⟩
 | true =>
  obtain ⟨n, rfl, hc⟩ := cxOk_nat hx
  rw [hx] at HM
  cases hto : treeOk n t with
  | false =>
   have HA : Aside0 (ansPairingOfTree n xs t = ([], 2)) := ⟨by unfold ansPairingOfTree; rw [hx]; show (if treeOk n t = true then _ else _) = _; rw [hto]; rfl⟩
   rw [show treeOk (n : Int).toNat t = false from hto] at HM
   clear hx hto hc
   go_enter Tryz.func54, Tryz.ntmps54
   go_wp2_with (first | (go_at_call 212; rw [← hw1]; clear hw1; refine HM.out.mono ?_; rintro e w2 ⟨rfl, hb⟩; have HB2 := Aside0.mk hb; clear hb))
   go_ret2
   exact ⟨_, by rw [HA.out]; rfl, by rw [HA.out]; exact OwnP.nil _ _, HB.out.trans (HB2.out.mono HB.out.size)⟩
  | true =>
   have HA : Aside0 (ansPairingOfTree n xs t = (sortL (potL n xs t xs), 0)) := ⟨by unfold ansPairingOfTree; rw [hx]; show (if treeOk n t = true then _ else _) = _; rw [hto]; rfl⟩
   rw [show treeOk (n : Int).toNat t = true from hto] at HM
   have HC := Aside0.mk hc
   have HTO := Aside0.mk hto
   have hn := hc.hi
   have hn1 := hc.lo
   have hxl := hc.len
   clear hx hto hc
   go_enter Tryz.func54, Tryz.ntmps54
   go_wp2_with (first | (go_at_call 212; rw [← hw1]; clear hw1; refine HM.out.mono ?_; rintro e w2 ⟨rfl, hb⟩; have HB2 := Aside0.mk hb; replace c0 := pw_cell_below hb c0; replace c1 := pw_cell_below hb c1; clear hb))
   go_loopw [7, 8] (fun s7 s8 wr => ∃ iv : Nat, s8 = .int .i64 iv ∧ iv ≤ xs.length ∧ Aside0 (OwnP w2.heap.size wr s7 (sortL (potL n xs t (xs.take iv)))) ∧ Aside0 (Below w2.heap.size w2 wr)) (fun _ s8 _ => xs.length - (intOf s8).toNat)
   case atStart => exact ⟨0, rfl, Nat.zero_le _, ⟨by rw [List.take_zero, show potL n xs t [] = [] from rfl, sortL_nil]; exact OwnP.empty w2 (Nat.le_refl _)⟩, ⟨Below.alloc (Below.refl _ _) (Nat.le_refl _) _⟩⟩
   case round =>
    obtain ⟨iv, rfl, hi, HO, HBr⟩ := hrel
    have c0 := pw_cell_below HBr.out c0
    have c1 := pw_cell_below HBr.out c1
    have HBw := Aside0.mk (HB2.out.trans (HBr.out.mono HB2.out.size))
    have HPL : Aside0 ((sortL (potL n xs t (xs.take iv))).length ≤ 63) := ⟨by have h1 := potL_len n xs t (xs.take iv); rw [List.length_take] at h1; rw [sortL_len]; omega⟩
    obtain ⟨A7, c7, e7, -⟩ := id HO.out.readQ
    obtain ⟨L7, hL7⟩ : ∃ L7, L7 = (sortL (potL n xs t (xs.take iv))).length := ⟨_, rfl⟩
    rw [← hL7] at e7
    subst e7
    clear hL7
    by_cases hlt : iv < xs.length
    ·obtain ⟨A_, c_, e_, -, hcc⟩ := HK.out.below HBw.out
     cases e_
     obtain ⟨ad, y, rfl, hcell, HY⟩ := ReadI.get hcc hlt
     obtain ⟨b, rfl, hb1, hb2⟩ := HC.out.nat (mem_at hlt HY.out)
     have hivI : (iv : Int) < (xs.length : Int) := by omega
     clear hcc
     have HWY := Aside0.mk (fun (W : World) hv => specWay n hn (.slice A2 t.length d2) t b (by omega) W hv HTO.out)
     have hb64 : b < 64 := by omega
     have hlq := last_q HC.out.lo hn HTO.out b
     have HPB : Aside0 (potB n xs t b = (b.testBit (lastQ n t b) && decide (((b ^^^ 2 ^ lastQ n t b : Nat) : Int) ∈ xs))) := ⟨rfl⟩
     have HHIT := Aside0.mk (fun h => potL_hit (n := n) (xs := xs) (t := t) hlt HY.out h)
     have HMISS := Aside0.mk (fun h => potL_miss (n := n) (xs := xs) (t := t) hlt HY.out h)
     obtain ⟨q, hq⟩ : ∃ q, q = lastQ n t b := ⟨_, rfl⟩
     rw [← hq] at hlq HPB HHIT
     obtain ⟨hlq1, hlq2⟩ := hlq
     have hsh := pow_wrap' q (by omega)
     have hpp := pow_bd q (by omega)
     have hand := and_i64 b (2 ^ q) (by omega) (by omega)
     have hxor := xor_i64 b (2 ^ q) (by omega) (by omega)
     have hnot := andNot_i64 b (2 ^ q) (by omega) (by omega)
     rw [and_bitP] at hand hnot
     obtain ⟨P, hP⟩ : ∃ P, P = 2 ^ q := ⟨_, rfl⟩
     have hP0 : P ≠ 0 := by rw [hP]; exact Nat.ne_of_gt (Nat.two_pow_pos q)
     rw [← hP] at hsh hpp hand hxor hnot HPB HHIT
     obtain ⟨lo, hlo⟩ : ∃ lo, lo = b ^^^ P := ⟨_, rfl⟩
     have hlo64 : lo < 64 := by rw [hlo]; exact Nat.xor_lt_two_pow (n := 6) (by omega) (by omega)
     rw [← hlo] at hxor HPB HHIT
     have HWL := Aside0.mk (wayL_len t b n)
     have HWG := Aside0.mk hlq1
     have hqn6 : q < 7 := by omega
     have hqI : (q : Int) < 64 := by omega
     clear hlq1 hlq2 hP hq
     have HXOR := Aside0.mk hxor
     go_wp2
     refine wp_region_tail 8 (fun i => match i with | 0 => fun v _ => v = .pointer (some ⟨w.heap.size, 0, none⟩) | 1 => fun v _ => v = .int .i64 (n : Int) | 2 => fun v _ => v = .slice A2 t.length d2 | 3 => fun v _ => v = .pointer (some ⟨w.heap.size, 1, none⟩) | 4 => fun v _ => v = .slice (some ad) xs.length d1 | 5 => fun v _ => v = .int .i64 (iv : Int) | 6 => fun v _ => v = .pointer (some (ad.add iv)) | 7 => fun v _ => v = .int .i64 (b : Int) | _ => fun _ _ => True)
      [0, 1, 0, 0, 8, 0, 56, 120, 255, 511] hmx (by kernel_rfl) ?st ?steps ?rest
     case st =>
      intro i v w1_ w2_ hb
      match i with
      | 0 | 1 | 2 | 3 | 4 | 5 | 6 | 7 => exact id
      | n + 8 => exact id
     case steps =>
      refine ⟨?_, ?_, ?_, ?_, ?_, ?_, ?_, ?_, trivial⟩
      ·intro s w_ hb hd R hR
       generalize hA : putAll _ 0 s _ = A
       have hR' := hR (.pointer (some ⟨w.heap.size, 0, none⟩)) _ (Below.refl _ _) rfl
       clear hR hd
       refine opGives_value ?_ hR'
       subst hA
       simp only [dsOf, List.take, List.map_cons, List.map_nil, Option.getD_some, putAll, Act.put, List.setIfInBounds_toArray, List.set_cons_zero, List.set_cons_succ]
       go_simp
      ·intro s w_ hb hd R hR
       generalize hA : putAll _ 0 s _ = A
       have e0 : s 0 = _ := hd 0 (by kernel_rfl)
       have c0 := pw_cell_below hb c0
       have hR' := hR (.int .i64 (n : Int)) _ (Below.refl _ _) rfl
       clear hR hd
       refine opGives_value ?_ hR'
       subst hA
       simp only [dsOf, List.take, List.map_cons, List.map_nil, Option.getD_some, putAll, Act.put, List.setIfInBounds_toArray, List.set_cons_zero, List.set_cons_succ]
       go_simp
      ·intro s w_ hb hd R hR
       generalize hA : putAll _ 0 s _ = A
       have hR' := hR (.slice A2 t.length d2) _ (Below.refl _ _) rfl
       clear hR hd
       refine opGives_value ?_ hR'
       subst hA
       simp only [dsOf, List.take, List.map_cons, List.map_nil, Option.getD_some, putAll, Act.put, List.setIfInBounds_toArray, List.set_cons_zero, List.set_cons_succ]
       go_simp
      ·intro s w_ hb hd R hR
       generalize hA : putAll _ 0 s _ = A
       have hR' := hR (.pointer (some ⟨w.heap.size, 1, none⟩)) _ (Below.refl _ _) rfl
       clear hR hd
       refine opGives_value ?_ hR'
       subst hA
       simp only [dsOf, List.take, List.map_cons, List.map_nil, Option.getD_some, putAll, Act.put, List.setIfInBounds_toArray, List.set_cons_zero, List.set_cons_succ]
       go_simp
      ·intro s w_ hb hd R hR
       generalize hA : putAll _ 0 s _ = A
       have e3 : s 3 = _ := hd 3 (by kernel_rfl)
       have c1 := pw_cell_below hb c1
       have hR' := hR (.slice (some ad) xs.length d1) _ (Below.refl _ _) rfl
       clear hR hd
       refine opGives_value ?_ hR'
       subst hA
       simp only [dsOf, List.take, List.map_cons, List.map_nil, Option.getD_some, putAll, Act.put, List.setIfInBounds_toArray, List.set_cons_zero, List.set_cons_succ]
       go_simp
      ·intro s w_ hb hd R hR
       generalize hA : putAll _ 0 s _ = A
       have hR' := hR (.int .i64 (iv : Int)) _ (Below.refl _ _) rfl
       clear hR hd
       refine opGives_value ?_ hR'
       subst hA
       simp only [dsOf, List.take, List.map_cons, List.map_nil, Option.getD_some, putAll, Act.put, List.setIfInBounds_toArray, List.set_cons_zero, List.set_cons_succ]
       go_simp
      ·intro s w_ hb hd R hR
       generalize hA : putAll _ 0 s _ = A
       have e4 : s 4 = _ := hd 4 (by kernel_rfl)
       have e5 : s 5 = _ := hd 5 (by kernel_rfl)
       have hR' := hR (.pointer (some (ad.add iv))) _ (Below.refl _ _) rfl
       clear hR hd
       refine opGives_value ?_ hR'
       subst hA
       simp only [dsOf, List.take, List.map_cons, List.map_nil, Option.getD_some, putAll, Act.put, List.setIfInBounds_toArray, List.set_cons_zero, List.set_cons_succ]
       go_simp
      ·intro s w_ hb hd R hR
       generalize hA : putAll _ 0 s _ = A
       have e6 : s 6 = _ := hd 6 (by kernel_rfl)
       have hcell := pw_cell_below hb hcell
       have hR' := hR (.int .i64 (b : Int)) _ (Below.refl _ _) rfl
       clear hR hd
       refine opGives_value ?_ hR'
       subst hA
       simp only [dsOf, List.take, List.map_cons, List.map_nil, Option.getD_some, putAll, Act.put, List.setIfInBounds_toArray, List.set_cons_zero, List.set_cons_succ]
       go_simp
     case rest =>
      intro s8 w4 hb hv
      have e1_ : s8 1 = _ := hv 1 (by decide)
      have e2_ : s8 2 = _ := hv 2 (by decide)
      have e7_ : s8 7 = _ := hv 7 (by decide)
      clear hv
      simp only [dsOf, List.take, List.map_cons, List.map_nil, Option.getD_some, putAll, Act.put, List.setIfInBounds_toArray, List.set_cons_zero, List.set_cons_succ]
      rw [e1_, e2_, e7_]
      refine .inl (opGives_call (f := 213) (args := #[.int .i64 (n : Int), .slice A2 t.length d2, .int .i64 (b : Int)]) (by go_simp) ?_)
      refine (HWY.out _ (HV.out.below (HBw.out.trans (hb.mono HBw.out.size)))).mono ?_
      rintro e w5 ⟨u5, rfl, ho, hb5⟩
      refine ⟨_, rfl, ?_⟩
      simp only [List.drop, Act.put, List.setIfInBounds_toArray, List.set_cons_zero, List.set_cons_succ]
      refine .inl (opGives_value (v := u5) (w' := w5) (by go_simp) ?_)
      simp only [List.drop, Act.put, List.setIfInBounds_toArray, List.set_cons_zero, List.set_cons_succ]
      unfold tailList
      obtain ⟨A5, c5, e5, hc5, hr5⟩ := id ho.read
      rw [HWL.out] at e5
      subst e5
      obtain ⟨ad5, y5, rfl, hcell5, HY5⟩ := ReadI.get hr5 (i := n - 1) (by rw [HWL.out]; omega)
      have hy5 : y5 = (q : Int) := (HY5.out.symm.trans HWG.out)
      subst hy5
      have hbb := hb.trans (hb5.mono hb.size)
      have HO5 := Aside0.mk (OwnP.below HO.out hbb)
      have HB5 := Aside0.mk (HBr.out.trans (hbb.mono HBr.out.size))
      replace c0 := pw_cell_below hbb c0
      replace c1 := pw_cell_below hbb c1
      replace hcell := pw_cell_below hbb hcell
      have hn1I : (0 : Int) ≤ (n : Int) - 1 := by omega
      have hn1J : ((n : Int) - 1).toNat = n - 1 := by omega
      have hnw : IntKind.i64.wrap ((n : Int) - 1) = (n : Int) - 1 := IntWalk.i64_in _ (by omega)
      clear ho hb hb5 hbb hr5 hc5 e1_ e2_ e7_
      have b0 : ∀ z : Ext w5, z.1.cell? ⟨w.heap.size, 0, none⟩ = some (.int .i64 n) := fun z => Ext.cell c0 z
      have b1 : ∀ z : Ext w5, z.1.cell? ⟨w.heap.size, 1, none⟩ = some (.slice (some ad) xs.length d1) := fun z => Ext.cell c1 z
      have b2 : ∀ z : Ext w5, z.1.cell? (ad.add iv) = some (.int .i64 b) := fun z => Ext.cell hcell z
      obtain ⟨hb_, hhb⟩ : ∃ hb_, hb_ = decide ((lo : Int) ∈ xs) := ⟨_, rfl⟩
      have HH : Aside0 (∀ z : Ext w5, Calls Tryz.prog 170 #[cx n (.slice (some ad) xs.length d1), .int .i64 (lo : Int)] z.1 fun e w' => e = .returned (.bool hb_) ∧ Below z.1.heap.size z.1 w') := ⟨fun z => by rw [hhb]; exact specHas n _ xs _ z.1 (HK.out.below (HB2.out.trans ((HB5.out.trans (z.2.mono HB5.out.size)).mono HB2.out.size)))⟩
      rw [← hhb] at HPB
      clear hhb
      cases htb : b.testBit q with
      | false =>
       rw [htb, if_neg (by decide)] at hand
       have HK2 := Aside0.mk (HMISS.out (by rw [HPB.out, htb]; rfl))
       clear htb hnot hlo
       go_wp2
       refine wp_region_ext (by kernel_rfl) (by kernel_rfl) ?_
       repeat (go_big_quiet_step (fail))
       refine wpQuiet_nil ?_
       rintro _ ⟨z, rfl⟩
       have HO6 := Aside0.mk (OwnP.below HO5.out z.2)
       have HB6 := Aside0.mk (HB5.out.trans (z.2.mono HB5.out.size))
       go_wp2
       go_roundw
       case rel => exact ⟨iv + 1, by go_num, by omega, ⟨by rw [HK2.out]; exact HO6.out⟩, HB6⟩
       case measure => simp [intOf]; omega
      | true =>
       rw [htb, if_pos rfl] at hand
       have hPb : ((P : Int) != 0) = true := by simpa using hP0
       cases hb_ with
       | false =>
        have HK2 := Aside0.mk (HMISS.out (by rw [HPB.out, htb]; rfl))
        clear htb hlo hnot
        go_wp2
        refine wp_region_ext (by kernel_rfl) (by kernel_rfl) ?_
        repeat (go_big_quiet_step (first | (go_at_call 170; with_reducible exact Calls.ext_of (HH.out _))))
        refine wpQuiet_nil ?_
        rintro _ ⟨z, rfl⟩
        have HO6 := Aside0.mk (OwnP.below HO5.out z.2)
        have HB6 := Aside0.mk (HB5.out.trans (z.2.mono HB5.out.size))
        go_wp2
        go_roundw
        case rel => exact ⟨iv + 1, by go_num, by omega, ⟨by rw [HK2.out]; exact HO6.out⟩, HB6⟩
        case measure => simp [intOf]; omega
       | true =>
        have HK2 := Aside0.mk (HHIT.out (by rw [HPB.out, htb]; rfl))
        clear htb hlo hnot
        go_wp2
        refine wp_region_ext (by kernel_rfl) (by kernel_rfl) ?_
        repeat (go_big_quiet_step (first | (go_at_call 170; with_reducible exact Calls.ext_of (HH.out _))))
        refine wpQuiet_nil ?_
        rintro _ ⟨z, rfl⟩
        have hbz := z.2
        obtain ⟨wz, hwz⟩ : ∃ wz, wz = z.1 := ⟨_, rfl⟩
        rw [← hwz] at hbz ⊢
        clear b0 b1 b2 HH hwz
        have HOA := Aside0.mk (OwnP.below HO5.out hbz)
        have HB6 := Aside0.mk (HB5.out.trans (hbz.mono HB5.out.size))
        replace c0 := pw_cell_below hbz c0
        replace c1 := pw_cell_below hbz c1
        replace hcell := pw_cell_below hbz hcell
        have HKW := Aside0.mk (fun W (h : Below wz.heap.size wz W) => HK.out.below (HB2.out.trans ((HB6.out.trans (h.mono HB6.out.size)).mono HB2.out.size)))
        have HZ5 : Aside0 (w2.heap.size ≤ wz.heap.size) := ⟨HB6.out.size⟩
        have HPUT := Aside0.mk (put_in ((lo : Int), (b : Int)) (rfl : sortL (potL n xs t (xs.take iv)) = _))
        rw [← HK2.out] at HPUT
        obtain ⟨acc, hacc⟩ : ∃ acc, acc = sortL (potL n xs t (xs.take iv)) := ⟨_, rfl⟩
        rw [← hacc] at HOA HPL HPUT
        obtain ⟨acc2, hacc2⟩ : ∃ acc2, acc2 = putP acc (insAt acc ((lo : Int), (b : Int))) ((lo : Int), (b : Int)) := ⟨_, rfl⟩
        obtain ⟨ok, hok⟩ : ∃ ok, ok = pOk xs (putP acc (insAt acc ((lo : Int), (b : Int))) ((lo : Int), (b : Int))) := ⟨_, rfl⟩
        have HOK := Aside0.mk hok
        have HACC2 := Aside0.mk hacc2
        rw [← hacc2] at HPUT
        have HAL : Aside0 (acc.length ≤ 100000) := ⟨by have := HPL.out; omega⟩
        clear hacc hacc2 hok hbz
        go_wp2
        refine wp_region_g Bl (fun w => (Below.refl _ w).drew) (fun _ _ _ => Bl.trans) (fun i => match i with | 0 => fun v _ => v = .agg #[.int .i64 (n : Int), .slice (some ad) xs.length d1] | 1 => fun v _ => v = .slice A7 L7 c7 | 2 => fun v _ => v = .pointer (some ⟨w.heap.size, 1, none⟩) | 3 => fun v _ => v = .slice (some ad) xs.length d1 | 4 => fun v _ => v = .int .i64 (iv : Int) | 5 => fun v _ => v = .pointer (some (ad.add iv)) | 6 => fun v _ => v = .int .i64 (b : Int) | 7 => fun v _ => v = .int .i64 (P : Int) | 8 => fun v _ => v = .int .i64 (lo : Int) | 9 => fun v _ => v = .pointer (some ⟨w.heap.size, 1, none⟩) | 10 => fun v _ => v = .slice (some ad) xs.length d1 | 11 => fun v _ => v = .int .i64 (iv : Int) | 12 => fun v _ => v = .pointer (some (ad.add iv)) | 13 => fun v _ => v = .int .i64 (b : Int) | 14 => fun v _ => v = .agg #[.int .i64 (lo : Int), .int .i64 (b : Int)] | 15 => fun v W => ∃ u, v = .tuple #[u, .bool ok] ∧ OwnP w2.heap.size W u acc2 | 16 => fun v W => ∃ u, v = .tuple #[u, .bool ok] ∧ OwnP w2.heap.size W u acc2 | 17 => fun v W => OwnP w2.heap.size W v acc2 | 18 => fun v _ => v = .bool ok | 19 => fun v W => OwnP w2.heap.size W v acc2 | _ => fun _ _ => True)
         [0, 0, 0, 4, 0, 28, 60, 0, 252, 0, 512, 0, 3584, 7680, 16380, 32767, 65535, 131071, 131071, 262143] hmx (by kernel_rfl) ?st ?steps ?rest
        case st =>
         intro i v w1_ w2_ hb
         match i with
         | 0 | 1 | 2 | 3 | 4 | 5 | 6 | 7 | 8 | 9 | 10 | 11 | 12 | 13 | 14 | 18 => exact id
         | 15 => exact fun h => by obtain ⟨u, e, ho⟩ := h; exact ⟨u, e, OwnP.below ho hb⟩
         | 16 => exact fun h => by obtain ⟨u, e, ho⟩ := h; exact ⟨u, e, OwnP.below ho hb⟩
         | 17 => exact fun h => OwnP.below h hb
         | 19 => exact fun h => OwnP.below h hb
         | n + 20 => exact id
        case steps =>
         refine ⟨?_, ?_, ?_, ?_, ?_, ?_, ?_, ?_, ?_, ?_, ?_, ?_, ?_, ?_, ?_, ?_, ?_, ?_, ?_, ?_, trivial⟩
         ·intro s w_ hb hd hq R hR
          generalize hA : putAll _ 0 s _ = A
          clear hq
          have c0 := pw_cell_below hb c0
          have c1 := pw_cell_below hb c1
          have hR' := hR (.agg #[.int .i64 (n : Int), .slice (some ad) xs.length d1]) _ (Below.refl _ _) rfl
          clear hR hd
          refine opGives_value ?_ hR'
          subst hA
          simp only [dsOf, List.map_cons, List.map_nil, Option.getD_some, putAll, Act.put, List.setIfInBounds_toArray, List.set_cons_zero, List.set_cons_succ]
          go_simp
         ·intro s w_ hb hd hq R hR
          generalize hA : putAll _ 0 s _ = A
          have q19 : s 19 = .slice A7 L7 c7 := hq 19 (by kernel_rfl)
          clear hq
          have hR' := hR (.slice A7 L7 c7) _ (Below.refl _ _) rfl
          clear hR hd
          refine opGives_value ?_ hR'
          subst hA
          simp only [dsOf, List.map_cons, List.map_nil, Option.getD_some, putAll, Act.put, List.setIfInBounds_toArray, List.set_cons_zero, List.set_cons_succ]
          go_simp
         ·intro s w_ hb hd hq R hR
          generalize hA : putAll _ 0 s _ = A
          clear hq
          have hR' := hR (.pointer (some ⟨w.heap.size, 1, none⟩)) _ (Below.refl _ _) rfl
          clear hR hd
          refine opGives_value ?_ hR'
          subst hA
          simp only [dsOf, List.map_cons, List.map_nil, Option.getD_some, putAll, Act.put, List.setIfInBounds_toArray, List.set_cons_zero, List.set_cons_succ]
          go_simp
         ·intro s w_ hb hd hq R hR
          generalize hA : putAll _ 0 s _ = A
          have e2 : s 2 = _ := hd 2 (by kernel_rfl)
          clear hq
          have c1 := pw_cell_below hb c1
          have hR' := hR (.slice (some ad) xs.length d1) _ (Below.refl _ _) rfl
          clear hR hd
          refine opGives_value ?_ hR'
          subst hA
          simp only [dsOf, List.map_cons, List.map_nil, Option.getD_some, putAll, Act.put, List.setIfInBounds_toArray, List.set_cons_zero, List.set_cons_succ]
          go_simp
         ·intro s w_ hb hd hq R hR
          generalize hA : putAll _ 0 s _ = A
          clear hq
          have hR' := hR (.int .i64 (iv : Int)) _ (Below.refl _ _) rfl
          clear hR hd
          refine opGives_value ?_ hR'
          subst hA
          simp only [dsOf, List.map_cons, List.map_nil, Option.getD_some, putAll, Act.put, List.setIfInBounds_toArray, List.set_cons_zero, List.set_cons_succ]
          go_simp
         ·intro s w_ hb hd hq R hR
          generalize hA : putAll _ 0 s _ = A
          have e3 : s 3 = _ := hd 3 (by kernel_rfl)
          have e4 : s 4 = _ := hd 4 (by kernel_rfl)
          clear hq
          have hR' := hR (.pointer (some (ad.add iv))) _ (Below.refl _ _) rfl
          clear hR hd
          refine opGives_value ?_ hR'
          subst hA
          simp only [dsOf, List.map_cons, List.map_nil, Option.getD_some, putAll, Act.put, List.setIfInBounds_toArray, List.set_cons_zero, List.set_cons_succ]
          go_simp
         ·intro s w_ hb hd hq R hR
          generalize hA : putAll _ 0 s _ = A
          have e5 : s 5 = _ := hd 5 (by kernel_rfl)
          clear hq
          have hcell := pw_cell_below hb hcell
          have hR' := hR (.int .i64 (b : Int)) _ (Below.refl _ _) rfl
          clear hR hd
          refine opGives_value ?_ hR'
          subst hA
          simp only [dsOf, List.map_cons, List.map_nil, Option.getD_some, putAll, Act.put, List.setIfInBounds_toArray, List.set_cons_zero, List.set_cons_succ]
          go_simp
         ·intro s w_ hb hd hq R hR
          generalize hA : putAll _ 0 s _ = A
          clear hq
          have hR' := hR (.int .i64 (P : Int)) _ (Below.refl _ _) rfl
          clear hR hd
          refine opGives_value ?_ hR'
          subst hA
          simp only [dsOf, List.map_cons, List.map_nil, Option.getD_some, putAll, Act.put, List.setIfInBounds_toArray, List.set_cons_zero, List.set_cons_succ]
          go_simp
         ·intro s w_ hb hd hq R hR
          generalize hA : putAll _ 0 s _ = A
          have e6 : s 6 = _ := hd 6 (by kernel_rfl)
          have e7 : s 7 = _ := hd 7 (by kernel_rfl)
          clear hq
          have hx9 := HXOR.out
          have hR' := hR (.int .i64 (lo : Int)) _ (Below.refl _ _) rfl
          clear hR hd
          refine opGives_value ?_ hR'
          subst hA
          simp only [dsOf, List.map_cons, List.map_nil, Option.getD_some, putAll, Act.put, List.setIfInBounds_toArray, List.set_cons_zero, List.set_cons_succ]
          go_simp
         ·intro s w_ hb hd hq R hR
          generalize hA : putAll _ 0 s _ = A
          clear hq
          have hR' := hR (.pointer (some ⟨w.heap.size, 1, none⟩)) _ (Below.refl _ _) rfl
          clear hR hd
          refine opGives_value ?_ hR'
          subst hA
          simp only [dsOf, List.map_cons, List.map_nil, Option.getD_some, putAll, Act.put, List.setIfInBounds_toArray, List.set_cons_zero, List.set_cons_succ]
          go_simp
         ·intro s w_ hb hd hq R hR
          generalize hA : putAll _ 0 s _ = A
          have e9 : s 9 = _ := hd 9 (by kernel_rfl)
          clear hq
          have c1 := pw_cell_below hb c1
          have hR' := hR (.slice (some ad) xs.length d1) _ (Below.refl _ _) rfl
          clear hR hd
          refine opGives_value ?_ hR'
          subst hA
          simp only [dsOf, List.map_cons, List.map_nil, Option.getD_some, putAll, Act.put, List.setIfInBounds_toArray, List.set_cons_zero, List.set_cons_succ]
          go_simp
         ·intro s w_ hb hd hq R hR
          generalize hA : putAll _ 0 s _ = A
          clear hq
          have hR' := hR (.int .i64 (iv : Int)) _ (Below.refl _ _) rfl
          clear hR hd
          refine opGives_value ?_ hR'
          subst hA
          simp only [dsOf, List.map_cons, List.map_nil, Option.getD_some, putAll, Act.put, List.setIfInBounds_toArray, List.set_cons_zero, List.set_cons_succ]
          go_simp
         ·intro s w_ hb hd hq R hR
          generalize hA : putAll _ 0 s _ = A
          have e10 : s 10 = _ := hd 10 (by kernel_rfl)
          have e11 : s 11 = _ := hd 11 (by kernel_rfl)
          clear hq
          have hR' := hR (.pointer (some (ad.add iv))) _ (Below.refl _ _) rfl
          clear hR hd
          refine opGives_value ?_ hR'
          subst hA
          simp only [dsOf, List.map_cons, List.map_nil, Option.getD_some, putAll, Act.put, List.setIfInBounds_toArray, List.set_cons_zero, List.set_cons_succ]
          go_simp
         ·intro s w_ hb hd hq R hR
          generalize hA : putAll _ 0 s _ = A
          have e12 : s 12 = _ := hd 12 (by kernel_rfl)
          clear hq
          have hcell := pw_cell_below hb hcell
          have hR' := hR (.int .i64 (b : Int)) _ (Below.refl _ _) rfl
          clear hR hd
          refine opGives_value ?_ hR'
          subst hA
          simp only [dsOf, List.map_cons, List.map_nil, Option.getD_some, putAll, Act.put, List.setIfInBounds_toArray, List.set_cons_zero, List.set_cons_succ]
          go_simp
         ·intro s w_ hb hd hq R hR
          generalize hA : putAll _ 0 s _ = A
          have e8 : s 8 = _ := hd 8 (by kernel_rfl)
          have e13 : s 13 = _ := hd 13 (by kernel_rfl)
          clear hq
          have hR' := hR (.agg #[.int .i64 (lo : Int), .int .i64 (b : Int)]) _ (Below.refl _ _) rfl
          clear hR hd
          refine opGives_value ?_ hR'
          subst hA
          simp only [dsOf, List.map_cons, List.map_nil, Option.getD_some, putAll, Act.put, List.setIfInBounds_toArray, List.set_cons_zero, List.set_cons_succ]
          go_simp
         ·intro s w_ hb hd hq R hR
          generalize hA : putAll _ 0 s _ = A
          have e0 : s 0 = _ := hd 0 (by kernel_rfl)
          have e1 : s 1 = _ := hd 1 (by kernel_rfl)
          have e14 : s 14 = _ := hd 14 (by kernel_rfl)
          clear hq
          refine opGives_call (f := 214) (args := #[.agg #[.int .i64 (n : Int), .slice (some ad) xs.length d1], .slice A7 L7 c7, .agg #[.int .i64 (lo : Int), .int .i64 (b : Int)]]) ?_ ?_
          ·subst hA
           clear hR hd
           simp only [dsOf, List.map_cons, List.map_nil, Option.getD_some, putAll, Act.put, List.setIfInBounds_toArray, List.set_cons_zero, List.set_cons_succ]
           go_simp
          clear hA A hd
          refine (specWith n _ xs _ acc (lo : Int) (b : Int) w_ (HKW.out w_ hb) HC.out (OwnP.below HOA.out hb).read (OwnP.below HOA.out hb).readQ HAL.out).mono ?_
          rintro e w3_ ⟨u3, rfl, ho, hb3⟩
          refine ⟨_, rfl, hR _ _ hb3 ⟨u3, by rw [HOK.out], ?_⟩⟩
          rw [HACC2.out]
          exact OwnP.lower ho (Nat.le_trans HZ5.out hb.size)
         ·intro s w_ hb hd hq R hR
          generalize hA : putAll _ 0 s _ = A
          obtain ⟨uu, e15, oo⟩ : ∃ u, s 15 = .tuple #[u, .bool ok] ∧ OwnP w2.heap.size w_ u acc2 := hd 15 (by kernel_rfl)
          clear hq
          have hR' := hR (.tuple #[uu, .bool ok]) _ (Below.refl _ _) (⟨uu, rfl, oo⟩)
          clear hR hd
          refine opGives_value ?_ hR'
          subst hA
          simp only [dsOf, List.map_cons, List.map_nil, Option.getD_some, putAll, Act.put, List.setIfInBounds_toArray, List.set_cons_zero, List.set_cons_succ]
          go_simp
         ·intro s w_ hb hd hq R hR
          generalize hA : putAll _ 0 s _ = A
          obtain ⟨uu, e16, oo⟩ : ∃ u, s 16 = .tuple #[u, .bool ok] ∧ OwnP w2.heap.size w_ u acc2 := hd 16 (by kernel_rfl)
          clear hq
          have hR' := hR (uu) _ (Below.refl _ _) (oo)
          clear hR hd
          refine opGives_value ?_ hR'
          subst hA
          simp only [dsOf, List.map_cons, List.map_nil, Option.getD_some, putAll, Act.put, List.setIfInBounds_toArray, List.set_cons_zero, List.set_cons_succ]
          go_simp
         ·intro s w_ hb hd hq R hR
          generalize hA : putAll _ 0 s _ = A
          obtain ⟨uu, e16, oo⟩ : ∃ u, s 16 = .tuple #[u, .bool ok] ∧ OwnP w2.heap.size w_ u acc2 := hd 16 (by kernel_rfl)
          clear hq
          have hR' := hR (.bool ok) _ (Below.refl _ _) rfl
          clear hR hd
          refine opGives_value ?_ hR'
          subst hA
          simp only [dsOf, List.map_cons, List.map_nil, Option.getD_some, putAll, Act.put, List.setIfInBounds_toArray, List.set_cons_zero, List.set_cons_succ]
          go_simp
         ·intro s w_ hb hd hq R hR
          generalize hA : putAll _ 0 s _ = A
          have o17 : OwnP w2.heap.size w_ (s 17) acc2 := hd 17 (by kernel_rfl)
          obtain ⟨u17, e17⟩ : ∃ u, s 17 = u := ⟨_, rfl⟩
          rw [e17] at o17
          clear hq
          have hR' := hR (u17) _ (Below.refl _ _) (o17)
          clear hR hd
          refine opGives_value ?_ hR'
          subst hA
          simp only [dsOf, List.map_cons, List.map_nil, Option.getD_some, putAll, Act.put, List.setIfInBounds_toArray, List.set_cons_zero, List.set_cons_succ]
          go_simp
        case rest =>
         intro s9 w9 hb hv
         have o19 : OwnP w2.heap.size w9 (s9 19) acc2 := hv 19 (by decide)
         simp only [dsOf, List.map_cons, List.map_nil, Option.getD_some, putAll, Act.put, List.setIfInBounds_toArray, List.set_cons_zero, List.set_cons_succ]
         clear hv
         have HO9 := Aside0.mk o19
         have HB9 := Aside0.mk (HB6.out.trans (hb.mono HB6.out.size))
         clear hb o19
         obtain ⟨z9, e19⟩ : ∃ z9, s9 19 = z9 := ⟨_, rfl⟩
         rw [e19] at HO9 ⊢
         go_wp2
         go_roundw
         case rel => exact ⟨iv + 1, by go_num, by omega, ⟨by rw [← HPUT.out]; exact HO9.out⟩, HB9⟩
         case measure => simp [intOf]; omega
    ·have e : iv = xs.length := by omega
     have HE : Aside0 (OwnP w2.heap.size wr (.slice A7 L7 c7) (sortL (potL n xs t xs))) := ⟨by have h := HO.out; rw [e, List.take_length] at h; exact h⟩
     have hivI : ¬ (iv : Int) < (xs.length : Int) := by omega
     clear e
     go_wp2
     go_ret2
     exact ⟨_, by rw [HA.out]; rfl, by rw [HA.out]; exact OwnP.lower HE.out (HB.out.trans (HB2.out.mono HB.out.size)).size, HB.out.trans (HBw.out.mono HB.out.size)⟩
end Go.Proofs.YtkggchklmpmgpaaGreat.H
