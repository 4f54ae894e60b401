/- The law FnMaps: the walk (printed by genfm.py). -/
import Derived.Test.YtomofijniefelaaGreatKFnMaps1
import Derived.Test.YtomofijniefelaaGreatKFnMaps2
import Derived.Test.YtomofijniefelaaGreatKFnMaps3
import Derived.Test.YtomofijniefelaaGreatKFnMaps4
import Derived.Test.YtomofijniefelaaGreatKFnMaps5
import Derived.Test.YtomofijniefelaaGreatKFnMaps6
import Derived.Test.YtomofijniefelaaGreatKFnMaps7
import Derived.Test.YtomofijniefelaaGreatKFnMaps8
import Derived.Test.YtomofijniefelaaGreatKFnMaps9
import Derived.Test.YtomofijniefelaaGreatKFnMaps10
import Derived.Test.YtomofijniefelaaGreatKFnMaps11
import Derived.Test.YtomofijniefelaaGreatKFnMaps12
import Derived.Test.YtomofijniefelaaGreatKFnMaps13
import Derived.Test.YtomofijniefelaaGreatKFnMaps14
import Derived.Test.YtomofijniefelaaGreatKFnMaps15
import Derived.Test.YtomofijniefelaaGreatKFnMaps16
import Derived.Test.YtomofijniefelaaGreatKFnMaps17
import Derived.Test.YtomofijniefelaaGreatKFnMaps18
import Derived.Test.YtomofijniefelaaGreatKFnMaps19

namespace Go.Proofs.YtomofijniefelaaGreat.H
open Go.RowKit Go.Proofs.YtomofijniefelaaGreatW.PrintWords Go.Proofs.YtomofijniefelaaGreatW.PrintLast
set_option linter.unusedVariables false
set_option linter.unusedSimpArgs false
set_option maxRecDepth 1000000 in
set_option maxHeartbeats 64000000 in
theorem lawFnMaps (w : World) (v : Value) (nb : Nat) (hv : ReadY w v nb) (hnb : nb ≤ 9223372036854775807) :
  Calls Tryz.prog 3 #[v] w fun e w' => e = .returned (.bool true) ∧ Below w.heap.size w w' := by
 have HV := Aside0.mk hv
 have HB := Aside0.mk (Below.refl w.heap.size w)
 have st : Stg 0 := ⟨⟩
 have hmx : Tryz.prog.follows .mixedOrders = true := by kernel_rfl
 obtain ⟨A0, d0, rfl, -⟩ := id hv
 clear hv
 by_cases hbig : 4096 < nb
 ·have HG : Aside0 (decide (4096 < nb) = true) := ⟨decide_eq_true hbig⟩
  clear hbig
  go_enter Tryz.func3, Tryz.ntmps3
  go_wp2_with (first | (replace st := stg_next 0 1 st; go_at_call 9; refine (bigB _ nb _ HV.out hnb).mono ?_; rw [HG.out]; rintro e w2 ⟨rfl, hb⟩; replace HB := Aside0.belowC HB hb; clear hb))
  go_ret
  exact ⟨rfl, HB.out⟩
 ·have HG : Aside0 (decide (4096 < nb) = false) := ⟨decide_eq_false hbig⟩
  have HN := Aside0.mk (Nat.le_of_not_lt hbig)
  clear hbig
  go_enter Tryz.func3, Tryz.ntmps3
  go_wp2_with (first | (replace st := stg_next 0 1 st; go_at_call 9; refine (bigB _ nb _ HV.out hnb).mono ?_; rw [HG.out]; rintro e w2 ⟨rfl, hb⟩; replace HB := Aside0.belowC HB hb; replace HV := Aside0.ready HV hb; clear hb) | (replace st := stg_next 1 2 st; go_at_call 10; refine (drawImageComplex _ nb _ HN.out HV.out).mono ?_; rintro e w3 ⟨a, b, u, z, lv, ys, zs, p, rfl, ho, hoz, hop, -, -, -, -, hb⟩; replace HB := Aside0.belowC HB hb; replace HV := Aside0.ready HV hb; clear hb; have HR1 := Aside0.mk ho.read; obtain ⟨A1, d1, rfl, -⟩ := id ho.read; clear ho; have HR2 := Aside0.mk hoz.read; obtain ⟨A2, d2, rfl, -⟩ := id hoz.read; clear hoz; have HR3 := Aside0.mk hop.read; obtain ⟨A3, d3, rfl, -⟩ := id hop.read; clear hop; obtain ⟨Ib, hIb⟩ : ∃ r, r = (ansImageComplex a ys b zs p).1.1 := ⟨_, rfl⟩; have HIb := Aside0.mk hIb; clear hIb; obtain ⟨I, hI⟩ : ∃ r, r = (ansImageComplex a ys b zs p).1.2 := ⟨_, rfl⟩; have HI := Aside0.mk hI; clear hI; obtain ⟨i2, hi2⟩ : ∃ r, r = (ansImageComplex a ys b zs p).2 := ⟨_, rfl⟩; have Hi2 := Aside0.mk hi2; clear hi2) | (replace st := stg_next 2 3 st; go_at_call 11; refine (implImageComplex a _ ys b _ zs _ p _ (HR1.out.below (((Below.refl _ _).alloc (Nat.le_refl _) _).alloc (by simp) _)) (HR2.out.below (((Below.refl _ _).alloc (Nat.le_refl _) _).alloc (by simp) _)) (HR3.out.below (((Below.refl _ _).alloc (Nat.le_refl _) _).alloc (by simp) _))).mono ?_; rw [← HIb.out, ← HI.out, ← Hi2.out]; rintro e w4 ⟨u, rfl, ho, hb⟩; obtain ⟨c4_0, c4_1, c4_2, c4_3, hb⟩ := two_cells hb; replace HB := Aside0.belowC HB hb; replace HR1 := Aside0.readc HR1 hb; replace HR2 := Aside0.readc HR2 hb; replace HR3 := Aside0.readc HR3 hb; replace HV := Aside0.ready HV hb; clear hb; have HI1 := Aside0.mk ho.read; obtain ⟨A4, d4, rfl, -⟩ := id ho.read; clear ho; have k4_0 := pw_cell_below (Below.alloc (Below.refl w4.heap.size w4) (Nat.le_refl _) (.cells #[.int .i64 Ib, .slice A4 I.length d4] 26)) c4_0; have k4_1 := pw_cell_below (Below.alloc (Below.refl w4.heap.size w4) (Nat.le_refl _) (.cells #[.int .i64 Ib, .slice A4 I.length d4] 26)) c4_1; have k4_2 := pw_cell_below (Below.alloc (Below.refl w4.heap.size w4) (Nat.le_refl _) (.cells #[.int .i64 Ib, .slice A4 I.length d4] 26)) c4_2; have k4_3 := pw_cell_below (Below.alloc (Below.refl w4.heap.size w4) (Nat.le_refl _) (.cells #[.int .i64 Ib, .slice A4 I.length d4] 26)) c4_3) | (replace st := stg_next 3 4 st; go_at_call 12; refine (specImageComplex a _ ys b _ zs _ p _ (HR1.out.below (Below.alloc (Below.refl _ _) (Nat.le_refl _) _)) (HR2.out.below (Below.alloc (Below.refl _ _) (Nat.le_refl _) _)) (HR3.out.below (Below.alloc (Below.refl _ _) (Nat.le_refl _) _))).mono ?_; clear k4_0 k4_1 k4_2 k4_3; rw [← HIb.out, ← HI.out, ← Hi2.out]; rintro e w5 ⟨u, rfl, ho, hb⟩; have c60 : w5.cell? ⟨w4.heap.size, 0, none⟩ = some (.int .i64 Ib) := pw_cell_below hb (new_cell _ _ _ 0 _ rfl); have c61 : w5.cell? ⟨w4.heap.size, 1, none⟩ = some (.slice A4 I.length d4) := pw_cell_below hb (new_cell _ _ _ 1 _ rfl); replace hb := below_unalloc hb; replace HB := Aside0.belowC HB hb; replace c4_0 := pw_cell_below hb c4_0; replace c4_1 := pw_cell_below hb c4_1; replace c4_2 := pw_cell_below hb c4_2; replace c4_3 := pw_cell_below hb c4_3; replace HR1 := Aside0.readc HR1 hb; replace HR2 := Aside0.readc HR2 hb; replace HR3 := Aside0.readc HR3 hb; replace HI1 := Aside0.readc HI1 hb; replace HV := Aside0.ready HV hb; clear hb; have HI2 := Aside0.mk ho.read; obtain ⟨A5, d5, rfl, -⟩ := id ho.read; clear ho; have k5_0 := pw_cell_below (Below.alloc (Below.refl w5.heap.size w5) (Nat.le_refl _) (.cells #[.int .i64 Ib, .slice A5 I.length d5] 26)) c4_0; have k5_1 := pw_cell_below (Below.alloc (Below.refl w5.heap.size w5) (Nat.le_refl _) (.cells #[.int .i64 Ib, .slice A5 I.length d5] 26)) c4_1; have k5_2 := pw_cell_below (Below.alloc (Below.refl w5.heap.size w5) (Nat.le_refl _) (.cells #[.int .i64 Ib, .slice A5 I.length d5] 26)) c4_2; have k5_3 := pw_cell_below (Below.alloc (Below.refl w5.heap.size w5) (Nat.le_refl _) (.cells #[.int .i64 Ib, .slice A5 I.length d5] 26)) c4_3; have k5_4 := pw_cell_below (Below.alloc (Below.refl w5.heap.size w5) (Nat.le_refl _) (.cells #[.int .i64 Ib, .slice A5 I.length d5] 26)) c60; have k5_5 := pw_cell_below (Below.alloc (Below.refl w5.heap.size w5) (Nat.le_refl _) (.cells #[.int .i64 Ib, .slice A5 I.length d5] 26)) c61) | (replace st := stg_next 4 5 st; go_at_call 13; refine Aside0.out ?_))
  refine Aside0.mk ?_
  with_reducible refine (complexes5Same Ib _ _ I _ (HI1.out.below (Below.alloc (Below.refl _ _) (Nat.le_refl _) _)) (HI2.out.below (Below.alloc (Below.refl _ _) (Nat.le_refl _) _))).mono ?_
  rintro e w6 ⟨rfl, hb⟩
  have c80 : w6.cell? ⟨w5.heap.size, 0, none⟩ = some (.int .i64 Ib) := pw_cell_below hb (new_cell _ _ _ 0 _ rfl)
  have c81 : w6.cell? ⟨w5.heap.size, 1, none⟩ = some (.slice A5 I.length d5) := pw_cell_below hb (new_cell _ _ _ 1 _ rfl)
  replace hb := below_unalloc hb
  replace HB := Aside0.belowC HB hb
  replace c4_0 := pw_cell_below hb c4_0
  replace c4_1 := pw_cell_below hb c4_1
  replace c4_2 := pw_cell_below hb c4_2
  replace c4_3 := pw_cell_below hb c4_3
  replace c60 := pw_cell_below hb c60
  replace c61 := pw_cell_below hb c61
  replace HR1 := Aside0.readc HR1 hb
  replace HR2 := Aside0.readc HR2 hb
  replace HR3 := Aside0.readc HR3 hb
  replace HI1 := Aside0.readc HI1 hb
  replace HI2 := Aside0.readc HI2 hb
  replace HV := Aside0.ready HV hb
  clear hb
  have KM : i2 = 0 → _ := fun h0 => key_map (a := a) (b := b) (xs := ys) (ys := zs) (f := p) (by rw [← Hi2.out]; exact h0)
  rw [← HI.out] at KM
  by_cases hi0 : i2 = 0
  ·obtain ⟨km1, km2, km3, km4, km5, km6⟩ := KM hi0
   obtain rfl : i2 = 0 := hi0
   have KM1 := Aside0.mk km1
   have KM2 := Aside0.mk km2
   clear KM km1 km2 
   have hmx2 : Tryz.prog.follows .mixedOrders = true := by kernel_rfl
   go_upto_block 0 with (fail)
   go_cut [10, 11] (fun s10 s11 wc => s10 = .int .i64 (ys.length : Int) ∧ Aside0 (Below w6.heap.size w6 wc))
   case first =>
    go_wp2
    go_loopw [10, 11] (fun s10 s11 wl => ∃ qi : Nat, s11 = .int .i64 qi ∧ qi ≤ zs.length ∧ s10 = .int .i64 (((zs.take qi).map fun g => (ys.filter (opAt p g)).length).sum : Nat) ∧ Aside0 (Below w6.heap.size w6 wl)) (fun _ s11 _ => zs.length - (intOf s11).toNat)
    case atStart => exact ⟨0, rfl, Nat.zero_le _, rfl, ⟨Below.refl _ _⟩⟩
    case round =>
     obtain ⟨qi, rfl, hi, rfl, HBl⟩ := hrel
     have htl : ((zs.take qi).map fun g => (ys.filter (opAt p g)).length).sum ≤ 64 := by
      refine Nat.le_trans ?_ (KM2.out ▸ km5)
      have h := congrArg List.sum (congrArg (List.map fun g => (ys.filter (opAt p g)).length) (List.take_append_drop qi zs))
      rw [List.map_append, List.sum_append] at h
      omega
     obtain ⟨t, ht⟩ : ∃ t, t = ((zs.take qi).map fun g => (ys.filter (opAt p g)).length).sum := ⟨_, rfl⟩
     rw [← ht] at htl ⊢
     have HT := Aside0.mk ht
     clear ht
     replace c4_0 := pw_cell_below HBl.out c4_0
     replace c4_1 := pw_cell_below HBl.out c4_1
     replace c4_2 := pw_cell_below HBl.out c4_2
     replace c4_3 := pw_cell_below HBl.out c4_3
     replace c60 := pw_cell_below HBl.out c60
     replace c61 := pw_cell_below HBl.out c61
     replace c80 := pw_cell_below HBl.out c80
     replace c81 := pw_cell_below HBl.out c81
     replace HR1 := Aside0.readc HR1 HBl.out
     replace HR2 := Aside0.readc HR2 HBl.out
     replace HR3 := Aside0.readc HR3 HBl.out
     replace HI1 := Aside0.readc HI1 HBl.out
     replace HI2 := Aside0.readc HI2 HBl.out
     by_cases hlt : qi < zs.length
     ·as_aux_lemma =>
       have hltI : (qi : Int) < (zs.length : Int) := by omega
       obtain ⟨ad, y, rfl, hcell, HY⟩ := ReadI.get (by obtain ⟨_, _, e, _, h⟩ := HR2.out; cases e; exact h) hlt
       obtain ⟨k1, k2, k3, k4⟩ := KM1.out y (mem_at hlt HY.out)
       obtain ⟨O, hO⟩ : ∃ O, O = ys.filter (opAt p y) := ⟨_, rfl⟩
       obtain ⟨G, hG⟩ : ∃ G, G = ys.filter (inAt p y.toNat) := ⟨_, rfl⟩
       rw [← hO] at k1 k4
       rw [← hG] at k2 k3
       have HOq := Aside0.mk hO
       clear hO hG
       go_upto_region 13 with (fail)
       refine wp_region_g Bl (fun w => (Below.refl _ w).drew) (fun _ _ _ => Bl.trans) (fun i => match i with | 0 => fun v _ => v = .agg #[.int .i64 a, .slice A1 ys.length d1] | 1 => fun v _ => v = .agg #[.int .i64 b, .slice (some ad) zs.length d2] | 2 => fun v _ => v = .slice A3 p.length d3 | 3 => fun v _ => v = .pointer (some ⟨w3.heap.size + 1, 1, none⟩) | 4 => fun v _ => v = .slice (some ad) zs.length d2 | 5 => fun v _ => v = .int .i64 (qi : Int) | 6 => fun v _ => v = .pointer (some (ad.add qi)) | 7 => fun v _ => v = .int .i64 y | 8 => fun v w => ∃ (A : Option Addr) (c : Nat), v = .tuple #[.slice A O.length c, .int .i64 0] ∧ ReadI w (.slice A O.length c) O | 9 => fun v w => ∃ (A : Option Addr) (c : Nat), v = .tuple #[.slice A O.length c, .int .i64 0] ∧ ReadI w (.slice A O.length c) O | 10 => fun v w => ∃ (A : Option Addr) (c : Nat), v = .slice A O.length c ∧ ReadI w (.slice A O.length c) O | 11 => fun v _ => v = .int .i64 0 | 12 => fun v w => ∃ (A : Option Addr) (c : Nat), v = .slice A O.length c ∧ ReadI w (.slice A O.length c) O | 13 => fun v _ => v = .int .i64 0 | _ => fun _ _ => True)
        [0, 0, 0, 0, 8, 0, 56, 120, 255, 511, 1023, 1023, 2047, 8191] hmx (by kernel_rfl) ?qst ?qsteps ?qrest
       case qst =>
        intro i v w1_ w2_ hb
        match i with
        | 0 | 1 | 2 | 3 | 4 | 5 | 6 | 7 | 11 | 13 => exact id
        | 8 => exact (fun h => by obtain ⟨A, c, e, h⟩ := h; exact ⟨A, c, e, h.below hb⟩)
        | 9 => exact (fun h => by obtain ⟨A, c, e, h⟩ := h; exact ⟨A, c, e, h.below hb⟩)
        | 10 => exact (fun h => by obtain ⟨A, c, e, h⟩ := h; exact ⟨A, c, e, h.below hb⟩)
        | 12 => exact (fun h => by obtain ⟨A, c, e, h⟩ := h; exact ⟨A, c, e, h.below hb⟩)
        | n + 14 => exact id
       case qsteps =>
        refine ⟨?_, ?_, ?_, ?_, ?_, ?_, ?_, ?_, ?_, ?_, ?_, ?_, ?_, ?_, trivial⟩
        ·intro s w_ hb hd hq R hR
         generalize hA : putAll _ 0 s _ = A
         clear hq
         have q0 := pw_cell_below hb c4_0
         have q1 := pw_cell_below hb c4_1
         have hR' := hR (.agg #[.int .i64 a, .slice A1 ys.length d1]) _ (Below.refl _ _) rfl
         clear hR hd
         refine opGives_value ?_ hR'
         subst hA
         simp only [dsOf, List.map_cons, List.map_nil, Option.getD_some, putAll, Act.put, List.setIfInBounds_toArray, List.set_cons_zero, List.set_cons_succ]
         go_simp
        ·intro s w_ hb hd hq R hR
         generalize hA : putAll _ 0 s _ = A
         clear hq
         have q0 := pw_cell_below hb c4_2
         have q1 := pw_cell_below hb c4_3
         have hR' := hR (.agg #[.int .i64 b, .slice (some ad) zs.length d2]) _ (Below.refl _ _) rfl
         clear hR hd
         refine opGives_value ?_ hR'
         subst hA
         simp only [dsOf, List.map_cons, List.map_nil, Option.getD_some, putAll, Act.put, List.setIfInBounds_toArray, List.set_cons_zero, List.set_cons_succ]
         go_simp
        ·intro s w_ hb hd hq R hR
         generalize hA : putAll _ 0 s _ = A
         clear hq
         have hR' := hR (.slice A3 p.length d3) _ (Below.refl _ _) rfl
         clear hR hd
         refine opGives_value ?_ hR'
         subst hA
         simp only [dsOf, List.map_cons, List.map_nil, Option.getD_some, putAll, Act.put, List.setIfInBounds_toArray, List.set_cons_zero, List.set_cons_succ]
         go_simp
        ·intro s w_ hb hd hq R hR
         generalize hA : putAll _ 0 s _ = A
         clear hq
         have hR' := hR (.pointer (some ⟨w3.heap.size + 1, 1, none⟩)) _ (Below.refl _ _) rfl
         clear hR hd
         refine opGives_value ?_ hR'
         subst hA
         simp only [dsOf, List.map_cons, List.map_nil, Option.getD_some, putAll, Act.put, List.setIfInBounds_toArray, List.set_cons_zero, List.set_cons_succ]
         go_simp
        ·intro s w_ hb hd hq R hR
         generalize hA : putAll _ 0 s _ = A
         have e3 : s 3 = _ := hd 3 (by kernel_rfl)
         clear hq
         have q0 := pw_cell_below hb c4_3
         have hR' := hR (.slice (some ad) zs.length d2) _ (Below.refl _ _) rfl
         clear hR hd
         refine opGives_value ?_ hR'
         subst hA
         simp only [dsOf, List.map_cons, List.map_nil, Option.getD_some, putAll, Act.put, List.setIfInBounds_toArray, List.set_cons_zero, List.set_cons_succ]
         go_simp
        ·intro s w_ hb hd hq R hR
         generalize hA : putAll _ 0 s _ = A
         clear hq
         have hR' := hR (.int .i64 (qi : Int)) _ (Below.refl _ _) rfl
         clear hR hd
         refine opGives_value ?_ hR'
         subst hA
         simp only [dsOf, List.map_cons, List.map_nil, Option.getD_some, putAll, Act.put, List.setIfInBounds_toArray, List.set_cons_zero, List.set_cons_succ]
         go_simp
        ·intro s w_ hb hd hq R hR
         generalize hA : putAll _ 0 s _ = A
         have e4 : s 4 = _ := hd 4 (by kernel_rfl)
         have e5 : s 5 = _ := hd 5 (by kernel_rfl)
         clear hq
         have hR' := hR (.pointer (some (ad.add qi))) _ (Below.refl _ _) rfl
         clear hR hd
         refine opGives_value ?_ hR'
         subst hA
         simp only [dsOf, List.map_cons, List.map_nil, Option.getD_some, putAll, Act.put, List.setIfInBounds_toArray, List.set_cons_zero, List.set_cons_succ]
         go_simp
        ·intro s w_ hb hd hq R hR
         generalize hA : putAll _ 0 s _ = A
         have e6 : s 6 = _ := hd 6 (by kernel_rfl)
         clear hq
         have q0 := pw_cell_below hb hcell
         have hR' := hR (.int .i64 y) _ (Below.refl _ _) rfl
         clear hR hd
         refine opGives_value ?_ hR'
         subst hA
         simp only [dsOf, List.map_cons, List.map_nil, Option.getD_some, putAll, Act.put, List.setIfInBounds_toArray, List.set_cons_zero, List.set_cons_succ]
         go_simp
        ·intro s w_ hb hd hq R hR
         generalize hA : putAll _ 0 s _ = A
         have e0 : s 0 = _ := hd 0 (by kernel_rfl)
         have e1 : s 1 = _ := hd 1 (by kernel_rfl)
         have e2 : s 2 = _ := hd 2 (by kernel_rfl)
         have e7 : s 7 = _ := hd 7 (by kernel_rfl)
         clear hq
         refine opGives_call (f := 14) (args := #[.agg #[.int .i64 a, .slice A1 ys.length d1], .agg #[.int .i64 b, .slice (some ad) zs.length d2], .slice A3 p.length d3, .int .i64 y]) ?_ ?_
         ·subst hA
          clear hR hd
          simp only [dsOf, List.map_cons, List.map_nil, Option.getD_some, putAll, Act.put, List.setIfInBounds_toArray, List.set_cons_zero, List.set_cons_succ]
          go_simp
         clear hA A hd
         refine (implOpenFibre a _ ys b _ zs _ p y w_ (HR1.out.below hb) (HR2.out.below hb) (HR3.out.below hb)).mono ?_
         rw [k1]
         rintro e w3_ ⟨u3, rfl, ho, hb3⟩
         obtain ⟨A7, c7, rfl, -⟩ := id ho.read
         exact ⟨_, rfl, hR _ _ hb3 ⟨A7, c7, rfl, ho.read⟩⟩
        ·intro s w_ hb hd hq R hR
         generalize hA : putAll _ 0 s _ = A
         obtain ⟨A7, c7, e8, hr7⟩ := hd 8 (by kernel_rfl)
         clear hq
         have hR' := hR (.tuple #[.slice A7 O.length c7, .int .i64 0]) _ (Below.refl _ _) (⟨A7, c7, rfl, hr7⟩)
         clear hR hd
         refine opGives_value ?_ hR'
         subst hA
         simp only [dsOf, List.map_cons, List.map_nil, Option.getD_some, putAll, Act.put, List.setIfInBounds_toArray, List.set_cons_zero, List.set_cons_succ]
         go_simp
        ·intro s w_ hb hd hq R hR
         generalize hA : putAll _ 0 s _ = A
         obtain ⟨A7, c7, e9, hr7⟩ := hd 9 (by kernel_rfl)
         clear hq
         have hR' := hR (.slice A7 O.length c7) _ (Below.refl _ _) (⟨A7, c7, rfl, hr7⟩)
         clear hR hd
         refine opGives_value ?_ hR'
         subst hA
         simp only [dsOf, List.map_cons, List.map_nil, Option.getD_some, putAll, Act.put, List.setIfInBounds_toArray, List.set_cons_zero, List.set_cons_succ]
         go_simp
        ·intro s w_ hb hd hq R hR
         generalize hA : putAll _ 0 s _ = A
         obtain ⟨A7, c7, e9, hr7⟩ := hd 9 (by kernel_rfl)
         clear hq
         have hR' := hR (.int .i64 0) _ (Below.refl _ _) rfl
         clear hR hd
         refine opGives_value ?_ hR'
         subst hA
         simp only [dsOf, List.map_cons, List.map_nil, Option.getD_some, putAll, Act.put, List.setIfInBounds_toArray, List.set_cons_zero, List.set_cons_succ]
         go_simp
        ·intro s w_ hb hd hq R hR
         generalize hA : putAll _ 0 s _ = A
         obtain ⟨A7, c7, e10, hr7⟩ := hd 10 (by kernel_rfl)
         clear hq
         have hR' := hR (.slice A7 O.length c7) _ (Below.refl _ _) (⟨A7, c7, rfl, hr7⟩)
         clear hR hd
         refine opGives_value ?_ hR'
         subst hA
         simp only [dsOf, List.map_cons, List.map_nil, Option.getD_some, putAll, Act.put, List.setIfInBounds_toArray, List.set_cons_zero, List.set_cons_succ]
         go_simp
        ·intro s w_ hb hd hq R hR
         generalize hA : putAll _ 0 s _ = A
         have e11 : s 11 = _ := hd 11 (by kernel_rfl)
         clear hq
         have hR' := hR (.int .i64 0) _ (Below.refl _ _) rfl
         clear hR hd
         refine opGives_value ?_ hR'
         subst hA
         simp only [dsOf, List.map_cons, List.map_nil, Option.getD_some, putAll, Act.put, List.setIfInBounds_toArray, List.set_cons_zero, List.set_cons_succ]
         go_simp
       case qrest =>
        intro so wo hb hv
        obtain ⟨A7, c7, e12_, hr7⟩ := hv 12 (by decide)
        have e13_ : so 13 = _ := hv 13 (by decide)
        simp only [dsOf, List.map_cons, List.map_nil, Option.getD_some, putAll, Act.put, List.setIfInBounds_toArray, List.set_cons_zero, List.set_cons_succ]
        rw [e12_, e13_]
        clear hv e12_ e13_
        clear k1
        have HO7 := Aside0.mk hr7
        replace hcell := pw_cell_below hb hcell
        replace c4_0 := pw_cell_below hb c4_0
        replace c4_1 := pw_cell_below hb c4_1
        replace c4_2 := pw_cell_below hb c4_2
        replace c4_3 := pw_cell_below hb c4_3
        replace c60 := pw_cell_below hb c60
        replace c61 := pw_cell_below hb c61
        replace c80 := pw_cell_below hb c80
        replace c81 := pw_cell_below hb c81
        replace HR1 := Aside0.readc HR1 hb
        replace HR2 := Aside0.readc HR2 hb
        replace HR3 := Aside0.readc HR3 hb
        replace HI1 := Aside0.readc HI1 hb
        replace HI2 := Aside0.readc HI2 hb
        replace HBl := Aside0.mk (HBl.out.trans (hb.mono HBl.out.size))
        clear hb hr7
        go_upto_region 14 with (fail)
        refine wp_region_w 13 14 (by decide) (fun i => !(i == 8) && !(i == 9) && !(i == 10) && !(i == 12) && !(i == 13)) (fun i => match i with | 0 => fun v => v = .agg #[.int .i64 a, .slice A1 ys.length d1] | 1 => fun v => v = .agg #[.int .i64 b, .slice (some ad) zs.length d2] | 2 => fun v => v = .slice A3 p.length d3 | 3 => fun v => v = .pointer (some ⟨w3.heap.size + 1, 1, none⟩) | 4 => fun v => v = .slice (some ad) zs.length d2 | 5 => fun v => v = .int .i64 (qi : Int) | 6 => fun v => v = .pointer (some (ad.add qi)) | 7 => fun v => v = .int .i64 y | 11 => fun v => v = .int .i64 0 | _ => fun _ => True)
         (FI wo a G) [0, 0, 0, 0, 8, 0, 56, 120, 255, 511, 1023, 1023, 0, 6143, 16383] hmx (by kernel_rfl) ?pstart ?pstay ?psteps ?pstores ?prest
        case pstart =>
         intro b s hb
         exact FI.start hb
        case pstay =>
         intro i b s v w1_ hq hI
         exact FI.quiet hI hq v
        case psteps =>
         refine ⟨?_, ?_, ?_, ?_, ?_, ?_, ?_, ?_, ?_, ?_, ?_, ?_, ?_, trivial⟩
         ·intro s b_ w_ hI hbi hd hq R hR hN
          generalize hA : putAll _ 0 s _ = A
          clear hq
          refine stepG_on rfl ?_
          have q0 := pw_cell_below hI.hB c4_0
          have q1 := pw_cell_below hI.hB c4_1
          have hR' := hR rfl (.agg #[.int .i64 a, .slice A1 ys.length d1]) rfl
          clear hR hN hd
          refine opGives_value ?_ hR'
          subst hA
          simp only [dsOf, List.take, List.map_cons, List.map_nil, Option.getD_some, putAll, Act.put, List.setIfInBounds_toArray, List.set_cons_zero, List.set_cons_succ]
          go_simp
         ·intro s b_ w_ hI hbi hd hq R hR hN
          generalize hA : putAll _ 0 s _ = A
          clear hq
          refine stepG_on rfl ?_
          have q0 := pw_cell_below hI.hB c4_2
          have q1 := pw_cell_below hI.hB c4_3
          have hR' := hR rfl (.agg #[.int .i64 b, .slice (some ad) zs.length d2]) rfl
          clear hR hN hd
          refine opGives_value ?_ hR'
          subst hA
          simp only [dsOf, List.take, List.map_cons, List.map_nil, Option.getD_some, putAll, Act.put, List.setIfInBounds_toArray, List.set_cons_zero, List.set_cons_succ]
          go_simp
         ·intro s b_ w_ hI hbi hd hq R hR hN
          generalize hA : putAll _ 0 s _ = A
          clear hq
          refine stepG_on rfl ?_
          have hR' := hR rfl (.slice A3 p.length d3) rfl
          clear hR hN hd
          refine opGives_value ?_ hR'
          subst hA
          simp only [dsOf, List.take, List.map_cons, List.map_nil, Option.getD_some, putAll, Act.put, List.setIfInBounds_toArray, List.set_cons_zero, List.set_cons_succ]
          go_simp
         ·intro s b_ w_ hI hbi hd hq R hR hN
          generalize hA : putAll _ 0 s _ = A
          clear hq
          refine stepG_on rfl ?_
          have hR' := hR rfl (.pointer (some ⟨w3.heap.size + 1, 1, none⟩)) rfl
          clear hR hN hd
          refine opGives_value ?_ hR'
          subst hA
          simp only [dsOf, List.take, List.map_cons, List.map_nil, Option.getD_some, putAll, Act.put, List.setIfInBounds_toArray, List.set_cons_zero, List.set_cons_succ]
          go_simp
         ·intro s b_ w_ hI hbi hd hq R hR hN
          generalize hA : putAll _ 0 s _ = A
          clear hq
          refine stepG_on rfl ?_
          have e3 : s 3 = _ := (hd 3 (by kernel_rfl)).2 rfl
          have q0 := pw_cell_below hI.hB c4_3
          have hR' := hR rfl (.slice (some ad) zs.length d2) rfl
          clear hR hN hd
          refine opGives_value ?_ hR'
          subst hA
          simp only [dsOf, List.take, List.map_cons, List.map_nil, Option.getD_some, putAll, Act.put, List.setIfInBounds_toArray, List.set_cons_zero, List.set_cons_succ]
          go_simp
         ·intro s b_ w_ hI hbi hd hq R hR hN
          generalize hA : putAll _ 0 s _ = A
          clear hq
          refine stepG_on rfl ?_
          have hR' := hR rfl (.int .i64 (qi : Int)) rfl
          clear hR hN hd
          refine opGives_value ?_ hR'
          subst hA
          simp only [dsOf, List.take, List.map_cons, List.map_nil, Option.getD_some, putAll, Act.put, List.setIfInBounds_toArray, List.set_cons_zero, List.set_cons_succ]
          go_simp
         ·intro s b_ w_ hI hbi hd hq R hR hN
          generalize hA : putAll _ 0 s _ = A
          clear hq
          refine stepG_on rfl ?_
          have e4 : s 4 = _ := (hd 4 (by kernel_rfl)).2 rfl
          have e5 : s 5 = _ := (hd 5 (by kernel_rfl)).2 rfl
          have hR' := hR rfl (.pointer (some (ad.add qi))) rfl
          clear hR hN hd
          refine opGives_value ?_ hR'
          subst hA
          simp only [dsOf, List.take, List.map_cons, List.map_nil, Option.getD_some, putAll, Act.put, List.setIfInBounds_toArray, List.set_cons_zero, List.set_cons_succ]
          go_simp
         ·intro s b_ w_ hI hbi hd hq R hR hN
          generalize hA : putAll _ 0 s _ = A
          clear hq
          refine stepG_on rfl ?_
          have e6 : s 6 = _ := (hd 6 (by kernel_rfl)).2 rfl
          have q0 := pw_cell_below hI.hB hcell
          have hR' := hR rfl (.int .i64 y) rfl
          clear hR hN hd
          refine opGives_value ?_ hR'
          subst hA
          simp only [dsOf, List.take, List.map_cons, List.map_nil, Option.getD_some, putAll, Act.put, List.setIfInBounds_toArray, List.set_cons_zero, List.set_cons_succ]
          go_simp
         ·intro s b_ w_ hI hbi hd hq R hR hN
          generalize hA : putAll _ 0 s _ = A
          clear hq
          refine stepG_on rfl ?_
          have e0 : s 0 = _ := (hd 0 (by kernel_rfl)).2 rfl
          have e1 : s 1 = _ := (hd 1 (by kernel_rfl)).2 rfl
          have e2 : s 2 = _ := (hd 2 (by kernel_rfl)).2 rfl
          have e7 : s 7 = _ := (hd 7 (by kernel_rfl)).2 rfl
          clear hR
          refine opGives_call (f := 15) (args := #[.agg #[.int .i64 a, .slice A1 ys.length d1], .agg #[.int .i64 b, .slice (some ad) zs.length d2], .slice A3 p.length d3, .int .i64 y]) ?_ ?_
          ·subst hA
           clear hN hd
           simp only [dsOf, List.take, List.map_cons, List.map_nil, Option.getD_some, putAll, Act.put, List.setIfInBounds_toArray, List.set_cons_zero, List.set_cons_succ]
           go_simp
          clear hA A hd
          refine (implFibreOf a _ ys b _ zs _ p y w_ (HR1.out.below hI.hB) (HR2.out.below hI.hB) (HR3.out.below hI.hB)).mono ?_
          rw [k2]
          rintro e w3_ ⟨u3, rfl, ho, hb3⟩
          obtain ⟨A7, c7, rfl, -⟩ := id ho.read
          exact ⟨_, rfl, hN rfl _ _ ((hI.below hb3).set (fun h => by omega) _ (fun _ => ⟨A7, c7, rfl, ho.lower hI.hB.size⟩) (fun h => absurd h (by decide)) (fun h => absurd h (by decide)) (fun h => absurd h (by decide)) (by decide))⟩
         ·intro s b_ w_ hI hbi hd hq R hR hN
          generalize hA : putAll _ 0 s _ = A
          clear hq
          refine stepG_on rfl ?_
          have b8 : b_ 8 = true := (hd 8 (by kernel_rfl)).1
          obtain ⟨A7, c7, e8, ho7⟩ := hI.v8 b8
          replace e8 : s 8 = .tuple #[.agg #[.int .i64 a, .slice A7 G.length c7], .int .i64 0] := e8
          clear hR
          have hN' := hN rfl (.tuple #[.agg #[.int .i64 a, .slice A7 G.length c7], .int .i64 0]) (w_) (hI.set (fun h => by omega) _ (fun h => absurd h (by decide)) (fun _ => ⟨A7, c7, rfl, ho7⟩) (fun h => absurd h (by decide)) (fun h => absurd h (by decide)) (by decide))
          clear hN hd
          refine opGives_value ?_ hN'
          subst hA
          simp only [dsOf, List.take, List.map_cons, List.map_nil, Option.getD_some, putAll, Act.put, List.setIfInBounds_toArray, List.set_cons_zero, List.set_cons_succ]
          go_simp
         ·intro s b_ w_ hI hbi hd hq R hR hN
          generalize hA : putAll _ 0 s _ = A
          clear hq
          refine stepG_on rfl ?_
          have b9 : b_ 9 = true := (hd 9 (by kernel_rfl)).1
          obtain ⟨A7, c7, e9, ho7⟩ := hI.v9 b9
          replace e9 : s 9 = .tuple #[.agg #[.int .i64 a, .slice A7 G.length c7], .int .i64 0] := e9
          clear hR
          have hN' := hN rfl (.agg #[.int .i64 a, .slice A7 G.length c7]) (w_) (hI.set (fun _ => hbi) _ (fun h => absurd h (by decide)) (fun h => absurd h (by decide)) (fun _ => ⟨A7, c7, rfl, ho7⟩) (fun h => absurd h (by decide)) (by decide))
          clear hN hd
          refine opGives_value ?_ hN'
          subst hA
          simp only [dsOf, List.take, List.map_cons, List.map_nil, Option.getD_some, putAll, Act.put, List.setIfInBounds_toArray, List.set_cons_zero, List.set_cons_succ]
          go_simp
         ·intro s b_ w_ hI hbi hd hq R hR hN
          generalize hA : putAll _ 0 s _ = A
          clear hq
          refine stepG_on rfl ?_
          have b9 : b_ 9 = true := (hd 9 (by kernel_rfl)).1
          obtain ⟨A7, c7, e9, ho7⟩ := hI.v9 b9
          replace e9 : s 9 = .tuple #[.agg #[.int .i64 a, .slice A7 G.length c7], .int .i64 0] := e9
          have hR' := hR rfl (.int .i64 0) rfl
          clear hR hN hd
          refine opGives_value ?_ hR'
          subst hA
          simp only [dsOf, List.take, List.map_cons, List.map_nil, Option.getD_some, putAll, Act.put, List.setIfInBounds_toArray, List.set_cons_zero, List.set_cons_succ]
          go_simp
         ·intro s b_ w_ hI hbi hd hq R hR hN
          generalize hA : putAll _ 0 s _ = A
          clear hq
          refine stepG_on rfl ?_
          clear hR
          have hN' := hN rfl (.pointer (some ⟨w_.heap.size, 0, none⟩)) (w_.alloc (.cells #[.int .i64 0, .slice none 0 0] 26)) ((hI.below (Below.alloc (Below.refl _ _) (Nat.le_refl _) _)).set (fun _ => hbi) _ (fun h => absurd h (by decide)) (fun h => absurd h (by decide)) (fun h => absurd h (by decide)) (fun _ => ⟨_, rfl, hI.hB.size, blk_new w_ _⟩) (by decide))
          clear hN hd
          refine opGives_value ?_ hN'
          subst hA
          simp only [dsOf, List.take, List.map_cons, List.map_nil, Option.getD_some, putAll, Act.put, List.setIfInBounds_toArray, List.set_cons_zero, List.set_cons_succ]
          go_simp
        case pstores =>
         intro i o h1 h2 ho s b_ w_ hI hbi hd
         match i, h1, h2, ho, hbi, hd with
         | 13, h1, h2, ho, hbi, hd =>
          cases ho
          refine ⟨rfl, ?_⟩
          have b12 : b_ 12 = true := (hd 12 (by decide) (by kernel_rfl)).1
          have b10 : b_ 10 = true := (hd 10 (by decide) (by kernel_rfl)).1
          obtain ⟨k, cs, e12, hk1, hk2, hk3, -⟩ := hI.v12 b12
          obtain rfl := hk3 hbi
          obtain ⟨A7, c7, e10, ho7⟩ := hI.v10 b10
          replace e10 : s 10 = .agg #[.int .i64 a, .slice A7 G.length c7] := e10
          have c00 : w_.cell? ⟨k, 0, none⟩ = some (.int .i64 0) := blk_cell hk2 0
          have c01 : w_.cell? ⟨k, 1, none⟩ = some (.slice none 0 0) := blk_cell hk2 1
          have f00 : w_.frozen? ⟨k, 0, none⟩ = false := blk_frozen hk2 0
          have f01 : w_.frozen? ⟨k, 1, none⟩ = false := blk_frozen hk2 1
          generalize hA : putAll _ 0 s _ = A
          refine ⟨(w_.setCell ⟨k, 0, none⟩ (.int .i64 a)).setCell ⟨k, 1, none⟩ (.slice A7 G.length c7), ?_, ?_⟩
          ·subst hA
           simp only [dsOf, List.take, List.map_cons, List.map_nil, Option.getD_some, putAll, Act.put, List.setIfInBounds_toArray, List.set_cons_zero, List.set_cons_succ]
           clear hd
           go_simp
          ·exact hI.put b12 b10 hbi e12 e10
         | n + 14, h1, h2, ho, hbi, hd => exact absurd h2 (by omega)
        case prest =>
         intro sf b_ wf hI hb hv
         have e11_ : sf 11 = _ := hv 11 (by decide) rfl
         simp only [dsOf, List.take, List.map_cons, List.map_nil, Option.getD_some, putAll, Act.put, List.setIfInBounds_toArray, List.set_cons_zero, List.set_cons_succ]
         clear hv
         obtain ⟨k, cs, e12, hk1, hk2, -, hk4⟩ := hI.v12 (hb 12 (by decide))
         obtain ⟨A8, c8, e10, ho8⟩ := hI.v10 (hb 10 (by decide))
         obtain rfl : cs = #[.int .i64 a, .slice A8 G.length c8] := by have h := (hk4 (hb 13 (by decide))).symm.trans e10; injection h
         have HK := Aside0.mk hk2
         have HG8 := Aside0.mk ho8.read
         have hbo := hI.hB
         rw [e11_, e12]
         clear hb hI e11_ e10 e12 hk2 hk4 ho8
         simp only [List.drop]
         unfold tailList
         refine .inl ?_
         refine opGives_value (v := .int .i64 0) (w' := wf) ?_ ?_
         ·go_simp
         simp only [List.drop, Act.put, List.setIfInBounds_toArray, List.set_cons_zero, List.set_cons_succ]
         unfold tailList
         go_upto_region 15 with (fail)
         have g0 := blk_cell HK.out 0
         have g1 := blk_cell HK.out 1
         replace hcell := pw_cell_below hbo hcell
         replace HI1 := Aside0.readc HI1 hbo
         have HBf := Aside0.mk (HBl.out.trans (hbo.mono HBl.out.size))
         have HOL : O.length ≤ 64 := by rw [HOq.out]; exact Nat.le_trans (List.length_filter_le _ _) km5
         have HSU : Aside0 (((zs.take (qi + 1)).map fun g => (ys.filter (opAt p g)).length).sum = t + O.length) := ⟨by rw [sum_take (fun g => (ys.filter (opAt p g)).length) hlt HY.out, HT.out, HOq.out]⟩
         replace c4_0 := pw_cell_below hbo c4_0
         replace c4_1 := pw_cell_below hbo c4_1
         replace c4_2 := pw_cell_below hbo c4_2
         replace c4_3 := pw_cell_below hbo c4_3
         replace c60 := pw_cell_below hbo c60
         replace c61 := pw_cell_below hbo c61
         replace c80 := pw_cell_below hbo c80
         replace c81 := pw_cell_below hbo c81
         have x_c4_0 := fun x : Ext wf => Ext.cell c4_0 x
         have x_c4_1 := fun x : Ext wf => Ext.cell c4_1 x
         have x_c4_2 := fun x : Ext wf => Ext.cell c4_2 x
         have x_c4_3 := fun x : Ext wf => Ext.cell c4_3 x
         have x_c60 := fun x : Ext wf => Ext.cell c60 x
         have x_c61 := fun x : Ext wf => Ext.cell c61 x
         have x_c80 := fun x : Ext wf => Ext.cell c80 x
         have x_c81 := fun x : Ext wf => Ext.cell c81 x
         have x_g0 := fun x : Ext wf => Ext.cell g0 x
         have x_g1 := fun x : Ext wf => Ext.cell g1 x
         have x_hcell := fun x : Ext wf => Ext.cell hcell x
         have HIC : Aside0 (∀ x : Ext wf, Calls Tryz.prog 16 #[.agg #[.int .i64 a, .slice A8 G.length c8]] x.1 fun e w' => e = .returned (.bool true) ∧ Below x.1.heap.size x.1 w') := ⟨fun x => by
          have h := isComplex a _ G x.1 (HG8.out.below x.2)
          rw [k3] at h
          exact h⟩
         cases hyI : decide (y ∈ I) with
         | true =>
          rw [hyI] at k4
          have hOl : (0 : Int) < (O.length : Int) := by have := of_decide_eq_true k4; omega
          have hOb : decide ((0 : Int) < (O.length : Int)) = true := decide_eq_true hOl
          have hOn : 0 < O.length := by omega
          have hOe : O ≠ [] := by intro h; rw [h] at hOn; exact absurd hOn (by decide)
          have HHI : Aside0 (∀ x : Ext wf, Calls Tryz.prog 17 #[.slice A4 I.length d4, .int .i64 y] x.1 fun e w' => e = .returned (.bool true) ∧ Below x.1.heap.size x.1 w') := ⟨fun x => by
           have h := hasInt _ I y x.1 (HI1.out.below x.2) km6
           rw [hyI] at h
           exact h⟩
          clear k2 k3 k4 hyI
          refine wp_region_ext (by kernel_rfl) (by kernel_rfl) ?_
          repeat (go_big_quiet_step ((first | (go_at_call 16; exact Calls.ext_of (HIC.out _)) | (go_at_call 17; exact Calls.ext_of (HHI.out _)))))
          refine wpQuiet_nil ?_
          rintro _ ⟨x, rfl⟩
          have hbx := x.2
          go_wp2
          go_roundw
          case rel => exact ⟨qi + 1, by go_num, by omega, by rw [HSU.out] <;> go_num, ⟨HBf.out.trans (hbx.mono HBf.out.size)⟩⟩
          case measure => simp [intOf]; omega
         | false =>
          rw [hyI] at k4
          have hOl : ¬ (0 : Int) < (O.length : Int) := by have := of_decide_eq_false k4; omega
          have HHI : Aside0 (∀ x : Ext wf, Calls Tryz.prog 17 #[.slice A4 I.length d4, .int .i64 y] x.1 fun e w' => e = .returned (.bool false) ∧ Below x.1.heap.size x.1 w') := ⟨fun x => by
           have h := hasInt _ I y x.1 (HI1.out.below x.2) km6
           rw [hyI] at h
           exact h⟩
          clear k2 k3 k4 hyI
          refine wp_region_ext (by kernel_rfl) (by kernel_rfl) ?_
          repeat (go_big_quiet_step ((first | (go_at_call 16; exact Calls.ext_of (HIC.out _)) | (go_at_call 17; exact Calls.ext_of (HHI.out _)))))
          refine wpQuiet_nil ?_
          rintro _ ⟨x, rfl⟩
          have hbx := x.2
          go_wp2
          go_roundw
          case rel => exact ⟨qi + 1, by go_num, by omega, by rw [HSU.out] <;> go_num, ⟨HBf.out.trans (hbx.mono HBf.out.size)⟩⟩
          case measure => simp [intOf]; omega
     ·have hltI : ¬ (qi : Int) < (zs.length : Int) := by omega
      go_wp2
      go_meet
      case rel => exact ⟨by rw [HT.out, List.take_of_length_le (by omega), KM2.out], HBl⟩
   case rest =>
    obtain ⟨rfl, HBl⟩ := hcut
    generalize wc = w7 at *
    have hb := HBl.out
    have hyy : ((ys.length : Int) != (ys.length : Int)) = false := by simp
    replace HB := Aside0.belowC HB hb
    replace c4_0 := pw_cell_below hb c4_0
    replace c4_1 := pw_cell_below hb c4_1
    replace c4_2 := pw_cell_below hb c4_2
    replace c4_3 := pw_cell_below hb c4_3
    replace c60 := pw_cell_below hb c60
    replace c61 := pw_cell_below hb c61
    replace c80 := pw_cell_below hb c80
    replace c81 := pw_cell_below hb c81
    replace HR1 := Aside0.readc HR1 hb
    replace HR2 := Aside0.readc HR2 hb
    replace HR3 := Aside0.readc HR3 hb
    replace HI1 := Aside0.readc HI1 hb
    replace HI2 := Aside0.readc HI2 hb
    replace HV := Aside0.ready HV hb
    clear hb HBl
    as_aux_lemma =>
     go_wp2_with (first | (replace st := stg_next 5 6 st; go_at_call 18; refine (implAreContiguous a _ ys b _ zs _ p _ p _ HR1.out HR2.out HR3.out HR3.out).mono ?_; rw [km3]; rintro e w8 ⟨rfl, hb⟩; replace HB := Aside0.belowC HB hb; replace c4_0 := pw_cell_below hb c4_0; replace c4_1 := pw_cell_below hb c4_1; replace c4_2 := pw_cell_below hb c4_2; replace c4_3 := pw_cell_below hb c4_3; replace c60 := pw_cell_below hb c60; replace c61 := pw_cell_below hb c61; replace c80 := pw_cell_below hb c80; replace c81 := pw_cell_below hb c81; replace HR1 := Aside0.readc HR1 hb; replace HR2 := Aside0.readc HR2 hb; replace HR3 := Aside0.readc HR3 hb; replace HI1 := Aside0.readc HI1 hb; replace HI2 := Aside0.readc HI2 hb; replace HV := Aside0.ready HV hb; clear hb; clear HR1 HR2 HR3 HI1 HI2) | (replace st := stg_next 6 7 st; go_at_call 19; refine (drawFibreOf _ nb _ HN.out HV.out).mono ?_; rintro e w9 ⟨f1, f2, u, z, lv, ks, ls, q, g, rfl, ho, hoz, hop, -, -, -, -, -, hb⟩; replace HB := Aside0.belowC HB hb; replace HV := Aside0.ready HV hb; clear hb; have HF1 := Aside0.mk ho.read; obtain ⟨A6, d6, rfl, -⟩ := id ho.read; clear ho; have HF2 := Aside0.mk hoz.read; obtain ⟨A7, d7, rfl, -⟩ := id hoz.read; clear hoz; have HF3 := Aside0.mk hop.read; obtain ⟨A8, d8, rfl, -⟩ := id hop.read; clear hop; obtain ⟨Fa, hFa⟩ : ∃ r, r = (ansFibreOf f1 ks f2 ls q g).1.1 := ⟨_, rfl⟩; have HFa := Aside0.mk hFa; clear hFa; obtain ⟨F, hF⟩ : ∃ r, r = (ansFibreOf f1 ks f2 ls q g).1.2 := ⟨_, rfl⟩; have HF := Aside0.mk hF; clear hF; obtain ⟨fc, hfc⟩ : ∃ r, r = (ansFibreOf f1 ks f2 ls q g).2 := ⟨_, rfl⟩; have Hfc := Aside0.mk hfc; clear hfc; obtain ⟨O, hO⟩ : ∃ r, r = (ansOpenFibre f1 ks f2 ls q g).1 := ⟨_, rfl⟩; have HO := Aside0.mk hO; clear hO; obtain ⟨oc, hoc⟩ : ∃ r, r = (ansOpenFibre f1 ks f2 ls q g).2 := ⟨_, rfl⟩; have Hoc := Aside0.mk hoc; clear hoc) | (replace st := stg_next 7 8 st; go_at_call 15; refine (implFibreOf f1 _ ks f2 _ ls _ q g _ (HF1.out.below (((Below.refl _ _).alloc (Nat.le_refl _) _).alloc (by simp) _)) (HF2.out.below (((Below.refl _ _).alloc (Nat.le_refl _) _).alloc (by simp) _)) (HF3.out.below (((Below.refl _ _).alloc (Nat.le_refl _) _).alloc (by simp) _))).mono ?_; rw [← HFa.out, ← HF.out, ← Hfc.out]; rintro e w10 ⟨u, rfl, ho, hb⟩; obtain ⟨c10_0, c10_1, c10_2, c10_3, hb⟩ := two_cells hb; replace HB := Aside0.belowC HB hb; replace HF1 := Aside0.readc HF1 hb; replace HF2 := Aside0.readc HF2 hb; replace HF3 := Aside0.readc HF3 hb; replace HV := Aside0.ready HV hb; clear hb; have HG1 := Aside0.mk ho.read; obtain ⟨A9, d9, rfl, -⟩ := id ho.read; clear ho; have k10_0 := pw_cell_below (Below.alloc (Below.refl w10.heap.size w10) (Nat.le_refl _) (.cells #[.int .i64 Fa, .slice A9 F.length d9] 26)) c10_0; have k10_1 := pw_cell_below (Below.alloc (Below.refl w10.heap.size w10) (Nat.le_refl _) (.cells #[.int .i64 Fa, .slice A9 F.length d9] 26)) c10_1; have k10_2 := pw_cell_below (Below.alloc (Below.refl w10.heap.size w10) (Nat.le_refl _) (.cells #[.int .i64 Fa, .slice A9 F.length d9] 26)) c10_2; have k10_3 := pw_cell_below (Below.alloc (Below.refl w10.heap.size w10) (Nat.le_refl _) (.cells #[.int .i64 Fa, .slice A9 F.length d9] 26)) c10_3) | (replace st := stg_next 8 9 st; go_at_call 20; refine (specFibreOf f1 _ ks f2 _ ls _ q g _ (HF1.out.below (Below.alloc (Below.refl _ _) (Nat.le_refl _) _)) (HF2.out.below (Below.alloc (Below.refl _ _) (Nat.le_refl _) _)) (HF3.out.below (Below.alloc (Below.refl _ _) (Nat.le_refl _) _))).mono ?_; clear k10_0 k10_1 k10_2 k10_3; rw [← HFa.out, ← HF.out, ← Hfc.out]; rintro e w11 ⟨u, rfl, ho, hb⟩; have c220 : w11.cell? ⟨w10.heap.size, 0, none⟩ = some (.int .i64 Fa) := pw_cell_below hb (new_cell _ _ _ 0 _ rfl); have c221 : w11.cell? ⟨w10.heap.size, 1, none⟩ = some (.slice A9 F.length d9) := pw_cell_below hb (new_cell _ _ _ 1 _ rfl); replace hb := below_unalloc hb; replace HB := Aside0.belowC HB hb; replace c10_0 := pw_cell_below hb c10_0; replace c10_1 := pw_cell_below hb c10_1; replace c10_2 := pw_cell_below hb c10_2; replace c10_3 := pw_cell_below hb c10_3; replace HF1 := Aside0.readc HF1 hb; replace HF2 := Aside0.readc HF2 hb; replace HF3 := Aside0.readc HF3 hb; replace HG1 := Aside0.readc HG1 hb; replace HV := Aside0.ready HV hb; clear hb; have HG2 := Aside0.mk ho.read; obtain ⟨A10, d10, rfl, -⟩ := id ho.read; clear ho; have k11_0 := pw_cell_below (Below.alloc (Below.refl w11.heap.size w11) (Nat.le_refl _) (.cells #[.int .i64 Fa, .slice A10 F.length d10] 26)) c10_0; have k11_1 := pw_cell_below (Below.alloc (Below.refl w11.heap.size w11) (Nat.le_refl _) (.cells #[.int .i64 Fa, .slice A10 F.length d10] 26)) c10_1; have k11_2 := pw_cell_below (Below.alloc (Below.refl w11.heap.size w11) (Nat.le_refl _) (.cells #[.int .i64 Fa, .slice A10 F.length d10] 26)) c10_2; have k11_3 := pw_cell_below (Below.alloc (Below.refl w11.heap.size w11) (Nat.le_refl _) (.cells #[.int .i64 Fa, .slice A10 F.length d10] 26)) c10_3; have k11_4 := pw_cell_below (Below.alloc (Below.refl w11.heap.size w11) (Nat.le_refl _) (.cells #[.int .i64 Fa, .slice A10 F.length d10] 26)) c220; have k11_5 := pw_cell_below (Below.alloc (Below.refl w11.heap.size w11) (Nat.le_refl _) (.cells #[.int .i64 Fa, .slice A10 F.length d10] 26)) c221) | (replace st := stg_next 9 10 st; go_at_call 14; refine (implOpenFibre f1 _ ks f2 _ ls _ q g _ (HF1.out.below (Below.alloc (Below.refl _ _) (Nat.le_refl _) _)) (HF2.out.below (Below.alloc (Below.refl _ _) (Nat.le_refl _) _)) (HF3.out.below (Below.alloc (Below.refl _ _) (Nat.le_refl _) _))).mono ?_; clear k11_0 k11_1 k11_2 k11_3 k11_4 k11_5; rw [← HO.out, ← Hoc.out]; rintro e w12 ⟨u, rfl, ho, hb⟩; have c240 : w12.cell? ⟨w11.heap.size, 0, none⟩ = some (.int .i64 Fa) := pw_cell_below hb (new_cell _ _ _ 0 _ rfl); have c241 : w12.cell? ⟨w11.heap.size, 1, none⟩ = some (.slice A10 F.length d10) := pw_cell_below hb (new_cell _ _ _ 1 _ rfl); replace hb := below_unalloc hb; replace HB := Aside0.belowC HB hb; replace c10_0 := pw_cell_below hb c10_0; replace c10_1 := pw_cell_below hb c10_1; replace c10_2 := pw_cell_below hb c10_2; replace c10_3 := pw_cell_below hb c10_3; replace c220 := pw_cell_below hb c220; replace c221 := pw_cell_below hb c221; replace HF1 := Aside0.readc HF1 hb; replace HF2 := Aside0.readc HF2 hb; replace HF3 := Aside0.readc HF3 hb; replace HG1 := Aside0.readc HG1 hb; replace HG2 := Aside0.readc HG2 hb; replace HV := Aside0.ready HV hb; clear hb; have HO1 := Aside0.mk ho.read; obtain ⟨A11, d11, rfl, -⟩ := id ho.read; clear ho) | (replace st := stg_next 10 11 st; go_at_call 21; refine (specOpenFibre f1 _ ks f2 _ ls _ q g _ HF1.out HF2.out HF3.out).mono ?_; rw [← HO.out, ← Hoc.out]; rintro e w13 ⟨u, rfl, ho, hb⟩; replace HB := Aside0.belowC HB hb; replace c10_0 := pw_cell_below hb c10_0; replace c10_1 := pw_cell_below hb c10_1; replace c10_2 := pw_cell_below hb c10_2; replace c10_3 := pw_cell_below hb c10_3; replace c220 := pw_cell_below hb c220; replace c221 := pw_cell_below hb c221; replace c240 := pw_cell_below hb c240; replace c241 := pw_cell_below hb c241; replace HF1 := Aside0.readc HF1 hb; replace HF2 := Aside0.readc HF2 hb; replace HF3 := Aside0.readc HF3 hb; replace HG1 := Aside0.readc HG1 hb; replace HG2 := Aside0.readc HG2 hb; replace HO1 := Aside0.readc HO1 hb; replace HV := Aside0.ready HV hb; clear hb; have HO2 := Aside0.mk ho.read; obtain ⟨A12, d12, rfl, -⟩ := id ho.read; clear ho) | (replace st := stg_next 11 12 st; go_at_call 13; refine (complexes5Same Fa _ _ F _ HG1.out HG2.out).mono ?_; rintro e w14 ⟨rfl, hb⟩; replace HB := Aside0.belowC HB hb; replace c10_0 := pw_cell_below hb c10_0; replace c10_1 := pw_cell_below hb c10_1; replace c10_2 := pw_cell_below hb c10_2; replace c10_3 := pw_cell_below hb c10_3; replace c220 := pw_cell_below hb c220; replace c221 := pw_cell_below hb c221; replace c240 := pw_cell_below hb c240; replace c241 := pw_cell_below hb c241; replace HF1 := Aside0.readc HF1 hb; replace HF2 := Aside0.readc HF2 hb; replace HF3 := Aside0.readc HF3 hb; replace HG1 := Aside0.readc HG1 hb; replace HG2 := Aside0.readc HG2 hb; replace HO1 := Aside0.readc HO1 hb; replace HO2 := Aside0.readc HO2 hb; replace HV := Aside0.ready HV hb; clear hb) | (replace st := stg_next 12 13 st; go_at_call 22; refine (likeSame _ _ O _ HO1.out HO2.out).mono ?_; rintro e w15 ⟨rfl, hb⟩; replace HB := Aside0.belowC HB hb; replace c10_0 := pw_cell_below hb c10_0; replace c10_1 := pw_cell_below hb c10_1; replace c10_2 := pw_cell_below hb c10_2; replace c10_3 := pw_cell_below hb c10_3; replace c220 := pw_cell_below hb c220; replace c221 := pw_cell_below hb c221; replace c240 := pw_cell_below hb c240; replace c241 := pw_cell_below hb c241; replace HF1 := Aside0.readc HF1 hb; replace HF2 := Aside0.readc HF2 hb; replace HF3 := Aside0.readc HF3 hb; replace HG1 := Aside0.readc HG1 hb; replace HG2 := Aside0.readc HG2 hb; replace HO1 := Aside0.readc HO1 hb; replace HO2 := Aside0.readc HO2 hb; replace HV := Aside0.ready HV hb; clear hb; clear HO1 HO2 HG1 HG2 HF1 HF2 HF3) | (replace st := stg_next 13 14 st; go_at_call 23; refine Aside0.out ?_))
     refine Aside0.mk ?_
     with_reducible refine (drawComposeMaps _ nb _ HN.out HV.out).mono ?_
     rintro e w16 ⟨c1, c2, c3, u, z, y, lv, rv, ks1, ks2, ks3, q1, q2, rfl, ho, hoz, hoy, hop, hoq, -, -, -, -, -, -, -, hb⟩
     replace HB := Aside0.belowC HB hb
     replace HV := Aside0.ready HV hb
     clear hb
     have HC1 := Aside0.mk ho.read
     obtain ⟨A13, d13, rfl, -⟩ := id ho.read
     clear ho
     have HC2 := Aside0.mk hoz.read
     obtain ⟨A14, d14, rfl, -⟩ := id hoz.read
     clear hoz
     have HC3 := Aside0.mk hoy.read
     obtain ⟨A15, d15, rfl, -⟩ := id hoy.read
     clear hoy
     have HC4 := Aside0.mk hop.read
     obtain ⟨A16, d16, rfl, -⟩ := id hop.read
     clear hop
     have HC5 := Aside0.mk hoq.read
     obtain ⟨A17, d17, rfl, -⟩ := id hoq.read
     clear hoq
     obtain ⟨C, hC⟩ : ∃ r, r = (ansComposeMaps c1 ks1 c2 ks2 c3 ks3 q1 q2).1 := ⟨_, rfl⟩
     have HC := Aside0.mk hC
     clear hC
     obtain ⟨cc, hcc⟩ : ∃ r, r = (ansComposeMaps c1 ks1 c2 ks2 c3 ks3 q1 q2).2 := ⟨_, rfl⟩
     have Hcc := Aside0.mk hcc
     clear hcc
     have KC : cc = 0 → ansIsSimplicial c1 ks1 c3 ks3 C = (true, 0) := fun h0 => by rw [HC.out]; exact key_comp (by rw [← Hcc.out]; exact h0)
     by_cases hcc0 : cc = 0
     ·have kc := KC hcc0
      clear KC
      obtain rfl : cc = 0 := hcc0
      as_aux_lemma =>
       go_wp2_with (first | (replace st := stg_next 14 15 st; go_at_call 24; refine (implComposeMaps c1 _ ks1 c2 _ ks2 c3 _ ks3 _ q1 _ q2 _ (HC1.out.below ((((Below.refl _ _).alloc (Nat.le_refl _) _).alloc (by simp) _).alloc (by simp; omega) _)) (HC2.out.below ((((Below.refl _ _).alloc (Nat.le_refl _) _).alloc (by simp) _).alloc (by simp; omega) _)) (HC3.out.below ((((Below.refl _ _).alloc (Nat.le_refl _) _).alloc (by simp) _).alloc (by simp; omega) _)) (HC4.out.below ((((Below.refl _ _).alloc (Nat.le_refl _) _).alloc (by simp) _).alloc (by simp; omega) _)) (HC5.out.below ((((Below.refl _ _).alloc (Nat.le_refl _) _).alloc (by simp) _).alloc (by simp; omega) _))).mono ?_; rw [← HC.out, ← Hcc.out]; rintro e w17 ⟨u, rfl, ho, hb⟩; obtain ⟨c17_0, c17_1, c17_2, c17_3, c17_4, c17_5, hb⟩ := three_cells hb; replace HB := Aside0.belowC HB hb; replace HC1 := Aside0.readc HC1 hb; replace HC2 := Aside0.readc HC2 hb; replace HC3 := Aside0.readc HC3 hb; replace HC4 := Aside0.readc HC4 hb; replace HC5 := Aside0.readc HC5 hb; replace HV := Aside0.ready HV hb; clear hb; have HM1 := Aside0.mk ho.read; obtain ⟨A18, d18, rfl, -⟩ := id ho.read; clear ho) | (replace st := stg_next 15 16 st; go_at_call 25; refine (specComposeMaps c1 _ ks1 c2 _ ks2 c3 _ ks3 _ q1 _ q2 _ HC1.out HC2.out HC3.out HC4.out HC5.out).mono ?_; rw [← HC.out, ← Hcc.out]; rintro e w18 ⟨u, rfl, ho, hb⟩; replace HB := Aside0.belowC HB hb; replace c17_0 := pw_cell_below hb c17_0; replace c17_1 := pw_cell_below hb c17_1; replace c17_2 := pw_cell_below hb c17_2; replace c17_3 := pw_cell_below hb c17_3; replace c17_4 := pw_cell_below hb c17_4; replace c17_5 := pw_cell_below hb c17_5; replace HC1 := Aside0.readc HC1 hb; replace HC2 := Aside0.readc HC2 hb; replace HC3 := Aside0.readc HC3 hb; replace HC4 := Aside0.readc HC4 hb; replace HC5 := Aside0.readc HC5 hb; replace HM1 := Aside0.readc HM1 hb; replace HV := Aside0.ready HV hb; clear hb; have HM2 := Aside0.mk ho.read; obtain ⟨A19, d19, rfl, -⟩ := id ho.read; clear ho) | (replace st := stg_next 16 17 st; go_at_call 22; refine (likeSame _ _ C _ HM1.out HM2.out).mono ?_; rintro e w19 ⟨rfl, hb⟩; replace HB := Aside0.belowC HB hb; replace c17_0 := pw_cell_below hb c17_0; replace c17_1 := pw_cell_below hb c17_1; replace c17_2 := pw_cell_below hb c17_2; replace c17_3 := pw_cell_below hb c17_3; replace c17_4 := pw_cell_below hb c17_4; replace c17_5 := pw_cell_below hb c17_5; replace HC1 := Aside0.readc HC1 hb; replace HC2 := Aside0.readc HC2 hb; replace HC3 := Aside0.readc HC3 hb; replace HC4 := Aside0.readc HC4 hb; replace HC5 := Aside0.readc HC5 hb; replace HM1 := Aside0.readc HM1 hb; replace HM2 := Aside0.readc HM2 hb; replace HV := Aside0.ready HV hb; clear hb) | (replace st := stg_next 17 18 st; go_at_call 26; refine (implIsSimplicial c1 _ ks1 c3 _ ks3 _ C _ HC1.out HC3.out HM1.out).mono ?_; rw [kc]; rintro e w20 ⟨rfl, hb⟩; replace HB := Aside0.belowC HB hb; replace c17_0 := pw_cell_below hb c17_0; replace c17_1 := pw_cell_below hb c17_1; replace c17_2 := pw_cell_below hb c17_2; replace c17_3 := pw_cell_below hb c17_3; replace c17_4 := pw_cell_below hb c17_4; replace c17_5 := pw_cell_below hb c17_5; replace HC1 := Aside0.readc HC1 hb; replace HC2 := Aside0.readc HC2 hb; replace HC3 := Aside0.readc HC3 hb; replace HC4 := Aside0.readc HC4 hb; replace HC5 := Aside0.readc HC5 hb; replace HM1 := Aside0.readc HM1 hb; replace HM2 := Aside0.readc HM2 hb; replace HV := Aside0.ready HV hb; clear hb) | (replace st := stg_next 18 19 st; go_at_call 27; refine (drawAreContiguous _ nb _ HN.out HV.out).mono ?_; rintro e w21 ⟨e1, e2, u, z, lv, rv, ms1, ms2, r1, r2, rfl, ho, hoz, hop, hoq, -, -, -, -, -, -, hb⟩; replace HB := Aside0.belowC HB hb; replace c17_0 := pw_cell_below hb c17_0; replace c17_1 := pw_cell_below hb c17_1; replace c17_2 := pw_cell_below hb c17_2; replace c17_3 := pw_cell_below hb c17_3; replace c17_4 := pw_cell_below hb c17_4; replace c17_5 := pw_cell_below hb c17_5; replace HC1 := Aside0.readc HC1 hb; replace HC2 := Aside0.readc HC2 hb; replace HC3 := Aside0.readc HC3 hb; replace HC4 := Aside0.readc HC4 hb; replace HC5 := Aside0.readc HC5 hb; replace HM1 := Aside0.readc HM1 hb; replace HM2 := Aside0.readc HM2 hb; replace HV := Aside0.ready HV hb; clear hb; clear HM1 HM2 HC1 HC2 HC3 HC4 HC5; have HE1 := Aside0.mk ho.read; obtain ⟨A20, d20, rfl, -⟩ := id ho.read; clear ho; have HE2 := Aside0.mk hoz.read; obtain ⟨A21, d21, rfl, -⟩ := id hoz.read; clear hoz; have HE3 := Aside0.mk hop.read; obtain ⟨A22, d22, rfl, -⟩ := id hop.read; clear hop; have HE4 := Aside0.mk hoq.read; obtain ⟨A23, d23, rfl, -⟩ := id hoq.read; clear hoq; obtain ⟨n1, hn1⟩ : ∃ r, r = (ansAreContiguous e1 ms1 e2 ms2 r1 r2).1 := ⟨_, rfl⟩; have Hn1 := Aside0.mk hn1; clear hn1; obtain ⟨n2, hn2⟩ : ∃ r, r = (ansAreContiguous e1 ms1 e2 ms2 r1 r2).2 := ⟨_, rfl⟩; have Hn2 := Aside0.mk hn2; clear hn2) | (replace st := stg_next 19 20 st; go_at_call 18; refine (implAreContiguous e1 _ ms1 e2 _ ms2 _ r1 _ r2 _ (HE1.out.below (((Below.refl _ _).alloc (Nat.le_refl _) _).alloc (by simp) _)) (HE2.out.below (((Below.refl _ _).alloc (Nat.le_refl _) _).alloc (by simp) _)) (HE3.out.below (((Below.refl _ _).alloc (Nat.le_refl _) _).alloc (by simp) _)) (HE4.out.below (((Below.refl _ _).alloc (Nat.le_refl _) _).alloc (by simp) _))).mono ?_; rw [← Hn1.out, ← Hn2.out]; rintro e w22 ⟨rfl, hb⟩; obtain ⟨c22_0, c22_1, c22_2, c22_3, hb⟩ := two_cells hb; replace HB := Aside0.belowC HB hb; replace HE1 := Aside0.readc HE1 hb; replace HE2 := Aside0.readc HE2 hb; replace HE3 := Aside0.readc HE3 hb; replace HE4 := Aside0.readc HE4 hb; replace HV := Aside0.ready HV hb; clear hb) | (replace st := stg_next 20 21 st; go_at_call 28; refine (specAreContiguous e1 _ ms1 e2 _ ms2 _ r1 _ r2 _ HE1.out HE2.out HE3.out HE4.out).mono ?_; rw [← Hn1.out, ← Hn2.out]; rintro e w23 ⟨rfl, hb⟩; replace HB := Aside0.belowC HB hb; replace c22_0 := pw_cell_below hb c22_0; replace c22_1 := pw_cell_below hb c22_1; replace c22_2 := pw_cell_below hb c22_2; replace c22_3 := pw_cell_below hb c22_3; replace HE1 := Aside0.readc HE1 hb; replace HE2 := Aside0.readc HE2 hb; replace HE3 := Aside0.readc HE3 hb; replace HE4 := Aside0.readc HE4 hb; replace HV := Aside0.ready HV hb; clear hb) | (replace st := stg_next 21 22 st; go_at_call 18; refine (implAreContiguous e1 _ ms1 e2 _ ms2 _ r2 _ r1 _ HE1.out HE2.out HE4.out HE3.out).mono ?_; rw [cont_swap, ← Hn1.out, ← Hn2.out]; rintro e w24 ⟨rfl, hb⟩; replace HB := Aside0.belowC HB hb; replace c22_0 := pw_cell_below hb c22_0; replace c22_1 := pw_cell_below hb c22_1; replace c22_2 := pw_cell_below hb c22_2; replace c22_3 := pw_cell_below hb c22_3; replace HE1 := Aside0.readc HE1 hb; replace HE2 := Aside0.readc HE2 hb; replace HE3 := Aside0.readc HE3 hb; replace HE4 := Aside0.readc HE4 hb; replace HV := Aside0.ready HV hb; clear hb) | (replace st := stg_next 22 23 st; go_at_call 29; refine (drawIsSimplicial _ nb _ HN.out HV.out).mono ?_; rintro e w25 ⟨s1, s2, u, z, lv, ts1, ts2, t3, rfl, ho, hoz, hop, -, -, -, -, hb⟩; replace HB := Aside0.belowC HB hb; replace c22_0 := pw_cell_below hb c22_0; replace c22_1 := pw_cell_below hb c22_1; replace c22_2 := pw_cell_below hb c22_2; replace c22_3 := pw_cell_below hb c22_3; replace HE1 := Aside0.readc HE1 hb; replace HE2 := Aside0.readc HE2 hb; replace HE3 := Aside0.readc HE3 hb; replace HE4 := Aside0.readc HE4 hb; replace HV := Aside0.ready HV hb; clear hb; clear HE1 HE2 HE3 HE4; have HS1 := Aside0.mk ho.read; obtain ⟨A24, d24, rfl, -⟩ := id ho.read; clear ho; have HS2 := Aside0.mk hoz.read; obtain ⟨A25, d25, rfl, -⟩ := id hoz.read; clear hoz; have HS3 := Aside0.mk hop.read; obtain ⟨A26, d26, rfl, -⟩ := id hop.read; clear hop; obtain ⟨y1, hy1⟩ : ∃ r, r = (ansIsSimplicial s1 ts1 s2 ts2 t3).1 := ⟨_, rfl⟩; have Hy1 := Aside0.mk hy1; clear hy1; obtain ⟨y2, hy2⟩ : ∃ r, r = (ansIsSimplicial s1 ts1 s2 ts2 t3).2 := ⟨_, rfl⟩; have Hy2 := Aside0.mk hy2; clear hy2; obtain ⟨y3, hy3⟩ : ∃ r, r = (ansIsMap s1 ts1 s2 ts2 t3).1 := ⟨_, rfl⟩; have Hy3 := Aside0.mk hy3; clear hy3; obtain ⟨y4, hy4⟩ : ∃ r, r = (ansIsMap s1 ts1 s2 ts2 t3).2 := ⟨_, rfl⟩; have Hy4 := Aside0.mk hy4; clear hy4) | (replace st := stg_next 23 24 st; go_at_call 26; refine (implIsSimplicial s1 _ ts1 s2 _ ts2 _ t3 _ (HS1.out.below (((Below.refl _ _).alloc (Nat.le_refl _) _).alloc (by simp) _)) (HS2.out.below (((Below.refl _ _).alloc (Nat.le_refl _) _).alloc (by simp) _)) (HS3.out.below (((Below.refl _ _).alloc (Nat.le_refl _) _).alloc (by simp) _))).mono ?_; rw [← Hy1.out, ← Hy2.out]; rintro e w26 ⟨rfl, hb⟩; obtain ⟨c26_0, c26_1, c26_2, c26_3, hb⟩ := two_cells hb; replace HB := Aside0.belowC HB hb; replace HS1 := Aside0.readc HS1 hb; replace HS2 := Aside0.readc HS2 hb; replace HS3 := Aside0.readc HS3 hb; replace HV := Aside0.ready HV hb; clear hb) | (replace st := stg_next 24 25 st; go_at_call 30; refine (specIsSimplicial s1 _ ts1 s2 _ ts2 _ t3 _ HS1.out HS2.out HS3.out).mono ?_; rw [← Hy1.out, ← Hy2.out]; rintro e w27 ⟨rfl, hb⟩; replace HB := Aside0.belowC HB hb; replace c26_0 := pw_cell_below hb c26_0; replace c26_1 := pw_cell_below hb c26_1; replace c26_2 := pw_cell_below hb c26_2; replace c26_3 := pw_cell_below hb c26_3; replace HS1 := Aside0.readc HS1 hb; replace HS2 := Aside0.readc HS2 hb; replace HS3 := Aside0.readc HS3 hb; replace HV := Aside0.ready HV hb; clear hb) | (replace st := stg_next 25 26 st; go_at_call 31; refine (implIsMap s1 _ ts1 s2 _ ts2 _ t3 _ HS1.out HS2.out HS3.out).mono ?_; rw [← Hy3.out, ← Hy4.out]; rintro e w28 ⟨rfl, hb⟩; replace HB := Aside0.belowC HB hb; replace c26_0 := pw_cell_below hb c26_0; replace c26_1 := pw_cell_below hb c26_1; replace c26_2 := pw_cell_below hb c26_2; replace c26_3 := pw_cell_below hb c26_3; replace HS1 := Aside0.readc HS1 hb; replace HS2 := Aside0.readc HS2 hb; replace HS3 := Aside0.readc HS3 hb; replace HV := Aside0.ready HV hb; clear hb) | (replace st := stg_next 26 27 st; go_at_call 32; refine (specIsMap s1 _ ts1 s2 _ ts2 _ t3 _ HS1.out HS2.out HS3.out).mono ?_; rw [← Hy3.out, ← Hy4.out]; rintro e w29 ⟨rfl, hb⟩; replace HB := Aside0.belowC HB hb; replace c26_0 := pw_cell_below hb c26_0; replace c26_1 := pw_cell_below hb c26_1; replace c26_2 := pw_cell_below hb c26_2; replace c26_3 := pw_cell_below hb c26_3; replace HS1 := Aside0.readc HS1 hb; replace HS2 := Aside0.readc HS2 hb; replace HS3 := Aside0.readc HS3 hb; replace HV := Aside0.ready HV hb; clear hb) | (replace st := stg_next 27 28 st; go_at_call 33; refine (drawFixedFaces _ nb _ HN.out HV.out).mono ?_; rintro e w30 ⟨x1, u, lv, vs1, v2, rfl, ho, hop, -, -, -, hb⟩; replace HB := Aside0.belowC HB hb; replace c26_0 := pw_cell_below hb c26_0; replace c26_1 := pw_cell_below hb c26_1; replace c26_2 := pw_cell_below hb c26_2; replace c26_3 := pw_cell_below hb c26_3; replace HS1 := Aside0.readc HS1 hb; replace HS2 := Aside0.readc HS2 hb; replace HS3 := Aside0.readc HS3 hb; replace HV := Aside0.ready HV hb; clear hb; clear HS1 HS2 HS3; have HX1 := Aside0.mk ho.read; obtain ⟨A27, d27, rfl, -⟩ := id ho.read; clear ho; have HX2 := Aside0.mk hop.read; obtain ⟨A28, d28, rfl, -⟩ := id hop.read; clear hop; obtain ⟨X, hX⟩ : ∃ r, r = (ansFixedFaces x1 vs1 v2).1 := ⟨_, rfl⟩; have HX := Aside0.mk hX; clear hX; obtain ⟨x2, hx2⟩ : ∃ r, r = (ansFixedFaces x1 vs1 v2).2 := ⟨_, rfl⟩; have Hx2 := Aside0.mk hx2; clear hx2) | (replace st := stg_next 28 29 st; go_at_call 34; refine (implFixedFaces x1 _ vs1 _ v2 _ (HX1.out.below (Below.alloc (Below.refl _ _) (Nat.le_refl _) _)) (HX2.out.below (Below.alloc (Below.refl _ _) (Nat.le_refl _) _))).mono ?_; rw [← HX.out, ← Hx2.out]; rintro e w31 ⟨u, rfl, ho, hb⟩; have c620 : w31.cell? ⟨w30.heap.size, 0, none⟩ = some (.int .i64 x1) := pw_cell_below hb (new_cell _ _ _ 0 _ rfl); have c621 : w31.cell? ⟨w30.heap.size, 1, none⟩ = some (.slice A27 vs1.length d27) := pw_cell_below hb (new_cell _ _ _ 1 _ rfl); replace hb := below_unalloc hb; replace HB := Aside0.belowC HB hb; replace HX1 := Aside0.readc HX1 hb; replace HX2 := Aside0.readc HX2 hb; replace HV := Aside0.ready HV hb; clear hb; have HY1 := Aside0.mk ho.read; obtain ⟨A29, d29, rfl, -⟩ := id ho.read; clear ho) | (replace st := stg_next 29 30 st; go_at_call 35; refine (specFixedFaces x1 _ vs1 _ v2 _ HX1.out HX2.out).mono ?_; rw [← HX.out, ← Hx2.out]; rintro e w32 ⟨u, rfl, ho, hb⟩; replace HB := Aside0.belowC HB hb; replace c620 := pw_cell_below hb c620; replace c621 := pw_cell_below hb c621; replace HX1 := Aside0.readc HX1 hb; replace HX2 := Aside0.readc HX2 hb; replace HY1 := Aside0.readc HY1 hb; replace HV := Aside0.ready HV hb; clear hb; have HY2 := Aside0.mk ho.read; obtain ⟨A30, d30, rfl, -⟩ := id ho.read; clear ho) | (replace st := stg_next 30 31 st; go_at_call 22; refine (likeSame _ _ X _ HY1.out HY2.out).mono ?_; rintro e w33 ⟨rfl, hb⟩; replace HB := Aside0.belowC HB hb; replace c620 := pw_cell_below hb c620; replace c621 := pw_cell_below hb c621; replace HX1 := Aside0.readc HX1 hb; replace HX2 := Aside0.readc HX2 hb; replace HY1 := Aside0.readc HY1 hb; replace HY2 := Aside0.readc HY2 hb; replace HV := Aside0.ready HV hb; clear hb))
       go_ret
       exact ⟨rfl, HB.out⟩
     ·clear KC
      have hcc1 : (cc == 0) = false := by rw [beq_eq_false_iff_ne]; exact hcc0
      as_aux_lemma =>
       go_wp2_with (first | (replace st := stg_next 14 15 st; go_at_call 24; refine (implComposeMaps c1 _ ks1 c2 _ ks2 c3 _ ks3 _ q1 _ q2 _ (HC1.out.below ((((Below.refl _ _).alloc (Nat.le_refl _) _).alloc (by simp) _).alloc (by simp; omega) _)) (HC2.out.below ((((Below.refl _ _).alloc (Nat.le_refl _) _).alloc (by simp) _).alloc (by simp; omega) _)) (HC3.out.below ((((Below.refl _ _).alloc (Nat.le_refl _) _).alloc (by simp) _).alloc (by simp; omega) _)) (HC4.out.below ((((Below.refl _ _).alloc (Nat.le_refl _) _).alloc (by simp) _).alloc (by simp; omega) _)) (HC5.out.below ((((Below.refl _ _).alloc (Nat.le_refl _) _).alloc (by simp) _).alloc (by simp; omega) _))).mono ?_; rw [← HC.out, ← Hcc.out]; rintro e w17 ⟨u, rfl, ho, hb⟩; obtain ⟨c17_0, c17_1, c17_2, c17_3, c17_4, c17_5, hb⟩ := three_cells hb; replace HB := Aside0.belowC HB hb; replace HC1 := Aside0.readc HC1 hb; replace HC2 := Aside0.readc HC2 hb; replace HC3 := Aside0.readc HC3 hb; replace HC4 := Aside0.readc HC4 hb; replace HC5 := Aside0.readc HC5 hb; replace HV := Aside0.ready HV hb; clear hb; have HM1 := Aside0.mk ho.read; obtain ⟨A18, d18, rfl, -⟩ := id ho.read; clear ho) | (replace st := stg_next 15 16 st; go_at_call 25; refine (specComposeMaps c1 _ ks1 c2 _ ks2 c3 _ ks3 _ q1 _ q2 _ HC1.out HC2.out HC3.out HC4.out HC5.out).mono ?_; rw [← HC.out, ← Hcc.out]; rintro e w18 ⟨u, rfl, ho, hb⟩; replace HB := Aside0.belowC HB hb; replace c17_0 := pw_cell_below hb c17_0; replace c17_1 := pw_cell_below hb c17_1; replace c17_2 := pw_cell_below hb c17_2; replace c17_3 := pw_cell_below hb c17_3; replace c17_4 := pw_cell_below hb c17_4; replace c17_5 := pw_cell_below hb c17_5; replace HC1 := Aside0.readc HC1 hb; replace HC2 := Aside0.readc HC2 hb; replace HC3 := Aside0.readc HC3 hb; replace HC4 := Aside0.readc HC4 hb; replace HC5 := Aside0.readc HC5 hb; replace HM1 := Aside0.readc HM1 hb; replace HV := Aside0.ready HV hb; clear hb; have HM2 := Aside0.mk ho.read; obtain ⟨A19, d19, rfl, -⟩ := id ho.read; clear ho) | (replace st := stg_next 16 17 st; go_at_call 22; refine (likeSame _ _ C _ HM1.out HM2.out).mono ?_; rintro e w19 ⟨rfl, hb⟩; replace HB := Aside0.belowC HB hb; replace c17_0 := pw_cell_below hb c17_0; replace c17_1 := pw_cell_below hb c17_1; replace c17_2 := pw_cell_below hb c17_2; replace c17_3 := pw_cell_below hb c17_3; replace c17_4 := pw_cell_below hb c17_4; replace c17_5 := pw_cell_below hb c17_5; replace HC1 := Aside0.readc HC1 hb; replace HC2 := Aside0.readc HC2 hb; replace HC3 := Aside0.readc HC3 hb; replace HC4 := Aside0.readc HC4 hb; replace HC5 := Aside0.readc HC5 hb; replace HM1 := Aside0.readc HM1 hb; replace HM2 := Aside0.readc HM2 hb; replace HV := Aside0.ready HV hb; clear hb) | (replace st := stg_next 17 18 st; go_at_call 27; refine (drawAreContiguous _ nb _ HN.out HV.out).mono ?_; rintro e w20 ⟨e1, e2, u, z, lv, rv, ms1, ms2, r1, r2, rfl, ho, hoz, hop, hoq, -, -, -, -, -, -, hb⟩; replace HB := Aside0.belowC HB hb; replace c17_0 := pw_cell_below hb c17_0; replace c17_1 := pw_cell_below hb c17_1; replace c17_2 := pw_cell_below hb c17_2; replace c17_3 := pw_cell_below hb c17_3; replace c17_4 := pw_cell_below hb c17_4; replace c17_5 := pw_cell_below hb c17_5; replace HC1 := Aside0.readc HC1 hb; replace HC2 := Aside0.readc HC2 hb; replace HC3 := Aside0.readc HC3 hb; replace HC4 := Aside0.readc HC4 hb; replace HC5 := Aside0.readc HC5 hb; replace HM1 := Aside0.readc HM1 hb; replace HM2 := Aside0.readc HM2 hb; replace HV := Aside0.ready HV hb; clear hb; clear HM1 HM2 HC1 HC2 HC3 HC4 HC5; have HE1 := Aside0.mk ho.read; obtain ⟨A20, d20, rfl, -⟩ := id ho.read; clear ho; have HE2 := Aside0.mk hoz.read; obtain ⟨A21, d21, rfl, -⟩ := id hoz.read; clear hoz; have HE3 := Aside0.mk hop.read; obtain ⟨A22, d22, rfl, -⟩ := id hop.read; clear hop; have HE4 := Aside0.mk hoq.read; obtain ⟨A23, d23, rfl, -⟩ := id hoq.read; clear hoq; obtain ⟨n1, hn1⟩ : ∃ r, r = (ansAreContiguous e1 ms1 e2 ms2 r1 r2).1 := ⟨_, rfl⟩; have Hn1 := Aside0.mk hn1; clear hn1; obtain ⟨n2, hn2⟩ : ∃ r, r = (ansAreContiguous e1 ms1 e2 ms2 r1 r2).2 := ⟨_, rfl⟩; have Hn2 := Aside0.mk hn2; clear hn2) | (replace st := stg_next 18 19 st; go_at_call 18; refine (implAreContiguous e1 _ ms1 e2 _ ms2 _ r1 _ r2 _ (HE1.out.below (((Below.refl _ _).alloc (Nat.le_refl _) _).alloc (by simp) _)) (HE2.out.below (((Below.refl _ _).alloc (Nat.le_refl _) _).alloc (by simp) _)) (HE3.out.below (((Below.refl _ _).alloc (Nat.le_refl _) _).alloc (by simp) _)) (HE4.out.below (((Below.refl _ _).alloc (Nat.le_refl _) _).alloc (by simp) _))).mono ?_; rw [← Hn1.out, ← Hn2.out]; rintro e w21 ⟨rfl, hb⟩; obtain ⟨c21_0, c21_1, c21_2, c21_3, hb⟩ := two_cells hb; replace HB := Aside0.belowC HB hb; replace HE1 := Aside0.readc HE1 hb; replace HE2 := Aside0.readc HE2 hb; replace HE3 := Aside0.readc HE3 hb; replace HE4 := Aside0.readc HE4 hb; replace HV := Aside0.ready HV hb; clear hb) | (replace st := stg_next 19 20 st; go_at_call 28; refine (specAreContiguous e1 _ ms1 e2 _ ms2 _ r1 _ r2 _ HE1.out HE2.out HE3.out HE4.out).mono ?_; rw [← Hn1.out, ← Hn2.out]; rintro e w22 ⟨rfl, hb⟩; replace HB := Aside0.belowC HB hb; replace c21_0 := pw_cell_below hb c21_0; replace c21_1 := pw_cell_below hb c21_1; replace c21_2 := pw_cell_below hb c21_2; replace c21_3 := pw_cell_below hb c21_3; replace HE1 := Aside0.readc HE1 hb; replace HE2 := Aside0.readc HE2 hb; replace HE3 := Aside0.readc HE3 hb; replace HE4 := Aside0.readc HE4 hb; replace HV := Aside0.ready HV hb; clear hb) | (replace st := stg_next 20 21 st; go_at_call 18; refine (implAreContiguous e1 _ ms1 e2 _ ms2 _ r2 _ r1 _ HE1.out HE2.out HE4.out HE3.out).mono ?_; rw [cont_swap, ← Hn1.out, ← Hn2.out]; rintro e w23 ⟨rfl, hb⟩; replace HB := Aside0.belowC HB hb; replace c21_0 := pw_cell_below hb c21_0; replace c21_1 := pw_cell_below hb c21_1; replace c21_2 := pw_cell_below hb c21_2; replace c21_3 := pw_cell_below hb c21_3; replace HE1 := Aside0.readc HE1 hb; replace HE2 := Aside0.readc HE2 hb; replace HE3 := Aside0.readc HE3 hb; replace HE4 := Aside0.readc HE4 hb; replace HV := Aside0.ready HV hb; clear hb) | (replace st := stg_next 21 22 st; go_at_call 29; refine (drawIsSimplicial _ nb _ HN.out HV.out).mono ?_; rintro e w24 ⟨s1, s2, u, z, lv, ts1, ts2, t3, rfl, ho, hoz, hop, -, -, -, -, hb⟩; replace HB := Aside0.belowC HB hb; replace c21_0 := pw_cell_below hb c21_0; replace c21_1 := pw_cell_below hb c21_1; replace c21_2 := pw_cell_below hb c21_2; replace c21_3 := pw_cell_below hb c21_3; replace HE1 := Aside0.readc HE1 hb; replace HE2 := Aside0.readc HE2 hb; replace HE3 := Aside0.readc HE3 hb; replace HE4 := Aside0.readc HE4 hb; replace HV := Aside0.ready HV hb; clear hb; clear HE1 HE2 HE3 HE4; have HS1 := Aside0.mk ho.read; obtain ⟨A24, d24, rfl, -⟩ := id ho.read; clear ho; have HS2 := Aside0.mk hoz.read; obtain ⟨A25, d25, rfl, -⟩ := id hoz.read; clear hoz; have HS3 := Aside0.mk hop.read; obtain ⟨A26, d26, rfl, -⟩ := id hop.read; clear hop; obtain ⟨y1, hy1⟩ : ∃ r, r = (ansIsSimplicial s1 ts1 s2 ts2 t3).1 := ⟨_, rfl⟩; have Hy1 := Aside0.mk hy1; clear hy1; obtain ⟨y2, hy2⟩ : ∃ r, r = (ansIsSimplicial s1 ts1 s2 ts2 t3).2 := ⟨_, rfl⟩; have Hy2 := Aside0.mk hy2; clear hy2; obtain ⟨y3, hy3⟩ : ∃ r, r = (ansIsMap s1 ts1 s2 ts2 t3).1 := ⟨_, rfl⟩; have Hy3 := Aside0.mk hy3; clear hy3; obtain ⟨y4, hy4⟩ : ∃ r, r = (ansIsMap s1 ts1 s2 ts2 t3).2 := ⟨_, rfl⟩; have Hy4 := Aside0.mk hy4; clear hy4) | (replace st := stg_next 22 23 st; go_at_call 26; refine (implIsSimplicial s1 _ ts1 s2 _ ts2 _ t3 _ (HS1.out.below (((Below.refl _ _).alloc (Nat.le_refl _) _).alloc (by simp) _)) (HS2.out.below (((Below.refl _ _).alloc (Nat.le_refl _) _).alloc (by simp) _)) (HS3.out.below (((Below.refl _ _).alloc (Nat.le_refl _) _).alloc (by simp) _))).mono ?_; rw [← Hy1.out, ← Hy2.out]; rintro e w25 ⟨rfl, hb⟩; obtain ⟨c25_0, c25_1, c25_2, c25_3, hb⟩ := two_cells hb; replace HB := Aside0.belowC HB hb; replace HS1 := Aside0.readc HS1 hb; replace HS2 := Aside0.readc HS2 hb; replace HS3 := Aside0.readc HS3 hb; replace HV := Aside0.ready HV hb; clear hb) | (replace st := stg_next 23 24 st; go_at_call 30; refine (specIsSimplicial s1 _ ts1 s2 _ ts2 _ t3 _ HS1.out HS2.out HS3.out).mono ?_; rw [← Hy1.out, ← Hy2.out]; rintro e w26 ⟨rfl, hb⟩; replace HB := Aside0.belowC HB hb; replace c25_0 := pw_cell_below hb c25_0; replace c25_1 := pw_cell_below hb c25_1; replace c25_2 := pw_cell_below hb c25_2; replace c25_3 := pw_cell_below hb c25_3; replace HS1 := Aside0.readc HS1 hb; replace HS2 := Aside0.readc HS2 hb; replace HS3 := Aside0.readc HS3 hb; replace HV := Aside0.ready HV hb; clear hb) | (replace st := stg_next 24 25 st; go_at_call 31; refine (implIsMap s1 _ ts1 s2 _ ts2 _ t3 _ HS1.out HS2.out HS3.out).mono ?_; rw [← Hy3.out, ← Hy4.out]; rintro e w27 ⟨rfl, hb⟩; replace HB := Aside0.belowC HB hb; replace c25_0 := pw_cell_below hb c25_0; replace c25_1 := pw_cell_below hb c25_1; replace c25_2 := pw_cell_below hb c25_2; replace c25_3 := pw_cell_below hb c25_3; replace HS1 := Aside0.readc HS1 hb; replace HS2 := Aside0.readc HS2 hb; replace HS3 := Aside0.readc HS3 hb; replace HV := Aside0.ready HV hb; clear hb) | (replace st := stg_next 25 26 st; go_at_call 32; refine (specIsMap s1 _ ts1 s2 _ ts2 _ t3 _ HS1.out HS2.out HS3.out).mono ?_; rw [← Hy3.out, ← Hy4.out]; rintro e w28 ⟨rfl, hb⟩; replace HB := Aside0.belowC HB hb; replace c25_0 := pw_cell_below hb c25_0; replace c25_1 := pw_cell_below hb c25_1; replace c25_2 := pw_cell_below hb c25_2; replace c25_3 := pw_cell_below hb c25_3; replace HS1 := Aside0.readc HS1 hb; replace HS2 := Aside0.readc HS2 hb; replace HS3 := Aside0.readc HS3 hb; replace HV := Aside0.ready HV hb; clear hb) | (replace st := stg_next 26 27 st; go_at_call 33; refine (drawFixedFaces _ nb _ HN.out HV.out).mono ?_; rintro e w29 ⟨x1, u, lv, vs1, v2, rfl, ho, hop, -, -, -, hb⟩; replace HB := Aside0.belowC HB hb; replace c25_0 := pw_cell_below hb c25_0; replace c25_1 := pw_cell_below hb c25_1; replace c25_2 := pw_cell_below hb c25_2; replace c25_3 := pw_cell_below hb c25_3; replace HS1 := Aside0.readc HS1 hb; replace HS2 := Aside0.readc HS2 hb; replace HS3 := Aside0.readc HS3 hb; replace HV := Aside0.ready HV hb; clear hb; clear HS1 HS2 HS3; have HX1 := Aside0.mk ho.read; obtain ⟨A27, d27, rfl, -⟩ := id ho.read; clear ho; have HX2 := Aside0.mk hop.read; obtain ⟨A28, d28, rfl, -⟩ := id hop.read; clear hop; obtain ⟨X, hX⟩ : ∃ r, r = (ansFixedFaces x1 vs1 v2).1 := ⟨_, rfl⟩; have HX := Aside0.mk hX; clear hX; obtain ⟨x2, hx2⟩ : ∃ r, r = (ansFixedFaces x1 vs1 v2).2 := ⟨_, rfl⟩; have Hx2 := Aside0.mk hx2; clear hx2) | (replace st := stg_next 27 28 st; go_at_call 34; refine (implFixedFaces x1 _ vs1 _ v2 _ (HX1.out.below (Below.alloc (Below.refl _ _) (Nat.le_refl _) _)) (HX2.out.below (Below.alloc (Below.refl _ _) (Nat.le_refl _) _))).mono ?_; rw [← HX.out, ← Hx2.out]; rintro e w30 ⟨u, rfl, ho, hb⟩; have c620 : w30.cell? ⟨w29.heap.size, 0, none⟩ = some (.int .i64 x1) := pw_cell_below hb (new_cell _ _ _ 0 _ rfl); have c621 : w30.cell? ⟨w29.heap.size, 1, none⟩ = some (.slice A27 vs1.length d27) := pw_cell_below hb (new_cell _ _ _ 1 _ rfl); replace hb := below_unalloc hb; replace HB := Aside0.belowC HB hb; replace HX1 := Aside0.readc HX1 hb; replace HX2 := Aside0.readc HX2 hb; replace HV := Aside0.ready HV hb; clear hb; have HY1 := Aside0.mk ho.read; obtain ⟨A29, d29, rfl, -⟩ := id ho.read; clear ho) | (replace st := stg_next 28 29 st; go_at_call 35; refine (specFixedFaces x1 _ vs1 _ v2 _ HX1.out HX2.out).mono ?_; rw [← HX.out, ← Hx2.out]; rintro e w31 ⟨u, rfl, ho, hb⟩; replace HB := Aside0.belowC HB hb; replace c620 := pw_cell_below hb c620; replace c621 := pw_cell_below hb c621; replace HX1 := Aside0.readc HX1 hb; replace HX2 := Aside0.readc HX2 hb; replace HY1 := Aside0.readc HY1 hb; replace HV := Aside0.ready HV hb; clear hb; have HY2 := Aside0.mk ho.read; obtain ⟨A30, d30, rfl, -⟩ := id ho.read; clear ho) | (replace st := stg_next 29 30 st; go_at_call 22; refine (likeSame _ _ X _ HY1.out HY2.out).mono ?_; rintro e w32 ⟨rfl, hb⟩; replace HB := Aside0.belowC HB hb; replace c620 := pw_cell_below hb c620; replace c621 := pw_cell_below hb c621; replace HX1 := Aside0.readc HX1 hb; replace HX2 := Aside0.readc HX2 hb; replace HY1 := Aside0.readc HY1 hb; replace HY2 := Aside0.readc HY2 hb; replace HV := Aside0.ready HV hb; clear hb))
       go_ret
       exact ⟨rfl, HB.out⟩
  ·clear KM
   have hi1 : (i2 == 0) = false := by rw [beq_eq_false_iff_ne]; exact hi0
   clear HR1 HR2 HR3 HI1 HI2
   as_aux_lemma =>
    go_wp2_with (first | (replace st := stg_next 5 6 st; go_at_call 19; refine (drawFibreOf _ nb _ HN.out HV.out).mono ?_; rintro e w7 ⟨f1, f2, u, z, lv, ks, ls, q, g, rfl, ho, hoz, hop, -, -, -, -, -, hb⟩; replace HB := Aside0.belowC HB hb; replace HV := Aside0.ready HV hb; clear hb; have HF1 := Aside0.mk ho.read; obtain ⟨A6, d6, rfl, -⟩ := id ho.read; clear ho; have HF2 := Aside0.mk hoz.read; obtain ⟨A7, d7, rfl, -⟩ := id hoz.read; clear hoz; have HF3 := Aside0.mk hop.read; obtain ⟨A8, d8, rfl, -⟩ := id hop.read; clear hop; obtain ⟨Fa, hFa⟩ : ∃ r, r = (ansFibreOf f1 ks f2 ls q g).1.1 := ⟨_, rfl⟩; have HFa := Aside0.mk hFa; clear hFa; obtain ⟨F, hF⟩ : ∃ r, r = (ansFibreOf f1 ks f2 ls q g).1.2 := ⟨_, rfl⟩; have HF := Aside0.mk hF; clear hF; obtain ⟨fc, hfc⟩ : ∃ r, r = (ansFibreOf f1 ks f2 ls q g).2 := ⟨_, rfl⟩; have Hfc := Aside0.mk hfc; clear hfc; obtain ⟨O, hO⟩ : ∃ r, r = (ansOpenFibre f1 ks f2 ls q g).1 := ⟨_, rfl⟩; have HO := Aside0.mk hO; clear hO; obtain ⟨oc, hoc⟩ : ∃ r, r = (ansOpenFibre f1 ks f2 ls q g).2 := ⟨_, rfl⟩; have Hoc := Aside0.mk hoc; clear hoc) | (replace st := stg_next 6 7 st; go_at_call 15; refine (implFibreOf f1 _ ks f2 _ ls _ q g _ (HF1.out.below (((Below.refl _ _).alloc (Nat.le_refl _) _).alloc (by simp) _)) (HF2.out.below (((Below.refl _ _).alloc (Nat.le_refl _) _).alloc (by simp) _)) (HF3.out.below (((Below.refl _ _).alloc (Nat.le_refl _) _).alloc (by simp) _))).mono ?_; rw [← HFa.out, ← HF.out, ← Hfc.out]; rintro e w8 ⟨u, rfl, ho, hb⟩; obtain ⟨c8_0, c8_1, c8_2, c8_3, hb⟩ := two_cells hb; replace HB := Aside0.belowC HB hb; replace HF1 := Aside0.readc HF1 hb; replace HF2 := Aside0.readc HF2 hb; replace HF3 := Aside0.readc HF3 hb; replace HV := Aside0.ready HV hb; clear hb; have HG1 := Aside0.mk ho.read; obtain ⟨A9, d9, rfl, -⟩ := id ho.read; clear ho; have k8_0 := pw_cell_below (Below.alloc (Below.refl w8.heap.size w8) (Nat.le_refl _) (.cells #[.int .i64 Fa, .slice A9 F.length d9] 26)) c8_0; have k8_1 := pw_cell_below (Below.alloc (Below.refl w8.heap.size w8) (Nat.le_refl _) (.cells #[.int .i64 Fa, .slice A9 F.length d9] 26)) c8_1; have k8_2 := pw_cell_below (Below.alloc (Below.refl w8.heap.size w8) (Nat.le_refl _) (.cells #[.int .i64 Fa, .slice A9 F.length d9] 26)) c8_2; have k8_3 := pw_cell_below (Below.alloc (Below.refl w8.heap.size w8) (Nat.le_refl _) (.cells #[.int .i64 Fa, .slice A9 F.length d9] 26)) c8_3) | (replace st := stg_next 7 8 st; go_at_call 20; refine (specFibreOf f1 _ ks f2 _ ls _ q g _ (HF1.out.below (Below.alloc (Below.refl _ _) (Nat.le_refl _) _)) (HF2.out.below (Below.alloc (Below.refl _ _) (Nat.le_refl _) _)) (HF3.out.below (Below.alloc (Below.refl _ _) (Nat.le_refl _) _))).mono ?_; clear k8_0 k8_1 k8_2 k8_3; rw [← HFa.out, ← HF.out, ← Hfc.out]; rintro e w9 ⟨u, rfl, ho, hb⟩; have c220 : w9.cell? ⟨w8.heap.size, 0, none⟩ = some (.int .i64 Fa) := pw_cell_below hb (new_cell _ _ _ 0 _ rfl); have c221 : w9.cell? ⟨w8.heap.size, 1, none⟩ = some (.slice A9 F.length d9) := pw_cell_below hb (new_cell _ _ _ 1 _ rfl); replace hb := below_unalloc hb; replace HB := Aside0.belowC HB hb; replace c8_0 := pw_cell_below hb c8_0; replace c8_1 := pw_cell_below hb c8_1; replace c8_2 := pw_cell_below hb c8_2; replace c8_3 := pw_cell_below hb c8_3; replace HF1 := Aside0.readc HF1 hb; replace HF2 := Aside0.readc HF2 hb; replace HF3 := Aside0.readc HF3 hb; replace HG1 := Aside0.readc HG1 hb; replace HV := Aside0.ready HV hb; clear hb; have HG2 := Aside0.mk ho.read; obtain ⟨A10, d10, rfl, -⟩ := id ho.read; clear ho; have k9_0 := pw_cell_below (Below.alloc (Below.refl w9.heap.size w9) (Nat.le_refl _) (.cells #[.int .i64 Fa, .slice A10 F.length d10] 26)) c8_0; have k9_1 := pw_cell_below (Below.alloc (Below.refl w9.heap.size w9) (Nat.le_refl _) (.cells #[.int .i64 Fa, .slice A10 F.length d10] 26)) c8_1; have k9_2 := pw_cell_below (Below.alloc (Below.refl w9.heap.size w9) (Nat.le_refl _) (.cells #[.int .i64 Fa, .slice A10 F.length d10] 26)) c8_2; have k9_3 := pw_cell_below (Below.alloc (Below.refl w9.heap.size w9) (Nat.le_refl _) (.cells #[.int .i64 Fa, .slice A10 F.length d10] 26)) c8_3; have k9_4 := pw_cell_below (Below.alloc (Below.refl w9.heap.size w9) (Nat.le_refl _) (.cells #[.int .i64 Fa, .slice A10 F.length d10] 26)) c220; have k9_5 := pw_cell_below (Below.alloc (Below.refl w9.heap.size w9) (Nat.le_refl _) (.cells #[.int .i64 Fa, .slice A10 F.length d10] 26)) c221) | (replace st := stg_next 8 9 st; go_at_call 14; refine (implOpenFibre f1 _ ks f2 _ ls _ q g _ (HF1.out.below (Below.alloc (Below.refl _ _) (Nat.le_refl _) _)) (HF2.out.below (Below.alloc (Below.refl _ _) (Nat.le_refl _) _)) (HF3.out.below (Below.alloc (Below.refl _ _) (Nat.le_refl _) _))).mono ?_; clear k9_0 k9_1 k9_2 k9_3 k9_4 k9_5; rw [← HO.out, ← Hoc.out]; rintro e w10 ⟨u, rfl, ho, hb⟩; have c240 : w10.cell? ⟨w9.heap.size, 0, none⟩ = some (.int .i64 Fa) := pw_cell_below hb (new_cell _ _ _ 0 _ rfl); have c241 : w10.cell? ⟨w9.heap.size, 1, none⟩ = some (.slice A10 F.length d10) := pw_cell_below hb (new_cell _ _ _ 1 _ rfl); replace hb := below_unalloc hb; replace HB := Aside0.belowC HB hb; replace c8_0 := pw_cell_below hb c8_0; replace c8_1 := pw_cell_below hb c8_1; replace c8_2 := pw_cell_below hb c8_2; replace c8_3 := pw_cell_below hb c8_3; replace c220 := pw_cell_below hb c220; replace c221 := pw_cell_below hb c221; replace HF1 := Aside0.readc HF1 hb; replace HF2 := Aside0.readc HF2 hb; replace HF3 := Aside0.readc HF3 hb; replace HG1 := Aside0.readc HG1 hb; replace HG2 := Aside0.readc HG2 hb; replace HV := Aside0.ready HV hb; clear hb; have HO1 := Aside0.mk ho.read; obtain ⟨A11, d11, rfl, -⟩ := id ho.read; clear ho) | (replace st := stg_next 9 10 st; go_at_call 21; refine (specOpenFibre f1 _ ks f2 _ ls _ q g _ HF1.out HF2.out HF3.out).mono ?_; rw [← HO.out, ← Hoc.out]; rintro e w11 ⟨u, rfl, ho, hb⟩; replace HB := Aside0.belowC HB hb; replace c8_0 := pw_cell_below hb c8_0; replace c8_1 := pw_cell_below hb c8_1; replace c8_2 := pw_cell_below hb c8_2; replace c8_3 := pw_cell_below hb c8_3; replace c220 := pw_cell_below hb c220; replace c221 := pw_cell_below hb c221; replace c240 := pw_cell_below hb c240; replace c241 := pw_cell_below hb c241; replace HF1 := Aside0.readc HF1 hb; replace HF2 := Aside0.readc HF2 hb; replace HF3 := Aside0.readc HF3 hb; replace HG1 := Aside0.readc HG1 hb; replace HG2 := Aside0.readc HG2 hb; replace HO1 := Aside0.readc HO1 hb; replace HV := Aside0.ready HV hb; clear hb; have HO2 := Aside0.mk ho.read; obtain ⟨A12, d12, rfl, -⟩ := id ho.read; clear ho) | (replace st := stg_next 10 11 st; go_at_call 13; refine (complexes5Same Fa _ _ F _ HG1.out HG2.out).mono ?_; rintro e w12 ⟨rfl, hb⟩; replace HB := Aside0.belowC HB hb; replace c8_0 := pw_cell_below hb c8_0; replace c8_1 := pw_cell_below hb c8_1; replace c8_2 := pw_cell_below hb c8_2; replace c8_3 := pw_cell_below hb c8_3; replace c220 := pw_cell_below hb c220; replace c221 := pw_cell_below hb c221; replace c240 := pw_cell_below hb c240; replace c241 := pw_cell_below hb c241; replace HF1 := Aside0.readc HF1 hb; replace HF2 := Aside0.readc HF2 hb; replace HF3 := Aside0.readc HF3 hb; replace HG1 := Aside0.readc HG1 hb; replace HG2 := Aside0.readc HG2 hb; replace HO1 := Aside0.readc HO1 hb; replace HO2 := Aside0.readc HO2 hb; replace HV := Aside0.ready HV hb; clear hb) | (replace st := stg_next 11 12 st; go_at_call 22; refine (likeSame _ _ O _ HO1.out HO2.out).mono ?_; rintro e w13 ⟨rfl, hb⟩; replace HB := Aside0.belowC HB hb; replace c8_0 := pw_cell_below hb c8_0; replace c8_1 := pw_cell_below hb c8_1; replace c8_2 := pw_cell_below hb c8_2; replace c8_3 := pw_cell_below hb c8_3; replace c220 := pw_cell_below hb c220; replace c221 := pw_cell_below hb c221; replace c240 := pw_cell_below hb c240; replace c241 := pw_cell_below hb c241; replace HF1 := Aside0.readc HF1 hb; replace HF2 := Aside0.readc HF2 hb; replace HF3 := Aside0.readc HF3 hb; replace HG1 := Aside0.readc HG1 hb; replace HG2 := Aside0.readc HG2 hb; replace HO1 := Aside0.readc HO1 hb; replace HO2 := Aside0.readc HO2 hb; replace HV := Aside0.ready HV hb; clear hb; clear HO1 HO2 HG1 HG2 HF1 HF2 HF3) | (replace st := stg_next 12 13 st; go_at_call 23; refine Aside0.out ?_))
    refine Aside0.mk ?_
    with_reducible refine (drawComposeMaps _ nb _ HN.out HV.out).mono ?_
    rintro e w14 ⟨c1, c2, c3, u, z, y, lv, rv, ks1, ks2, ks3, q1, q2, rfl, ho, hoz, hoy, hop, hoq, -, -, -, -, -, -, -, hb⟩
    replace HB := Aside0.belowC HB hb
    replace HV := Aside0.ready HV hb
    clear hb
    have HC1 := Aside0.mk ho.read
    obtain ⟨A13, d13, rfl, -⟩ := id ho.read
    clear ho
    have HC2 := Aside0.mk hoz.read
    obtain ⟨A14, d14, rfl, -⟩ := id hoz.read
    clear hoz
    have HC3 := Aside0.mk hoy.read
    obtain ⟨A15, d15, rfl, -⟩ := id hoy.read
    clear hoy
    have HC4 := Aside0.mk hop.read
    obtain ⟨A16, d16, rfl, -⟩ := id hop.read
    clear hop
    have HC5 := Aside0.mk hoq.read
    obtain ⟨A17, d17, rfl, -⟩ := id hoq.read
    clear hoq
    obtain ⟨C, hC⟩ : ∃ r, r = (ansComposeMaps c1 ks1 c2 ks2 c3 ks3 q1 q2).1 := ⟨_, rfl⟩
    have HC := Aside0.mk hC
    clear hC
    obtain ⟨cc, hcc⟩ : ∃ r, r = (ansComposeMaps c1 ks1 c2 ks2 c3 ks3 q1 q2).2 := ⟨_, rfl⟩
    have Hcc := Aside0.mk hcc
    clear hcc
    have KC : cc = 0 → ansIsSimplicial c1 ks1 c3 ks3 C = (true, 0) := fun h0 => by rw [HC.out]; exact key_comp (by rw [← Hcc.out]; exact h0)
    by_cases hcc0 : cc = 0
    ·have kc := KC hcc0
     clear KC
     obtain rfl : cc = 0 := hcc0
     as_aux_lemma =>
      go_wp2_with (first | (replace st := stg_next 13 14 st; go_at_call 24; refine (implComposeMaps c1 _ ks1 c2 _ ks2 c3 _ ks3 _ q1 _ q2 _ (HC1.out.below ((((Below.refl _ _).alloc (Nat.le_refl _) _).alloc (by simp) _).alloc (by simp; omega) _)) (HC2.out.below ((((Below.refl _ _).alloc (Nat.le_refl _) _).alloc (by simp) _).alloc (by simp; omega) _)) (HC3.out.below ((((Below.refl _ _).alloc (Nat.le_refl _) _).alloc (by simp) _).alloc (by simp; omega) _)) (HC4.out.below ((((Below.refl _ _).alloc (Nat.le_refl _) _).alloc (by simp) _).alloc (by simp; omega) _)) (HC5.out.below ((((Below.refl _ _).alloc (Nat.le_refl _) _).alloc (by simp) _).alloc (by simp; omega) _))).mono ?_; rw [← HC.out, ← Hcc.out]; rintro e w15 ⟨u, rfl, ho, hb⟩; obtain ⟨c15_0, c15_1, c15_2, c15_3, c15_4, c15_5, hb⟩ := three_cells hb; replace HB := Aside0.belowC HB hb; replace HC1 := Aside0.readc HC1 hb; replace HC2 := Aside0.readc HC2 hb; replace HC3 := Aside0.readc HC3 hb; replace HC4 := Aside0.readc HC4 hb; replace HC5 := Aside0.readc HC5 hb; replace HV := Aside0.ready HV hb; clear hb; have HM1 := Aside0.mk ho.read; obtain ⟨A18, d18, rfl, -⟩ := id ho.read; clear ho) | (replace st := stg_next 14 15 st; go_at_call 25; refine (specComposeMaps c1 _ ks1 c2 _ ks2 c3 _ ks3 _ q1 _ q2 _ HC1.out HC2.out HC3.out HC4.out HC5.out).mono ?_; rw [← HC.out, ← Hcc.out]; rintro e w16 ⟨u, rfl, ho, hb⟩; replace HB := Aside0.belowC HB hb; replace c15_0 := pw_cell_below hb c15_0; replace c15_1 := pw_cell_below hb c15_1; replace c15_2 := pw_cell_below hb c15_2; replace c15_3 := pw_cell_below hb c15_3; replace c15_4 := pw_cell_below hb c15_4; replace c15_5 := pw_cell_below hb c15_5; replace HC1 := Aside0.readc HC1 hb; replace HC2 := Aside0.readc HC2 hb; replace HC3 := Aside0.readc HC3 hb; replace HC4 := Aside0.readc HC4 hb; replace HC5 := Aside0.readc HC5 hb; replace HM1 := Aside0.readc HM1 hb; replace HV := Aside0.ready HV hb; clear hb; have HM2 := Aside0.mk ho.read; obtain ⟨A19, d19, rfl, -⟩ := id ho.read; clear ho) | (replace st := stg_next 15 16 st; go_at_call 22; refine (likeSame _ _ C _ HM1.out HM2.out).mono ?_; rintro e w17 ⟨rfl, hb⟩; replace HB := Aside0.belowC HB hb; replace c15_0 := pw_cell_below hb c15_0; replace c15_1 := pw_cell_below hb c15_1; replace c15_2 := pw_cell_below hb c15_2; replace c15_3 := pw_cell_below hb c15_3; replace c15_4 := pw_cell_below hb c15_4; replace c15_5 := pw_cell_below hb c15_5; replace HC1 := Aside0.readc HC1 hb; replace HC2 := Aside0.readc HC2 hb; replace HC3 := Aside0.readc HC3 hb; replace HC4 := Aside0.readc HC4 hb; replace HC5 := Aside0.readc HC5 hb; replace HM1 := Aside0.readc HM1 hb; replace HM2 := Aside0.readc HM2 hb; replace HV := Aside0.ready HV hb; clear hb) | (replace st := stg_next 16 17 st; go_at_call 26; refine (implIsSimplicial c1 _ ks1 c3 _ ks3 _ C _ HC1.out HC3.out HM1.out).mono ?_; rw [kc]; rintro e w18 ⟨rfl, hb⟩; replace HB := Aside0.belowC HB hb; replace c15_0 := pw_cell_below hb c15_0; replace c15_1 := pw_cell_below hb c15_1; replace c15_2 := pw_cell_below hb c15_2; replace c15_3 := pw_cell_below hb c15_3; replace c15_4 := pw_cell_below hb c15_4; replace c15_5 := pw_cell_below hb c15_5; replace HC1 := Aside0.readc HC1 hb; replace HC2 := Aside0.readc HC2 hb; replace HC3 := Aside0.readc HC3 hb; replace HC4 := Aside0.readc HC4 hb; replace HC5 := Aside0.readc HC5 hb; replace HM1 := Aside0.readc HM1 hb; replace HM2 := Aside0.readc HM2 hb; replace HV := Aside0.ready HV hb; clear hb) | (replace st := stg_next 17 18 st; go_at_call 27; refine (drawAreContiguous _ nb _ HN.out HV.out).mono ?_; rintro e w19 ⟨e1, e2, u, z, lv, rv, ms1, ms2, r1, r2, rfl, ho, hoz, hop, hoq, -, -, -, -, -, -, hb⟩; replace HB := Aside0.belowC HB hb; replace c15_0 := pw_cell_below hb c15_0; replace c15_1 := pw_cell_below hb c15_1; replace c15_2 := pw_cell_below hb c15_2; replace c15_3 := pw_cell_below hb c15_3; replace c15_4 := pw_cell_below hb c15_4; replace c15_5 := pw_cell_below hb c15_5; replace HC1 := Aside0.readc HC1 hb; replace HC2 := Aside0.readc HC2 hb; replace HC3 := Aside0.readc HC3 hb; replace HC4 := Aside0.readc HC4 hb; replace HC5 := Aside0.readc HC5 hb; replace HM1 := Aside0.readc HM1 hb; replace HM2 := Aside0.readc HM2 hb; replace HV := Aside0.ready HV hb; clear hb; clear HM1 HM2 HC1 HC2 HC3 HC4 HC5; have HE1 := Aside0.mk ho.read; obtain ⟨A20, d20, rfl, -⟩ := id ho.read; clear ho; have HE2 := Aside0.mk hoz.read; obtain ⟨A21, d21, rfl, -⟩ := id hoz.read; clear hoz; have HE3 := Aside0.mk hop.read; obtain ⟨A22, d22, rfl, -⟩ := id hop.read; clear hop; have HE4 := Aside0.mk hoq.read; obtain ⟨A23, d23, rfl, -⟩ := id hoq.read; clear hoq; obtain ⟨n1, hn1⟩ : ∃ r, r = (ansAreContiguous e1 ms1 e2 ms2 r1 r2).1 := ⟨_, rfl⟩; have Hn1 := Aside0.mk hn1; clear hn1; obtain ⟨n2, hn2⟩ : ∃ r, r = (ansAreContiguous e1 ms1 e2 ms2 r1 r2).2 := ⟨_, rfl⟩; have Hn2 := Aside0.mk hn2; clear hn2) | (replace st := stg_next 18 19 st; go_at_call 18; refine (implAreContiguous e1 _ ms1 e2 _ ms2 _ r1 _ r2 _ (HE1.out.below (((Below.refl _ _).alloc (Nat.le_refl _) _).alloc (by simp) _)) (HE2.out.below (((Below.refl _ _).alloc (Nat.le_refl _) _).alloc (by simp) _)) (HE3.out.below (((Below.refl _ _).alloc (Nat.le_refl _) _).alloc (by simp) _)) (HE4.out.below (((Below.refl _ _).alloc (Nat.le_refl _) _).alloc (by simp) _))).mono ?_; rw [← Hn1.out, ← Hn2.out]; rintro e w20 ⟨rfl, hb⟩; obtain ⟨c20_0, c20_1, c20_2, c20_3, hb⟩ := two_cells hb; replace HB := Aside0.belowC HB hb; replace HE1 := Aside0.readc HE1 hb; replace HE2 := Aside0.readc HE2 hb; replace HE3 := Aside0.readc HE3 hb; replace HE4 := Aside0.readc HE4 hb; replace HV := Aside0.ready HV hb; clear hb) | (replace st := stg_next 19 20 st; go_at_call 28; refine (specAreContiguous e1 _ ms1 e2 _ ms2 _ r1 _ r2 _ HE1.out HE2.out HE3.out HE4.out).mono ?_; rw [← Hn1.out, ← Hn2.out]; rintro e w21 ⟨rfl, hb⟩; replace HB := Aside0.belowC HB hb; replace c20_0 := pw_cell_below hb c20_0; replace c20_1 := pw_cell_below hb c20_1; replace c20_2 := pw_cell_below hb c20_2; replace c20_3 := pw_cell_below hb c20_3; replace HE1 := Aside0.readc HE1 hb; replace HE2 := Aside0.readc HE2 hb; replace HE3 := Aside0.readc HE3 hb; replace HE4 := Aside0.readc HE4 hb; replace HV := Aside0.ready HV hb; clear hb) | (replace st := stg_next 20 21 st; go_at_call 18; refine (implAreContiguous e1 _ ms1 e2 _ ms2 _ r2 _ r1 _ HE1.out HE2.out HE4.out HE3.out).mono ?_; rw [cont_swap, ← Hn1.out, ← Hn2.out]; rintro e w22 ⟨rfl, hb⟩; replace HB := Aside0.belowC HB hb; replace c20_0 := pw_cell_below hb c20_0; replace c20_1 := pw_cell_below hb c20_1; replace c20_2 := pw_cell_below hb c20_2; replace c20_3 := pw_cell_below hb c20_3; replace HE1 := Aside0.readc HE1 hb; replace HE2 := Aside0.readc HE2 hb; replace HE3 := Aside0.readc HE3 hb; replace HE4 := Aside0.readc HE4 hb; replace HV := Aside0.ready HV hb; clear hb) | (replace st := stg_next 21 22 st; go_at_call 29; refine (drawIsSimplicial _ nb _ HN.out HV.out).mono ?_; rintro e w23 ⟨s1, s2, u, z, lv, ts1, ts2, t3, rfl, ho, hoz, hop, -, -, -, -, hb⟩; replace HB := Aside0.belowC HB hb; replace c20_0 := pw_cell_below hb c20_0; replace c20_1 := pw_cell_below hb c20_1; replace c20_2 := pw_cell_below hb c20_2; replace c20_3 := pw_cell_below hb c20_3; replace HE1 := Aside0.readc HE1 hb; replace HE2 := Aside0.readc HE2 hb; replace HE3 := Aside0.readc HE3 hb; replace HE4 := Aside0.readc HE4 hb; replace HV := Aside0.ready HV hb; clear hb; clear HE1 HE2 HE3 HE4; have HS1 := Aside0.mk ho.read; obtain ⟨A24, d24, rfl, -⟩ := id ho.read; clear ho; have HS2 := Aside0.mk hoz.read; obtain ⟨A25, d25, rfl, -⟩ := id hoz.read; clear hoz; have HS3 := Aside0.mk hop.read; obtain ⟨A26, d26, rfl, -⟩ := id hop.read; clear hop; obtain ⟨y1, hy1⟩ : ∃ r, r = (ansIsSimplicial s1 ts1 s2 ts2 t3).1 := ⟨_, rfl⟩; have Hy1 := Aside0.mk hy1; clear hy1; obtain ⟨y2, hy2⟩ : ∃ r, r = (ansIsSimplicial s1 ts1 s2 ts2 t3).2 := ⟨_, rfl⟩; have Hy2 := Aside0.mk hy2; clear hy2; obtain ⟨y3, hy3⟩ : ∃ r, r = (ansIsMap s1 ts1 s2 ts2 t3).1 := ⟨_, rfl⟩; have Hy3 := Aside0.mk hy3; clear hy3; obtain ⟨y4, hy4⟩ : ∃ r, r = (ansIsMap s1 ts1 s2 ts2 t3).2 := ⟨_, rfl⟩; have Hy4 := Aside0.mk hy4; clear hy4) | (replace st := stg_next 22 23 st; go_at_call 26; refine (implIsSimplicial s1 _ ts1 s2 _ ts2 _ t3 _ (HS1.out.below (((Below.refl _ _).alloc (Nat.le_refl _) _).alloc (by simp) _)) (HS2.out.below (((Below.refl _ _).alloc (Nat.le_refl _) _).alloc (by simp) _)) (HS3.out.below (((Below.refl _ _).alloc (Nat.le_refl _) _).alloc (by simp) _))).mono ?_; rw [← Hy1.out, ← Hy2.out]; rintro e w24 ⟨rfl, hb⟩; obtain ⟨c24_0, c24_1, c24_2, c24_3, hb⟩ := two_cells hb; replace HB := Aside0.belowC HB hb; replace HS1 := Aside0.readc HS1 hb; replace HS2 := Aside0.readc HS2 hb; replace HS3 := Aside0.readc HS3 hb; replace HV := Aside0.ready HV hb; clear hb) | (replace st := stg_next 23 24 st; go_at_call 30; refine (specIsSimplicial s1 _ ts1 s2 _ ts2 _ t3 _ HS1.out HS2.out HS3.out).mono ?_; rw [← Hy1.out, ← Hy2.out]; rintro e w25 ⟨rfl, hb⟩; replace HB := Aside0.belowC HB hb; replace c24_0 := pw_cell_below hb c24_0; replace c24_1 := pw_cell_below hb c24_1; replace c24_2 := pw_cell_below hb c24_2; replace c24_3 := pw_cell_below hb c24_3; replace HS1 := Aside0.readc HS1 hb; replace HS2 := Aside0.readc HS2 hb; replace HS3 := Aside0.readc HS3 hb; replace HV := Aside0.ready HV hb; clear hb) | (replace st := stg_next 24 25 st; go_at_call 31; refine (implIsMap s1 _ ts1 s2 _ ts2 _ t3 _ HS1.out HS2.out HS3.out).mono ?_; rw [← Hy3.out, ← Hy4.out]; rintro e w26 ⟨rfl, hb⟩; replace HB := Aside0.belowC HB hb; replace c24_0 := pw_cell_below hb c24_0; replace c24_1 := pw_cell_below hb c24_1; replace c24_2 := pw_cell_below hb c24_2; replace c24_3 := pw_cell_below hb c24_3; replace HS1 := Aside0.readc HS1 hb; replace HS2 := Aside0.readc HS2 hb; replace HS3 := Aside0.readc HS3 hb; replace HV := Aside0.ready HV hb; clear hb) | (replace st := stg_next 25 26 st; go_at_call 32; refine (specIsMap s1 _ ts1 s2 _ ts2 _ t3 _ HS1.out HS2.out HS3.out).mono ?_; rw [← Hy3.out, ← Hy4.out]; rintro e w27 ⟨rfl, hb⟩; replace HB := Aside0.belowC HB hb; replace c24_0 := pw_cell_below hb c24_0; replace c24_1 := pw_cell_below hb c24_1; replace c24_2 := pw_cell_below hb c24_2; replace c24_3 := pw_cell_below hb c24_3; replace HS1 := Aside0.readc HS1 hb; replace HS2 := Aside0.readc HS2 hb; replace HS3 := Aside0.readc HS3 hb; replace HV := Aside0.ready HV hb; clear hb) | (replace st := stg_next 26 27 st; go_at_call 33; refine (drawFixedFaces _ nb _ HN.out HV.out).mono ?_; rintro e w28 ⟨x1, u, lv, vs1, v2, rfl, ho, hop, -, -, -, hb⟩; replace HB := Aside0.belowC HB hb; replace c24_0 := pw_cell_below hb c24_0; replace c24_1 := pw_cell_below hb c24_1; replace c24_2 := pw_cell_below hb c24_2; replace c24_3 := pw_cell_below hb c24_3; replace HS1 := Aside0.readc HS1 hb; replace HS2 := Aside0.readc HS2 hb; replace HS3 := Aside0.readc HS3 hb; replace HV := Aside0.ready HV hb; clear hb; clear HS1 HS2 HS3; have HX1 := Aside0.mk ho.read; obtain ⟨A27, d27, rfl, -⟩ := id ho.read; clear ho; have HX2 := Aside0.mk hop.read; obtain ⟨A28, d28, rfl, -⟩ := id hop.read; clear hop; obtain ⟨X, hX⟩ : ∃ r, r = (ansFixedFaces x1 vs1 v2).1 := ⟨_, rfl⟩; have HX := Aside0.mk hX; clear hX; obtain ⟨x2, hx2⟩ : ∃ r, r = (ansFixedFaces x1 vs1 v2).2 := ⟨_, rfl⟩; have Hx2 := Aside0.mk hx2; clear hx2) | (replace st := stg_next 27 28 st; go_at_call 34; refine (implFixedFaces x1 _ vs1 _ v2 _ (HX1.out.below (Below.alloc (Below.refl _ _) (Nat.le_refl _) _)) (HX2.out.below (Below.alloc (Below.refl _ _) (Nat.le_refl _) _))).mono ?_; rw [← HX.out, ← Hx2.out]; rintro e w29 ⟨u, rfl, ho, hb⟩; have c620 : w29.cell? ⟨w28.heap.size, 0, none⟩ = some (.int .i64 x1) := pw_cell_below hb (new_cell _ _ _ 0 _ rfl); have c621 : w29.cell? ⟨w28.heap.size, 1, none⟩ = some (.slice A27 vs1.length d27) := pw_cell_below hb (new_cell _ _ _ 1 _ rfl); replace hb := below_unalloc hb; replace HB := Aside0.belowC HB hb; replace HX1 := Aside0.readc HX1 hb; replace HX2 := Aside0.readc HX2 hb; replace HV := Aside0.ready HV hb; clear hb; have HY1 := Aside0.mk ho.read; obtain ⟨A29, d29, rfl, -⟩ := id ho.read; clear ho) | (replace st := stg_next 28 29 st; go_at_call 35; refine (specFixedFaces x1 _ vs1 _ v2 _ HX1.out HX2.out).mono ?_; rw [← HX.out, ← Hx2.out]; rintro e w30 ⟨u, rfl, ho, hb⟩; replace HB := Aside0.belowC HB hb; replace c620 := pw_cell_below hb c620; replace c621 := pw_cell_below hb c621; replace HX1 := Aside0.readc HX1 hb; replace HX2 := Aside0.readc HX2 hb; replace HY1 := Aside0.readc HY1 hb; replace HV := Aside0.ready HV hb; clear hb; have HY2 := Aside0.mk ho.read; obtain ⟨A30, d30, rfl, -⟩ := id ho.read; clear ho) | (replace st := stg_next 29 30 st; go_at_call 22; refine (likeSame _ _ X _ HY1.out HY2.out).mono ?_; rintro e w31 ⟨rfl, hb⟩; replace HB := Aside0.belowC HB hb; replace c620 := pw_cell_below hb c620; replace c621 := pw_cell_below hb c621; replace HX1 := Aside0.readc HX1 hb; replace HX2 := Aside0.readc HX2 hb; replace HY1 := Aside0.readc HY1 hb; replace HY2 := Aside0.readc HY2 hb; replace HV := Aside0.ready HV hb; clear hb))
      go_ret
      exact ⟨rfl, HB.out⟩
    ·clear KC
     have hcc1 : (cc == 0) = false := by rw [beq_eq_false_iff_ne]; exact hcc0
     as_aux_lemma =>
      go_wp2_with (first | (replace st := stg_next 13 14 st; go_at_call 24; refine (implComposeMaps c1 _ ks1 c2 _ ks2 c3 _ ks3 _ q1 _ q2 _ (HC1.out.below ((((Below.refl _ _).alloc (Nat.le_refl _) _).alloc (by simp) _).alloc (by simp; omega) _)) (HC2.out.below ((((Below.refl _ _).alloc (Nat.le_refl _) _).alloc (by simp) _).alloc (by simp; omega) _)) (HC3.out.below ((((Below.refl _ _).alloc (Nat.le_refl _) _).alloc (by simp) _).alloc (by simp; omega) _)) (HC4.out.below ((((Below.refl _ _).alloc (Nat.le_refl _) _).alloc (by simp) _).alloc (by simp; omega) _)) (HC5.out.below ((((Below.refl _ _).alloc (Nat.le_refl _) _).alloc (by simp) _).alloc (by simp; omega) _))).mono ?_; rw [← HC.out, ← Hcc.out]; rintro e w15 ⟨u, rfl, ho, hb⟩; obtain ⟨c15_0, c15_1, c15_2, c15_3, c15_4, c15_5, hb⟩ := three_cells hb; replace HB := Aside0.belowC HB hb; replace HC1 := Aside0.readc HC1 hb; replace HC2 := Aside0.readc HC2 hb; replace HC3 := Aside0.readc HC3 hb; replace HC4 := Aside0.readc HC4 hb; replace HC5 := Aside0.readc HC5 hb; replace HV := Aside0.ready HV hb; clear hb; have HM1 := Aside0.mk ho.read; obtain ⟨A18, d18, rfl, -⟩ := id ho.read; clear ho) | (replace st := stg_next 14 15 st; go_at_call 25; refine (specComposeMaps c1 _ ks1 c2 _ ks2 c3 _ ks3 _ q1 _ q2 _ HC1.out HC2.out HC3.out HC4.out HC5.out).mono ?_; rw [← HC.out, ← Hcc.out]; rintro e w16 ⟨u, rfl, ho, hb⟩; replace HB := Aside0.belowC HB hb; replace c15_0 := pw_cell_below hb c15_0; replace c15_1 := pw_cell_below hb c15_1; replace c15_2 := pw_cell_below hb c15_2; replace c15_3 := pw_cell_below hb c15_3; replace c15_4 := pw_cell_below hb c15_4; replace c15_5 := pw_cell_below hb c15_5; replace HC1 := Aside0.readc HC1 hb; replace HC2 := Aside0.readc HC2 hb; replace HC3 := Aside0.readc HC3 hb; replace HC4 := Aside0.readc HC4 hb; replace HC5 := Aside0.readc HC5 hb; replace HM1 := Aside0.readc HM1 hb; replace HV := Aside0.ready HV hb; clear hb; have HM2 := Aside0.mk ho.read; obtain ⟨A19, d19, rfl, -⟩ := id ho.read; clear ho) | (replace st := stg_next 15 16 st; go_at_call 22; refine (likeSame _ _ C _ HM1.out HM2.out).mono ?_; rintro e w17 ⟨rfl, hb⟩; replace HB := Aside0.belowC HB hb; replace c15_0 := pw_cell_below hb c15_0; replace c15_1 := pw_cell_below hb c15_1; replace c15_2 := pw_cell_below hb c15_2; replace c15_3 := pw_cell_below hb c15_3; replace c15_4 := pw_cell_below hb c15_4; replace c15_5 := pw_cell_below hb c15_5; replace HC1 := Aside0.readc HC1 hb; replace HC2 := Aside0.readc HC2 hb; replace HC3 := Aside0.readc HC3 hb; replace HC4 := Aside0.readc HC4 hb; replace HC5 := Aside0.readc HC5 hb; replace HM1 := Aside0.readc HM1 hb; replace HM2 := Aside0.readc HM2 hb; replace HV := Aside0.ready HV hb; clear hb) | (replace st := stg_next 16 17 st; go_at_call 27; refine (drawAreContiguous _ nb _ HN.out HV.out).mono ?_; rintro e w18 ⟨e1, e2, u, z, lv, rv, ms1, ms2, r1, r2, rfl, ho, hoz, hop, hoq, -, -, -, -, -, -, hb⟩; replace HB := Aside0.belowC HB hb; replace c15_0 := pw_cell_below hb c15_0; replace c15_1 := pw_cell_below hb c15_1; replace c15_2 := pw_cell_below hb c15_2; replace c15_3 := pw_cell_below hb c15_3; replace c15_4 := pw_cell_below hb c15_4; replace c15_5 := pw_cell_below hb c15_5; replace HC1 := Aside0.readc HC1 hb; replace HC2 := Aside0.readc HC2 hb; replace HC3 := Aside0.readc HC3 hb; replace HC4 := Aside0.readc HC4 hb; replace HC5 := Aside0.readc HC5 hb; replace HM1 := Aside0.readc HM1 hb; replace HM2 := Aside0.readc HM2 hb; replace HV := Aside0.ready HV hb; clear hb; clear HM1 HM2 HC1 HC2 HC3 HC4 HC5; have HE1 := Aside0.mk ho.read; obtain ⟨A20, d20, rfl, -⟩ := id ho.read; clear ho; have HE2 := Aside0.mk hoz.read; obtain ⟨A21, d21, rfl, -⟩ := id hoz.read; clear hoz; have HE3 := Aside0.mk hop.read; obtain ⟨A22, d22, rfl, -⟩ := id hop.read; clear hop; have HE4 := Aside0.mk hoq.read; obtain ⟨A23, d23, rfl, -⟩ := id hoq.read; clear hoq; obtain ⟨n1, hn1⟩ : ∃ r, r = (ansAreContiguous e1 ms1 e2 ms2 r1 r2).1 := ⟨_, rfl⟩; have Hn1 := Aside0.mk hn1; clear hn1; obtain ⟨n2, hn2⟩ : ∃ r, r = (ansAreContiguous e1 ms1 e2 ms2 r1 r2).2 := ⟨_, rfl⟩; have Hn2 := Aside0.mk hn2; clear hn2) | (replace st := stg_next 17 18 st; go_at_call 18; refine (implAreContiguous e1 _ ms1 e2 _ ms2 _ r1 _ r2 _ (HE1.out.below (((Below.refl _ _).alloc (Nat.le_refl _) _).alloc (by simp) _)) (HE2.out.below (((Below.refl _ _).alloc (Nat.le_refl _) _).alloc (by simp) _)) (HE3.out.below (((Below.refl _ _).alloc (Nat.le_refl _) _).alloc (by simp) _)) (HE4.out.below (((Below.refl _ _).alloc (Nat.le_refl _) _).alloc (by simp) _))).mono ?_; rw [← Hn1.out, ← Hn2.out]; rintro e w19 ⟨rfl, hb⟩; obtain ⟨c19_0, c19_1, c19_2, c19_3, hb⟩ := two_cells hb; replace HB := Aside0.belowC HB hb; replace HE1 := Aside0.readc HE1 hb; replace HE2 := Aside0.readc HE2 hb; replace HE3 := Aside0.readc HE3 hb; replace HE4 := Aside0.readc HE4 hb; replace HV := Aside0.ready HV hb; clear hb) | (replace st := stg_next 18 19 st; go_at_call 28; refine (specAreContiguous e1 _ ms1 e2 _ ms2 _ r1 _ r2 _ HE1.out HE2.out HE3.out HE4.out).mono ?_; rw [← Hn1.out, ← Hn2.out]; rintro e w20 ⟨rfl, hb⟩; replace HB := Aside0.belowC HB hb; replace c19_0 := pw_cell_below hb c19_0; replace c19_1 := pw_cell_below hb c19_1; replace c19_2 := pw_cell_below hb c19_2; replace c19_3 := pw_cell_below hb c19_3; replace HE1 := Aside0.readc HE1 hb; replace HE2 := Aside0.readc HE2 hb; replace HE3 := Aside0.readc HE3 hb; replace HE4 := Aside0.readc HE4 hb; replace HV := Aside0.ready HV hb; clear hb) | (replace st := stg_next 19 20 st; go_at_call 18; refine (implAreContiguous e1 _ ms1 e2 _ ms2 _ r2 _ r1 _ HE1.out HE2.out HE4.out HE3.out).mono ?_; rw [cont_swap, ← Hn1.out, ← Hn2.out]; rintro e w21 ⟨rfl, hb⟩; replace HB := Aside0.belowC HB hb; replace c19_0 := pw_cell_below hb c19_0; replace c19_1 := pw_cell_below hb c19_1; replace c19_2 := pw_cell_below hb c19_2; replace c19_3 := pw_cell_below hb c19_3; replace HE1 := Aside0.readc HE1 hb; replace HE2 := Aside0.readc HE2 hb; replace HE3 := Aside0.readc HE3 hb; replace HE4 := Aside0.readc HE4 hb; replace HV := Aside0.ready HV hb; clear hb) | (replace st := stg_next 20 21 st; go_at_call 29; refine (drawIsSimplicial _ nb _ HN.out HV.out).mono ?_; rintro e w22 ⟨s1, s2, u, z, lv, ts1, ts2, t3, rfl, ho, hoz, hop, -, -, -, -, hb⟩; replace HB := Aside0.belowC HB hb; replace c19_0 := pw_cell_below hb c19_0; replace c19_1 := pw_cell_below hb c19_1; replace c19_2 := pw_cell_below hb c19_2; replace c19_3 := pw_cell_below hb c19_3; replace HE1 := Aside0.readc HE1 hb; replace HE2 := Aside0.readc HE2 hb; replace HE3 := Aside0.readc HE3 hb; replace HE4 := Aside0.readc HE4 hb; replace HV := Aside0.ready HV hb; clear hb; clear HE1 HE2 HE3 HE4; have HS1 := Aside0.mk ho.read; obtain ⟨A24, d24, rfl, -⟩ := id ho.read; clear ho; have HS2 := Aside0.mk hoz.read; obtain ⟨A25, d25, rfl, -⟩ := id hoz.read; clear hoz; have HS3 := Aside0.mk hop.read; obtain ⟨A26, d26, rfl, -⟩ := id hop.read; clear hop; obtain ⟨y1, hy1⟩ : ∃ r, r = (ansIsSimplicial s1 ts1 s2 ts2 t3).1 := ⟨_, rfl⟩; have Hy1 := Aside0.mk hy1; clear hy1; obtain ⟨y2, hy2⟩ : ∃ r, r = (ansIsSimplicial s1 ts1 s2 ts2 t3).2 := ⟨_, rfl⟩; have Hy2 := Aside0.mk hy2; clear hy2; obtain ⟨y3, hy3⟩ : ∃ r, r = (ansIsMap s1 ts1 s2 ts2 t3).1 := ⟨_, rfl⟩; have Hy3 := Aside0.mk hy3; clear hy3; obtain ⟨y4, hy4⟩ : ∃ r, r = (ansIsMap s1 ts1 s2 ts2 t3).2 := ⟨_, rfl⟩; have Hy4 := Aside0.mk hy4; clear hy4) | (replace st := stg_next 21 22 st; go_at_call 26; refine (implIsSimplicial s1 _ ts1 s2 _ ts2 _ t3 _ (HS1.out.below (((Below.refl _ _).alloc (Nat.le_refl _) _).alloc (by simp) _)) (HS2.out.below (((Below.refl _ _).alloc (Nat.le_refl _) _).alloc (by simp) _)) (HS3.out.below (((Below.refl _ _).alloc (Nat.le_refl _) _).alloc (by simp) _))).mono ?_; rw [← Hy1.out, ← Hy2.out]; rintro e w23 ⟨rfl, hb⟩; obtain ⟨c23_0, c23_1, c23_2, c23_3, hb⟩ := two_cells hb; replace HB := Aside0.belowC HB hb; replace HS1 := Aside0.readc HS1 hb; replace HS2 := Aside0.readc HS2 hb; replace HS3 := Aside0.readc HS3 hb; replace HV := Aside0.ready HV hb; clear hb) | (replace st := stg_next 22 23 st; go_at_call 30; refine (specIsSimplicial s1 _ ts1 s2 _ ts2 _ t3 _ HS1.out HS2.out HS3.out).mono ?_; rw [← Hy1.out, ← Hy2.out]; rintro e w24 ⟨rfl, hb⟩; replace HB := Aside0.belowC HB hb; replace c23_0 := pw_cell_below hb c23_0; replace c23_1 := pw_cell_below hb c23_1; replace c23_2 := pw_cell_below hb c23_2; replace c23_3 := pw_cell_below hb c23_3; replace HS1 := Aside0.readc HS1 hb; replace HS2 := Aside0.readc HS2 hb; replace HS3 := Aside0.readc HS3 hb; replace HV := Aside0.ready HV hb; clear hb) | (replace st := stg_next 23 24 st; go_at_call 31; refine (implIsMap s1 _ ts1 s2 _ ts2 _ t3 _ HS1.out HS2.out HS3.out).mono ?_; rw [← Hy3.out, ← Hy4.out]; rintro e w25 ⟨rfl, hb⟩; replace HB := Aside0.belowC HB hb; replace c23_0 := pw_cell_below hb c23_0; replace c23_1 := pw_cell_below hb c23_1; replace c23_2 := pw_cell_below hb c23_2; replace c23_3 := pw_cell_below hb c23_3; replace HS1 := Aside0.readc HS1 hb; replace HS2 := Aside0.readc HS2 hb; replace HS3 := Aside0.readc HS3 hb; replace HV := Aside0.ready HV hb; clear hb) | (replace st := stg_next 24 25 st; go_at_call 32; refine (specIsMap s1 _ ts1 s2 _ ts2 _ t3 _ HS1.out HS2.out HS3.out).mono ?_; rw [← Hy3.out, ← Hy4.out]; rintro e w26 ⟨rfl, hb⟩; replace HB := Aside0.belowC HB hb; replace c23_0 := pw_cell_below hb c23_0; replace c23_1 := pw_cell_below hb c23_1; replace c23_2 := pw_cell_below hb c23_2; replace c23_3 := pw_cell_below hb c23_3; replace HS1 := Aside0.readc HS1 hb; replace HS2 := Aside0.readc HS2 hb; replace HS3 := Aside0.readc HS3 hb; replace HV := Aside0.ready HV hb; clear hb) | (replace st := stg_next 25 26 st; go_at_call 33; refine (drawFixedFaces _ nb _ HN.out HV.out).mono ?_; rintro e w27 ⟨x1, u, lv, vs1, v2, rfl, ho, hop, -, -, -, hb⟩; replace HB := Aside0.belowC HB hb; replace c23_0 := pw_cell_below hb c23_0; replace c23_1 := pw_cell_below hb c23_1; replace c23_2 := pw_cell_below hb c23_2; replace c23_3 := pw_cell_below hb c23_3; replace HS1 := Aside0.readc HS1 hb; replace HS2 := Aside0.readc HS2 hb; replace HS3 := Aside0.readc HS3 hb; replace HV := Aside0.ready HV hb; clear hb; clear HS1 HS2 HS3; have HX1 := Aside0.mk ho.read; obtain ⟨A27, d27, rfl, -⟩ := id ho.read; clear ho; have HX2 := Aside0.mk hop.read; obtain ⟨A28, d28, rfl, -⟩ := id hop.read; clear hop; obtain ⟨X, hX⟩ : ∃ r, r = (ansFixedFaces x1 vs1 v2).1 := ⟨_, rfl⟩; have HX := Aside0.mk hX; clear hX; obtain ⟨x2, hx2⟩ : ∃ r, r = (ansFixedFaces x1 vs1 v2).2 := ⟨_, rfl⟩; have Hx2 := Aside0.mk hx2; clear hx2) | (replace st := stg_next 26 27 st; go_at_call 34; refine (implFixedFaces x1 _ vs1 _ v2 _ (HX1.out.below (Below.alloc (Below.refl _ _) (Nat.le_refl _) _)) (HX2.out.below (Below.alloc (Below.refl _ _) (Nat.le_refl _) _))).mono ?_; rw [← HX.out, ← Hx2.out]; rintro e w28 ⟨u, rfl, ho, hb⟩; have c620 : w28.cell? ⟨w27.heap.size, 0, none⟩ = some (.int .i64 x1) := pw_cell_below hb (new_cell _ _ _ 0 _ rfl); have c621 : w28.cell? ⟨w27.heap.size, 1, none⟩ = some (.slice A27 vs1.length d27) := pw_cell_below hb (new_cell _ _ _ 1 _ rfl); replace hb := below_unalloc hb; replace HB := Aside0.belowC HB hb; replace HX1 := Aside0.readc HX1 hb; replace HX2 := Aside0.readc HX2 hb; replace HV := Aside0.ready HV hb; clear hb; have HY1 := Aside0.mk ho.read; obtain ⟨A29, d29, rfl, -⟩ := id ho.read; clear ho) | (replace st := stg_next 27 28 st; go_at_call 35; refine (specFixedFaces x1 _ vs1 _ v2 _ HX1.out HX2.out).mono ?_; rw [← HX.out, ← Hx2.out]; rintro e w29 ⟨u, rfl, ho, hb⟩; replace HB := Aside0.belowC HB hb; replace c620 := pw_cell_below hb c620; replace c621 := pw_cell_below hb c621; replace HX1 := Aside0.readc HX1 hb; replace HX2 := Aside0.readc HX2 hb; replace HY1 := Aside0.readc HY1 hb; replace HV := Aside0.ready HV hb; clear hb; have HY2 := Aside0.mk ho.read; obtain ⟨A30, d30, rfl, -⟩ := id ho.read; clear ho) | (replace st := stg_next 28 29 st; go_at_call 22; refine (likeSame _ _ X _ HY1.out HY2.out).mono ?_; rintro e w30 ⟨rfl, hb⟩; replace HB := Aside0.belowC HB hb; replace c620 := pw_cell_below hb c620; replace c621 := pw_cell_below hb c621; replace HX1 := Aside0.readc HX1 hb; replace HX2 := Aside0.readc HX2 hb; replace HY1 := Aside0.readc HY1 hb; replace HY2 := Aside0.readc HY2 hb; replace HV := Aside0.ready HV hb; clear hb))
      go_ret
      exact ⟨rfl, HB.out⟩
end Go.Proofs.YtomofijniefelaaGreat.H
