/- The law FnTrees: the walk (printed by genft.py). -/
import Derived.Test.YtkggchklmpmgpaaGreatKFnTrees1
import Derived.Test.YtkggchklmpmgpaaGreatKFnTrees2
import Derived.Test.YtkggchklmpmgpaaGreatKFnTrees3
import Derived.Test.YtkggchklmpmgpaaGreatKFnTrees4
import Derived.Test.YtkggchklmpmgpaaGreatKFnTrees5
import Derived.Test.YtkggchklmpmgpaaGreatKFnTrees6
import Derived.Test.YtkggchklmpmgpaaGreatKFnTrees7
import Derived.Test.YtkggchklmpmgpaaGreatKFnTrees8
import Derived.Test.YtkggchklmpmgpaaGreatKFnTrees9
import Derived.Test.YtkggchklmpmgpaaGreatKFnTrees10
import Derived.Test.YtkggchklmpmgpaaGreatKFnTrees11
import Derived.Test.YtkggchklmpmgpaaGreatKFnTrees12
import Derived.Test.YtkggchklmpmgpaaGreatKFnTrees13
import Derived.Test.YtkggchklmpmgpaaGreatKFnTrees14
import Derived.Test.YtkggchklmpmgpaaGreatKFnTrees15
import Derived.Test.YtkggchklmpmgpaaGreatKFnTrees16
import Derived.Test.YtkggchklmpmgpaaGreatKFnTrees17
import Derived.Test.YtkggchklmpmgpaaGreatKFnTrees18
import Derived.Test.YtkggchklmpmgpaaGreatKFnTrees19
import Derived.Test.YtkggchklmpmgpaaGreatKFnTrees20
import Derived.Test.YtkggchklmpmgpaaGreatKFnTrees21
import Derived.Test.YtkggchklmpmgpaaGreatKFnTrees22
import Derived.Test.YtkggchklmpmgpaaGreatKFnTrees23
import Derived.Test.YtkggchklmpmgpaaGreatKFnTrees24
import Derived.Test.YtkggchklmpmgpaaGreatKFnTrees25
import Derived.Test.YtkggchklmpmgpaaGreatKFnTrees26
import Derived.Test.YtkggchklmpmgpaaGreatKFnTrees27

namespace Go.Proofs.YtkggchklmpmgpaaGreat.H
open Go.RowKit Go.Proofs.YtkggchklmpmgpaaGreatW.PrintWords Go.Proofs.YtkggchklmpmgpaaGreatW.PrintLast
set_option linter.unusedVariables false
set_option linter.unusedSimpArgs false
set_option maxRecDepth 1000000 in
set_option maxHeartbeats 64000000 in
theorem lawFnTrees (w : World) (v : Value) (nb : Nat) (hv : ReadY w v nb) (hnb : nb ≤ 9223372036854775807) :
  Calls Tryz.prog 5 #[v] w fun e w' => e = .returned (.bool true) ∧ Below w.heap.size w w' := by
 have HV := Aside0.mk hv
 have HB := Aside0.mk (Below.refl w.heap.size w)
 have st : Stg 0 := ⟨⟩
 have hmx : Tryz.prog.follows .mixedOrders = true := by kernel_rfl
 obtain ⟨A0, d0, rfl, -⟩ := id hv
 clear hv
 by_cases hbig : 4096 < nb
 ·have HG : Aside0 (decide (4096 < nb) = true) := ⟨decide_eq_true hbig⟩
  clear hbig
  go_enter Tryz.func5, Tryz.ntmps5
  go_wp2_with (first | (replace st := stg_next 0 1 st; go_at_call 10; refine (bigB _ nb _ HV.out hnb).mono ?_; rw [HG.out]; rintro e w2 ⟨rfl, hb⟩; replace HB := Aside0.belowC HB hb; clear hb))
  go_ret
  exact ⟨rfl, HB.out⟩
 ·have HG : Aside0 (decide (4096 < nb) = false) := ⟨decide_eq_false hbig⟩
  have HN := Aside0.mk (Nat.le_of_not_lt hbig)
  clear hbig
  go_enter Tryz.func5, Tryz.ntmps5
  go_wp2_with (first | (replace st := stg_next 0 1 st; go_at_call 10; refine (bigB _ nb _ HV.out hnb).mono ?_; rw [HG.out]; rintro e w2 ⟨rfl, hb⟩; replace HB := Aside0.belowC HB hb; replace HV := Aside0.ready HV hb; clear hb) | (replace st := stg_next 1 2 st; go_at_call 49; refine (drawBestTree _ nb _ HN.out HV.out).mono ?_; rintro e w3 ⟨vk, rfl, ⟨a, u, ys, rfl, ho, -⟩, hb⟩; replace HB := Aside0.belowC HB hb; replace HV := Aside0.ready HV hb; clear hb; have HR1 := Aside0.mk ho.read; obtain ⟨A1, d1, rfl, -⟩ := id ho.read; clear ho; obtain ⟨B, hB⟩ : ∃ r, r = (ansBestTree a ys).1 := ⟨_, rfl⟩; have HB_ := Aside0.mk hB; clear hB; obtain ⟨b2, hb2⟩ : ∃ r, r = (ansBestTree a ys).2 := ⟨_, rfl⟩; have Hb2 := Aside0.mk hb2; clear hb2) | (replace st := stg_next 2 3 st; go_at_call 50; refine (implBestTree a _ ys _ (HR1.out.below (Below.alloc (Below.refl _ _) (Nat.le_refl _) _))).mono ?_; rw [← HB_.out, ← Hb2.out]; rintro e w4 ⟨u, rfl, ho, hb⟩; have c30 : w4.cell? ⟨w3.heap.size, 0, none⟩ = some (.int .i64 a) := pw_cell_below hb (new_cell _ _ _ 0 _ rfl); have c31 : w4.cell? ⟨w3.heap.size, 1, none⟩ = some (.slice A1 ys.length d1) := pw_cell_below hb (new_cell _ _ _ 1 _ rfl); replace hb := below_unalloc hb; replace HB := Aside0.belowC HB hb; replace HR1 := Aside0.readc HR1 hb; replace HV := Aside0.ready HV hb; clear hb; have HL1 := Aside0.mk ho.read; obtain ⟨A3, d3, rfl, -⟩ := id ho.read; clear ho) | (replace st := stg_next 3 4 st; go_at_call 51; refine (specBestTree a _ ys _ HR1.out).mono ?_; rw [← HB_.out, ← Hb2.out]; rintro e w5 ⟨u, rfl, ho, hb⟩; replace HB := Aside0.belowC HB hb; replace c30 := pw_cell_below hb c30; replace c31 := pw_cell_below hb c31; replace HR1 := Aside0.readc HR1 hb; replace HL1 := Aside0.readc HL1 hb; replace HV := Aside0.ready HV hb; clear hb; have HL2 := Aside0.mk ho.read; obtain ⟨A4, d4, rfl, -⟩ := id ho.read; clear ho) | (replace st := stg_next 4 5 st; go_at_call 23; refine (likeSame _ _ B _ HL1.out HL2.out).mono ?_; rintro e w6 ⟨rfl, hb⟩; replace HB := Aside0.belowC HB hb; replace c30 := pw_cell_below hb c30; replace c31 := pw_cell_below hb c31; replace HR1 := Aside0.readc HR1 hb; replace HL1 := Aside0.readc HL1 hb; replace HL2 := Aside0.readc HL2 hb; replace HV := Aside0.ready HV hb; clear hb; clear HL2) | (replace st := stg_next 5 6 st; go_at_call 52; refine (drawPairingOfTree _ nb _ HN.out HV.out).mono ?_; rintro e w7 ⟨b, u, tv, zs, ts, rfl, ho, hot, -, -, hb⟩; replace HB := Aside0.belowC HB hb; replace c30 := pw_cell_below hb c30; replace c31 := pw_cell_below hb c31; replace HR1 := Aside0.readc HR1 hb; replace HL1 := Aside0.readc HL1 hb; replace HV := Aside0.ready HV hb; clear hb; have HR2 := Aside0.mk ho.read; have HRT := Aside0.mk hot.read; obtain ⟨A5, d5, rfl, -⟩ := id ho.read; obtain ⟨A6, d6, rfl, -⟩ := id hot.read; clear ho hot; obtain ⟨Pr, hPr⟩ : ∃ r, r = (ansPairingOfTree b zs ts).1 := ⟨_, rfl⟩; have HPr := Aside0.mk hPr; clear hPr; obtain ⟨p2, hp2⟩ : ∃ r, r = (ansPairingOfTree b zs ts).2 := ⟨_, rfl⟩; have Hp2 := Aside0.mk hp2; clear hp2) | (replace st := stg_next 6 7 st; go_at_call 53; refine (implPairingOfTree b _ zs _ ts _ (HR2.out.below (Below.alloc (Below.refl _ _) (Nat.le_refl _) _)) (HRT.out.below (Below.alloc (Below.refl _ _) (Nat.le_refl _) _))).mono ?_; rw [← HPr.out, ← Hp2.out]; rintro e w8 ⟨u, rfl, ho, hb⟩; have c80 : w8.cell? ⟨w7.heap.size, 0, none⟩ = some (.int .i64 b) := pw_cell_below hb (new_cell _ _ _ 0 _ rfl); have c81 : w8.cell? ⟨w7.heap.size, 1, none⟩ = some (.slice A5 zs.length d5) := pw_cell_below hb (new_cell _ _ _ 1 _ rfl); replace hb := below_unalloc hb; replace HB := Aside0.belowC HB hb; replace c30 := pw_cell_below hb c30; replace c31 := pw_cell_below hb c31; replace HR1 := Aside0.readc HR1 hb; replace HL1 := Aside0.readc HL1 hb; replace HR2 := Aside0.readc HR2 hb; replace HRT := Aside0.readc HRT hb; replace HV := Aside0.ready HV hb; clear hb; have HP1 := Aside0.mk ho.read; obtain ⟨A7, d7, rfl, -⟩ := id ho.read; clear ho) | (replace st := stg_next 7 8 st; go_at_call 54; refine (specPairingOfTree b _ zs _ ts _ HR2.out HRT.out).mono ?_; rw [← HPr.out, ← Hp2.out]; rintro e w9 ⟨u, rfl, ho, hb⟩; replace HB := Aside0.belowC HB hb; replace c30 := pw_cell_below hb c30; replace c31 := pw_cell_below hb c31; replace c80 := pw_cell_below hb c80; replace c81 := pw_cell_below hb c81; replace HR1 := Aside0.readc HR1 hb; replace HL1 := Aside0.readc HL1 hb; replace HR2 := Aside0.readc HR2 hb; replace HRT := Aside0.readc HRT hb; replace HV := Aside0.ready HV hb; replace HP1 := Aside0.readp HP1 hb; clear hb; have HP2 := Aside0.mk ho.read; obtain ⟨A8, d8, rfl, -⟩ := id ho.read; clear ho) | (replace st := stg_next 8 9 st; go_at_call 55; refine (pairs9Same _ _ Pr _ HP1.out HP2.out).mono ?_; rintro e w10 ⟨rfl, hb⟩; replace HB := Aside0.belowC HB hb; replace c30 := pw_cell_below hb c30; replace c31 := pw_cell_below hb c31; replace c80 := pw_cell_below hb c80; replace c81 := pw_cell_below hb c81; replace HR1 := Aside0.readc HR1 hb; replace HL1 := Aside0.readc HL1 hb; replace HR2 := Aside0.readc HR2 hb; replace HRT := Aside0.readc HRT hb; replace HV := Aside0.ready HV hb; replace HP1 := Aside0.readp HP1 hb; replace HP2 := Aside0.readp HP2 hb; clear hb; clear HP2) | (replace st := stg_next 9 10 st; go_at_call 56; refine (drawIsTree _ nb _ HN.out HV.out).mono ?_; rintro e w11 ⟨n, tv, us, rfl, -, hot, -, hb⟩; replace HB := Aside0.belowC HB hb; replace c30 := pw_cell_below hb c30; replace c31 := pw_cell_below hb c31; replace c80 := pw_cell_below hb c80; replace c81 := pw_cell_below hb c81; replace HR1 := Aside0.readc HR1 hb; replace HL1 := Aside0.readc HL1 hb; replace HR2 := Aside0.readc HR2 hb; replace HRT := Aside0.readc HRT hb; replace HV := Aside0.ready HV hb; replace HP1 := Aside0.readp HP1 hb; clear hb; have HRU := Aside0.mk hot.read; obtain ⟨A9, d9, rfl, -⟩ := id hot.read; clear hot; obtain ⟨j1, hj1⟩ : ∃ r, r = (ansTree n us).1 := ⟨_, rfl⟩; have Hj1 := Aside0.mk hj1; clear hj1; obtain ⟨j2, hj2⟩ : ∃ r, r = (ansTree n us).2 := ⟨_, rfl⟩; have Hj2 := Aside0.mk hj2; clear hj2) | (replace st := stg_next 10 11 st; go_at_call 57; refine (implIsTree _ us n _ HRU.out).mono ?_; rw [← Hj1.out, ← Hj2.out]; rintro e w12 ⟨rfl, hb⟩; replace HB := Aside0.belowC HB hb; replace c30 := pw_cell_below hb c30; replace c31 := pw_cell_below hb c31; replace c80 := pw_cell_below hb c80; replace c81 := pw_cell_below hb c81; replace HR1 := Aside0.readc HR1 hb; replace HL1 := Aside0.readc HL1 hb; replace HR2 := Aside0.readc HR2 hb; replace HRT := Aside0.readc HRT hb; replace HRU := Aside0.readc HRU hb; replace HV := Aside0.ready HV hb; replace HP1 := Aside0.readp HP1 hb; clear hb) | (replace st := stg_next 11 12 st; go_at_call 58; refine (specIsTree _ us n _ HRU.out).mono ?_; rw [← Hj1.out, ← Hj2.out]; rintro e w13 ⟨rfl, hb⟩; replace HB := Aside0.belowC HB hb; replace c30 := pw_cell_below hb c30; replace c31 := pw_cell_below hb c31; replace c80 := pw_cell_below hb c80; replace c81 := pw_cell_below hb c81; replace HR1 := Aside0.readc HR1 hb; replace HL1 := Aside0.readc HL1 hb; replace HR2 := Aside0.readc HR2 hb; replace HRT := Aside0.readc HRT hb; replace HRU := Aside0.readc HRU hb; replace HV := Aside0.ready HV hb; replace HP1 := Aside0.readp HP1 hb; clear hb; clear HRU) | (replace st := stg_next 12 13 st; go_at_call 59; refine Aside0.out ?_))
  refine Aside0.mk ?_
  with_reducible refine (drawTreeOfOrder _ nb _ HN.out HV.out).mono ?_
  rintro e w14 ⟨m, tv, o, rfl, -, hot, -, hb⟩
  replace HB := Aside0.belowC HB hb
  replace c30 := pw_cell_below hb c30
  replace c31 := pw_cell_below hb c31
  replace c80 := pw_cell_below hb c80
  replace c81 := pw_cell_below hb c81
  replace HR1 := Aside0.readc HR1 hb
  replace HL1 := Aside0.readc HL1 hb
  replace HR2 := Aside0.readc HR2 hb
  replace HRT := Aside0.readc HRT hb
  replace HP1 := Aside0.readp HP1 hb
  clear hb
  clear HV
  have HRO := Aside0.mk hot.read
  obtain ⟨A10, d10, rfl, -⟩ := id hot.read
  clear hot
  obtain ⟨M, hM⟩ : ∃ r, r = (ansTreeOfOrder m o).1 := ⟨_, rfl⟩
  have HM := Aside0.mk hM
  clear hM
  obtain ⟨o2, ho2⟩ : ∃ r, r = (ansTreeOfOrder m o).2 := ⟨_, rfl⟩
  have Ho2 := Aside0.mk ho2
  clear ho2
  obtain ⟨C, hC⟩ : ∃ r, r = (ansCriticalFaces b zs Pr).1 := ⟨_, rfl⟩
  obtain ⟨E, hE⟩ : ∃ r, r = (ansEvadersOf b zs ts).1 := ⟨_, rfl⟩
  have HC := Aside0.mk hC
  have HE := Aside0.mk hE
  have hel : E.length ≤ 64 := by rw [hE]; exact evO_len64 b zs ts
  clear hC hE
  have KP : p2 = 0 → ansIsAcyclicPairing b zs Pr = (true, 0) ∧ (ansEvadersOf b zs ts).2 = 0 ∧ (ansCriticalFaces b zs Pr).2 = 0 ∧ C.length ≤ 64 ∧ (C.filter fun c => !decide (c ∈ E)).length ≤ 1 := fun h0 => by
   rw [HC.out, HE.out, HPr.out]; exact key_tp (by rw [← Hp2.out]; exact h0)
  have KO : o2 = 0 → ansTree m M = (true, 0) ∧ 0 < o.length ∧ 0 < M.length ∧ M.getD 0 0 = o.getD 0 0 := fun h0 => by
   rw [HM.out]; exact key_to (by rw [← Ho2.out]; exact h0)
  by_cases ho2z : o2 = 0
  ·obtain ⟨ko1, ko2, ko3, ko4⟩ := KO ho2z
   have ho2' : (o2 == 0) = true := by rw [ho2z]; rfl
   have ko2I : (0 : Int) < (o.length : Int) := by omega
   have ko3I : (0 : Int) < (M.length : Int) := by omega
   clear KO
   by_cases hp2z : p2 = 0
   ·obtain ⟨kp1, kp2, kp3, kp4, kp5⟩ := KP hp2z
    have hp2' : (p2 == 0) = true := by rw [hp2z]; rfl
    clear KP
    cases hcx : cxOk a ys with
    | false =>
     have kb := key_btb hcx
     obtain rfl : B = [] := by rw [HB_.out, kb]
     obtain rfl : b2 = 1 := by rw [Hb2.out, kb]
     clear kb hcx
     go_wp2_with (first | (replace st := stg_next 13 14 st; go_at_call 60; refine (implTreeOfOrder m _ o _ HRO.out).mono ?_; rw [← HM.out, ← Ho2.out]; rw [ho2z]; rintro e w15 ⟨u, rfl, ho, hb⟩; replace HB := Aside0.belowC HB hb; replace c30 := pw_cell_below hb c30; replace c31 := pw_cell_below hb c31; replace c80 := pw_cell_below hb c80; replace c81 := pw_cell_below hb c81; replace HR1 := Aside0.readc HR1 hb; replace HL1 := Aside0.readc HL1 hb; replace HR2 := Aside0.readc HR2 hb; replace HRT := Aside0.readc HRT hb; replace HRO := Aside0.readc HRO hb; replace HP1 := Aside0.readp HP1 hb; clear hb; have HM1 := Aside0.mk ho.read; obtain ⟨A11, d11, rfl, -⟩ := id ho.read; clear ho) | (replace st := stg_next 14 15 st; go_at_call 61; refine (specTreeOfOrder m _ o _ HRO.out).mono ?_; rw [← HM.out, ← Ho2.out]; rw [ho2z]; rintro e w16 ⟨u, rfl, ho, hb⟩; replace HB := Aside0.belowC HB hb; replace c30 := pw_cell_below hb c30; replace c31 := pw_cell_below hb c31; replace c80 := pw_cell_below hb c80; replace c81 := pw_cell_below hb c81; replace HR1 := Aside0.readc HR1 hb; replace HL1 := Aside0.readc HL1 hb; replace HR2 := Aside0.readc HR2 hb; replace HRT := Aside0.readc HRT hb; replace HRO := Aside0.readc HRO hb; replace HM1 := Aside0.readc HM1 hb; replace HP1 := Aside0.readp HP1 hb; clear hb; have HM2 := Aside0.mk ho.read; obtain ⟨A12, d12, rfl, -⟩ := id ho.read; clear ho) | (replace st := stg_next 15 16 st; go_at_call 23; refine (likeSame _ _ M _ HM1.out HM2.out).mono ?_; rintro e w17 ⟨rfl, hb⟩; replace HB := Aside0.belowC HB hb; replace c30 := pw_cell_below hb c30; replace c31 := pw_cell_below hb c31; replace c80 := pw_cell_below hb c80; replace c81 := pw_cell_below hb c81; replace HR1 := Aside0.readc HR1 hb; replace HL1 := Aside0.readc HL1 hb; replace HR2 := Aside0.readc HR2 hb; replace HRT := Aside0.readc HRT hb; replace HRO := Aside0.readc HRO hb; replace HM1 := Aside0.readc HM1 hb; replace HM2 := Aside0.readc HM2 hb; replace HP1 := Aside0.readp HP1 hb; clear hb; clear HM2) | (replace st := stg_next 16 17 st; go_at_call 57; refine (implIsTree _ M m _ HM1.out).mono ?_; rw [ko1]; rintro e w18 ⟨rfl, hb⟩; replace HB := Aside0.belowC HB hb; replace c30 := pw_cell_below hb c30; replace c31 := pw_cell_below hb c31; replace c80 := pw_cell_below hb c80; replace c81 := pw_cell_below hb c81; replace HR1 := Aside0.readc HR1 hb; replace HL1 := Aside0.readc HL1 hb; replace HR2 := Aside0.readc HR2 hb; replace HRT := Aside0.readc HRT hb; replace HRO := Aside0.readc HRO hb; replace HM1 := Aside0.readc HM1 hb; replace HP1 := Aside0.readp HP1 hb; clear hb; obtain ⟨ad1, y1, rfl, hcm, HY1⟩ := ReadI.get (by obtain ⟨_, _, e, _, h⟩ := HM1.out; cases e; exact h) ko3; obtain ⟨ad2, y2, rfl, hco, HY2⟩ := ReadI.get (by obtain ⟨_, _, e, _, h⟩ := HRO.out; cases e; exact h) ko2; obtain rfl : y1 = y2 := (HY1.out.symm.trans ko4).trans HY2.out; rw [add_zeroA] at hcm hco))
     go_quiet (fail)
     obtain ⟨w19, hwq⟩ : ∃ w19, w19 = w18.drewN nq := ⟨_, rfl⟩
     rw [← hwq]
     have hb : Below w18.heap.size w18 w19 := by rw [hwq]; exact (below_drewN (Below.refl _ _) nq)
     clear hwq
     replace HB := Aside0.belowC HB hb
     replace c30 := pw_cell_below hb c30
     replace c31 := pw_cell_below hb c31
     replace c80 := pw_cell_below hb c80
     replace c81 := pw_cell_below hb c81
     replace HR1 := Aside0.readc HR1 hb
     replace HL1 := Aside0.readc HL1 hb
     replace HR2 := Aside0.readc HR2 hb
     replace HRT := Aside0.readc HRT hb
     replace HRO := Aside0.readc HRO hb
     replace HM1 := Aside0.readc HM1 hb
     replace HP1 := Aside0.readp HP1 hb
     clear hb
     go_wp2_with (first | (replace st := stg_next 17 18 st; go_at_call 62; refine (implIsAcyclicPairing b _ zs _ Pr _ HR2.out HP1.out).mono ?_; rw [kp1]; rintro e w20 ⟨rfl, hb⟩; replace HB := Aside0.belowC HB hb; replace c30 := pw_cell_below hb c30; replace c31 := pw_cell_below hb c31; replace c80 := pw_cell_below hb c80; replace c81 := pw_cell_below hb c81; replace HR1 := Aside0.readc HR1 hb; replace HL1 := Aside0.readc HL1 hb; replace HR2 := Aside0.readc HR2 hb; replace HRT := Aside0.readc HRT hb; replace HRO := Aside0.readc HRO hb; replace HM1 := Aside0.readc HM1 hb; replace HP1 := Aside0.readp HP1 hb; clear hb) | (replace st := stg_next 18 19 st; go_at_call 63; refine (implEvadersOf b _ zs _ ts _ HR2.out HRT.out).mono ?_; rw [← HE.out, kp2]; rintro e w21 ⟨u, rfl, ho, hb⟩; replace HB := Aside0.belowC HB hb; replace c30 := pw_cell_below hb c30; replace c31 := pw_cell_below hb c31; replace c80 := pw_cell_below hb c80; replace c81 := pw_cell_below hb c81; replace HR1 := Aside0.readc HR1 hb; replace HL1 := Aside0.readc HL1 hb; replace HR2 := Aside0.readc HR2 hb; replace HRT := Aside0.readc HRT hb; replace HRO := Aside0.readc HRO hb; replace HM1 := Aside0.readc HM1 hb; replace HP1 := Aside0.readp HP1 hb; clear hb; have HE1 := Aside0.mk ho.read; obtain ⟨A13, d13, rfl, -⟩ := id ho.read; clear ho) | (replace st := stg_next 19 20 st; go_at_call 64; refine (implCriticalFaces b _ zs _ Pr _ HR2.out HP1.out).mono ?_; rw [← HC.out, kp3]; rintro e w22 ⟨u, rfl, ho, hb⟩; replace HB := Aside0.belowC HB hb; replace c30 := pw_cell_below hb c30; replace c31 := pw_cell_below hb c31; replace c80 := pw_cell_below hb c80; replace c81 := pw_cell_below hb c81; replace HR1 := Aside0.readc HR1 hb; replace HL1 := Aside0.readc HL1 hb; replace HR2 := Aside0.readc HR2 hb; replace HRT := Aside0.readc HRT hb; replace HRO := Aside0.readc HRO hb; replace HM1 := Aside0.readc HM1 hb; replace HE1 := Aside0.readc HE1 hb; replace HP1 := Aside0.readp HP1 hb; clear hb; have HC1 := Aside0.mk ho.read; obtain ⟨A14, d14, rfl, -⟩ := id ho.read; clear ho))
     go_loopw [34, 35] (fun s34 s35 wl => ∃ i : Nat, s35 = .int .i64 i ∧ i ≤ C.length ∧ s34 = .int .i64 (((C.take i).filter fun c => !decide (c ∈ E)).length : Nat) ∧ Aside0 (Below w22.heap.size w22 wl)) (fun _ s35 _ => C.length - (intOf s35).toNat)
     case atStart => exact ⟨0, rfl, Nat.zero_le _, rfl, ⟨Below.refl _ _⟩⟩
     case round =>
      obtain ⟨i, rfl, hi, rfl, HBl⟩ := hrel
      have hkl : ((C.take i).filter fun c => !decide (c ∈ E)).length ≤ 64 := Nat.le_trans (List.length_filter_le _ _) (by rw [List.length_take]; omega)
      by_cases hlt : i < C.length
      ·have hltI : (i : Int) < (C.length : Int) := by omega
       obtain ⟨ad, y, rfl, hcell, HY⟩ := ReadI.get (by obtain ⟨_, _, e, _, h⟩ := HC1.out.below HBl.out; cases e; exact h) hlt
       have htk := take_get hlt HY.out
       have HH := Aside0.mk (hasInt _ E y wr (HE1.out.below HBl.out) (by omega))
       obtain ⟨k, hk⟩ : ∃ k, k = ((C.take i).filter fun c => !decide (c ∈ E)).length := ⟨_, rfl⟩
       rw [← hk] at hkl ⊢
       by_cases hm : y ∈ E
       ·rw [decide_eq_true hm] at HH
        have HK : Aside0 (((C.take (i + 1)).filter fun c => !decide (c ∈ E)).length = k) := ⟨by rw [htk, List.filter_append, List.length_append, ← hk]; simp [hm]⟩
        clear hk htk hm
        go_wp2_with (first | (go_at_call 18; refine HH.out.mono ?_; rintro e wm ⟨rfl, hbm⟩))
        go_roundw
        case rel => exact ⟨i + 1, by go_num, by omega, by rw [HK.out] <;> go_num, ⟨HBl.out.trans (hbm.mono HBl.out.size)⟩⟩
        case measure => simp [intOf]; omega
       ·rw [decide_eq_false hm] at HH
        have HK : Aside0 (((C.take (i + 1)).filter fun c => !decide (c ∈ E)).length = k + 1) := ⟨by rw [htk, List.filter_append, List.length_append, ← hk]; simp [hm]⟩
        clear hk htk hm
        go_wp2_with (first | (go_at_call 18; refine HH.out.mono ?_; rintro e wm ⟨rfl, hbm⟩))
        go_roundw
        case rel => exact ⟨i + 1, by go_num, by omega, by rw [HK.out] <;> go_num, ⟨HBl.out.trans (hbm.mono HBl.out.size)⟩⟩
        case measure => simp [intOf]; omega
      ·have hltI : ¬ (i : Int) < (C.length : Int) := by omega
       obtain rfl : i = C.length := by omega
       have hk1 : ¬ (1 : Int) < ((((C.take C.length).filter fun c => !decide (c ∈ E)).length : Nat) : Int) := by rw [List.take_length]; omega
       obtain ⟨k, hk⟩ : ∃ k, k = ((C.take C.length).filter fun c => !decide (c ∈ E)).length := ⟨_, rfl⟩
       rw [← hk] at hk1 hkl ⊢
       clear hk
       have hb := HBl.out
       replace HB := Aside0.belowC HB hb
       replace c30 := pw_cell_below hb c30
       replace c31 := pw_cell_below hb c31
       replace c80 := pw_cell_below hb c80
       replace c81 := pw_cell_below hb c81
       replace HR1 := Aside0.readc HR1 hb
       replace HL1 := Aside0.readc HL1 hb
       replace HR2 := Aside0.readc HR2 hb
       replace HRT := Aside0.readc HRT hb
       replace HRO := Aside0.readc HRO hb
       replace HM1 := Aside0.readc HM1 hb
       replace HE1 := Aside0.readc HE1 hb
       replace HC1 := Aside0.readc HC1 hb
       replace HP1 := Aside0.readp HP1 hb
       clear hb HBl
       go_wp2
       go_ret
       exact ⟨rfl, HB.out⟩
    | true =>
     obtain ⟨B1, E1, L1, kb1, kb2, kb3, kb4, kb5⟩ := key_bt hcx
     obtain rfl : B = B1 := by rw [HB_.out, kb1]
     obtain rfl : b2 = 0 := by rw [Hb2.out, kb1]
     have kb6 : ((E1.length : Int) == L1) = true := by rw [beq_iff_eq]; exact kb5
     clear kb1 kb5 hcx
     go_wp2_with (first | (replace st := stg_next 13 14 st; go_at_call 60; refine (implTreeOfOrder m _ o _ HRO.out).mono ?_; rw [← HM.out, ← Ho2.out]; rw [ho2z]; rintro e w15 ⟨u, rfl, ho, hb⟩; replace HB := Aside0.belowC HB hb; replace c30 := pw_cell_below hb c30; replace c31 := pw_cell_below hb c31; replace c80 := pw_cell_below hb c80; replace c81 := pw_cell_below hb c81; replace HR1 := Aside0.readc HR1 hb; replace HL1 := Aside0.readc HL1 hb; replace HR2 := Aside0.readc HR2 hb; replace HRT := Aside0.readc HRT hb; replace HRO := Aside0.readc HRO hb; replace HP1 := Aside0.readp HP1 hb; clear hb; have HM1 := Aside0.mk ho.read; obtain ⟨A11, d11, rfl, -⟩ := id ho.read; clear ho) | (replace st := stg_next 14 15 st; go_at_call 61; refine (specTreeOfOrder m _ o _ HRO.out).mono ?_; rw [← HM.out, ← Ho2.out]; rw [ho2z]; rintro e w16 ⟨u, rfl, ho, hb⟩; replace HB := Aside0.belowC HB hb; replace c30 := pw_cell_below hb c30; replace c31 := pw_cell_below hb c31; replace c80 := pw_cell_below hb c80; replace c81 := pw_cell_below hb c81; replace HR1 := Aside0.readc HR1 hb; replace HL1 := Aside0.readc HL1 hb; replace HR2 := Aside0.readc HR2 hb; replace HRT := Aside0.readc HRT hb; replace HRO := Aside0.readc HRO hb; replace HM1 := Aside0.readc HM1 hb; replace HP1 := Aside0.readp HP1 hb; clear hb; have HM2 := Aside0.mk ho.read; obtain ⟨A12, d12, rfl, -⟩ := id ho.read; clear ho) | (replace st := stg_next 15 16 st; go_at_call 23; refine (likeSame _ _ M _ HM1.out HM2.out).mono ?_; rintro e w17 ⟨rfl, hb⟩; replace HB := Aside0.belowC HB hb; replace c30 := pw_cell_below hb c30; replace c31 := pw_cell_below hb c31; replace c80 := pw_cell_below hb c80; replace c81 := pw_cell_below hb c81; replace HR1 := Aside0.readc HR1 hb; replace HL1 := Aside0.readc HL1 hb; replace HR2 := Aside0.readc HR2 hb; replace HRT := Aside0.readc HRT hb; replace HRO := Aside0.readc HRO hb; replace HM1 := Aside0.readc HM1 hb; replace HM2 := Aside0.readc HM2 hb; replace HP1 := Aside0.readp HP1 hb; clear hb; clear HM2) | (replace st := stg_next 16 17 st; go_at_call 57; refine (implIsTree _ M m _ HM1.out).mono ?_; rw [ko1]; rintro e w18 ⟨rfl, hb⟩; replace HB := Aside0.belowC HB hb; replace c30 := pw_cell_below hb c30; replace c31 := pw_cell_below hb c31; replace c80 := pw_cell_below hb c80; replace c81 := pw_cell_below hb c81; replace HR1 := Aside0.readc HR1 hb; replace HL1 := Aside0.readc HL1 hb; replace HR2 := Aside0.readc HR2 hb; replace HRT := Aside0.readc HRT hb; replace HRO := Aside0.readc HRO hb; replace HM1 := Aside0.readc HM1 hb; replace HP1 := Aside0.readp HP1 hb; clear hb; obtain ⟨ad1, y1, rfl, hcm, HY1⟩ := ReadI.get (by obtain ⟨_, _, e, _, h⟩ := HM1.out; cases e; exact h) ko3; obtain ⟨ad2, y2, rfl, hco, HY2⟩ := ReadI.get (by obtain ⟨_, _, e, _, h⟩ := HRO.out; cases e; exact h) ko2; obtain rfl : y1 = y2 := (HY1.out.symm.trans ko4).trans HY2.out; rw [add_zeroA] at hcm hco))
     go_quiet (fail)
     obtain ⟨w19, hwq⟩ : ∃ w19, w19 = w18.drewN nq := ⟨_, rfl⟩
     rw [← hwq]
     have hb : Below w18.heap.size w18 w19 := by rw [hwq]; exact (below_drewN (Below.refl _ _) nq)
     clear hwq
     replace HB := Aside0.belowC HB hb
     replace c30 := pw_cell_below hb c30
     replace c31 := pw_cell_below hb c31
     replace c80 := pw_cell_below hb c80
     replace c81 := pw_cell_below hb c81
     replace HR1 := Aside0.readc HR1 hb
     replace HL1 := Aside0.readc HL1 hb
     replace HR2 := Aside0.readc HR2 hb
     replace HRT := Aside0.readc HRT hb
     replace HRO := Aside0.readc HRO hb
     replace HM1 := Aside0.readc HM1 hb
     replace HP1 := Aside0.readp HP1 hb
     clear hb
     go_wp2_with (first | (replace st := stg_next 17 18 st; go_at_call 62; refine (implIsAcyclicPairing b _ zs _ Pr _ HR2.out HP1.out).mono ?_; rw [kp1]; rintro e w20 ⟨rfl, hb⟩; replace HB := Aside0.belowC HB hb; replace c30 := pw_cell_below hb c30; replace c31 := pw_cell_below hb c31; replace c80 := pw_cell_below hb c80; replace c81 := pw_cell_below hb c81; replace HR1 := Aside0.readc HR1 hb; replace HL1 := Aside0.readc HL1 hb; replace HR2 := Aside0.readc HR2 hb; replace HRT := Aside0.readc HRT hb; replace HRO := Aside0.readc HRO hb; replace HM1 := Aside0.readc HM1 hb; replace HP1 := Aside0.readp HP1 hb; clear hb) | (replace st := stg_next 18 19 st; go_at_call 63; refine (implEvadersOf b _ zs _ ts _ HR2.out HRT.out).mono ?_; rw [← HE.out, kp2]; rintro e w21 ⟨u, rfl, ho, hb⟩; replace HB := Aside0.belowC HB hb; replace c30 := pw_cell_below hb c30; replace c31 := pw_cell_below hb c31; replace c80 := pw_cell_below hb c80; replace c81 := pw_cell_below hb c81; replace HR1 := Aside0.readc HR1 hb; replace HL1 := Aside0.readc HL1 hb; replace HR2 := Aside0.readc HR2 hb; replace HRT := Aside0.readc HRT hb; replace HRO := Aside0.readc HRO hb; replace HM1 := Aside0.readc HM1 hb; replace HP1 := Aside0.readp HP1 hb; clear hb; have HE1 := Aside0.mk ho.read; obtain ⟨A13, d13, rfl, -⟩ := id ho.read; clear ho) | (replace st := stg_next 19 20 st; go_at_call 64; refine (implCriticalFaces b _ zs _ Pr _ HR2.out HP1.out).mono ?_; rw [← HC.out, kp3]; rintro e w22 ⟨u, rfl, ho, hb⟩; replace HB := Aside0.belowC HB hb; replace c30 := pw_cell_below hb c30; replace c31 := pw_cell_below hb c31; replace c80 := pw_cell_below hb c80; replace c81 := pw_cell_below hb c81; replace HR1 := Aside0.readc HR1 hb; replace HL1 := Aside0.readc HL1 hb; replace HR2 := Aside0.readc HR2 hb; replace HRT := Aside0.readc HRT hb; replace HRO := Aside0.readc HRO hb; replace HM1 := Aside0.readc HM1 hb; replace HE1 := Aside0.readc HE1 hb; replace HP1 := Aside0.readp HP1 hb; clear hb; have HC1 := Aside0.mk ho.read; obtain ⟨A14, d14, rfl, -⟩ := id ho.read; clear ho))
     go_loopw [34, 35] (fun s34 s35 wl => ∃ i : Nat, s35 = .int .i64 i ∧ i ≤ C.length ∧ s34 = .int .i64 (((C.take i).filter fun c => !decide (c ∈ E)).length : Nat) ∧ Aside0 (Below w22.heap.size w22 wl)) (fun _ s35 _ => C.length - (intOf s35).toNat)
     case atStart => exact ⟨0, rfl, Nat.zero_le _, rfl, ⟨Below.refl _ _⟩⟩
     case round =>
      obtain ⟨i, rfl, hi, rfl, HBl⟩ := hrel
      have hkl : ((C.take i).filter fun c => !decide (c ∈ E)).length ≤ 64 := Nat.le_trans (List.length_filter_le _ _) (by rw [List.length_take]; omega)
      by_cases hlt : i < C.length
      ·have hltI : (i : Int) < (C.length : Int) := by omega
       obtain ⟨ad, y, rfl, hcell, HY⟩ := ReadI.get (by obtain ⟨_, _, e, _, h⟩ := HC1.out.below HBl.out; cases e; exact h) hlt
       have htk := take_get hlt HY.out
       have HH := Aside0.mk (hasInt _ E y wr (HE1.out.below HBl.out) (by omega))
       obtain ⟨k, hk⟩ : ∃ k, k = ((C.take i).filter fun c => !decide (c ∈ E)).length := ⟨_, rfl⟩
       rw [← hk] at hkl ⊢
       by_cases hm : y ∈ E
       ·rw [decide_eq_true hm] at HH
        have HK : Aside0 (((C.take (i + 1)).filter fun c => !decide (c ∈ E)).length = k) := ⟨by rw [htk, List.filter_append, List.length_append, ← hk]; simp [hm]⟩
        clear hk htk hm
        go_wp2_with (first | (go_at_call 18; refine HH.out.mono ?_; rintro e wm ⟨rfl, hbm⟩))
        go_roundw
        case rel => exact ⟨i + 1, by go_num, by omega, by rw [HK.out] <;> go_num, ⟨HBl.out.trans (hbm.mono HBl.out.size)⟩⟩
        case measure => simp [intOf]; omega
       ·rw [decide_eq_false hm] at HH
        have HK : Aside0 (((C.take (i + 1)).filter fun c => !decide (c ∈ E)).length = k + 1) := ⟨by rw [htk, List.filter_append, List.length_append, ← hk]; simp [hm]⟩
        clear hk htk hm
        go_wp2_with (first | (go_at_call 18; refine HH.out.mono ?_; rintro e wm ⟨rfl, hbm⟩))
        go_roundw
        case rel => exact ⟨i + 1, by go_num, by omega, by rw [HK.out] <;> go_num, ⟨HBl.out.trans (hbm.mono HBl.out.size)⟩⟩
        case measure => simp [intOf]; omega
      ·have hltI : ¬ (i : Int) < (C.length : Int) := by omega
       obtain rfl : i = C.length := by omega
       have hk1 : ¬ (1 : Int) < ((((C.take C.length).filter fun c => !decide (c ∈ E)).length : Nat) : Int) := by rw [List.take_length]; omega
       obtain ⟨k, hk⟩ : ∃ k, k = ((C.take C.length).filter fun c => !decide (c ∈ E)).length := ⟨_, rfl⟩
       rw [← hk] at hk1 hkl ⊢
       clear hk
       have hb := HBl.out
       replace HB := Aside0.belowC HB hb
       replace c30 := pw_cell_below hb c30
       replace c31 := pw_cell_below hb c31
       replace c80 := pw_cell_below hb c80
       replace c81 := pw_cell_below hb c81
       replace HR1 := Aside0.readc HR1 hb
       replace HL1 := Aside0.readc HL1 hb
       replace HR2 := Aside0.readc HR2 hb
       replace HRT := Aside0.readc HRT hb
       replace HRO := Aside0.readc HRO hb
       replace HM1 := Aside0.readc HM1 hb
       replace HE1 := Aside0.readc HE1 hb
       replace HC1 := Aside0.readc HC1 hb
       replace HP1 := Aside0.readp HP1 hb
       clear hb HBl
       go_wp2_with (first | (replace st := stg_next 20 21 st; go_at_call 57; refine (implIsTree _ B a _ HL1.out).mono ?_; rw [kb2]; rintro e w24 ⟨rfl, hb⟩; replace HB := Aside0.belowC HB hb; replace c30 := pw_cell_below hb c30; replace c31 := pw_cell_below hb c31; replace c80 := pw_cell_below hb c80; replace c81 := pw_cell_below hb c81; replace HR1 := Aside0.readc HR1 hb; replace HL1 := Aside0.readc HL1 hb; replace HR2 := Aside0.readc HR2 hb; replace HRT := Aside0.readc HRT hb; replace HRO := Aside0.readc HRO hb; replace HM1 := Aside0.readc HM1 hb; replace HE1 := Aside0.readc HE1 hb; replace HC1 := Aside0.readc HC1 hb; replace HP1 := Aside0.readp HP1 hb; clear hb) | (replace st := stg_next 21 22 st; go_at_call 63; refine (implEvadersOf a _ ys _ B _ HR1.out HL1.out).mono ?_; rw [kb3]; rintro e w25 ⟨u, rfl, ho, hb⟩; replace HB := Aside0.belowC HB hb; replace c30 := pw_cell_below hb c30; replace c31 := pw_cell_below hb c31; replace c80 := pw_cell_below hb c80; replace c81 := pw_cell_below hb c81; replace HR1 := Aside0.readc HR1 hb; replace HL1 := Aside0.readc HL1 hb; replace HR2 := Aside0.readc HR2 hb; replace HRT := Aside0.readc HRT hb; replace HRO := Aside0.readc HRO hb; replace HM1 := Aside0.readc HM1 hb; replace HE1 := Aside0.readc HE1 hb; replace HC1 := Aside0.readc HC1 hb; replace HP1 := Aside0.readp HP1 hb; clear hb; obtain ⟨A15, d15, rfl, -⟩ := id ho.read; clear ho) | (replace st := stg_next 22 23 st; go_at_call 65; refine (implLeastEvaders a _ ys _ HR1.out).mono ?_; rw [kb4]; rintro e w26 ⟨rfl, hb⟩; replace HB := Aside0.belowC HB hb; replace c30 := pw_cell_below hb c30; replace c31 := pw_cell_below hb c31; replace c80 := pw_cell_below hb c80; replace c81 := pw_cell_below hb c81; replace HR1 := Aside0.readc HR1 hb; replace HL1 := Aside0.readc HL1 hb; replace HR2 := Aside0.readc HR2 hb; replace HRT := Aside0.readc HRT hb; replace HRO := Aside0.readc HRO hb; replace HM1 := Aside0.readc HM1 hb; replace HE1 := Aside0.readc HE1 hb; replace HC1 := Aside0.readc HC1 hb; replace HP1 := Aside0.readp HP1 hb; clear hb))
       go_ret
       exact ⟨rfl, HB.out⟩
   ·have hp2' : (p2 == 0) = false := by rw [beq_eq_false_iff_ne]; exact hp2z
    clear KP
    cases hcx : cxOk a ys with
    | false =>
     have kb := key_btb hcx
     obtain rfl : B = [] := by rw [HB_.out, kb]
     obtain rfl : b2 = 1 := by rw [Hb2.out, kb]
     clear kb hcx
     go_wp2_with (first | (replace st := stg_next 13 14 st; go_at_call 60; refine (implTreeOfOrder m _ o _ HRO.out).mono ?_; rw [← HM.out, ← Ho2.out]; rw [ho2z]; rintro e w15 ⟨u, rfl, ho, hb⟩; replace HB := Aside0.belowC HB hb; replace c30 := pw_cell_below hb c30; replace c31 := pw_cell_below hb c31; replace c80 := pw_cell_below hb c80; replace c81 := pw_cell_below hb c81; replace HR1 := Aside0.readc HR1 hb; replace HL1 := Aside0.readc HL1 hb; replace HR2 := Aside0.readc HR2 hb; replace HRT := Aside0.readc HRT hb; replace HRO := Aside0.readc HRO hb; replace HP1 := Aside0.readp HP1 hb; clear hb; have HM1 := Aside0.mk ho.read; obtain ⟨A11, d11, rfl, -⟩ := id ho.read; clear ho) | (replace st := stg_next 14 15 st; go_at_call 61; refine (specTreeOfOrder m _ o _ HRO.out).mono ?_; rw [← HM.out, ← Ho2.out]; rw [ho2z]; rintro e w16 ⟨u, rfl, ho, hb⟩; replace HB := Aside0.belowC HB hb; replace c30 := pw_cell_below hb c30; replace c31 := pw_cell_below hb c31; replace c80 := pw_cell_below hb c80; replace c81 := pw_cell_below hb c81; replace HR1 := Aside0.readc HR1 hb; replace HL1 := Aside0.readc HL1 hb; replace HR2 := Aside0.readc HR2 hb; replace HRT := Aside0.readc HRT hb; replace HRO := Aside0.readc HRO hb; replace HM1 := Aside0.readc HM1 hb; replace HP1 := Aside0.readp HP1 hb; clear hb; have HM2 := Aside0.mk ho.read; obtain ⟨A12, d12, rfl, -⟩ := id ho.read; clear ho) | (replace st := stg_next 15 16 st; go_at_call 23; refine (likeSame _ _ M _ HM1.out HM2.out).mono ?_; rintro e w17 ⟨rfl, hb⟩; replace HB := Aside0.belowC HB hb; replace c30 := pw_cell_below hb c30; replace c31 := pw_cell_below hb c31; replace c80 := pw_cell_below hb c80; replace c81 := pw_cell_below hb c81; replace HR1 := Aside0.readc HR1 hb; replace HL1 := Aside0.readc HL1 hb; replace HR2 := Aside0.readc HR2 hb; replace HRT := Aside0.readc HRT hb; replace HRO := Aside0.readc HRO hb; replace HM1 := Aside0.readc HM1 hb; replace HM2 := Aside0.readc HM2 hb; replace HP1 := Aside0.readp HP1 hb; clear hb; clear HM2) | (replace st := stg_next 16 17 st; go_at_call 57; refine (implIsTree _ M m _ HM1.out).mono ?_; rw [ko1]; rintro e w18 ⟨rfl, hb⟩; replace HB := Aside0.belowC HB hb; replace c30 := pw_cell_below hb c30; replace c31 := pw_cell_below hb c31; replace c80 := pw_cell_below hb c80; replace c81 := pw_cell_below hb c81; replace HR1 := Aside0.readc HR1 hb; replace HL1 := Aside0.readc HL1 hb; replace HR2 := Aside0.readc HR2 hb; replace HRT := Aside0.readc HRT hb; replace HRO := Aside0.readc HRO hb; replace HM1 := Aside0.readc HM1 hb; replace HP1 := Aside0.readp HP1 hb; clear hb; obtain ⟨ad1, y1, rfl, hcm, HY1⟩ := ReadI.get (by obtain ⟨_, _, e, _, h⟩ := HM1.out; cases e; exact h) ko3; obtain ⟨ad2, y2, rfl, hco, HY2⟩ := ReadI.get (by obtain ⟨_, _, e, _, h⟩ := HRO.out; cases e; exact h) ko2; obtain rfl : y1 = y2 := (HY1.out.symm.trans ko4).trans HY2.out; rw [add_zeroA] at hcm hco))
     go_quiet (fail)
     obtain ⟨w19, hwq⟩ : ∃ w19, w19 = w18.drewN nq := ⟨_, rfl⟩
     rw [← hwq]
     have hb : Below w18.heap.size w18 w19 := by rw [hwq]; exact (below_drewN (Below.refl _ _) nq)
     clear hwq
     replace HB := Aside0.belowC HB hb
     replace c30 := pw_cell_below hb c30
     replace c31 := pw_cell_below hb c31
     replace c80 := pw_cell_below hb c80
     replace c81 := pw_cell_below hb c81
     replace HR1 := Aside0.readc HR1 hb
     replace HL1 := Aside0.readc HL1 hb
     replace HR2 := Aside0.readc HR2 hb
     replace HRT := Aside0.readc HRT hb
     replace HRO := Aside0.readc HRO hb
     replace HM1 := Aside0.readc HM1 hb
     replace HP1 := Aside0.readp HP1 hb
     clear hb
     go_wp2
     go_ret
     exact ⟨rfl, HB.out⟩
    | true =>
     obtain ⟨B1, E1, L1, kb1, kb2, kb3, kb4, kb5⟩ := key_bt hcx
     obtain rfl : B = B1 := by rw [HB_.out, kb1]
     obtain rfl : b2 = 0 := by rw [Hb2.out, kb1]
     have kb6 : ((E1.length : Int) == L1) = true := by rw [beq_iff_eq]; exact kb5
     clear kb1 kb5 hcx
     go_wp2_with (first | (replace st := stg_next 13 14 st; go_at_call 60; refine (implTreeOfOrder m _ o _ HRO.out).mono ?_; rw [← HM.out, ← Ho2.out]; rw [ho2z]; rintro e w15 ⟨u, rfl, ho, hb⟩; replace HB := Aside0.belowC HB hb; replace c30 := pw_cell_below hb c30; replace c31 := pw_cell_below hb c31; replace c80 := pw_cell_below hb c80; replace c81 := pw_cell_below hb c81; replace HR1 := Aside0.readc HR1 hb; replace HL1 := Aside0.readc HL1 hb; replace HR2 := Aside0.readc HR2 hb; replace HRT := Aside0.readc HRT hb; replace HRO := Aside0.readc HRO hb; replace HP1 := Aside0.readp HP1 hb; clear hb; have HM1 := Aside0.mk ho.read; obtain ⟨A11, d11, rfl, -⟩ := id ho.read; clear ho) | (replace st := stg_next 14 15 st; go_at_call 61; refine (specTreeOfOrder m _ o _ HRO.out).mono ?_; rw [← HM.out, ← Ho2.out]; rw [ho2z]; rintro e w16 ⟨u, rfl, ho, hb⟩; replace HB := Aside0.belowC HB hb; replace c30 := pw_cell_below hb c30; replace c31 := pw_cell_below hb c31; replace c80 := pw_cell_below hb c80; replace c81 := pw_cell_below hb c81; replace HR1 := Aside0.readc HR1 hb; replace HL1 := Aside0.readc HL1 hb; replace HR2 := Aside0.readc HR2 hb; replace HRT := Aside0.readc HRT hb; replace HRO := Aside0.readc HRO hb; replace HM1 := Aside0.readc HM1 hb; replace HP1 := Aside0.readp HP1 hb; clear hb; have HM2 := Aside0.mk ho.read; obtain ⟨A12, d12, rfl, -⟩ := id ho.read; clear ho) | (replace st := stg_next 15 16 st; go_at_call 23; refine (likeSame _ _ M _ HM1.out HM2.out).mono ?_; rintro e w17 ⟨rfl, hb⟩; replace HB := Aside0.belowC HB hb; replace c30 := pw_cell_below hb c30; replace c31 := pw_cell_below hb c31; replace c80 := pw_cell_below hb c80; replace c81 := pw_cell_below hb c81; replace HR1 := Aside0.readc HR1 hb; replace HL1 := Aside0.readc HL1 hb; replace HR2 := Aside0.readc HR2 hb; replace HRT := Aside0.readc HRT hb; replace HRO := Aside0.readc HRO hb; replace HM1 := Aside0.readc HM1 hb; replace HM2 := Aside0.readc HM2 hb; replace HP1 := Aside0.readp HP1 hb; clear hb; clear HM2) | (replace st := stg_next 16 17 st; go_at_call 57; refine (implIsTree _ M m _ HM1.out).mono ?_; rw [ko1]; rintro e w18 ⟨rfl, hb⟩; replace HB := Aside0.belowC HB hb; replace c30 := pw_cell_below hb c30; replace c31 := pw_cell_below hb c31; replace c80 := pw_cell_below hb c80; replace c81 := pw_cell_below hb c81; replace HR1 := Aside0.readc HR1 hb; replace HL1 := Aside0.readc HL1 hb; replace HR2 := Aside0.readc HR2 hb; replace HRT := Aside0.readc HRT hb; replace HRO := Aside0.readc HRO hb; replace HM1 := Aside0.readc HM1 hb; replace HP1 := Aside0.readp HP1 hb; clear hb; obtain ⟨ad1, y1, rfl, hcm, HY1⟩ := ReadI.get (by obtain ⟨_, _, e, _, h⟩ := HM1.out; cases e; exact h) ko3; obtain ⟨ad2, y2, rfl, hco, HY2⟩ := ReadI.get (by obtain ⟨_, _, e, _, h⟩ := HRO.out; cases e; exact h) ko2; obtain rfl : y1 = y2 := (HY1.out.symm.trans ko4).trans HY2.out; rw [add_zeroA] at hcm hco))
     go_quiet (fail)
     obtain ⟨w19, hwq⟩ : ∃ w19, w19 = w18.drewN nq := ⟨_, rfl⟩
     rw [← hwq]
     have hb : Below w18.heap.size w18 w19 := by rw [hwq]; exact (below_drewN (Below.refl _ _) nq)
     clear hwq
     replace HB := Aside0.belowC HB hb
     replace c30 := pw_cell_below hb c30
     replace c31 := pw_cell_below hb c31
     replace c80 := pw_cell_below hb c80
     replace c81 := pw_cell_below hb c81
     replace HR1 := Aside0.readc HR1 hb
     replace HL1 := Aside0.readc HL1 hb
     replace HR2 := Aside0.readc HR2 hb
     replace HRT := Aside0.readc HRT hb
     replace HRO := Aside0.readc HRO hb
     replace HM1 := Aside0.readc HM1 hb
     replace HP1 := Aside0.readp HP1 hb
     clear hb
     go_wp2_with (first | (replace st := stg_next 17 18 st; go_at_call 57; refine (implIsTree _ B a _ HL1.out).mono ?_; rw [kb2]; rintro e w20 ⟨rfl, hb⟩; replace HB := Aside0.belowC HB hb; replace c30 := pw_cell_below hb c30; replace c31 := pw_cell_below hb c31; replace c80 := pw_cell_below hb c80; replace c81 := pw_cell_below hb c81; replace HR1 := Aside0.readc HR1 hb; replace HL1 := Aside0.readc HL1 hb; replace HR2 := Aside0.readc HR2 hb; replace HRT := Aside0.readc HRT hb; replace HRO := Aside0.readc HRO hb; replace HM1 := Aside0.readc HM1 hb; replace HP1 := Aside0.readp HP1 hb; clear hb) | (replace st := stg_next 18 19 st; go_at_call 63; refine (implEvadersOf a _ ys _ B _ HR1.out HL1.out).mono ?_; rw [kb3]; rintro e w21 ⟨u, rfl, ho, hb⟩; replace HB := Aside0.belowC HB hb; replace c30 := pw_cell_below hb c30; replace c31 := pw_cell_below hb c31; replace c80 := pw_cell_below hb c80; replace c81 := pw_cell_below hb c81; replace HR1 := Aside0.readc HR1 hb; replace HL1 := Aside0.readc HL1 hb; replace HR2 := Aside0.readc HR2 hb; replace HRT := Aside0.readc HRT hb; replace HRO := Aside0.readc HRO hb; replace HM1 := Aside0.readc HM1 hb; replace HP1 := Aside0.readp HP1 hb; clear hb; obtain ⟨A15, d15, rfl, -⟩ := id ho.read; clear ho) | (replace st := stg_next 19 20 st; go_at_call 65; refine (implLeastEvaders a _ ys _ HR1.out).mono ?_; rw [kb4]; rintro e w22 ⟨rfl, hb⟩; replace HB := Aside0.belowC HB hb; replace c30 := pw_cell_below hb c30; replace c31 := pw_cell_below hb c31; replace c80 := pw_cell_below hb c80; replace c81 := pw_cell_below hb c81; replace HR1 := Aside0.readc HR1 hb; replace HL1 := Aside0.readc HL1 hb; replace HR2 := Aside0.readc HR2 hb; replace HRT := Aside0.readc HRT hb; replace HRO := Aside0.readc HRO hb; replace HM1 := Aside0.readc HM1 hb; replace HP1 := Aside0.readp HP1 hb; clear hb))
     go_ret
     exact ⟨rfl, HB.out⟩
  ·have ho2' : (o2 == 0) = false := by rw [beq_eq_false_iff_ne]; exact ho2z
   clear KO
   by_cases hp2z : p2 = 0
   ·obtain ⟨kp1, kp2, kp3, kp4, kp5⟩ := KP hp2z
    have hp2' : (p2 == 0) = true := by rw [hp2z]; rfl
    clear KP
    cases hcx : cxOk a ys with
    | false =>
     have kb := key_btb hcx
     obtain rfl : B = [] := by rw [HB_.out, kb]
     obtain rfl : b2 = 1 := by rw [Hb2.out, kb]
     clear kb hcx
     go_wp2_with (first | (replace st := stg_next 13 14 st; go_at_call 60; refine (implTreeOfOrder m _ o _ HRO.out).mono ?_; rw [← HM.out, ← Ho2.out]; rintro e w15 ⟨u, rfl, ho, hb⟩; replace HB := Aside0.belowC HB hb; replace c30 := pw_cell_below hb c30; replace c31 := pw_cell_below hb c31; replace c80 := pw_cell_below hb c80; replace c81 := pw_cell_below hb c81; replace HR1 := Aside0.readc HR1 hb; replace HL1 := Aside0.readc HL1 hb; replace HR2 := Aside0.readc HR2 hb; replace HRT := Aside0.readc HRT hb; replace HRO := Aside0.readc HRO hb; replace HP1 := Aside0.readp HP1 hb; clear hb; have HM1 := Aside0.mk ho.read; obtain ⟨A11, d11, rfl, -⟩ := id ho.read; clear ho) | (replace st := stg_next 14 15 st; go_at_call 61; refine (specTreeOfOrder m _ o _ HRO.out).mono ?_; rw [← HM.out, ← Ho2.out]; rintro e w16 ⟨u, rfl, ho, hb⟩; replace HB := Aside0.belowC HB hb; replace c30 := pw_cell_below hb c30; replace c31 := pw_cell_below hb c31; replace c80 := pw_cell_below hb c80; replace c81 := pw_cell_below hb c81; replace HR1 := Aside0.readc HR1 hb; replace HL1 := Aside0.readc HL1 hb; replace HR2 := Aside0.readc HR2 hb; replace HRT := Aside0.readc HRT hb; replace HRO := Aside0.readc HRO hb; replace HM1 := Aside0.readc HM1 hb; replace HP1 := Aside0.readp HP1 hb; clear hb; have HM2 := Aside0.mk ho.read; obtain ⟨A12, d12, rfl, -⟩ := id ho.read; clear ho) | (replace st := stg_next 15 16 st; go_at_call 23; refine (likeSame _ _ M _ HM1.out HM2.out).mono ?_; rintro e w17 ⟨rfl, hb⟩; replace HB := Aside0.belowC HB hb; replace c30 := pw_cell_below hb c30; replace c31 := pw_cell_below hb c31; replace c80 := pw_cell_below hb c80; replace c81 := pw_cell_below hb c81; replace HR1 := Aside0.readc HR1 hb; replace HL1 := Aside0.readc HL1 hb; replace HR2 := Aside0.readc HR2 hb; replace HRT := Aside0.readc HRT hb; replace HRO := Aside0.readc HRO hb; replace HM1 := Aside0.readc HM1 hb; replace HM2 := Aside0.readc HM2 hb; replace HP1 := Aside0.readp HP1 hb; clear hb; clear HM2) | (replace st := stg_next 16 17 st; go_at_call 62; refine (implIsAcyclicPairing b _ zs _ Pr _ HR2.out HP1.out).mono ?_; rw [kp1]; rintro e w18 ⟨rfl, hb⟩; replace HB := Aside0.belowC HB hb; replace c30 := pw_cell_below hb c30; replace c31 := pw_cell_below hb c31; replace c80 := pw_cell_below hb c80; replace c81 := pw_cell_below hb c81; replace HR1 := Aside0.readc HR1 hb; replace HL1 := Aside0.readc HL1 hb; replace HR2 := Aside0.readc HR2 hb; replace HRT := Aside0.readc HRT hb; replace HRO := Aside0.readc HRO hb; replace HM1 := Aside0.readc HM1 hb; replace HP1 := Aside0.readp HP1 hb; clear hb) | (replace st := stg_next 17 18 st; go_at_call 63; refine (implEvadersOf b _ zs _ ts _ HR2.out HRT.out).mono ?_; rw [← HE.out, kp2]; rintro e w19 ⟨u, rfl, ho, hb⟩; replace HB := Aside0.belowC HB hb; replace c30 := pw_cell_below hb c30; replace c31 := pw_cell_below hb c31; replace c80 := pw_cell_below hb c80; replace c81 := pw_cell_below hb c81; replace HR1 := Aside0.readc HR1 hb; replace HL1 := Aside0.readc HL1 hb; replace HR2 := Aside0.readc HR2 hb; replace HRT := Aside0.readc HRT hb; replace HRO := Aside0.readc HRO hb; replace HM1 := Aside0.readc HM1 hb; replace HP1 := Aside0.readp HP1 hb; clear hb; have HE1 := Aside0.mk ho.read; obtain ⟨A13, d13, rfl, -⟩ := id ho.read; clear ho) | (replace st := stg_next 18 19 st; go_at_call 64; refine (implCriticalFaces b _ zs _ Pr _ HR2.out HP1.out).mono ?_; rw [← HC.out, kp3]; rintro e w20 ⟨u, rfl, ho, hb⟩; replace HB := Aside0.belowC HB hb; replace c30 := pw_cell_below hb c30; replace c31 := pw_cell_below hb c31; replace c80 := pw_cell_below hb c80; replace c81 := pw_cell_below hb c81; replace HR1 := Aside0.readc HR1 hb; replace HL1 := Aside0.readc HL1 hb; replace HR2 := Aside0.readc HR2 hb; replace HRT := Aside0.readc HRT hb; replace HRO := Aside0.readc HRO hb; replace HM1 := Aside0.readc HM1 hb; replace HE1 := Aside0.readc HE1 hb; replace HP1 := Aside0.readp HP1 hb; clear hb; have HC1 := Aside0.mk ho.read; obtain ⟨A14, d14, rfl, -⟩ := id ho.read; clear ho))
     go_loopw [34, 35] (fun s34 s35 wl => ∃ i : Nat, s35 = .int .i64 i ∧ i ≤ C.length ∧ s34 = .int .i64 (((C.take i).filter fun c => !decide (c ∈ E)).length : Nat) ∧ Aside0 (Below w20.heap.size w20 wl)) (fun _ s35 _ => C.length - (intOf s35).toNat)
     case atStart => exact ⟨0, rfl, Nat.zero_le _, rfl, ⟨Below.refl _ _⟩⟩
     case round =>
      obtain ⟨i, rfl, hi, rfl, HBl⟩ := hrel
      have hkl : ((C.take i).filter fun c => !decide (c ∈ E)).length ≤ 64 := Nat.le_trans (List.length_filter_le _ _) (by rw [List.length_take]; omega)
      by_cases hlt : i < C.length
      ·have hltI : (i : Int) < (C.length : Int) := by omega
       obtain ⟨ad, y, rfl, hcell, HY⟩ := ReadI.get (by obtain ⟨_, _, e, _, h⟩ := HC1.out.below HBl.out; cases e; exact h) hlt
       have htk := take_get hlt HY.out
       have HH := Aside0.mk (hasInt _ E y wr (HE1.out.below HBl.out) (by omega))
       obtain ⟨k, hk⟩ : ∃ k, k = ((C.take i).filter fun c => !decide (c ∈ E)).length := ⟨_, rfl⟩
       rw [← hk] at hkl ⊢
       by_cases hm : y ∈ E
       ·rw [decide_eq_true hm] at HH
        have HK : Aside0 (((C.take (i + 1)).filter fun c => !decide (c ∈ E)).length = k) := ⟨by rw [htk, List.filter_append, List.length_append, ← hk]; simp [hm]⟩
        clear hk htk hm
        go_wp2_with (first | (go_at_call 18; refine HH.out.mono ?_; rintro e wm ⟨rfl, hbm⟩))
        go_roundw
        case rel => exact ⟨i + 1, by go_num, by omega, by rw [HK.out] <;> go_num, ⟨HBl.out.trans (hbm.mono HBl.out.size)⟩⟩
        case measure => simp [intOf]; omega
       ·rw [decide_eq_false hm] at HH
        have HK : Aside0 (((C.take (i + 1)).filter fun c => !decide (c ∈ E)).length = k + 1) := ⟨by rw [htk, List.filter_append, List.length_append, ← hk]; simp [hm]⟩
        clear hk htk hm
        go_wp2_with (first | (go_at_call 18; refine HH.out.mono ?_; rintro e wm ⟨rfl, hbm⟩))
        go_roundw
        case rel => exact ⟨i + 1, by go_num, by omega, by rw [HK.out] <;> go_num, ⟨HBl.out.trans (hbm.mono HBl.out.size)⟩⟩
        case measure => simp [intOf]; omega
      ·have hltI : ¬ (i : Int) < (C.length : Int) := by omega
       obtain rfl : i = C.length := by omega
       have hk1 : ¬ (1 : Int) < ((((C.take C.length).filter fun c => !decide (c ∈ E)).length : Nat) : Int) := by rw [List.take_length]; omega
       obtain ⟨k, hk⟩ : ∃ k, k = ((C.take C.length).filter fun c => !decide (c ∈ E)).length := ⟨_, rfl⟩
       rw [← hk] at hk1 hkl ⊢
       clear hk
       have hb := HBl.out
       replace HB := Aside0.belowC HB hb
       replace c30 := pw_cell_below hb c30
       replace c31 := pw_cell_below hb c31
       replace c80 := pw_cell_below hb c80
       replace c81 := pw_cell_below hb c81
       replace HR1 := Aside0.readc HR1 hb
       replace HL1 := Aside0.readc HL1 hb
       replace HR2 := Aside0.readc HR2 hb
       replace HRT := Aside0.readc HRT hb
       replace HRO := Aside0.readc HRO hb
       replace HM1 := Aside0.readc HM1 hb
       replace HE1 := Aside0.readc HE1 hb
       replace HC1 := Aside0.readc HC1 hb
       replace HP1 := Aside0.readp HP1 hb
       clear hb HBl
       go_wp2
       go_ret
       exact ⟨rfl, HB.out⟩
    | true =>
     obtain ⟨B1, E1, L1, kb1, kb2, kb3, kb4, kb5⟩ := key_bt hcx
     obtain rfl : B = B1 := by rw [HB_.out, kb1]
     obtain rfl : b2 = 0 := by rw [Hb2.out, kb1]
     have kb6 : ((E1.length : Int) == L1) = true := by rw [beq_iff_eq]; exact kb5
     clear kb1 kb5 hcx
     go_wp2_with (first | (replace st := stg_next 13 14 st; go_at_call 60; refine (implTreeOfOrder m _ o _ HRO.out).mono ?_; rw [← HM.out, ← Ho2.out]; rintro e w15 ⟨u, rfl, ho, hb⟩; replace HB := Aside0.belowC HB hb; replace c30 := pw_cell_below hb c30; replace c31 := pw_cell_below hb c31; replace c80 := pw_cell_below hb c80; replace c81 := pw_cell_below hb c81; replace HR1 := Aside0.readc HR1 hb; replace HL1 := Aside0.readc HL1 hb; replace HR2 := Aside0.readc HR2 hb; replace HRT := Aside0.readc HRT hb; replace HRO := Aside0.readc HRO hb; replace HP1 := Aside0.readp HP1 hb; clear hb; have HM1 := Aside0.mk ho.read; obtain ⟨A11, d11, rfl, -⟩ := id ho.read; clear ho) | (replace st := stg_next 14 15 st; go_at_call 61; refine (specTreeOfOrder m _ o _ HRO.out).mono ?_; rw [← HM.out, ← Ho2.out]; rintro e w16 ⟨u, rfl, ho, hb⟩; replace HB := Aside0.belowC HB hb; replace c30 := pw_cell_below hb c30; replace c31 := pw_cell_below hb c31; replace c80 := pw_cell_below hb c80; replace c81 := pw_cell_below hb c81; replace HR1 := Aside0.readc HR1 hb; replace HL1 := Aside0.readc HL1 hb; replace HR2 := Aside0.readc HR2 hb; replace HRT := Aside0.readc HRT hb; replace HRO := Aside0.readc HRO hb; replace HM1 := Aside0.readc HM1 hb; replace HP1 := Aside0.readp HP1 hb; clear hb; have HM2 := Aside0.mk ho.read; obtain ⟨A12, d12, rfl, -⟩ := id ho.read; clear ho) | (replace st := stg_next 15 16 st; go_at_call 23; refine (likeSame _ _ M _ HM1.out HM2.out).mono ?_; rintro e w17 ⟨rfl, hb⟩; replace HB := Aside0.belowC HB hb; replace c30 := pw_cell_below hb c30; replace c31 := pw_cell_below hb c31; replace c80 := pw_cell_below hb c80; replace c81 := pw_cell_below hb c81; replace HR1 := Aside0.readc HR1 hb; replace HL1 := Aside0.readc HL1 hb; replace HR2 := Aside0.readc HR2 hb; replace HRT := Aside0.readc HRT hb; replace HRO := Aside0.readc HRO hb; replace HM1 := Aside0.readc HM1 hb; replace HM2 := Aside0.readc HM2 hb; replace HP1 := Aside0.readp HP1 hb; clear hb; clear HM2) | (replace st := stg_next 16 17 st; go_at_call 62; refine (implIsAcyclicPairing b _ zs _ Pr _ HR2.out HP1.out).mono ?_; rw [kp1]; rintro e w18 ⟨rfl, hb⟩; replace HB := Aside0.belowC HB hb; replace c30 := pw_cell_below hb c30; replace c31 := pw_cell_below hb c31; replace c80 := pw_cell_below hb c80; replace c81 := pw_cell_below hb c81; replace HR1 := Aside0.readc HR1 hb; replace HL1 := Aside0.readc HL1 hb; replace HR2 := Aside0.readc HR2 hb; replace HRT := Aside0.readc HRT hb; replace HRO := Aside0.readc HRO hb; replace HM1 := Aside0.readc HM1 hb; replace HP1 := Aside0.readp HP1 hb; clear hb) | (replace st := stg_next 17 18 st; go_at_call 63; refine (implEvadersOf b _ zs _ ts _ HR2.out HRT.out).mono ?_; rw [← HE.out, kp2]; rintro e w19 ⟨u, rfl, ho, hb⟩; replace HB := Aside0.belowC HB hb; replace c30 := pw_cell_below hb c30; replace c31 := pw_cell_below hb c31; replace c80 := pw_cell_below hb c80; replace c81 := pw_cell_below hb c81; replace HR1 := Aside0.readc HR1 hb; replace HL1 := Aside0.readc HL1 hb; replace HR2 := Aside0.readc HR2 hb; replace HRT := Aside0.readc HRT hb; replace HRO := Aside0.readc HRO hb; replace HM1 := Aside0.readc HM1 hb; replace HP1 := Aside0.readp HP1 hb; clear hb; have HE1 := Aside0.mk ho.read; obtain ⟨A13, d13, rfl, -⟩ := id ho.read; clear ho) | (replace st := stg_next 18 19 st; go_at_call 64; refine (implCriticalFaces b _ zs _ Pr _ HR2.out HP1.out).mono ?_; rw [← HC.out, kp3]; rintro e w20 ⟨u, rfl, ho, hb⟩; replace HB := Aside0.belowC HB hb; replace c30 := pw_cell_below hb c30; replace c31 := pw_cell_below hb c31; replace c80 := pw_cell_below hb c80; replace c81 := pw_cell_below hb c81; replace HR1 := Aside0.readc HR1 hb; replace HL1 := Aside0.readc HL1 hb; replace HR2 := Aside0.readc HR2 hb; replace HRT := Aside0.readc HRT hb; replace HRO := Aside0.readc HRO hb; replace HM1 := Aside0.readc HM1 hb; replace HE1 := Aside0.readc HE1 hb; replace HP1 := Aside0.readp HP1 hb; clear hb; have HC1 := Aside0.mk ho.read; obtain ⟨A14, d14, rfl, -⟩ := id ho.read; clear ho))
     go_loopw [34, 35] (fun s34 s35 wl => ∃ i : Nat, s35 = .int .i64 i ∧ i ≤ C.length ∧ s34 = .int .i64 (((C.take i).filter fun c => !decide (c ∈ E)).length : Nat) ∧ Aside0 (Below w20.heap.size w20 wl)) (fun _ s35 _ => C.length - (intOf s35).toNat)
     case atStart => exact ⟨0, rfl, Nat.zero_le _, rfl, ⟨Below.refl _ _⟩⟩
     case round =>
      obtain ⟨i, rfl, hi, rfl, HBl⟩ := hrel
      have hkl : ((C.take i).filter fun c => !decide (c ∈ E)).length ≤ 64 := Nat.le_trans (List.length_filter_le _ _) (by rw [List.length_take]; omega)
      by_cases hlt : i < C.length
      ·have hltI : (i : Int) < (C.length : Int) := by omega
       obtain ⟨ad, y, rfl, hcell, HY⟩ := ReadI.get (by obtain ⟨_, _, e, _, h⟩ := HC1.out.below HBl.out; cases e; exact h) hlt
       have htk := take_get hlt HY.out
       have HH := Aside0.mk (hasInt _ E y wr (HE1.out.below HBl.out) (by omega))
       obtain ⟨k, hk⟩ : ∃ k, k = ((C.take i).filter fun c => !decide (c ∈ E)).length := ⟨_, rfl⟩
       rw [← hk] at hkl ⊢
       by_cases hm : y ∈ E
       ·rw [decide_eq_true hm] at HH
        have HK : Aside0 (((C.take (i + 1)).filter fun c => !decide (c ∈ E)).length = k) := ⟨by rw [htk, List.filter_append, List.length_append, ← hk]; simp [hm]⟩
        clear hk htk hm
        go_wp2_with (first | (go_at_call 18; refine HH.out.mono ?_; rintro e wm ⟨rfl, hbm⟩))
        go_roundw
        case rel => exact ⟨i + 1, by go_num, by omega, by rw [HK.out] <;> go_num, ⟨HBl.out.trans (hbm.mono HBl.out.size)⟩⟩
        case measure => simp [intOf]; omega
       ·rw [decide_eq_false hm] at HH
        have HK : Aside0 (((C.take (i + 1)).filter fun c => !decide (c ∈ E)).length = k + 1) := ⟨by rw [htk, List.filter_append, List.length_append, ← hk]; simp [hm]⟩
        clear hk htk hm
        go_wp2_with (first | (go_at_call 18; refine HH.out.mono ?_; rintro e wm ⟨rfl, hbm⟩))
        go_roundw
        case rel => exact ⟨i + 1, by go_num, by omega, by rw [HK.out] <;> go_num, ⟨HBl.out.trans (hbm.mono HBl.out.size)⟩⟩
        case measure => simp [intOf]; omega
      ·have hltI : ¬ (i : Int) < (C.length : Int) := by omega
       obtain rfl : i = C.length := by omega
       have hk1 : ¬ (1 : Int) < ((((C.take C.length).filter fun c => !decide (c ∈ E)).length : Nat) : Int) := by rw [List.take_length]; omega
       obtain ⟨k, hk⟩ : ∃ k, k = ((C.take C.length).filter fun c => !decide (c ∈ E)).length := ⟨_, rfl⟩
       rw [← hk] at hk1 hkl ⊢
       clear hk
       have hb := HBl.out
       replace HB := Aside0.belowC HB hb
       replace c30 := pw_cell_below hb c30
       replace c31 := pw_cell_below hb c31
       replace c80 := pw_cell_below hb c80
       replace c81 := pw_cell_below hb c81
       replace HR1 := Aside0.readc HR1 hb
       replace HL1 := Aside0.readc HL1 hb
       replace HR2 := Aside0.readc HR2 hb
       replace HRT := Aside0.readc HRT hb
       replace HRO := Aside0.readc HRO hb
       replace HM1 := Aside0.readc HM1 hb
       replace HE1 := Aside0.readc HE1 hb
       replace HC1 := Aside0.readc HC1 hb
       replace HP1 := Aside0.readp HP1 hb
       clear hb HBl
       go_wp2_with (first | (replace st := stg_next 19 20 st; go_at_call 57; refine (implIsTree _ B a _ HL1.out).mono ?_; rw [kb2]; rintro e w22 ⟨rfl, hb⟩; replace HB := Aside0.belowC HB hb; replace c30 := pw_cell_below hb c30; replace c31 := pw_cell_below hb c31; replace c80 := pw_cell_below hb c80; replace c81 := pw_cell_below hb c81; replace HR1 := Aside0.readc HR1 hb; replace HL1 := Aside0.readc HL1 hb; replace HR2 := Aside0.readc HR2 hb; replace HRT := Aside0.readc HRT hb; replace HRO := Aside0.readc HRO hb; replace HM1 := Aside0.readc HM1 hb; replace HE1 := Aside0.readc HE1 hb; replace HC1 := Aside0.readc HC1 hb; replace HP1 := Aside0.readp HP1 hb; clear hb) | (replace st := stg_next 20 21 st; go_at_call 63; refine (implEvadersOf a _ ys _ B _ HR1.out HL1.out).mono ?_; rw [kb3]; rintro e w23 ⟨u, rfl, ho, hb⟩; replace HB := Aside0.belowC HB hb; replace c30 := pw_cell_below hb c30; replace c31 := pw_cell_below hb c31; replace c80 := pw_cell_below hb c80; replace c81 := pw_cell_below hb c81; replace HR1 := Aside0.readc HR1 hb; replace HL1 := Aside0.readc HL1 hb; replace HR2 := Aside0.readc HR2 hb; replace HRT := Aside0.readc HRT hb; replace HRO := Aside0.readc HRO hb; replace HM1 := Aside0.readc HM1 hb; replace HE1 := Aside0.readc HE1 hb; replace HC1 := Aside0.readc HC1 hb; replace HP1 := Aside0.readp HP1 hb; clear hb; obtain ⟨A15, d15, rfl, -⟩ := id ho.read; clear ho) | (replace st := stg_next 21 22 st; go_at_call 65; refine (implLeastEvaders a _ ys _ HR1.out).mono ?_; rw [kb4]; rintro e w24 ⟨rfl, hb⟩; replace HB := Aside0.belowC HB hb; replace c30 := pw_cell_below hb c30; replace c31 := pw_cell_below hb c31; replace c80 := pw_cell_below hb c80; replace c81 := pw_cell_below hb c81; replace HR1 := Aside0.readc HR1 hb; replace HL1 := Aside0.readc HL1 hb; replace HR2 := Aside0.readc HR2 hb; replace HRT := Aside0.readc HRT hb; replace HRO := Aside0.readc HRO hb; replace HM1 := Aside0.readc HM1 hb; replace HE1 := Aside0.readc HE1 hb; replace HC1 := Aside0.readc HC1 hb; replace HP1 := Aside0.readp HP1 hb; clear hb))
       go_ret
       exact ⟨rfl, HB.out⟩
   ·have hp2' : (p2 == 0) = false := by rw [beq_eq_false_iff_ne]; exact hp2z
    clear KP
    cases hcx : cxOk a ys with
    | false =>
     have kb := key_btb hcx
     obtain rfl : B = [] := by rw [HB_.out, kb]
     obtain rfl : b2 = 1 := by rw [Hb2.out, kb]
     clear kb hcx
     go_wp2_with (first | (replace st := stg_next 13 14 st; go_at_call 60; refine (implTreeOfOrder m _ o _ HRO.out).mono ?_; rw [← HM.out, ← Ho2.out]; rintro e w15 ⟨u, rfl, ho, hb⟩; replace HB := Aside0.belowC HB hb; replace c30 := pw_cell_below hb c30; replace c31 := pw_cell_below hb c31; replace c80 := pw_cell_below hb c80; replace c81 := pw_cell_below hb c81; replace HR1 := Aside0.readc HR1 hb; replace HL1 := Aside0.readc HL1 hb; replace HR2 := Aside0.readc HR2 hb; replace HRT := Aside0.readc HRT hb; replace HRO := Aside0.readc HRO hb; replace HP1 := Aside0.readp HP1 hb; clear hb; have HM1 := Aside0.mk ho.read; obtain ⟨A11, d11, rfl, -⟩ := id ho.read; clear ho) | (replace st := stg_next 14 15 st; go_at_call 61; refine (specTreeOfOrder m _ o _ HRO.out).mono ?_; rw [← HM.out, ← Ho2.out]; rintro e w16 ⟨u, rfl, ho, hb⟩; replace HB := Aside0.belowC HB hb; replace c30 := pw_cell_below hb c30; replace c31 := pw_cell_below hb c31; replace c80 := pw_cell_below hb c80; replace c81 := pw_cell_below hb c81; replace HR1 := Aside0.readc HR1 hb; replace HL1 := Aside0.readc HL1 hb; replace HR2 := Aside0.readc HR2 hb; replace HRT := Aside0.readc HRT hb; replace HRO := Aside0.readc HRO hb; replace HM1 := Aside0.readc HM1 hb; replace HP1 := Aside0.readp HP1 hb; clear hb; have HM2 := Aside0.mk ho.read; obtain ⟨A12, d12, rfl, -⟩ := id ho.read; clear ho) | (replace st := stg_next 15 16 st; go_at_call 23; refine (likeSame _ _ M _ HM1.out HM2.out).mono ?_; rintro e w17 ⟨rfl, hb⟩; replace HB := Aside0.belowC HB hb; replace c30 := pw_cell_below hb c30; replace c31 := pw_cell_below hb c31; replace c80 := pw_cell_below hb c80; replace c81 := pw_cell_below hb c81; replace HR1 := Aside0.readc HR1 hb; replace HL1 := Aside0.readc HL1 hb; replace HR2 := Aside0.readc HR2 hb; replace HRT := Aside0.readc HRT hb; replace HRO := Aside0.readc HRO hb; replace HM1 := Aside0.readc HM1 hb; replace HM2 := Aside0.readc HM2 hb; replace HP1 := Aside0.readp HP1 hb; clear hb; clear HM2))
     go_ret
     exact ⟨rfl, HB.out⟩
    | true =>
     obtain ⟨B1, E1, L1, kb1, kb2, kb3, kb4, kb5⟩ := key_bt hcx
     obtain rfl : B = B1 := by rw [HB_.out, kb1]
     obtain rfl : b2 = 0 := by rw [Hb2.out, kb1]
     have kb6 : ((E1.length : Int) == L1) = true := by rw [beq_iff_eq]; exact kb5
     clear kb1 kb5 hcx
     go_wp2_with (first | (replace st := stg_next 13 14 st; go_at_call 60; refine (implTreeOfOrder m _ o _ HRO.out).mono ?_; rw [← HM.out, ← Ho2.out]; rintro e w15 ⟨u, rfl, ho, hb⟩; replace HB := Aside0.belowC HB hb; replace c30 := pw_cell_below hb c30; replace c31 := pw_cell_below hb c31; replace c80 := pw_cell_below hb c80; replace c81 := pw_cell_below hb c81; replace HR1 := Aside0.readc HR1 hb; replace HL1 := Aside0.readc HL1 hb; replace HR2 := Aside0.readc HR2 hb; replace HRT := Aside0.readc HRT hb; replace HRO := Aside0.readc HRO hb; replace HP1 := Aside0.readp HP1 hb; clear hb; have HM1 := Aside0.mk ho.read; obtain ⟨A11, d11, rfl, -⟩ := id ho.read; clear ho) | (replace st := stg_next 14 15 st; go_at_call 61; refine (specTreeOfOrder m _ o _ HRO.out).mono ?_; rw [← HM.out, ← Ho2.out]; rintro e w16 ⟨u, rfl, ho, hb⟩; replace HB := Aside0.belowC HB hb; replace c30 := pw_cell_below hb c30; replace c31 := pw_cell_below hb c31; replace c80 := pw_cell_below hb c80; replace c81 := pw_cell_below hb c81; replace HR1 := Aside0.readc HR1 hb; replace HL1 := Aside0.readc HL1 hb; replace HR2 := Aside0.readc HR2 hb; replace HRT := Aside0.readc HRT hb; replace HRO := Aside0.readc HRO hb; replace HM1 := Aside0.readc HM1 hb; replace HP1 := Aside0.readp HP1 hb; clear hb; have HM2 := Aside0.mk ho.read; obtain ⟨A12, d12, rfl, -⟩ := id ho.read; clear ho) | (replace st := stg_next 15 16 st; go_at_call 23; refine (likeSame _ _ M _ HM1.out HM2.out).mono ?_; rintro e w17 ⟨rfl, hb⟩; replace HB := Aside0.belowC HB hb; replace c30 := pw_cell_below hb c30; replace c31 := pw_cell_below hb c31; replace c80 := pw_cell_below hb c80; replace c81 := pw_cell_below hb c81; replace HR1 := Aside0.readc HR1 hb; replace HL1 := Aside0.readc HL1 hb; replace HR2 := Aside0.readc HR2 hb; replace HRT := Aside0.readc HRT hb; replace HRO := Aside0.readc HRO hb; replace HM1 := Aside0.readc HM1 hb; replace HM2 := Aside0.readc HM2 hb; replace HP1 := Aside0.readp HP1 hb; clear hb; clear HM2) | (replace st := stg_next 16 17 st; go_at_call 57; refine (implIsTree _ B a _ HL1.out).mono ?_; rw [kb2]; rintro e w18 ⟨rfl, hb⟩; replace HB := Aside0.belowC HB hb; replace c30 := pw_cell_below hb c30; replace c31 := pw_cell_below hb c31; replace c80 := pw_cell_below hb c80; replace c81 := pw_cell_below hb c81; replace HR1 := Aside0.readc HR1 hb; replace HL1 := Aside0.readc HL1 hb; replace HR2 := Aside0.readc HR2 hb; replace HRT := Aside0.readc HRT hb; replace HRO := Aside0.readc HRO hb; replace HM1 := Aside0.readc HM1 hb; replace HP1 := Aside0.readp HP1 hb; clear hb) | (replace st := stg_next 17 18 st; go_at_call 63; refine (implEvadersOf a _ ys _ B _ HR1.out HL1.out).mono ?_; rw [kb3]; rintro e w19 ⟨u, rfl, ho, hb⟩; replace HB := Aside0.belowC HB hb; replace c30 := pw_cell_below hb c30; replace c31 := pw_cell_below hb c31; replace c80 := pw_cell_below hb c80; replace c81 := pw_cell_below hb c81; replace HR1 := Aside0.readc HR1 hb; replace HL1 := Aside0.readc HL1 hb; replace HR2 := Aside0.readc HR2 hb; replace HRT := Aside0.readc HRT hb; replace HRO := Aside0.readc HRO hb; replace HM1 := Aside0.readc HM1 hb; replace HP1 := Aside0.readp HP1 hb; clear hb; obtain ⟨A15, d15, rfl, -⟩ := id ho.read; clear ho) | (replace st := stg_next 18 19 st; go_at_call 65; refine (implLeastEvaders a _ ys _ HR1.out).mono ?_; rw [kb4]; rintro e w20 ⟨rfl, hb⟩; replace HB := Aside0.belowC HB hb; replace c30 := pw_cell_below hb c30; replace c31 := pw_cell_below hb c31; replace c80 := pw_cell_below hb c80; replace c81 := pw_cell_below hb c81; replace HR1 := Aside0.readc HR1 hb; replace HL1 := Aside0.readc HL1 hb; replace HR2 := Aside0.readc HR2 hb; replace HRT := Aside0.readc HRT hb; replace HRO := Aside0.readc HRO hb; replace HM1 := Aside0.readc HM1 hb; replace HP1 := Aside0.readp HP1 hb; clear hb))
     go_ret
     exact ⟨rfl, HB.out⟩
end Go.Proofs.YtkggchklmpmgpaaGreat.H
