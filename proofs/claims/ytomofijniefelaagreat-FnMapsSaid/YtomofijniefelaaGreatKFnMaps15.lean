/- Two complexes and a map drawn: l09With. l01Near: a number that a number is near to, or any. What a draw of complexes and rows keeps between its statements: results not yet written, complexes in blocks, rows. What the arguments of the laws read as. What a row of bytes reads as; big. Complexes newly put into blocks, and a call behind them: what a law's walk keeps. FnMaps: what its region of FibreOf keeps (the answer's block may be laid before the call). -/
import Derived.Deep.DeepCutAuto
import Derived.Deep.CutBlock
import Derived.WalkKit
import Derived.ProofKit
import Derived.OpenShut
import Derived.ShutString
import Derived.ChangeOld
import Derived.Lib.SmallJoins
import Derived.Test.YtomofijniefelaaGreatKFnMaps1
import Derived.Test.YtomofijniefelaaGreatKFnMaps2
import Derived.Test.YtomofijniefelaaGreatKFnMaps3
import Derived.Test.YtomofijniefelaaGreatKFnMaps4
import Derived.Test.YtomofijniefelaaGreatKFnMaps5
import Derived.Test.YtomofijniefelaaGreatKFnMaps6
import Derived.Test.YtomofijniefelaaGreatKFnMaps7
import Derived.Test.YtomofijniefelaaGreatKFnMaps8
import Derived.Test.YtomofijniefelaaGreatKFnMaps9
import Derived.Test.YtomofijniefelaaGreatKFnMaps10
import Derived.Test.YtomofijniefelaaGreatKFnMaps11
import Derived.Test.YtomofijniefelaaGreatKFnMaps12
import Derived.Test.YtomofijniefelaaGreatKFnMaps13
import Derived.Test.YtomofijniefelaaGreatKFnMaps14

namespace Go.Proofs.YtomofijniefelaaGreat.H
open Go.RowKit Go.Proofs.YtomofijniefelaaGreatW.PrintWords Go.Proofs.YtomofijniefelaaGreatW.PrintLast
set_option linter.unusedVariables false
set_option linter.unusedSimpArgs false
set_option maxRecDepth 100000 in
set_option maxHeartbeats 8000000 in
theorem drawWith (bs : Nat) (w : World) (hs : Src bs w) :
  Calls Tryz.prog 116 #[.pointer (some ⟨bs, 0, none⟩)] w fun e w' => ∃ (a b : Int) (u z lv : Value) (ys zs p : List Int), e = .returned (.tuple #[.agg #[.int .i64 a, u], .agg #[.int .i64 b, z], lv]) ∧ OwnI w.heap.size w' u ys ∧ OwnI w.heap.size w' z zs ∧ OwnI w.heap.size w' lv p ∧ Rc a ys ∧ Rc b zs ∧ p.length ≤ 7 ∧ (∀ x ∈ p, -1 ≤ x ∧ x ≤ 6) ∧ Dw bs w w' := by
 have HBS := Aside0.mk hs.lt
 obtain ⟨w1, hw1⟩ : ∃ w1, w1 = (w.alloc C0).alloc C0 := ⟨_, rfl⟩
 have hB : Below w.heap.size w w1 := by rw [hw1]; exact ((Below.refl _ w).alloc (Nat.le_refl _) _).alloc (by simp) _
 have hsz : w1.heap.size = w.heap.size + 2 := by rw [hw1]; simp
 have hk0 : w1.heap[w.heap.size]? = some C0 := by
  rw [hw1]; exact blk_below (heap_alloc_new w _) (Below.alloc (Below.refl _ _) (Nat.le_refl _) _)
 have hk1 : w1.heap[w.heap.size + 1]? = some C0 := by
  rw [hw1]; have h := heap_alloc_new (w.alloc C0) C0
  rw [World.size_alloc] at h
  exact h
 have HK0 := Aside0.mk hk0
 have HK1 := Aside0.mk hk1
 have HZ := Aside0.mk hsz
 have HD1 := Aside0.mk (Dw.of_below hs hB)
 have hmx : Tryz.prog.follows .mixedOrders = true := by kernel_rfl
 clear hs hB hk0 hk1 hsz
 have HDR := Aside0.mk (draw bs w1 HD1.out.2)
 go_enter Tryz.func116, Tryz.ntmps116
 go_wp2_with (first | (go_at_call 158; rw [← hw1]; clear hw1; refine HDR.out.mono ?_; rintro e w2 ⟨_, rfl, ⟨n, u, xs, rfl, ho, hg⟩, hd⟩; obtain ⟨Au, cu, rfl, -⟩ := id ho.read; have HOU := Aside0.mk ho; have HGU := Aside0.mk hg; have HD2 := Aside0.mk (HD1.out.trans hd); have HDK := Aside0.mk hd; clear ho hg hd) | (go_at_call 145; refine Aside0.out ?_))
 refine Aside0.mk ?_
 have HS2 := Aside0.mk HD2.out.2
 with_reducible refine (small bs w2 HS2.out).mono ?_
 rintro e w3 ⟨m, z, ys, rfl, ho, hg, hd⟩
 obtain ⟨Az, cz, rfl, -⟩ := id ho.read
 have HD3 := Aside0.mk (HD2.out.trans hd)
 have HOU3 := Aside0.mk (HOU.out.gm hd.1 (by have := HBS.out; have := HZ.out; omega))
 have HOZ3 := Aside0.mk ho
 have HGZ := Aside0.mk hg
 have HS3 : Aside0 (w1.heap.size ≤ w2.heap.size ∧ w2.heap.size ≤ w3.heap.size) := ⟨HDK.out.size, hd.size⟩
 obtain ⟨w4, hw4⟩ : ∃ w4, w4 = (w3.alloc (.cells #[.int .i64 n, .slice Au xs.length cu] 26)).alloc (.cells #[.int .i64 m, .slice Az ys.length cz] 26) := ⟨_, rfl⟩
 have hb4 : Below w3.heap.size w3 w4 := by rw [hw4]; exact ((Below.refl _ w3).alloc (Nat.le_refl _) _).alloc (by simp) _
 have h5 : w4.heap[w3.heap.size]? = some (.cells #[.int .i64 n, .slice Au xs.length cu] 26) := by
  rw [hw4]; exact blk_below (heap_alloc_new w3 _) (Below.alloc (Below.refl _ _) (Nat.le_refl _) _)
 have h6 : w4.heap[w3.heap.size + 1]? = some (.cells #[.int .i64 m, .slice Az ys.length cz] 26) := by
  rw [hw4]; have h := heap_alloc_new (w3.alloc (.cells #[.int .i64 n, .slice Au xs.length cu] 26)) (.cells #[.int .i64 m, .slice Az ys.length cz] 26)
  rw [World.size_alloc] at h
  exact h
 have hz := HZ.out
 have hbs := HBS.out
 have hs3 := HS3.out
 have HW4 : Aside0 (WS bs w w3.heap.size n (.slice Au xs.length cu) xs m (.slice Az ys.length cz) ys w4) := ⟨by
  have hd0 : Dw bs w1 w3 := HDK.out.trans hd
  have hd1 : Dw bs w1 w4 := hd0.then_below hb4
  exact ⟨HD1.out.trans hd1, blk_dw hd1 (by omega) HK0.out, blk_dw hd1 (by omega) HK1.out, h5, h6, (HOU3.out.below hb4).lower (b' := w.heap.size + 2) (by omega), (HOZ3.out.below hb4).lower (b' := w.heap.size + 2) (by omega), HGU.out, hg, by omega, hbs⟩⟩
 obtain ⟨k, hk⟩ : ∃ k, k = w3.heap.size := ⟨_, rfl⟩
 rw [← hk] at HW4
 clear ho hg hd HS2 hb4 h5 h6 hz hbs hs3 HOU HOU3 HOZ3 HGU HGZ HD1 HD2 HD3 HDK HK0 HK1
 go_upto_if 17 with (first | (go_at_call 146; refine Aside0.out ?_))
 rw [← hw4, ← hk]
 clear hw4 hk
 refine Aside0.mk ?_
 have HS4 := Aside0.mk HW4.out.hD.2
 with_reducible refine (next bs 3 w4 (by omega) HS4.out).mono ?_
 rintro e w5 ⟨q, rfl, -, -, hd⟩
 have HW5 := Aside0.mk (HW4.out.dw hd)
 clear hd HS4 HW4
 go_upto_if 17 with (fail)
 go_cut [] (fun wc => ∃ (m : Nat) (A : Option Addr) (c : Nat) (ys : List Int), Aside0 (WS bs w k n (.slice Au xs.length cu) xs m (.slice A ys.length c) ys wc))
 case first =>
  by_cases hq : q = 0
  ·have hq1 : (q == 0) = true := by rw [beq_iff_eq]; exact hq
   clear hq
   have hs := HW5.out
   have c50 := hs.c5.1
   have c51 := hs.c5.2
   have c60 := hs.c6.1
   have c61 := hs.c6.2
   have f60 := hs.f6.1
   have f61 := hs.f6.2
   have HP := Aside0.mk (hs.put6 (m' := n) hs.o5 hs.g5 (own_ne hs.o5 hs.h6 (by decide)) (own_ne hs.o5 hs.h6 (by decide)))
   clear hs
   go_wp2
   go_meet
   case rel => exact ⟨n, Au, cu, xs, HP⟩
  ·have hq1 : (q == 0) = false := by rw [beq_eq_false_iff_ne]; exact hq
   clear hq
   go_wp2
   go_meet
   case rel => exact ⟨m, Az, cz, ys, HW5⟩
 case rest =>
  clear HW5
  obtain ⟨m, Az, cz, ys, HW5⟩ := hcut
  generalize wc = w6 at *
  go_upto_if 21 with (first | (go_at_call 146; refine Aside0.out ?_))
  refine Aside0.mk ?_
  have HS6 := Aside0.mk HW5.out.hD.2
  with_reducible refine (next bs 3 w6 (by omega) HS6.out).mono ?_
  rintro e w7 ⟨q2, rfl, -, -, hd⟩
  have HW7 := Aside0.mk (HW5.out.dw hd)
  clear hd HS6 HW5
  go_upto_if 21 with (fail)
  go_cut [] (fun wc => ∃ (m : Nat) (A : Option Addr) (c : Nat) (ys : List Int), Aside0 (WS bs w k n (.slice Au xs.length cu) xs m (.slice A ys.length c) ys wc))
  case first =>
   by_cases hq : q2 = 0
   ·have hq1 : (q2 == 0) = true := by rw [beq_iff_eq]; exact hq
    clear hq
    go_wp2_with (first | (go_at_call 147; refine Aside0.out ?_))
    refine Aside0.mk ?_
    with_reducible refine (named 4 _ rfl w7).mono ?_
    rintro e w8 ⟨_, v8, rfl, ⟨m8, z8, ys8, rfl, ho, hg⟩, hb⟩
    obtain ⟨A8, c8, rfl, -⟩ := id ho.read
    have hs := HW7.out.below hb
    have ho' := ho.lower (b' := w.heap.size + 2) (Nat.le_trans hs.hk (Nat.le_of_lt (blk_lt HW7.out.h5)))
    have c60 := hs.c6.1
    have c61 := hs.c6.2
    have f60 := hs.f6.1
    have f61 := hs.f6.2
    have HP := Aside0.mk (hs.put6 ho' hg (own_ne ho hs.h6 (by decide)) (own_ne hs.o5 hs.h6 (by decide)))
    clear hs ho ho' hg hb
    go_wp2
    go_meet
    case rel => exact ⟨m8, A8, c8, ys8, HP⟩
   ·have hq1 : (q2 == 0) = false := by rw [beq_eq_false_iff_ne]; exact hq
    clear hq
    go_wp2
    go_meet
    case rel => exact ⟨m, Az, cz, ys, HW7⟩
  case rest =>
   clear HW7
   obtain ⟨m, Az, cz, ys, HW8⟩ := hcut
   generalize wc = w8 at *
   have c50 := HW8.out.c5.1
   have c51 := HW8.out.c5.2
   have c60 := HW8.out.c6.1
   have c61 := HW8.out.c6.2
   go_upto_region 7 with (first | (go_at_call 149; refine Aside0.out ?_))
   refine Aside0.mk ?_
   have HS8 := Aside0.mk HW8.out.hD.2
   have hn6 : n ≤ 6 := HW8.out.g5.2.1
   have hm1 : 1 ≤ m := HW8.out.g6.1
   have hm6 : m ≤ 6 := HW8.out.g6.2.1
   with_reducible refine (drawMap bs n m hn6 hm1 hm6 Au Az xs.length cu ys.length cz w8 HS8.out).mono ?_
   rintro e w9 ⟨_, p, rfl, ho, hpl, hpb, hd⟩
   obtain ⟨Ap, cp, rfl, -⟩ := id ho.read
   have HO9 := Aside0.mk (ho.lower (b' := w.heap.size + 2) (Nat.le_trans HW8.out.hk (Nat.le_of_lt (blk_lt HW8.out.h5))))
   have HW9 := Aside0.mk (HW8.out.dw hd)
   have HPL := Aside0.mk hpl
   have HPB := Aside0.mk hpb
   clear ho hpl hpb hd HW8 HS8 c50 c51 c60 c61
   go_upto_block 0 with (fail)
   go_cut [7, 8] (fun s7 s8 wc => ∃ (A : Option Addr) (c : Nat) (p : List Int), s7 = .slice A p.length c ∧ Aside0 (OwnI (w.heap.size + 2) wc (.slice A p.length c) p) ∧ Aside0 (p.length ≤ 7) ∧ Aside0 (∀ x ∈ p, -1 ≤ x ∧ x ≤ 6) ∧ Aside0 (WS bs w k n (.slice Au xs.length cu) xs m (.slice Az ys.length cz) ys wc))
   case first =>
    go_wp2
    go_loopw [7, 8] (fun s7 s8 wr => ∃ (i : Nat) (A : Option Addr) (c : Nat) (p : List Int), s8 = .int .i64 i ∧ s7 = .slice A p.length c ∧ i ≤ 20 ∧ Aside0 (OwnI (w.heap.size + 2) wr (.slice A p.length c) p) ∧ Aside0 (p.length ≤ 7) ∧ Aside0 (∀ x ∈ p, -1 ≤ x ∧ x ≤ 6) ∧ Aside0 (WS bs w k n (.slice Au xs.length cu) xs m (.slice Az ys.length cz) ys wr)) (fun _ s8 _ => 20 - (intOf s8).toNat)
    case atStart => exact ⟨0, Ap, cp, p, rfl, rfl, Nat.zero_le _, HO9, HPL, HPB, HW9⟩
    case round =>
     clear HO9 HPL HPB HW9
     obtain ⟨i, Ap, cp, p, rfl, rfl, hi, HO, HPL, HPB, HWr⟩ := hrel
     have c50 := HWr.out.c5.1
     have c51 := HWr.out.c5.2
     have c60 := HWr.out.c6.1
     have c61 := HWr.out.c6.2
     by_cases hlt : i < 20
     ·have hltI : (i : Int) < 20 := by omega
      have HM := Aside0.mk (specMap n m hn6 hm6 (.slice Au xs.length cu) (.slice Az ys.length cz) (.slice Ap p.length cp) p wr HO.out.read)
      cases hmp : mapOk n m p with
      | false =>
       rw [hmp] at HM
       go_wp2_with (first | (go_at_call 156; refine HM.out.mono ?_; rintro e w10 ⟨rfl, hb⟩; have HW10 := Aside0.mk (HWr.out.below hb); have HO10 := Aside0.mk (HO.out.below hb); clear hb))
       go_meet
       case rel => exact ⟨Ap, cp, p, rfl, HO10, HPL, HPB, HW10⟩
      | true =>
       rw [hmp] at HM
       have hmm := mapOk_mp hmp
       have HLEN : Aside0 (p.length ≤ 6) := ⟨by rw [hmm.len]; exact hn6⟩
       have HBD5 := Aside0.mk (hmm.bd5 hm6)
       clear hmm
       cases hsp : simpOk xs ys p with
       | true =>
        go_wp2_with (first | (go_at_call 156; refine HM.out.mono ?_; rintro e w10 ⟨rfl, hb⟩; have HW10 := Aside0.mk (HWr.out.below hb); have HO10 := Aside0.mk (HO.out.below hb); replace c50 := pw_cell_below hb c50; replace c51 := pw_cell_below hb c51; replace c60 := pw_cell_below hb c60; replace c61 := pw_cell_below hb c61; clear hb) | (go_at_call 157; refine (specSimplicialG n m _ _ _ xs ys p _ HW10.out.o5.read HW10.out.o6.read HO10.out.read HW10.out.g5.nat HLEN.out HBD5.out).mono ?_; rw [hsp]; rintro e w11 ⟨rfl, hb⟩; have HW11 := Aside0.mk (HW10.out.below hb); have HO11 := Aside0.mk (HO10.out.below hb); clear hb))
        go_meet
        case rel => exact ⟨Ap, cp, p, rfl, HO11, HPL, HPB, HW11⟩
       | false =>
        go_wp2_with (first | (go_at_call 156; refine HM.out.mono ?_; rintro e w10 ⟨rfl, hb⟩; have HW10 := Aside0.mk (HWr.out.below hb); have HO10 := Aside0.mk (HO.out.below hb); replace c50 := pw_cell_below hb c50; replace c51 := pw_cell_below hb c51; replace c60 := pw_cell_below hb c60; replace c61 := pw_cell_below hb c61; clear hb) | (go_at_call 157; refine (specSimplicialG n m _ _ _ xs ys p _ HW10.out.o5.read HW10.out.o6.read HO10.out.read HW10.out.g5.nat HLEN.out HBD5.out).mono ?_; rw [hsp]; rintro e w11 ⟨rfl, hb⟩; have HW11 := Aside0.mk (HW10.out.below hb); have HO11 := Aside0.mk (HO10.out.below hb); clear hb) | (go_at_call 146; refine Aside0.out ?_))
        refine Aside0.mk ?_
        have HS11 := Aside0.mk HW11.out.hD.2
        with_reducible refine (next bs 8 w11 (by omega) HS11.out).mono ?_
        rintro e w12 ⟨q3, rfl, -, -, hd⟩
        have HW12 := Aside0.mk (HW11.out.dw hd)
        have HO12 := Aside0.mk (HO11.out.gm hd.1 (by have := HWr.out.hb; omega))
        clear hd HS11
        have c50 := HW12.out.c5.1
        have c51 := HW12.out.c5.2
        have c60 := HW12.out.c6.1
        have c61 := HW12.out.c6.2
        by_cases hq3 : 0 < q3
        ·go_wp2_with (first | (go_at_call 149; refine Aside0.out ?_))
         refine Aside0.mk ?_
         have HS12 := Aside0.mk HW12.out.hD.2
         with_reducible refine (drawMap bs n m hn6 hm1 hm6 Au Az xs.length cu ys.length cz w12 HS12.out).mono ?_
         rintro e w13 ⟨_, p', rfl, ho, hpl, hpb, hd⟩
         obtain ⟨Ap', cp', rfl, -⟩ := id ho.read
         have HO13 := Aside0.mk (ho.lower (b' := w.heap.size + 2) (Nat.le_trans HW12.out.hk (Nat.le_of_lt (blk_lt HW12.out.h5))))
         have HW13 := Aside0.mk (HW12.out.dw hd)
         have HPL' := Aside0.mk hpl
         have HPB' := Aside0.mk hpb
         clear ho hpl hpb hd
         go_wp2
         go_roundw
         case rel => exact ⟨i + 1, Ap', cp', p', by go_num, rfl, by omega, HO13, HPL', HPB', HW13⟩
         case measure => simp [intOf]; omega
        ·go_wp2
         go_meet
         case rel => exact ⟨Ap, cp, p, rfl, HO12, HPL, HPB, HW12⟩
     ·have hltI : ¬ (i : Int) < 20 := by omega
      go_wp2
      go_meet
      case rel => exact ⟨Ap, cp, p, rfl, HO, HPL, HPB, HWr⟩
   case rest =>
    clear HO9 HPL HPB HW9
    obtain ⟨Ap, cp, p, rfl, HO9, HPL, HPB, HW9⟩ := hcut
    generalize wc = w9 at *
    go_upto_region 11 with (fail)
    have c50 := HW9.out.c5.1
    have c51 := HW9.out.c5.2
    have c60 := HW9.out.c6.1
    have c61 := HW9.out.c6.2
    go_cut [64] (fun s64 wc => ∃ r : Bool, s64 = .bool r ∧ Aside0 (r = true → mapOk n m p = true) ∧ Aside0 (OwnI (w.heap.size + 2) wc (.slice Ap p.length cp) p) ∧ Aside0 (WS bs w k n (.slice Au xs.length cu) xs m (.slice Az ys.length cz) ys wc))
    case first =>
     have HM := Aside0.mk (specMap n m hn6 hm6 (.slice Au xs.length cu) (.slice Az ys.length cz) (.slice Ap p.length cp) p w9 HO9.out.read)
     cases hmp : mapOk n m p with
     | false =>
      rw [hmp] at HM
      go_wp2_with (first | (go_at_call 156; refine HM.out.mono ?_; rintro e w10 ⟨rfl, hb⟩; have HW10 := Aside0.mk (HW9.out.below hb); have HO10 := Aside0.mk (HO9.out.below hb); clear hb))
      go_meet
      case rel => exact ⟨false, rfl, ⟨fun h => by cases h⟩, HO10, HW10⟩
     | true =>
      rw [hmp] at HM
      go_wp2_with (first | (go_at_call 156; refine HM.out.mono ?_; rintro e w10 ⟨rfl, hb⟩; have HW10 := Aside0.mk (HW9.out.below hb); have HO10 := Aside0.mk (HO9.out.below hb); clear hb) | (go_at_call 146; refine Aside0.out ?_))
      refine Aside0.mk ?_
      have HS10 := Aside0.mk HW10.out.hD.2
      with_reducible refine (next bs 3 w10 (by omega) HS10.out).mono ?_
      rintro e w12 ⟨q3, rfl, -, -, hd⟩
      have HW12 := Aside0.mk (HW10.out.dw hd)
      have HO12 := Aside0.mk (HO10.out.gm hd.1 (by have := HW9.out.hb; omega))
      clear hd HS10
      go_wp2
      go_meet
      case rel => exact ⟨_, rfl, ⟨fun _ => hmp⟩, HO12, HW12⟩
    case rest =>
     clear c50 c51 c60 c61 HO9 HW9
     obtain ⟨r, rfl, HRM, HO9, HW9⟩ := hcut
     generalize wc = w9 at *
     go_upto_if 64 with (fail)
     go_cut [] (fun wc => (∃ (m : Nat) (A : Option Addr) (c : Nat) (ys : List Int), Aside0 (WS bs w k n (.slice Au xs.length cu) xs m (.slice A ys.length c) ys wc)) ∧ Aside0 (OwnI (w.heap.size + 2) wc (.slice Ap p.length cp) p))
     case first =>
      cases r with
      | false =>
       go_wp2
       go_meet
       case rel => exact ⟨⟨m, Az, cz, ys, HW9⟩, HO9⟩
      | true =>
       have hmm := mapOk_mp (HRM.out rfl)
       have HLEN : Aside0 (p.length ≤ 6) := ⟨by rw [hmm.len]; exact hn6⟩
       have HBD5 := Aside0.mk (hmm.bd5 hm6)
       clear hmm
       obtain ⟨M, hM⟩ : ∃ M, M = 2 ^ m := ⟨_, rfl⟩
       have hMb : 2 ≤ M ∧ M ≤ 64 := by
        rw [hM]
        have h1 := (pwn hm6).2
        have h2 := Nat.pow_le_pow_right (n := 2) (by omega) hm1
        omega
       have HALL := Aside0.mk (specAll m hm6 w9)
       rw [← hM] at HALL
       have HMB := Aside0.mk hMb
       have HMM := Aside0.mk hM
       have c60 := HW9.out.c6.1
       have c61 := HW9.out.c6.2
       clear hM
       go_wp2_with (first | (go_at_call 268; refine HALL.out.mono ?_; rintro e w10 ⟨rfl, hb⟩; have HW10 := Aside0.mk (HW9.out.below hb); have HO10 := Aside0.mk (HO9.out.below hb); clear hb) | (go_at_call 146; refine Aside0.out ?_))
       refine Aside0.mk ?_
       have HS10 := Aside0.mk HW10.out.hD.2
       with_reducible refine (next bs ((M : Int) - 1) w10 (by omega) HS10.out).mono ?_
       rintro e w11 ⟨q0, rfl, -, hq, hd⟩
       replace hq := hq (by omega)
       obtain ⟨q, rfl⟩ : ∃ q : Nat, q0 = q := ⟨q0.toNat, by omega⟩
       have HW11 := Aside0.mk (HW10.out.dw hd)
       have HO11 := Aside0.mk (HO10.out.gm hd.1 (by have := HW9.out.hb; omega))
       obtain ⟨q1, hq1⟩ : ∃ q1 : Nat, q1 = 1 + q := ⟨_, rfl⟩
       have hqI : (1 : Int) + (q : Int) = (q1 : Int) := by omega
       have hq64 : q1 < 64 := by omega
       have HQ64 := Aside0.mk hq64
       clear hd HS10 hq hq1 hMb
       go_upto_region 13 with (fail)
       obtain ⟨w12, hw12⟩ : ∃ w12, w12 = w11.alloc (.cells #[.int .i64 (q1 : Int)] 2) := ⟨_, rfl⟩
       rw [← hw12]
       have hb12 : Below w11.heap.size w11 w12 := by rw [hw12]; exact Below.alloc (Below.refl _ _) (Nat.le_refl _) _
       have HL12 : Aside0 (OwnI w11.heap.size w12 (.slice (some ⟨w11.heap.size, 0, none⟩) 1 1) [(q1 : Int)]) := ⟨by rw [hw12]; exact lit_own w11 w11.heap.size [(q1 : Int)] (Nat.le_refl _) (by simp)⟩
       have HW12 := Aside0.mk (HW11.out.below hb12)
       have HO12 := Aside0.mk (HO11.out.below hb12)
       have HS12 : Aside0 (w11.heap.size ≤ w12.heap.size) := ⟨hb12.size⟩
       have hkB : k + 1 < w11.heap.size := blk_lt HW11.out.h6
       have HUB := Aside0.mk HW11.out.o5.lt
       have HZB := Aside0.mk HW11.out.o6.lt
       have HPB2 := Aside0.mk HO11.out.lt
       obtain ⟨B, hB⟩ : ∃ B, B = w11.heap.size := ⟨_, rfl⟩
       rw [← hB] at HL12 HS12 hkB HUB HZB HPB2
       clear hb12 hw12 HW11 HO11 HW10 HO10 HW9 HO9 c60 c61
       go_wp2
       go_loopw [9, 10] (fun s9 s10 wr => ∃ (i g c : Nat) (L : List Int), s10 = .int .i64 i ∧ s9 = .slice (some ⟨g, 0, none⟩) (i + 1) c ∧ i ≤ xs.length ∧ L.length = i + 1 ∧ Aside0 (∀ s ∈ L, ∃ z : Nat, s = z ∧ z < 64) ∧ Aside0 (OwnI B wr (.slice (some ⟨g, 0, none⟩) (i + 1) c) L) ∧ Aside0 (B ≤ wr.heap.size) ∧ Aside0 (OwnI (w.heap.size + 2) wr (.slice Ap p.length cp) p) ∧ Aside0 (WS bs w k n (.slice Au xs.length cu) xs m (.slice Az ys.length cz) ys wr)) (fun _ s10 _ => xs.length - (intOf s10).toNat)
       case atStart => exact ⟨0, B, 1, [(q1 : Int)], rfl, by rw [hB], Nat.zero_le _, rfl, ⟨fun s hs => by rw [List.mem_singleton] at hs; exact ⟨q1, hs, HQ64.out⟩⟩, HL12, HS12, HO12, HW12⟩
       case round =>
        clear HL12 HS12 HO12 HW12
        obtain ⟨i, g, c, L, rfl, rfl, hi, hL, HLB, HL, HSr, HO, HWr⟩ := hrel
        have c50 := HWr.out.c5.1
        have c51 := HWr.out.c5.2
        have c60 := HWr.out.c6.1
        have c61 := HWr.out.c6.2
        have hxl : xs.length ≤ 64 := HWr.out.g5.2.2.2
        by_cases hlt : i < xs.length
        ·have hltI : (i : Int) < (xs.length : Int) := by omega
         obtain ⟨ad, y, rfl, hcell, HY⟩ := ReadI.get (by obtain ⟨_, _, e, _, h⟩ := HWr.out.o5.read; cases e; exact h) hlt
         obtain ⟨f, rfl, hf1, hf2⟩ := HWr.out.g5.nat y (mem_at hlt HY.out)
         have HMV := Aside0.mk (specMoved f hf2 (.slice Ap p.length cp) p wr HO.out.read HLEN.out HBD5.out)
         have hg64 : img f p < 64 := imgTo_lt HBD5.out _
         have HG64 := Aside0.mk hg64
         generalize img f p = G at *
         clear hg64
         go_wp2_with (first | (go_at_call 126; refine HMV.out.mono ?_; rintro e w13 ⟨rfl, hb⟩; have HW13 := Aside0.mk (HWr.out.below hb); have HO13 := Aside0.mk (HO.out.below hb); have HL13 := Aside0.mk (HL.out.below hb); have HS13 : Aside0 (B ≤ w13.heap.size) := ⟨Nat.le_trans HSr.out hb.size⟩; clear hb) | ((with_reducible refine gate_dst (N := 88) rfl ?_); refine Aside0.out ?_))
         refine Aside0.mk ?_
         refine app_own (w0 := w13) B rfl _ _ rfl (.slice (some ⟨g, 0, none⟩) (i + 1) c) L (G : Int) rfl rfl HL13.out (Below.refl _ _) HS13.out (by omega) ?_
         intro v1 w14 ho14 hb14 hg14 hh14
         obtain ⟨g1, c1, rfl, -⟩ := Kd.R_form ho14 (by simp)
         have hM2 : (L ++ [(G : Int)]).length = i + 1 + 1 := by simp; omega
         rw [hM2] at ho14 ⊢
         have HL14 := Aside0.mk ho14
         have HW14 := Aside0.mk (HW13.out.up hb14 hkB HUB.out HZB.out)
         have HO14 : Aside0 (OwnI (w.heap.size + 2) w14 (.slice Ap p.length cp) p) := ⟨by
          obtain ⟨h0, inner, h1, hr⟩ := HO13.out
          exact ⟨h0, inner, own_move h1 (fun j hj => hb14.block j (HPB2.out j hj)), hr⟩⟩
         have HS14 : Aside0 (B ≤ w14.heap.size) := ⟨Nat.le_trans HS13.out hb14.size⟩
         have HLB14 : Aside0 (∀ s ∈ L ++ [(G : Int)], ∃ z : Nat, s = z ∧ z < 64) := ⟨fun s hs => by
          rcases List.mem_append.1 hs with h | h
          ·exact HLB.out s h
          ·rw [List.mem_singleton] at h; exact ⟨G, h, HG64.out⟩⟩
         clear ho14 hb14 hg14 hh14
         go_wp2
         go_roundw
         case rel => exact ⟨i + 1, g1, c1, _, by go_num, rfl, by omega, hM2, HLB14, HL14, HS14, HO14, HW14⟩
         case measure => simp [intOf]; omega
        ·have hltI : ¬ (i : Int) < (xs.length : Int) := by omega
         have HMD := Aside0.mk (specMade m hm6 (.slice (some ⟨g, 0, none⟩) (i + 1) c) L wr HL.out.read HLB.out)
         go_wp2_with (first | (go_at_call 127; refine Aside0.out ?_))
         refine Aside0.mk ?_
         refine HMD.out.mono ?_
         rintro e w15 ⟨u15, rfl, ho, hb⟩
         obtain ⟨A8, c8, rfl, -⟩ := id ho.read
         have hs := HWr.out.below hb
         have ho' := ho.lower (b' := w.heap.size + 2) (Nat.le_trans hs.hk (Nat.le_of_lt (blk_lt HWr.out.h5)))
         have c60 := hs.c6.1
         have c61 := hs.c6.2
         have f60 := hs.f6.1
         have f61 := hs.f6.2
         have HP := Aside0.mk (hs.put6 ho' (made_gc hm1 hm6 _) (own_ne ho hs.h6 (by decide)) (own_ne hs.o5 hs.h6 (by decide)))
         have HO15 : Aside0 (OwnI (w.heap.size + 2) ((w15.setCell ⟨k + 1, 0, none⟩ (.int .i64 (m : Int))).setCell ⟨k + 1, 1, none⟩ (.slice A8 (thL (madeAt L) (2 ^ m)).length c8)) (.slice Ap p.length cp) p) := ⟨((HO.out.below hb).grown (set_grown' _ (k + 1) _ _) (fun j hj e => own_ne (HO.out.below hb) hs.h6 (by decide) j hj (Option.some.inj e))).grown (set_grown' _ (k + 1) _ _) (fun j hj e => own_ne (HO.out.below hb) hs.h6 (by decide) j hj (Option.some.inj e))⟩
         clear hs ho ho' hb
         go_wp2
         go_meet
         case rel => exact ⟨⟨m, A8, c8, _, HP⟩, HO15⟩
     case rest =>
      clear HO9 HW9
      obtain ⟨⟨m, Az, cz, ys, HW9⟩, HO9⟩ := hcut
      generalize wc = w9 at *
      have HG5 := Aside0.mk HW9.out.g5
      have HG6 := Aside0.mk HW9.out.g6
      go_upto_region 18 with (fail)
      refine wp_region_w 7 9 (by decide) (fun i => !(i == 2) && !(i == 5) && !(i == 7) && !(i == 8)) (fun i => match i with | 0 => fun v => v = .pointer (some ⟨bs, 0, none⟩) | 1 => fun v => v = .agg #[.int .i64 (n : Int), .slice Au xs.length cu] | 3 => fun v => v = .pointer (some ⟨bs, 0, none⟩) | 4 => fun v => v = .agg #[.int .i64 (m : Int), .slice Az ys.length cz] | 6 => fun v => v = .slice Ap p.length cp | _ => fun _ => True)
       (WI bs w k n (.slice Au xs.length cu) xs m (.slice Az ys.length cz) ys (.slice Ap p.length cp) p) [0, 0, 3, 0, 0, 31, 0, 63, 191, 511] hmx (by kernel_rfl) ?start ?stay ?steps ?stores ?rest
      case start =>
       intro b s hb
       exact (WI.start HW9.out HO9.out hb).dw (Dw.of_below HW9.out.hD.2 (Below.refl _ _).drew)
      case stay =>
       intro i b s v w1_ hq hI
       exact WI.quiet hI hq v
      case steps =>
       refine ⟨?_, ?_, ?_, ?_, ?_, ?_, ?_, trivial⟩
       ·intro s b_ w_ hI hbi hd hq R hR hN
        generalize hA : putAll _ 0 s _ = A
        clear hq
        refine stepG_on rfl ?_
        have hR' := hR rfl (.pointer (some ⟨bs, 0, none⟩)) rfl
        clear hR hN hd
        refine opGives_value ?_ hR'
        subst hA
        simp only [dsOf, List.take, List.map_cons, List.map_nil, Option.getD_some, putAll, Act.put, List.setIfInBounds_toArray, List.set_cons_zero, List.set_cons_succ]
        go_simp
       ·intro s b_ w_ hI hbi hd hq R hR hN
        generalize hA : putAll _ 0 s _ = A
        clear hq
        refine stepG_on rfl ?_
        have k0 := blk_cell hI.h5 0
        have k1 := blk_cell hI.h5 1
        have hR' := hR rfl (.agg #[.int .i64 (n : Int), .slice Au xs.length cu]) rfl
        clear hR hN hd
        refine opGives_value ?_ hR'
        subst hA
        simp only [dsOf, List.take, List.map_cons, List.map_nil, Option.getD_some, putAll, Act.put, List.setIfInBounds_toArray, List.set_cons_zero, List.set_cons_succ]
        go_simp
       ·intro s b_ w_ hI hbi hd hq R hR hN
        generalize hA : putAll _ 0 s _ = A
        clear hq
        refine stepG_on rfl ?_
        have e0 : s 0 = _ := (hd 0 (by kernel_rfl)).2 rfl
        have e1 : s 1 = _ := (hd 1 (by kernel_rfl)).2 rfl
        clear hR
        refine opGives_call (f := 160) (args := #[.pointer (some ⟨bs, 0, none⟩), .agg #[.int .i64 (n : Int), .slice Au xs.length cu]]) ?_ ?_
        ·subst hA
         clear hN hd
         simp only [dsOf, List.take, List.map_cons, List.map_nil, Option.getD_some, putAll, Act.put, List.setIfInBounds_toArray, List.set_cons_zero, List.set_cons_succ]
         go_simp
        clear hA A hd
        refine (bad bs n (w.heap.size + 2) _ xs w_ hI.hD.2 hI.o5 (by have := hI.hb; omega) (Nat.le_trans hI.hk (Nat.le_of_lt (blk_lt hI.h5))) HG5.out).mono ?_
        rintro e w3_ ⟨_, rfl, ⟨a2, u2, l2, rfl, ho, hr⟩, hd2⟩
        obtain ⟨A2, c2, rfl, -⟩ := id ho.read
        exact ⟨_, rfl, hN rfl _ _ ((hI.dw hd2).set2 hbi ⟨a2, A2, c2, l2, rfl, ho, hr⟩)⟩
       ·intro s b_ w_ hI hbi hd hq R hR hN
        generalize hA : putAll _ 0 s _ = A
        clear hq
        refine stepG_on rfl ?_
        have hR' := hR rfl (.pointer (some ⟨bs, 0, none⟩)) rfl
        clear hR hN hd
        refine opGives_value ?_ hR'
        subst hA
        simp only [dsOf, List.take, List.map_cons, List.map_nil, Option.getD_some, putAll, Act.put, List.setIfInBounds_toArray, List.set_cons_zero, List.set_cons_succ]
        go_simp
       ·intro s b_ w_ hI hbi hd hq R hR hN
        generalize hA : putAll _ 0 s _ = A
        clear hq
        refine stepG_on rfl ?_
        have k0 := blk_cell hI.h6 0
        have k1 := blk_cell hI.h6 1
        have hR' := hR rfl (.agg #[.int .i64 (m : Int), .slice Az ys.length cz]) rfl
        clear hR hN hd
        refine opGives_value ?_ hR'
        subst hA
        simp only [dsOf, List.take, List.map_cons, List.map_nil, Option.getD_some, putAll, Act.put, List.setIfInBounds_toArray, List.set_cons_zero, List.set_cons_succ]
        go_simp
       ·intro s b_ w_ hI hbi hd hq R hR hN
        generalize hA : putAll _ 0 s _ = A
        clear hq
        refine stepG_on rfl ?_
        have e3 : s 3 = _ := (hd 3 (by kernel_rfl)).2 rfl
        have e4 : s 4 = _ := (hd 4 (by kernel_rfl)).2 rfl
        clear hR
        refine opGives_call (f := 160) (args := #[.pointer (some ⟨bs, 0, none⟩), .agg #[.int .i64 (m : Int), .slice Az ys.length cz]]) ?_ ?_
        ·subst hA
         clear hN hd
         simp only [dsOf, List.take, List.map_cons, List.map_nil, Option.getD_some, putAll, Act.put, List.setIfInBounds_toArray, List.set_cons_zero, List.set_cons_succ]
         go_simp
        clear hA A hd
        refine (bad bs m (w.heap.size + 2) _ ys w_ hI.hD.2 hI.o6 (by have := hI.hb; omega) (Nat.le_trans hI.hk (Nat.le_of_lt (blk_lt hI.h5))) HG6.out).mono ?_
        rintro e w3_ ⟨_, rfl, ⟨a2, u2, l2, rfl, ho, hr⟩, hd2⟩
        obtain ⟨A2, c2, rfl, -⟩ := id ho.read
        exact ⟨_, rfl, hN rfl _ _ ((hI.dw hd2).set5 hbi ⟨a2, A2, c2, l2, rfl, ho, hr⟩)⟩
       ·intro s b_ w_ hI hbi hd hq R hR hN
        generalize hA : putAll _ 0 s _ = A
        clear hq
        refine stepG_on rfl ?_
        have hR' := hR rfl (.slice Ap p.length cp) rfl
        clear hR hN hd
        refine opGives_value ?_ hR'
        subst hA
        simp only [dsOf, List.take, List.map_cons, List.map_nil, Option.getD_some, putAll, Act.put, List.setIfInBounds_toArray, List.set_cons_zero, List.set_cons_succ]
        go_simp
      case stores =>
       intro i o h1 h2 ho s b_ w_ hI hbi hd
       match i, h1, h2, ho, hbi, hd with
       | 7, h1, h2, ho, hbi, hd =>
        cases ho
        refine ⟨rfl, ?_⟩
        have b2 : b_ 2 = true := (hd 2 (by decide) (by kernel_rfl)).1
        obtain ⟨a2, A2, c2, l2, e2, -, -⟩ := hI.v2 b2
        obtain ⟨cs, hk0, hf0, -⟩ := hI.r0
        obtain rfl := hf0 hbi
        have c00 : w_.cell? ⟨w.heap.size, 0, none⟩ = some (.int .i64 0) := blk_cell hk0 0
        have c01 : w_.cell? ⟨w.heap.size, 1, none⟩ = some (.slice none 0 0) := blk_cell hk0 1
        have f00 : w_.frozen? ⟨w.heap.size, 0, none⟩ = false := blk_frozen hk0 0
        have f01 : w_.frozen? ⟨w.heap.size, 1, none⟩ = false := blk_frozen hk0 1
        generalize hA : putAll _ 0 s _ = A
        refine ⟨(w_.setCell ⟨w.heap.size, 0, none⟩ (.int .i64 a2)).setCell ⟨w.heap.size, 1, none⟩ (.slice A2 l2.length c2), ?_, ?_⟩
        ·subst hA
         simp only [dsOf, List.take, List.map_cons, List.map_nil, Option.getD_some, putAll, Act.put, List.setIfInBounds_toArray, List.set_cons_zero, List.set_cons_succ]
         clear hd
         go_simp
        ·exact hI.put7 b2 e2 hbi
       | 8, h1, h2, ho, hbi, hd =>
        cases ho
        refine ⟨rfl, ?_⟩
        have b5 : b_ 5 = true := (hd 5 (by decide) (by kernel_rfl)).1
        obtain ⟨a2, A2, c2, l2, e2, -, -⟩ := hI.v5 b5
        obtain ⟨cs, hk0, hf0, -⟩ := hI.r1
        obtain rfl := hf0 hbi
        have c00 : w_.cell? ⟨w.heap.size + 1, 0, none⟩ = some (.int .i64 0) := blk_cell hk0 0
        have c01 : w_.cell? ⟨w.heap.size + 1, 1, none⟩ = some (.slice none 0 0) := blk_cell hk0 1
        have f00 : w_.frozen? ⟨w.heap.size + 1, 0, none⟩ = false := blk_frozen hk0 0
        have f01 : w_.frozen? ⟨w.heap.size + 1, 1, none⟩ = false := blk_frozen hk0 1
        generalize hA : putAll _ 0 s _ = A
        refine ⟨(w_.setCell ⟨w.heap.size + 1, 0, none⟩ (.int .i64 a2)).setCell ⟨w.heap.size + 1, 1, none⟩ (.slice A2 l2.length c2), ?_, ?_⟩
        ·subst hA
         simp only [dsOf, List.take, List.map_cons, List.map_nil, Option.getD_some, putAll, Act.put, List.setIfInBounds_toArray, List.set_cons_zero, List.set_cons_succ]
         clear hd
         go_simp
        ·exact hI.put8 b5 e2 hbi
       | n + 9, h1, h2, ho, hbi, hd => exact absurd h2 (by omega)
      case rest =>
       intro sf b_ wf hI hb hv
       have e6_ : sf 6 = _ := hv 6 (by decide) rfl
       simp only [dsOf, List.take, List.map_cons, List.map_nil, Option.getD_some, putAll, Act.put, List.setIfInBounds_toArray, List.set_cons_zero, List.set_cons_succ]
       clear hv
       obtain ⟨a2, A2, c2, l2, e2, o2, r2⟩ := hI.v2 (hb 2 (by decide))
       obtain ⟨a5, A5, c5, l5, e5, o5, r5⟩ := hI.v5 (hb 5 (by decide))
       obtain ⟨cs0, k0, -, g0⟩ := hI.r0
       obtain ⟨cs1, k1, -, g1⟩ := hI.r1
       obtain rfl : cs0 = #[.int .i64 a2, .slice A2 l2.length c2] := by have h := (g0 (hb 7 (by decide))).symm.trans e2; injection h
       obtain rfl : cs1 = #[.int .i64 a5, .slice A5 l5.length c5] := by have h := (g1 (hb 8 (by decide))).symm.trans e5; injection h
       have HK0 := Aside0.mk k0
       have HK1 := Aside0.mk k1
       have HO2 := Aside0.mk o2
       have HO5 := Aside0.mk o5
       have HR2 := Aside0.mk r2
       have HR5 := Aside0.mk r5
       have HDf := Aside0.mk hI.hD
       have HOp := Aside0.mk hI.op
       rw [e6_]
       clear hb hI e6_ e2 e5 k0 k1 g0 g1 o2 o5 r2 r5
       simp only [List.drop]
       unfold tailList
       refine .inl ?_
       refine opGives_value (v := .slice Ap p.length cp) (w' := wf) ?_ ?_
       ·go_simp
       simp only [List.drop, Act.put, List.setIfInBounds_toArray, List.set_cons_zero, List.set_cons_succ]
       unfold tailList
       go_wp2
       refine bodyPost_ret (results_cct rfl _ _ w.heap.size (w.heap.size + 1) 26 26 #[.int .i64 a2, .slice A2 l2.length c2] #[.int .i64 a5, .slice A5 l5.length c5] (0, 0) (0, 0) _ _ rfl HK0.out Tryz.underlying26 rfl (by kernel_rfl) rfl HK1.out Tryz.underlying26 rfl (by kernel_rfl)) rfl ?_
       exact ⟨a2, a5, _, _, _, l2, l5, p, rfl, HO2.out.lower (b' := w.heap.size) (by omega), HO5.out.lower (b' := w.heap.size) (by omega), HOp.out.lower (b' := w.heap.size) (by omega), HR2.out, HR5.out, HPL.out, HPB.out, HDf.out⟩
set_option maxRecDepth 100000 in
set_option maxHeartbeats 4000000 in
theorem near (bs : Nat) (n : Int) (w : World) (hn0 : 0 ≤ n) (hn : n ≤ 1000) (hs : Src bs w) :
  Calls Tryz.prog 196 #[.pointer (some ⟨bs, 0, none⟩), .int .i64 n] w fun e w' => ∃ r : Int, e = .returned (.int .i64 r) ∧ (-9223372036854775808 ≤ r ∧ r ≤ 9223372036854775807) ∧ Dw bs w w' := by
 have HS := Aside0.mk hs
 have hi : IntKind.i64.wrap (n + 1) = n + 1 := by rw [IntKind.wrap_i64]; omega
 have HI := Aside0.mk hi
 have HN := Aside0.mk (show 0 ≤ n ∧ n ≤ 1000 from ⟨hn0, hn⟩)
 have hmx : Tryz.prog.follows .mixedOrders = true := by kernel_rfl
 clear hs
 go_enter Tryz.func196, Tryz.ntmps196
 go_wp2_with (first | (go_at_call 146; refine Aside0.out ?_))
 refine Aside0.mk ?_
 with_reducible refine (next bs 14 w (by omega) HS.out).mono ?_
 rintro e w2 ⟨q, rfl, -, -, hd⟩
 have HD2 := Aside0.mk hd
 clear hd
 by_cases hq : q = 0
 ·have hq1 : (q == 0) = true := by rw [beq_iff_eq]; exact hq
  clear hq
  obtain ⟨w3, hw3⟩ : ∃ w3, w3 = w2.alloc (.cells #[.int .i64 (-1), .int .i64 (n + 1), .int .i64 1099511627776, .int .i64 (-4611686018427387904)] 2) := ⟨_, rfl⟩
  have hb3 : Below w2.heap.size w2 w3 := by rw [hw3]; exact Below.alloc (Below.refl _ _) (Nat.le_refl _) _
  have hl3 : RdK bs w3 (.slice (some ⟨w2.heap.size, 0, none⟩) 4 4) [-1, n + 1, 1099511627776, -4611686018427387904] := by
   rw [hw3]; exact (lit_own w2 w2.heap.size [-1, n + 1, 1099511627776, -4611686018427387904] (Nat.le_refl _) (by simp)).rdk HD2.out.2.lt
  have HL3 := Aside0.mk hl3
  have HD3 := Aside0.mk (HD2.out.then_below hb3)
  clear hl3 hb3
  go_wp2_with (first | (go_at_call 255; rw [← hw3]; clear hw3; refine Aside0.out ?_))
  refine Aside0.mk ?_
  have HS3 := Aside0.mk HD3.out.2
  with_reducible refine (pick bs _ _ w3 HS3.out HL3.out (by simp) (by simp)).mono ?_
  rintro e w4 ⟨r, rfl, hm, hd⟩
  have HR : Aside0 (-9223372036854775808 ≤ r ∧ r ≤ 9223372036854775807) := ⟨by have := HN.out; simp at hm; omega⟩
  have HD4 := Aside0.mk (HD3.out.trans hd)
  clear hm hd
  go_wp2
  go_ret
  exact ⟨r, rfl, HR.out, HD4.out⟩
 ·have hq1 : (q == 0) = false := by rw [beq_eq_false_iff_ne]; exact hq
  clear hq
  go_wp2_with (first | (go_at_call 146; refine Aside0.out ?_))
  refine Aside0.mk ?_
  have HS2 := Aside0.mk HD2.out.2
  with_reducible refine (next bs (n + 1) w2 (by have := HN.out; omega) HS2.out).mono ?_
  rintro e w3 ⟨r, rfl, -, hr, hd⟩
  have HR : Aside0 (-9223372036854775808 ≤ r ∧ r ≤ 9223372036854775807) := ⟨by have := HN.out; have := hr (by omega); omega⟩
  have HD3 := Aside0.mk (HD2.out.trans hd)
  clear hr hd
  go_wp2
  go_ret
  exact ⟨r, rfl, HR.out, HD3.out⟩
/-- results R not yet written, complexes C in blocks, rows L; all below B -/
structure XS (bs B : Nat) (w : World) (R : List Nat) (C : List (Nat × Int × Value)) (L : List (Value × List Int)) (W : World) : Prop where
 hB : Below w.heap.size w W
 hS : Src bs W
 hr : ∀ k ∈ R, k < bs ∧ w.heap.size ≤ k ∧ W.heap[k]? = some C0
 hc : ∀ c ∈ C, bs < c.1 ∧ c.1 < B ∧ W.heap[c.1]? = some (.cells #[.int .i64 c.2.1, c.2.2] 26)
 hl : ∀ l ∈ L, OwnI (bs + 1) W l.1 l.2 ∧ ∀ j, l.1.ownBlock = some j → j < B
 hbs : w.heap.size ≤ bs
 hbB : bs < B
 hBW : B ≤ W.heap.size
section
variable {bs B : Nat} {w W W' : World} {R : List Nat} {C : List (Nat × Int × Value)} {L : List (Value × List Int)}
theorem XS.dw (h : XS bs B w R C L W) (hd : Dw bs W W') : XS bs B w R C L W' := by
 have h1 := h.hbs
 have h2 := h.hbB
 have h3 := h.hBW
 exact ⟨h.hB.trans (below_grown hd.1 h1 h.hB.size), hd.2, fun k hk => ⟨(h.hr k hk).1, (h.hr k hk).2.1, blk_dw hd (by have := (h.hr k hk).1; omega) (h.hr k hk).2.2⟩,
  fun c hc => ⟨(h.hc c hc).1, (h.hc c hc).2.1, blk_dw hd (by have := (h.hc c hc).1; omega) (h.hc c hc).2.2⟩,
  fun l hl => ⟨(h.hl l hl).1.gm hd.1 (by omega), (h.hl l hl).2⟩, h1, h2, Nat.le_trans h3 hd.1.size⟩
theorem XS.up (h : XS bs B w R C L W) (hb : Below B W W') : XS bs B w R C L W' := by
 have h1 := h.hbs
 have h2 := h.hbB
 have h3 := h.hBW
 refine ⟨h.hB.trans (hb.mono (by omega)), h.hS.up hb h2, fun k hk => ⟨(h.hr k hk).1, (h.hr k hk).2.1, blk_up hb (by have := (h.hr k hk).1; omega) (h.hr k hk).2.2⟩,
  fun c hc => ⟨(h.hc c hc).1, (h.hc c hc).2.1, blk_up hb (h.hc c hc).2.1 (h.hc c hc).2.2⟩, fun l hl => ⟨?_, (h.hl l hl).2⟩, h1, h2, Nat.le_trans h3 hb.size⟩
 obtain ⟨ho, hj⟩ := h.hl l hl
 obtain ⟨h0, inner, h1, hr⟩ := ho
 exact ⟨h0, inner, own_move h1 (fun j hj' => hb.block j (hj j hj')), hr⟩
theorem XS.below (h : XS bs B w R C L W) (hb : Below W.heap.size W W') : XS bs B w R C L W' := h.dw (Dw.of_below h.hS hb)
/-- the bound goes up -/
theorem XS.lift (h : XS bs B w R C L W) : XS bs W.heap.size w R C L W :=
 ⟨h.hB, h.hS, h.hr, fun c hc => ⟨(h.hc c hc).1, Nat.lt_of_lt_of_le (h.hc c hc).2.1 h.hBW, (h.hc c hc).2.2⟩, fun l hl => ⟨(h.hl l hl).1, (h.hl l hl).1.lt⟩, h.hbs, Nat.lt_of_lt_of_le h.hbB h.hBW, Nat.le_refl _⟩
/-- a row more -/
theorem XS.row (h : XS bs B w R C L W) {v : Value} {l : List Int} (hv : OwnI (bs + 1) W v l) : XS bs W.heap.size w R C ((v, l) :: L) W := by
 have h' := h.lift
 refine ⟨h'.hB, h'.hS, h'.hr, h'.hc, fun x hx => ?_, h'.hbs, h'.hbB, h'.hBW⟩
 rcases List.mem_cons.1 hx with rfl | hx
 ·exact ⟨hv, hv.lt⟩
 ·exact h'.hl x hx
/-- a complex more: its block is new -/
theorem XS.alloc (h : XS bs B w R C L W) (a : Int) (z : Value) : XS bs (W.heap.size + 1) w R ((W.heap.size, a, z) :: C) L (W.alloc (.cells #[.int .i64 a, z] 26)) := by
 have hb : Below W.heap.size W (W.alloc (.cells #[.int .i64 a, z] 26)) := Below.alloc (Below.refl _ _) (Nat.le_refl _) _
 have h' := (h.lift).up hb
 have hs : (W.alloc (.cells #[.int .i64 a, z] 26)).heap.size = W.heap.size + 1 := by simp
 refine ⟨h'.hB, h'.hS, h'.hr, fun c hc => ?_, fun l hl => ⟨(h'.hl l hl).1, fun j hj => by have := (h'.hl l hl).2 j hj; omega⟩, h'.hbs, by have := h'.hbB; omega, by omega⟩
 rcases List.mem_cons.1 hc with rfl | hc
 ·exact ⟨by have := h.hbB; have := h.hBW; show bs < W.heap.size; omega, by show W.heap.size < _; omega, heap_alloc_new W _⟩
 ·exact ⟨(h'.hc c hc).1, by have := (h'.hc c hc).2.1; omega, (h'.hc c hc).2.2⟩
/-- a complex is turned -/
theorem XS.put (h : XS bs B w R C L W) {k2 : Nat} {a : Int} {z : Value} (hk : (k2, a, z) ∈ C) (a' : Int) (z' : Value) {C' : List (Nat × Int × Value)} (hC : ∀ c ∈ C', c = (k2, a', z') ∨ (c ∈ C ∧ c.1 ≠ k2)) :
  XS bs B w R C' L ((W.setCell ⟨k2, 0, none⟩ (.int .i64 a')).setCell ⟨k2, 1, none⟩ z') := by
 obtain ⟨h1, h2, h3⟩ := h.hc _ hk
 simp only at h1 h2 h3
 have hb1 := h.hbs
 have hb2 := h.hBW
 have hg : W.grownBy ((W.setCell ⟨k2, 0, none⟩ (.int .i64 a')).setCell ⟨k2, 1, none⟩ z') (some k2) := grown_trans (set_grown' _ k2 _ _) (set_grown' _ k2 _ _)
 have hb : Below k2 W ((W.setCell ⟨k2, 0, none⟩ (.int .i64 a')).setCell ⟨k2, 1, none⟩ z') := below_grown hg (Nat.le_refl _) (by omega)
 refine ⟨h.hB.trans (hb.mono (by omega)), h.hS.up hb h1, fun k hk => ⟨(h.hr k hk).1, (h.hr k hk).2.1, blk_up hb (by have := (h.hr k hk).1; omega) (h.hr k hk).2.2⟩, fun c hc => ?_, fun l hl => ⟨(h.hl l hl).1.grown hg (fun j hj e => own_ne (h.hl l hl).1 h3 (by decide) j hj (Option.some.inj e)), (h.hl l hl).2⟩, hb1, h.hbB, Nat.le_trans hb2 hg.size⟩
 rcases hC c hc with rfl | ⟨hc, hne⟩
 ·refine ⟨h1, h2, ?_⟩
  refine blk_put (cs := #[.int .i64 a', z]) ?_ 1 _ rfl
  exact blk_put (cs := #[.int .i64 a, z]) h3 0 _ rfl
 ·refine ⟨(h.hc c hc).1, (h.hc c hc).2.1, ?_⟩
  rw [hg.block _ (blk_lt (h.hc c hc).2.2) (fun e => hne (Option.some.inj e))]
  exact (h.hc c hc).2.2
/-- fewer rows -/
theorem XS.less (h : XS bs B w R C L W) {L' : List (Value × List Int)} (hL : ∀ l ∈ L', l ∈ L) : XS bs B w R C L' W :=
 ⟨h.hB, h.hS, h.hr, h.hc, fun l hl => h.hl l (hL l hl), h.hbs, h.hbB, h.hBW⟩
theorem XS.cell (h : XS bs B w R C L W) {k : Nat} {a : Int} {z : Value} (hk : (k, a, z) ∈ C) : W.cell? ⟨k, 0, none⟩ = some (.int .i64 a) ∧ W.cell? ⟨k, 1, none⟩ = some z :=
 ⟨blk_cell (h.hc _ hk).2.2 0, blk_cell (h.hc _ hk).2.2 1⟩
theorem XS.own (h : XS bs B w R C L W) {v : Value} {l : List Int} (hv : (v, l) ∈ L) : OwnI (bs + 1) W v l := (h.hl _ hv).1
end
/-- the start: results, a source -/
theorem XS.start {bs : Nat} {w W : World} {R : List Nat} (hB : Below w.heap.size w W) (hS : Src bs W) (hr : ∀ k ∈ R, k < bs ∧ w.heap.size ≤ k ∧ W.heap[k]? = some C0) (hbs : w.heap.size ≤ bs) : XS bs W.heap.size w R [] [] W :=
 ⟨hB, hS, hr, (fun _ hc => by cases hc), (fun _ hl => by cases hl), hbs, hS.lt, Nat.le_refl _⟩
theorem results_cctt {P : Program} {fn : Func} {p p' u u' : Tmp} {ty ty' : TypeId} (h : fn.results = #[.cell p ty, .cell p' ty', .tmp u, .tmp u']) (tmps : Array Value) (w : World) (g g' : Nat) (t t' : TypeId) (cs cs' : Array Value) (fr fr' : Nat × Nat) (d d' : TypeDesc)
  (hp : tmps.getD p undef = .pointer (some ⟨g, 0, none⟩)) (hg : w.heap[g]? = some (.cells cs t fr))
  (hu : P.underlying ty = some d) (hd : (match d with | .struct _ | .array _ _ => true | _ => false) = true) (hi : (P.info? ty).map (·.size) = some cs.size)
  (hp' : tmps.getD p' undef = .pointer (some ⟨g', 0, none⟩)) (hg' : w.heap[g']? = some (.cells cs' t' fr'))
  (hu' : P.underlying ty' = some d') (hd' : (match d' with | .struct _ | .array _ _ => true | _ => false) = true) (hi' : (P.info? ty').map (·.size) = some cs'.size) :
  (results fn tmps).run P w = .ok (.tuple #[.agg cs, .agg cs', tmps.getD u undef, tmps.getD u' undef]) w := by
 have h1 : tmps[p]?.getD undef = .pointer (some ⟨g, 0, none⟩) := by simpa using hp
 have h2 : tmps[p']?.getD undef = .pointer (some ⟨g', 0, none⟩) := by simpa using hp'
 simp [results, h, h1, h2, asAddr, run_loadVar_row w g t ty cs fr d hg hu hd hi, run_loadVar_row w g' t' ty' cs' fr' d' hg' hu' hd' hi']
theorem results_ccctt {P : Program} {fn : Func} {p p' p'' u u' : Tmp} {ty ty' ty'' : TypeId} (h : fn.results = #[.cell p ty, .cell p' ty', .cell p'' ty'', .tmp u, .tmp u']) (tmps : Array Value) (w : World) (g g' g'' : Nat) (t t' t'' : TypeId) (cs cs' cs'' : Array Value) (fr fr' fr'' : Nat × Nat) (d d' d'' : TypeDesc)
  (hp : tmps.getD p undef = .pointer (some ⟨g, 0, none⟩)) (hg : w.heap[g]? = some (.cells cs t fr))
  (hu : P.underlying ty = some d) (hd : (match d with | .struct _ | .array _ _ => true | _ => false) = true) (hi : (P.info? ty).map (·.size) = some cs.size)
  (hp' : tmps.getD p' undef = .pointer (some ⟨g', 0, none⟩)) (hg' : w.heap[g']? = some (.cells cs' t' fr'))
  (hu' : P.underlying ty' = some d') (hd' : (match d' with | .struct _ | .array _ _ => true | _ => false) = true) (hi' : (P.info? ty').map (·.size) = some cs'.size)
  (hp'' : tmps.getD p'' undef = .pointer (some ⟨g'', 0, none⟩)) (hg'' : w.heap[g'']? = some (.cells cs'' t'' fr''))
  (hu'' : P.underlying ty'' = some d'') (hd'' : (match d'' with | .struct _ | .array _ _ => true | _ => false) = true) (hi'' : (P.info? ty'').map (·.size) = some cs''.size) :
  (results fn tmps).run P w = .ok (.tuple #[.agg cs, .agg cs', .agg cs'', tmps.getD u undef, tmps.getD u' undef]) w := by
 have h1 : tmps[p]?.getD undef = .pointer (some ⟨g, 0, none⟩) := by simpa using hp
 have h2 : tmps[p']?.getD undef = .pointer (some ⟨g', 0, none⟩) := by simpa using hp'
 have h3 : tmps[p'']?.getD undef = .pointer (some ⟨g'', 0, none⟩) := by simpa using hp''
 simp [results, h, h1, h2, h3, asAddr, run_loadVar_row w g t ty cs fr d hg hu hd hi, run_loadVar_row w g' t' ty' cs' fr' d' hg' hu' hd' hi', run_loadVar_row w g'' t'' ty'' cs'' fr'' d'' hg'' hu'' hd'' hi'']
end Go.Proofs.YtomofijniefelaaGreat.H

namespace Go.Proofs.YtomofijniefelaaGreat.H
open Go.ChangeShapes Go.WideShapes Go.ChangeAt
open Go.RowKit Go.Proofs.YtomofijniefelaaGreatW.PrintWords Go.Proofs.YtomofijniefelaaGreatW.PrintLast
set_option linter.unusedVariables false
set_option linter.unusedSimpArgs false
set_option maxRecDepth 100000 in
theorem open_code {H : Type} {enc : TypeId × Value → H} {W : World} {base : Nat} {v : Value} {d : DataW H} {p : List MemPlace}
  (hv : Value.okWide Tryz.prog W .any base 22 v) (h : DataW.Trod enc Tryz.prog W 0 (fun _ => true) true 22 v d p) : ∃ n : Nat, ReadY W v n ∧ n ≤ 9223372036854775807 := by
 obtain ⟨a1, len1, cap1, rfl⟩ := okWide_slice Tryz.underlying22 hv
 obtain ⟨fuel, hf⟩ := h
 rcases open_ints Tryz.underlying22 Tryz.underlying5 (by kernel_rfl) hf with ⟨hcs, _⟩ | ⟨x, l, c, zs, hcs, _, hl, hm, hz, _, hcell, hwz⟩
 ·injection hcs with hcs _
  injection hcs with e1 e2 e3
  subst e1 e2 e3
  exact ⟨0, ⟨none, 0, rfl, fun h => absurd h (Nat.lt_irrefl _)⟩, by omega⟩
 ·injection hcs with hcs _
  injection hcs with e1 e2 e3
  subst e1 e2 e3
  refine ⟨len1, ⟨some x, cap1, rfl, fun _ => ⟨x, rfl, fun i hi => ?_⟩⟩, ?_⟩
  ·have hzl : i < zs.length := by simp at hz; omega
   have h1 := hcell i hzl
   have h2 := hwz (zs.getD i 0) (by rw [List.getD_eq_getElem?_getD, List.getElem?_eq_getElem hzl]; exact List.getElem_mem hzl)
   have h3 : 0 ≤ zs.getD i 0 ∧ zs.getD i 0 ≤ 255 := by simpa [Lit.wf, IntKind.min, IntKind.max, IntKind.signed, IntKind.bits] using h2
   refine ⟨(zs.getD i 0).toNat, by omega, ?_⟩
   rw [show (((zs.getD i 0).toNat : Nat) : Int) = zs.getD i 0 by omega]
   exact h1
  ·unfold maxLen at hm
   omega
theorem bigB (v : Value) (n : Nat) (w : World) (hv : ReadY w v n) (hn : n ≤ 9223372036854775807) : Calls Tryz.prog 9 #[v] w fun e w' => e = .returned (.bool (decide (4096 < n))) ∧ Below w.heap.size w w' := by
 obtain ⟨A, c, rfl, -⟩ := id hv
 clear hv
 by_cases h : 4096 < n
 ·have h1 : (4096 : Int) < (n : Int) := by omega
  have HH : Aside0 (decide (4096 < n) = true) := ⟨decide_eq_true h⟩
  clear h
  go_enter Tryz.func9, Tryz.ntmps9
  go_wp2
  go_ret
  exact ⟨by rw [HH.out] <;> simp [h1], Below.refl _ _⟩
 ·have h1 : ¬ (4096 : Int) < (n : Int) := by omega
  have HH : Aside0 (decide (4096 < n) = false) := ⟨decide_eq_false h⟩
  clear h
  go_enter Tryz.func9, Tryz.ntmps9
  go_wp2
  go_ret
  exact ⟨by rw [HH.out] <;> simp [h1], Below.refl _ _⟩
/-- what is read is read behind too -/
theorem Aside0.readc {w w' : World} {v : Value} {xs : List Int} (h : Aside0 (ReadI w v xs)) (hb : Below w.heap.size w w') : Aside0 (ReadI w' v xs) := ⟨ReadI.below h.out hb⟩
theorem Aside0.ready {w w' : World} {v : Value} {n : Nat} (h : Aside0 (ReadY w v n)) (hb : Below w.heap.size w w') : Aside0 (ReadY w' v n) := ⟨ReadY.below h.out hb⟩
end Go.Proofs.YtomofijniefelaaGreat.H

namespace Go.Proofs.YtomofijniefelaaGreat.H
open Go.RowKit Go.Proofs.YtomofijniefelaaGreatW.PrintWords Go.Proofs.YtomofijniefelaaGreatW.PrintLast
set_option linter.unusedVariables false
set_option linter.unusedSimpArgs false
section
variable {w w' : World} {a b c : Int} {u z y : Value}
theorem two_cells (hb : Below ((w.alloc (.cells #[.int .i64 a, u] 26)).alloc (.cells #[.int .i64 b, z] 26)).heap.size ((w.alloc (.cells #[.int .i64 a, u] 26)).alloc (.cells #[.int .i64 b, z] 26)) w') :
  w'.cell? ⟨w.heap.size, 0, none⟩ = some (.int .i64 a) ∧ w'.cell? ⟨w.heap.size, 1, none⟩ = some u ∧ w'.cell? ⟨w.heap.size + 1, 0, none⟩ = some (.int .i64 b) ∧ w'.cell? ⟨w.heap.size + 1, 1, none⟩ = some z ∧ Below w.heap.size w w' :=
 ⟨pw_cell_below hb (by simp), pw_cell_below hb (by simp), pw_cell_below hb (by simp), pw_cell_below hb (by simp), below_unalloc (below_unalloc hb)⟩
theorem three_cells (hb : Below (((w.alloc (.cells #[.int .i64 a, u] 26)).alloc (.cells #[.int .i64 b, z] 26)).alloc (.cells #[.int .i64 c, y] 26)).heap.size (((w.alloc (.cells #[.int .i64 a, u] 26)).alloc (.cells #[.int .i64 b, z] 26)).alloc (.cells #[.int .i64 c, y] 26)) w') :
  w'.cell? ⟨w.heap.size, 0, none⟩ = some (.int .i64 a) ∧ w'.cell? ⟨w.heap.size, 1, none⟩ = some u ∧ w'.cell? ⟨w.heap.size + 1, 0, none⟩ = some (.int .i64 b) ∧ w'.cell? ⟨w.heap.size + 1, 1, none⟩ = some z ∧ w'.cell? ⟨w.heap.size + 2, 0, none⟩ = some (.int .i64 c) ∧ w'.cell? ⟨w.heap.size + 2, 1, none⟩ = some y ∧ Below w.heap.size w w' := by
 obtain ⟨h1, h2, h3, h4, h5⟩ := two_cells (below_unalloc hb)
 have c0 := pw_cell_below hb (new_cell _ _ _ 0 (.int .i64 c) rfl)
 have c1 := pw_cell_below hb (new_cell _ _ _ 1 y rfl)
 rw [World.size_alloc, World.size_alloc] at c0 c1
 exact ⟨h1, h2, h3, h4, c0, c1, h5⟩
end
/-- an answer of FibreOf that a slot holds -/
def Fv (B : Nat) (W : World) (a : Int) (O : List Int) (f : Value → Value) (v : Value) : Prop := ∃ (A : Option Addr) (c : Nat), v = f (.agg #[.int .i64 a, .slice A O.length c]) ∧ OwnI B W (.slice A O.length c) O
abbrev asFib (v : Value) : Value := .tuple #[v, .int .i64 0]
structure FI (w0 : World) (a : Int) (O : List Int) (b : Nat → Bool) (s : Nat → Value) (W : World) : Prop where
 hB : Below w0.heap.size w0 W
 v8 : b 8 = true → Fv w0.heap.size W a O asFib (s 8)
 v9 : b 9 = true → Fv w0.heap.size W a O asFib (s 9)
 v10 : b 10 = true → Fv w0.heap.size W a O id (s 10)
 v12 : b 12 = true → ∃ (k : Nat) (cs : Array Value), s 12 = .pointer (some ⟨k, 0, none⟩) ∧ w0.heap.size ≤ k ∧ W.heap[k]? = some (.cells cs 26) ∧ (b 13 = false → cs = #[.int .i64 0, .slice none 0 0]) ∧ (b 13 = true → s 10 = .agg cs)
 q13 : b 13 = true → b 12 = true ∧ b 10 = true
section
variable {w0 W W' : World} {a : Int} {O : List Int} {b : Nat → Bool} {s : Nat → Value}
theorem Fv.below {B : Nat} {f : Value → Value} {v : Value} (h : Fv B W a O f v) (hb : Below W.heap.size W W') : Fv B W' a O f v := by
 obtain ⟨A, c, e, ho⟩ := h
 exact ⟨A, c, e, ho.below hb⟩
theorem FI.start (hb : ∀ i, b i = false) : FI w0 a O b s w0.drew :=
 ⟨(Below.refl _ _).drew, (fun h => by rw [hb] at h; cases h), (fun h => by rw [hb] at h; cases h), (fun h => by rw [hb] at h; cases h), (fun h => by rw [hb] at h; cases h), (fun h => by rw [hb] at h; cases h)⟩
theorem FI.below (h : FI w0 a O b s W) (hb : Below W.heap.size W W') : FI w0 a O b s W' :=
 ⟨h.hB.trans (hb.mono h.hB.size), fun q => (h.v8 q).below hb, fun q => (h.v9 q).below hb, fun q => (h.v10 q).below hb, fun q => by
  obtain ⟨k, cs, e, h1, h2, h3, h4⟩ := h.v12 q
  exact ⟨k, cs, e, h1, blk_up hb (blk_lt h2) h2, h3, h4⟩, h.q13⟩
/-- a slot that is none of those with a meaning, or one of them that is set -/
theorem FI.set (h : FI w0 a O b s W) {i : Nat} (hbi : i = 12 ∨ i = 10 → b i = false) (v : Value) (h8 : i = 8 → Fv w0.heap.size W a O asFib v) (h9 : i = 9 → Fv w0.heap.size W a O asFib v) (h10 : i = 10 → Fv w0.heap.size W a O id v)
  (h12 : i = 12 → ∃ (k : Nat), v = .pointer (some ⟨k, 0, none⟩) ∧ w0.heap.size ≤ k ∧ W.heap[k]? = some C0) (h13 : i ≠ 13) : FI w0 a O (markU b i) (upd s i v) W := by
 have keep : ∀ {j : Nat} {P : Value → Prop}, (b j = true → P (s j)) → (i = j → P v) → (markU b i) j = true → P ((upd s i v) j) := by
  intro j P h1 h2 hq
  by_cases e : j = i
  ·subst e; rw [upd_self]; exact h2 rfl
  ·rw [upd_ne s v e]; rw [markU_ne b e] at hq; exact h1 hq
 have m13 : (markU b i) 13 = b 13 := markU_ne b (Ne.symm h13)
 have b13 : i = 12 ∨ i = 10 → b 13 = false := fun h0 => by
  cases hc : b 13 with
  | false => rfl
  | true =>
   obtain ⟨h1, h2⟩ := h.q13 hc
   have hbi := hbi h0
   rcases h0 with rfl | rfl
   ·rw [h1] at hbi; cases hbi
   ·rw [h2] at hbi; cases hbi
 refine ⟨h.hB, keep h.v8 h8, keep h.v9 h9, keep h.v10 h10, ?_, ?_⟩
 ·intro hq
  by_cases e : 12 = i
  ·subst e
   obtain ⟨k, e, h1, h2⟩ := h12 rfl
   refine ⟨k, _, by rw [upd_self]; exact e, h1, h2, fun _ => rfl, fun h3 => ?_⟩
   rw [m13, b13 (.inl rfl)] at h3; cases h3
  ·rw [upd_ne s v e]
   rw [markU_ne b e] at hq
   obtain ⟨k, cs, e1, h1, h2, h3, h4⟩ := h.v12 hq
   refine ⟨k, cs, e1, h1, h2, by rw [m13]; exact h3, fun h5 => ?_⟩
   rw [m13] at h5
   by_cases e10 : 10 = i
   ·rw [b13 (.inr e10.symm)] at h5; cases h5
   ·rw [upd_ne s v e10]; exact h4 h5
 ·rw [m13]
  intro hq
  obtain ⟨h1, h2⟩ := h.q13 hq
  have mk : ∀ {j : Nat}, b j = true → (markU b i) j = true := by
   intro j hj
   by_cases e : j = i
   ·subst e; rw [markU_self]
   ·rw [markU_ne b e]; exact hj
  exact ⟨mk h1, mk h2⟩
theorem FI.quiet (h : FI w0 a O b s W) {i : Nat} (hq : (!(i == 8) && !(i == 9) && !(i == 10) && !(i == 12) && !(i == 13)) = true) (v : Value) : FI w0 a O (markU b i) (upd s i v) W := by
 simp only [Bool.and_eq_true, Bool.not_eq_true', beq_eq_false_iff_ne] at hq
 exact h.set (fun e => by rcases e with e | e; exact absurd e hq.1.2; exact absurd e hq.1.1.2) v (fun e => absurd e hq.1.1.1.1) (fun e => absurd e hq.1.1.1.2) (fun e => absurd e hq.1.1.2) (fun e => absurd e hq.1.2) hq.2
theorem FI.put (h : FI w0 a O b s W) (h12 : b 12 = true) (h10 : b 10 = true) (h13 : b 13 = false) {k : Nat} {A : Option Addr} {c : Nat} (e12 : s 12 = .pointer (some ⟨k, 0, none⟩)) (e10 : s 10 = .agg #[.int .i64 a, .slice A O.length c]) :
  FI w0 a O (markU b 13) s ((W.setCell ⟨k, 0, none⟩ (.int .i64 a)).setCell ⟨k, 1, none⟩ (.slice A O.length c)) := by
 obtain ⟨k', cs, e, h1, h2, h3, h4⟩ := h.v12 h12
 rw [e12] at e
 obtain rfl : k = k' := by injection e with e; injection e with e; injection e
 obtain rfl := h3 h13
 have hg : W.grownBy ((W.setCell ⟨k, 0, none⟩ (.int .i64 a)).setCell ⟨k, 1, none⟩ (.slice A O.length c)) (some k) := grown_trans (set_grown' _ k _ _) (set_grown' _ k _ _)
 have own : ∀ {f : Value → Value} {v : Value}, Fv w0.heap.size W a O f v → Fv w0.heap.size ((W.setCell ⟨k, 0, none⟩ (.int .i64 a)).setCell ⟨k, 1, none⟩ (.slice A O.length c)) a O f v := by
  intro f v hv
  obtain ⟨A', c', e, ho⟩ := hv
  exact ⟨A', c', e, ho.grown hg (fun j hj e => own_ne ho h2 (by decide) j hj (Option.some.inj e))⟩
 refine ⟨h.hB.trans (below_grown hg h1 h.hB.size), fun q => own (h.v8 ?_), fun q => own (h.v9 ?_), fun q => own (h.v10 ?_), fun _ => ⟨k, #[.int .i64 a, .slice A O.length c], e12, h1, ?_, fun q => ?_, fun _ => e10⟩, fun _ => ⟨?_, ?_⟩⟩
 ·rw [markU_ne b (by decide)] at q; exact q
 ·rw [markU_ne b (by decide)] at q; exact q
 ·rw [markU_ne b (by decide)] at q; exact q
 ·refine blk_put (cs := #[.int .i64 a, .slice none 0 0]) ?_ 1 _ rfl
  exact blk_put (cs := #[.int .i64 0, .slice none 0 0]) h2 0 _ rfl
 ·rw [markU_self] at q; cases q
 ·rw [markU_ne b (by decide)]; exact h12
 ·rw [markU_ne b (by decide)]; exact h10
end
end Go.Proofs.YtomofijniefelaaGreat.H
