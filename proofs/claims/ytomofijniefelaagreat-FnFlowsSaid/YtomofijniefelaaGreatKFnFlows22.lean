/- Pairings drawn: l02DrawOf (printed by gendl.py). Regions that end a draw: a source that is turned, a result block that is written once, the rest as it was. -/
import Derived.Test.YtomofijniefelaaGreatKFnFlows1
import Derived.Test.YtomofijniefelaaGreatKFnFlows2
import Derived.Test.YtomofijniefelaaGreatKFnFlows3
import Derived.Test.YtomofijniefelaaGreatKFnFlows4
import Derived.Test.YtomofijniefelaaGreatKFnFlows5
import Derived.Test.YtomofijniefelaaGreatKFnFlows6
import Derived.Test.YtomofijniefelaaGreatKFnFlows7
import Derived.Test.YtomofijniefelaaGreatKFnFlows8
import Derived.Test.YtomofijniefelaaGreatKFnFlows9
import Derived.Test.YtomofijniefelaaGreatKFnFlows10
import Derived.Test.YtomofijniefelaaGreatKFnFlows11
import Derived.Test.YtomofijniefelaaGreatKFnFlows12
import Derived.Test.YtomofijniefelaaGreatKFnFlows13
import Derived.Test.YtomofijniefelaaGreatKFnFlows14
import Derived.Test.YtomofijniefelaaGreatKFnFlows15
import Derived.Test.YtomofijniefelaaGreatKFnFlows16
import Derived.Test.YtomofijniefelaaGreatKFnFlows17
import Derived.Test.YtomofijniefelaaGreatKFnFlows18
import Derived.Test.YtomofijniefelaaGreatKFnFlows19
import Derived.Test.YtomofijniefelaaGreatKFnFlows20
import Derived.Test.YtomofijniefelaaGreatKFnFlows21

namespace Go.Proofs.YtomofijniefelaaGreat.H
open Go.RowKit Go.Proofs.YtomofijniefelaaGreatW.PrintWords Go.Proofs.YtomofijniefelaaGreatW.PrintLast
set_option linter.unusedVariables false
set_option linter.unusedSimpArgs false
theorem Dw.cell {bs : Nat} {w w' : World} (h : Dw bs w w') {p : Addr} {v : Value} (hne : p.block ≠ bs) (hc : w.cell? p = some v) : w'.cell? p = some v := by
 have hlt := cell_lt hc
 rw [← hc]
 simp only [World.cell?, h.1.block p.block hlt (fun e => hne (Option.some.inj e))]
theorem Dw.src {bs : Nat} {w w' : World} (h : Dw bs w w') : Src bs w' := h.2
theorem OwnP.gm {bs b : Nat} {w w' : World} {v : Value} {ps : List (Int × Int)} (h : OwnP b w v ps) (hg : w.grownBy w' (some bs)) (hb : bs < b) : OwnP b w' v ps :=
 h.grown hg (fun k hk e => by have := h.base k hk; have := Option.some.inj e; omega)
theorem pair_bel (w : World) (x y : Int) : Below w.heap.size w (w.alloc (.cells #[.int .i64 x, .int .i64 y] 72)) := (Below.refl _ w).alloc (Nat.le_refl _) _
theorem fill_len {n : Nat} {xs : List Int} {acc : List (Int × Int)} (hc : Cx n xs) (h : acc.length ≤ 12) : (fillP xs acc).length ≤ 5000 := by
 have h1 := fillTo_len xs acc (allP xs) (allP xs).length
 have h2 := allP_len hc.len
 unfold fillP
 omega
set_option maxRecDepth 100000 in
set_option maxHeartbeats 8000000 in
theorem drawPairs (bs B : Nat) (a : Int) (ku : Value) (xs : List Int) (w : World) (hs : Src bs w) (hk : OwnI B w ku xs) (hbB : bs < B) (hB : B ≤ w.heap.size) :
  Calls Tryz.prog 330 #[.pointer (some ⟨bs, 0, none⟩), cx a ku] w fun e w' => ∃ v ps, e = .returned v ∧ OwnP w.heap.size w' v ps ∧ ps.length ≤ 5000 ∧ Dw bs w w' := by
 have hmx : Tryz.prog.follows .mixedOrders = true := by kernel_rfl
 have HBS := Aside0.mk hs.lt
 have HBB := Aside0.mk hbB
 have HNB : Aside0 (w.heap.size ≠ bs) := ⟨by omega⟩
 obtain ⟨w2, hw2⟩ : ∃ w2, w2 = (w.alloc (.cells #[.int .i64 a, ku] 26)).alloc (.cells #[] 72) := ⟨_, rfl⟩
 have hb2 : Below w.heap.size w w2 := by rw [hw2]; exact ((Below.refl _ w).alloc (Nat.le_refl _) _).alloc (by simp) _
 have c0 : w2.cell? ⟨w.heap.size, 0, none⟩ = some (.int .i64 a) := by rw [hw2]; simp
 have c1 : w2.cell? ⟨w.heap.size, 1, none⟩ = some ku := by rw [hw2]; simp
 have HD2 := Aside0.mk (Dw.of_below hs hb2)
 have HK2 := Aside0.mk (hk.below hb2)
 have HO2 : Aside0 (OwnP w.heap.size w2 (.slice (some ⟨w.heap.size + 1, 0, none⟩) 0 0) []) := ⟨by
  have h := OwnP.empty (b := w.heap.size) (w.alloc (.cells #[.int .i64 a, ku] 26)) (by simp)
  rw [World.size_alloc, ← hw2] at h
  exact h⟩
 obtain ⟨A1, d1, rfl, -⟩ := id hk.read
 clear hs hk hbB hB hb2
 go_enter Tryz.func330, Tryz.ntmps330
 go_wp2_with (first | (go_at_call 155; rw [← hw2]; clear hw2; refine Aside0.out ?_))
 refine Aside0.mk ?_
 with_reducible refine (specIs a _ xs w2 HK2.out.read).mono ?_
 rintro e w3 ⟨rfl, hb⟩
 have HD3 := Aside0.mk (HD2.out.then_below hb)
 have HK3 := Aside0.mk (HK2.out.below hb)
 have HO3 := Aside0.mk (HO2.out.below hb)
 replace c0 := pw_cell_below hb c0
 replace c1 := pw_cell_below hb c1
 clear hb HK2 HO2
 cases hx : cxOk a xs with
 | false =>
  clear hx
  go_wp2
  go_ret
  exact ⟨_, _, rfl, HO3.out, by decide, HD3.out⟩
 | true =>
  obtain ⟨n, rfl, hc⟩ := cxOk_nat hx
  have HC := Aside0.mk hc
  have hxl := hc.len
  clear hx hc
  by_cases hx0 : xs.length = 0
  ·have hx0I : (xs.length : Int) = 0 := by omega
   go_wp2
   go_ret
   exact ⟨_, _, rfl, HO3.out, by decide, HD3.out⟩
  ·have hx0I : ¬ (xs.length : Int) = 0 := by omega
   go_wp2_with (first | (go_at_call 238; refine Aside0.out ?_))
   refine Aside0.mk ?_
   with_reducible refine (specAll2 n _ xs w3 HK3.out.read HC.out).mono ?_
   rintro e w4 ⟨ua, rfl, ho, hb⟩
   have hal := allP_len HC.out.len
   have HBA : Aside0 (bs < w3.heap.size) := ⟨HD3.out.2.lt⟩
   have HA4 := Aside0.mk ho
   have HD4 := Aside0.mk (HD3.out.then_below hb)
   have HK4 := Aside0.mk (HK3.out.below hb)
   have HO4 := Aside0.mk (HO3.out.below hb)
   obtain ⟨A6, d6, rfl, -⟩ := id ho.readQ
   replace c0 := pw_cell_below hb c0
   replace c1 := pw_cell_below hb c1
   clear hb ho HK3 HO3
   obtain ⟨LA, hLA⟩ : ∃ L, L = (allP xs).length := ⟨_, rfl⟩
   rw [← hLA] at HA4 hal ⊢
   have HLA := Aside0.mk hLA
   clear hLA
   go_wp2_with (first | (go_at_call 146; refine Aside0.out ?_))
   refine Aside0.mk ?_
   with_reducible refine (next bs 6 w4 (by decide) HD4.out.src).mono ?_
   rintro e w5 ⟨r0, rfl, h0_, h1_, hd⟩
   have HD5 := Aside0.mk (HD4.out.trans hd)
   have HA5 := Aside0.mk (HA4.out.gm hd.1 HBA.out)
   have HK5 := Aside0.mk (HK4.out.gm hd.1 HBB.out)
   have HO5 := Aside0.mk (HO4.out.gm hd.1 HBS.out)
   replace c0 := hd.cell HNB.out c0
   replace c1 := hd.cell HNB.out c1
   clear hd h0_ h1_ HK4 HO4 HA4
   have c0q := Aside0.mk c0
   have c1q := Aside0.mk c1
   clear c0 c1
   obtain ⟨anyb, hany⟩ : ∃ b, b = (r0 == 0) := ⟨_, rfl⟩
   go_wp2
   rw [← hany]
   clear hany
   cases anyb with
   | true =>
    go_wp2
    go_loopw [5, 8] (fun s5 s8 wr => ∃ (t : Nat) (cur : List (Int × Int)), s8 = .int .i64 t ∧ t ≤ 12 ∧ Aside0 (OwnP w.heap.size wr s5 cur) ∧ Aside0 (cur.length ≤ t) ∧ Aside0 (PsDom cur) ∧ Aside0 (Dw bs w5 wr)) (fun _ s8 _ => 12 - (intOf s8).toNat)
    case atStart => exact ⟨0, [], rfl, Nat.zero_le _, HO5, ⟨Nat.le_refl _⟩, ⟨fun p hp => by cases hp⟩, ⟨Dw.refl HD5.out.2⟩⟩
    case round =>
     obtain ⟨t, cur, rfl, ht, HO, HL, HPD, HDr⟩ := hrel
     have c0 := HDr.out.cell HNB.out c0q.out
     have c1 := HDr.out.cell HNB.out c1q.out
     have HKr := Aside0.mk (HK5.out.gm HDr.out.1 HBB.out)
     have HL12 : Aside0 (cur.length ≤ 12) := ⟨by have := HL.out; omega⟩
     by_cases ht12 : t < 12
     ·have ht12I : (t : Int) < 12 := by omega
      by_cases hl0 : 0 < LA
      ·have hl0I : (0 : Int) < (LA : Int) := by omega
       have HAr := Aside0.mk (HA5.out.gm HDr.out.1 HBA.out)
       obtain ⟨A7, c7, rfl, -⟩ := id HO.out.readQ
       obtain ⟨L7, hL7⟩ : ∃ L, L = cur.length := ⟨_, rfl⟩
       rw [← hL7] at HO ⊢
       clear hL7
       go_wp2_with (first | (go_at_call 146; refine Aside0.out ?_))
       refine Aside0.mk ?_
       with_reducible refine (next bs (LA : Int) wr (by omega) HDr.out.src).mono ?_
       rintro e wx ⟨r, rfl, h0_, h1_, hd⟩
       obtain ⟨hra, hrb⟩ := h1_ (by omega)
       obtain ⟨k, rfl⟩ : ∃ k : Nat, r = k := ⟨r.toNat, by omega⟩
       have hkl : k < LA := by omega
       have HDx := Aside0.mk (HDr.out.trans hd)
       have HOx := Aside0.mk (HO.out.gm hd.1 HBS.out)
       have HKx := Aside0.mk (HKr.out.gm hd.1 HBB.out)
       replace c0 := hd.cell HNB.out c0
       replace c1 := hd.cell HNB.out c1
       obtain ⟨gb, x, y, e6, hxy, hc0, hc1⟩ := ReadP.get (i := k) (by have h := (HAr.out.gm hd.1 HBA.out).read; rw [HLA.out] at h; exact h) (by rw [← HLA.out]; exact hkl)
       cases e6
       have hby := pair_bel wx x y
       obtain ⟨cand, hcand⟩ : ∃ cand, cand = putP cur (insAt cur (x, y)) (x, y) := ⟨_, rfl⟩
       obtain ⟨okb, hok⟩ : ∃ okb, okb = pOk xs cand := ⟨_, rfl⟩
       have HCAND := Aside0.mk hcand
       have HOK := Aside0.mk hok
       have HCL : Aside0 (cand.length ≤ t + 1) := ⟨by rw [hcand, put_len cur (insAt cur (x, y)) _ (insK_le _ _ _)]; have := HL.out; omega⟩
       have HBY := Aside0.mk hby
       have c0y := pw_cell_below hby c0
       have c1y := pw_cell_below hby c1
       clear hd h0_ h1_ hra hrb hcand hok hxy hby HO HKr HAr
       go_wp2_with (first | (go_at_call 242; refine Aside0.out ?_))
       refine Aside0.mk ?_
       refine (specWith n _ xs _ cur x y _ (HKx.out.read.below HBY.out) HC.out (HOx.out.below HBY.out).read (HOx.out.below HBY.out).readQ (Nat.le_trans HL12.out (by decide))).mono ?_
       rintro e w7 ⟨u, rfl, ho, hb⟩
       rw [← HCAND.out] at ho ⊢
       rw [← HOK.out]
       replace hb := HBY.out.trans (hb.mono HBY.out.size)
       have HO7 := Aside0.mk (ho.lower (b' := w.heap.size) (Nat.le_trans (HD5.out.trans HDx.out).size HBY.out.size))
       have HC7 := Aside0.mk (HOx.out.below hb)
       have HD7 := Aside0.mk (HDx.out.then_below hb)
       replace c0 := pw_cell_below hb c0
       replace c1 := pw_cell_below hb c1
       obtain ⟨A8, c8, rfl, -⟩ := id ho.readQ
       obtain ⟨L8, hL8⟩ : ∃ L, L = cand.length := ⟨_, rfl⟩
       rw [← hL8] at HO7 ⊢
       clear ho hb hL8 HBY HOx HKx hc0 hc1 c0y c1y
       have HL1 : Aside0 (cur.length ≤ t + 1) := ⟨by have := HL.out; omega⟩
       cases okb with
       | false =>
        go_wp2
        go_roundw
        case rel => exact ⟨t + 1, cur, by go_num, by omega, HC7, HL1, HPD, HD7⟩
        case measure => simp [intOf]; omega
       | true =>
        have HPN : Aside0 (PsDom cand) := ⟨pOk_dom HC.out HOK.out.symm⟩
        go_wp2
        go_roundw
        case rel => exact ⟨t + 1, cand, by go_num, by omega, HO7, HCL, HPN, HD7⟩
        case measure => simp [intOf]; omega
      ·have hl0I : ¬ (0 : Int) < (LA : Int) := by omega
       obtain ⟨A7, c7, rfl, -⟩ := id HO.out.readQ
       obtain ⟨L7, hL7⟩ : ∃ L, L = cur.length := ⟨_, rfl⟩
       rw [← hL7] at HO ⊢
       clear hL7
       go_wp2_with (first | (go_at_call 146; refine Aside0.out ?_))
       refine Aside0.mk ?_
       with_reducible refine (next bs 4 wr (by decide) HDr.out.src).mono ?_
       rintro e wz ⟨r4, rfl, h0_, h1_, hd⟩
       have hr4 := h1_ (by decide)
       have HDz := Aside0.mk (HDr.out.trans hd)
       have HOz := Aside0.mk (HO.out.gm hd.1 HBS.out)
       have HKz := Aside0.mk (HKr.out.gm hd.1 HBB.out)
       have c0 := hd.cell HNB.out c0
       have c1 := hd.cell HNB.out c1
       clear hd h0_ h1_ HO HKr
       have HL5 : Aside0 (cur.length ≤ 5000) := ⟨by have := HL.out; omega⟩
       by_cases hz0 : r4 = 0
       ·subst hz0
        go_wp2_with (first | (go_at_call 181; refine Aside0.out ?_))
        refine Aside0.mk ?_
        with_reducible refine (specAcyclic _ cur _ HOz.out.read HPD.out).mono ?_
        rintro e w8 ⟨rfl, hb⟩
        have HO8 := Aside0.mk (HOz.out.below hb)
        have HD8 := Aside0.mk (HDz.out.then_below hb)
        have HK8 := Aside0.mk (HKz.out.below hb)
        replace c0 := pw_cell_below hb c0
        replace c1 := pw_cell_below hb c1
        clear hb
        cases hac : acyB cur with
        | false =>
         clear hac
         go_wp2
         go_ret
         exact ⟨_, _, rfl, HO8.out, HL5.out, HD5.out.trans HD8.out⟩
        | true =>
         clear hac
         go_wp2_with (first | (go_at_call 244; refine Aside0.out ?_))
         refine Aside0.mk ?_
         refine (specFill n w.heap.size _ xs _ cur _ HK8.out.read HC.out HO8.out (HD5.out.trans HD8.out).size (Nat.le_trans HL12.out (by decide))).mono ?_
         rintro e w9 ⟨u, rfl, ho, hb⟩
         have HO9 := Aside0.mk ho
         have HD9 := Aside0.mk (HD8.out.then_below hb)
         obtain ⟨A9, c9, rfl, -⟩ := id ho.readQ
         obtain ⟨L9, hL9⟩ : ∃ L, L = (fillP xs cur).length := ⟨_, rfl⟩
         rw [← hL9] at HO9 ⊢
         clear ho hb hL9
         go_wp2
         go_ret
         exact ⟨_, _, rfl, HO9.out, fill_len HC.out HL12.out, HD5.out.trans HD9.out⟩
       ·have hz0b : (r4 == 0) = false := by rw [beq_eq_false_iff_ne]; exact hz0
        by_cases hz1 : r4 = 1
        ·subst hz1
         go_wp2_with (first | (go_at_call 146; refine Aside0.out ?_))
         refine Aside0.mk ?_
         with_reducible refine (next bs 8 wz (by decide) HDz.out.src).mono ?_
         rintro e wy ⟨r8, rfl, h0_, h1_, hd⟩
         have hr8 := h1_ (by decide)
         have HDy := Aside0.mk (HDz.out.trans hd)
         have HOy := Aside0.mk (HOz.out.gm hd.1 HBS.out)
         clear hd h0_ h1_
         by_cases hz8 : r8 = 0
         ·subst hz8
          go_wp2_with (first | (go_at_call 146; refine Aside0.out ?_))
          refine Aside0.mk ?_
          with_reducible refine (next bs 8 wy (by decide) HDy.out.src).mono ?_
          rintro e wu ⟨rx, rfl, h0_, h1_, hd⟩
          have HDu := Aside0.mk (HDy.out.trans hd)
          have HOu := Aside0.mk (HOy.out.gm hd.1 HBS.out)
          clear hd h0_ h1_
          go_wp2_with (first | (go_at_call 146; refine Aside0.out ?_))
          refine Aside0.mk ?_
          with_reducible refine (next bs 8 wu (by decide) HDu.out.src).mono ?_
          rintro e wv ⟨ry, rfl, h0_, h1_, hd⟩
          have HDv := Aside0.mk (HDu.out.trans hd)
          have HOv := Aside0.mk (HOu.out.gm hd.1 HBS.out)
          have hzv := (HD5.out.trans (HDu.out.trans hd)).size
          clear hd h0_ h1_
          go_wp2_with (first | (at_builtin; go_must (refine app_pair (w0 := wv) w.heap.size rfl (.tmp 74) (.tmp 80) rfl _ cur rx ry rfl rfl HOv.out (Below.refl _ _) hzv ?hl ?_; (case hl => (have := HL.out; omega)); intro v1 wp ho hb hg hat; have HOp := Aside0.mk ho; have HBp := Aside0.mk hb; clear ho hb hg hat; obtain ⟨Ap, cp, rfl, -⟩ := id HOp.out.readQ; obtain ⟨Lp, hLp⟩ : ∃ L, L = (cur ++ [(rx, ry)]).length := ⟨_, rfl⟩; rw [← hLp] at HOp ⊢; clear hLp)))
          go_ret
          exact ⟨_, _, rfl, HOp.out, by rw [List.length_append, List.length_singleton]; have := HL12.out; omega, (HD5.out.trans HDv.out).top HBp.out (Nat.le_refl _) HBS.out⟩
         ·have hz8b : (r8 == 0) = false := by rw [beq_eq_false_iff_ne]; exact hz8
          go_wp2
          go_ret
          exact ⟨_, _, rfl, HOy.out, HL5.out, HD5.out.trans HDy.out⟩
        ·have hz1b : (r4 == 1) = false := by rw [beq_eq_false_iff_ne]; exact hz1
         go_wp2
         go_ret
         exact ⟨_, _, rfl, HOz.out, HL5.out, HD5.out.trans HDz.out⟩
     ·have ht12I : ¬ (t : Int) < 12 := by omega
      obtain ⟨A7, c7, rfl, -⟩ := id HO.out.readQ
      obtain ⟨L7, hL7⟩ : ∃ L, L = cur.length := ⟨_, rfl⟩
      rw [← hL7] at HO ⊢
      clear hL7
      go_wp2_with (first | (go_at_call 146; refine Aside0.out ?_))
      refine Aside0.mk ?_
      with_reducible refine (next bs 4 wr (by decide) HDr.out.src).mono ?_
      rintro e wz ⟨r4, rfl, h0_, h1_, hd⟩
      have hr4 := h1_ (by decide)
      have HDz := Aside0.mk (HDr.out.trans hd)
      have HOz := Aside0.mk (HO.out.gm hd.1 HBS.out)
      have HKz := Aside0.mk (HKr.out.gm hd.1 HBB.out)
      have c0 := hd.cell HNB.out c0
      have c1 := hd.cell HNB.out c1
      clear hd h0_ h1_ HO HKr
      have HL5 : Aside0 (cur.length ≤ 5000) := ⟨by have := HL.out; omega⟩
      by_cases hz0 : r4 = 0
      ·subst hz0
       go_wp2_with (first | (go_at_call 181; refine Aside0.out ?_))
       refine Aside0.mk ?_
       with_reducible refine (specAcyclic _ cur _ HOz.out.read HPD.out).mono ?_
       rintro e w8 ⟨rfl, hb⟩
       have HO8 := Aside0.mk (HOz.out.below hb)
       have HD8 := Aside0.mk (HDz.out.then_below hb)
       have HK8 := Aside0.mk (HKz.out.below hb)
       replace c0 := pw_cell_below hb c0
       replace c1 := pw_cell_below hb c1
       clear hb
       cases hac : acyB cur with
       | false =>
        clear hac
        go_wp2
        go_ret
        exact ⟨_, _, rfl, HO8.out, HL5.out, HD5.out.trans HD8.out⟩
       | true =>
        clear hac
        go_wp2_with (first | (go_at_call 244; refine Aside0.out ?_))
        refine Aside0.mk ?_
        refine (specFill n w.heap.size _ xs _ cur _ HK8.out.read HC.out HO8.out (HD5.out.trans HD8.out).size (Nat.le_trans HL12.out (by decide))).mono ?_
        rintro e w9 ⟨u, rfl, ho, hb⟩
        have HO9 := Aside0.mk ho
        have HD9 := Aside0.mk (HD8.out.then_below hb)
        obtain ⟨A9, c9, rfl, -⟩ := id ho.readQ
        obtain ⟨L9, hL9⟩ : ∃ L, L = (fillP xs cur).length := ⟨_, rfl⟩
        rw [← hL9] at HO9 ⊢
        clear ho hb hL9
        go_wp2
        go_ret
        exact ⟨_, _, rfl, HO9.out, fill_len HC.out HL12.out, HD5.out.trans HD9.out⟩
      ·have hz0b : (r4 == 0) = false := by rw [beq_eq_false_iff_ne]; exact hz0
       by_cases hz1 : r4 = 1
       ·subst hz1
        go_wp2_with (first | (go_at_call 146; refine Aside0.out ?_))
        refine Aside0.mk ?_
        with_reducible refine (next bs 8 wz (by decide) HDz.out.src).mono ?_
        rintro e wy ⟨r8, rfl, h0_, h1_, hd⟩
        have hr8 := h1_ (by decide)
        have HDy := Aside0.mk (HDz.out.trans hd)
        have HOy := Aside0.mk (HOz.out.gm hd.1 HBS.out)
        clear hd h0_ h1_
        by_cases hz8 : r8 = 0
        ·subst hz8
         go_wp2_with (first | (go_at_call 146; refine Aside0.out ?_))
         refine Aside0.mk ?_
         with_reducible refine (next bs 8 wy (by decide) HDy.out.src).mono ?_
         rintro e wu ⟨rx, rfl, h0_, h1_, hd⟩
         have HDu := Aside0.mk (HDy.out.trans hd)
         have HOu := Aside0.mk (HOy.out.gm hd.1 HBS.out)
         clear hd h0_ h1_
         go_wp2_with (first | (go_at_call 146; refine Aside0.out ?_))
         refine Aside0.mk ?_
         with_reducible refine (next bs 8 wu (by decide) HDu.out.src).mono ?_
         rintro e wv ⟨ry, rfl, h0_, h1_, hd⟩
         have HDv := Aside0.mk (HDu.out.trans hd)
         have HOv := Aside0.mk (HOu.out.gm hd.1 HBS.out)
         have hzv := (HD5.out.trans (HDu.out.trans hd)).size
         clear hd h0_ h1_
         go_wp2_with (first | (at_builtin; go_must (refine app_pair (w0 := wv) w.heap.size rfl (.tmp 74) (.tmp 80) rfl _ cur rx ry rfl rfl HOv.out (Below.refl _ _) hzv ?hl ?_; (case hl => (have := HL.out; omega)); intro v1 wp ho hb hg hat; have HOp := Aside0.mk ho; have HBp := Aside0.mk hb; clear ho hb hg hat; obtain ⟨Ap, cp, rfl, -⟩ := id HOp.out.readQ; obtain ⟨Lp, hLp⟩ : ∃ L, L = (cur ++ [(rx, ry)]).length := ⟨_, rfl⟩; rw [← hLp] at HOp ⊢; clear hLp)))
         go_ret
         exact ⟨_, _, rfl, HOp.out, by rw [List.length_append, List.length_singleton]; have := HL12.out; omega, (HD5.out.trans HDv.out).top HBp.out (Nat.le_refl _) HBS.out⟩
        ·have hz8b : (r8 == 0) = false := by rw [beq_eq_false_iff_ne]; exact hz8
         go_wp2
         go_ret
         exact ⟨_, _, rfl, HOy.out, HL5.out, HD5.out.trans HDy.out⟩
       ·have hz1b : (r4 == 1) = false := by rw [beq_eq_false_iff_ne]; exact hz1
        go_wp2
        go_ret
        exact ⟨_, _, rfl, HOz.out, HL5.out, HD5.out.trans HDz.out⟩
   | false =>
    go_wp2
    go_loopw [5, 8] (fun s5 s8 wr => ∃ (t : Nat) (cur : List (Int × Int)), s8 = .int .i64 t ∧ t ≤ 12 ∧ Aside0 (OwnP w.heap.size wr s5 cur) ∧ Aside0 (cur.length ≤ t) ∧ Aside0 (PsDom cur) ∧ Aside0 (Dw bs w5 wr)) (fun _ s8 _ => 12 - (intOf s8).toNat)
    case atStart => exact ⟨0, [], rfl, Nat.zero_le _, HO5, ⟨Nat.le_refl _⟩, ⟨fun p hp => by cases hp⟩, ⟨Dw.refl HD5.out.2⟩⟩
    case round =>
     obtain ⟨t, cur, rfl, ht, HO, HL, HPD, HDr⟩ := hrel
     have c0 := HDr.out.cell HNB.out c0q.out
     have c1 := HDr.out.cell HNB.out c1q.out
     have HKr := Aside0.mk (HK5.out.gm HDr.out.1 HBB.out)
     have HL12 : Aside0 (cur.length ≤ 12) := ⟨by have := HL.out; omega⟩
     by_cases ht12 : t < 12
     ·have ht12I : (t : Int) < 12 := by omega
      by_cases hl0 : 0 < LA
      ·have hl0I : (0 : Int) < (LA : Int) := by omega
       have HAr := Aside0.mk (HA5.out.gm HDr.out.1 HBA.out)
       obtain ⟨A7, c7, rfl, -⟩ := id HO.out.readQ
       obtain ⟨L7, hL7⟩ : ∃ L, L = cur.length := ⟨_, rfl⟩
       rw [← hL7] at HO ⊢
       clear hL7
       go_wp2_with (first | (go_at_call 146; refine Aside0.out ?_))
       refine Aside0.mk ?_
       with_reducible refine (next bs (LA : Int) wr (by omega) HDr.out.src).mono ?_
       rintro e wx ⟨r, rfl, h0_, h1_, hd⟩
       obtain ⟨hra, hrb⟩ := h1_ (by omega)
       obtain ⟨k, rfl⟩ : ∃ k : Nat, r = k := ⟨r.toNat, by omega⟩
       have hkl : k < LA := by omega
       have HDx := Aside0.mk (HDr.out.trans hd)
       have HOx := Aside0.mk (HO.out.gm hd.1 HBS.out)
       have HKx := Aside0.mk (HKr.out.gm hd.1 HBB.out)
       replace c0 := hd.cell HNB.out c0
       replace c1 := hd.cell HNB.out c1
       obtain ⟨gb, x, y, e6, hxy, hc0, hc1⟩ := ReadP.get (i := k) (by have h := (HAr.out.gm hd.1 HBA.out).read; rw [HLA.out] at h; exact h) (by rw [← HLA.out]; exact hkl)
       cases e6
       have hby := pair_bel wx x y
       obtain ⟨cand, hcand⟩ : ∃ cand, cand = putP cur (insAt cur (x, y)) (x, y) := ⟨_, rfl⟩
       obtain ⟨okb, hok⟩ : ∃ okb, okb = pOk xs cand := ⟨_, rfl⟩
       have HCAND := Aside0.mk hcand
       have HOK := Aside0.mk hok
       have HCL : Aside0 (cand.length ≤ t + 1) := ⟨by rw [hcand, put_len cur (insAt cur (x, y)) _ (insK_le _ _ _)]; have := HL.out; omega⟩
       have HBY := Aside0.mk hby
       have c0y := pw_cell_below hby c0
       have c1y := pw_cell_below hby c1
       clear hd h0_ h1_ hra hrb hcand hok hxy hby HO HKr HAr
       go_wp2_with (first | (go_at_call 242; refine Aside0.out ?_))
       refine Aside0.mk ?_
       refine (specWith n _ xs _ cur x y _ (HKx.out.read.below HBY.out) HC.out (HOx.out.below HBY.out).read (HOx.out.below HBY.out).readQ (Nat.le_trans HL12.out (by decide))).mono ?_
       rintro e w7 ⟨u, rfl, ho, hb⟩
       rw [← HCAND.out] at ho ⊢
       rw [← HOK.out]
       replace hb := HBY.out.trans (hb.mono HBY.out.size)
       have HO7 := Aside0.mk (ho.lower (b' := w.heap.size) (Nat.le_trans (HD5.out.trans HDx.out).size HBY.out.size))
       have HC7 := Aside0.mk (HOx.out.below hb)
       have HD7 := Aside0.mk (HDx.out.then_below hb)
       replace c0 := pw_cell_below hb c0
       replace c1 := pw_cell_below hb c1
       obtain ⟨A8, c8, rfl, -⟩ := id ho.readQ
       obtain ⟨L8, hL8⟩ : ∃ L, L = cand.length := ⟨_, rfl⟩
       rw [← hL8] at HO7 ⊢
       clear ho hb hL8 HBY HOx HKx hc0 hc1 c0y c1y
       have HL1 : Aside0 (cur.length ≤ t + 1) := ⟨by have := HL.out; omega⟩
       cases okb with
       | false =>
        go_wp2
        go_roundw
        case rel => exact ⟨t + 1, cur, by go_num, by omega, HC7, HL1, HPD, HD7⟩
        case measure => simp [intOf]; omega
       | true =>
        have HPN : Aside0 (PsDom cand) := ⟨pOk_dom HC.out HOK.out.symm⟩
        go_wp2_with (first | (go_at_call 181; refine Aside0.out ?_))
        refine Aside0.mk ?_
        with_reducible refine (specAcyclic _ cand _ HO7.out.read HPN.out).mono ?_
        rintro e w8 ⟨rfl, hb⟩
        have HO8 := Aside0.mk (HO7.out.below hb)
        have HC8 := Aside0.mk (HC7.out.below hb)
        have HD8 := Aside0.mk (HD7.out.then_below hb)
        clear hb
        cases hac : acyB cand with
        | false =>
         clear hac
         go_wp2
         go_roundw
         case rel => exact ⟨t + 1, cur, by go_num, by omega, HC8, HL1, HPD, HD8⟩
         case measure => simp [intOf]; omega
        | true =>
         clear hac
         go_wp2
         go_roundw
         case rel => exact ⟨t + 1, cand, by go_num, by omega, HO8, HCL, HPN, HD8⟩
         case measure => simp [intOf]; omega
      ·have hl0I : ¬ (0 : Int) < (LA : Int) := by omega
       obtain ⟨A7, c7, rfl, -⟩ := id HO.out.readQ
       obtain ⟨L7, hL7⟩ : ∃ L, L = cur.length := ⟨_, rfl⟩
       rw [← hL7] at HO ⊢
       clear hL7
       go_wp2_with (first | (go_at_call 146; refine Aside0.out ?_))
       refine Aside0.mk ?_
       with_reducible refine (next bs 4 wr (by decide) HDr.out.src).mono ?_
       rintro e wz ⟨r4, rfl, h0_, h1_, hd⟩
       have hr4 := h1_ (by decide)
       have HDz := Aside0.mk (HDr.out.trans hd)
       have HOz := Aside0.mk (HO.out.gm hd.1 HBS.out)
       have HKz := Aside0.mk (HKr.out.gm hd.1 HBB.out)
       have c0 := hd.cell HNB.out c0
       have c1 := hd.cell HNB.out c1
       clear hd h0_ h1_ HO HKr
       have HL5 : Aside0 (cur.length ≤ 5000) := ⟨by have := HL.out; omega⟩
       by_cases hz0 : r4 = 0
       ·subst hz0
        go_wp2_with (first | (go_at_call 181; refine Aside0.out ?_))
        refine Aside0.mk ?_
        with_reducible refine (specAcyclic _ cur _ HOz.out.read HPD.out).mono ?_
        rintro e w8 ⟨rfl, hb⟩
        have HO8 := Aside0.mk (HOz.out.below hb)
        have HD8 := Aside0.mk (HDz.out.then_below hb)
        have HK8 := Aside0.mk (HKz.out.below hb)
        replace c0 := pw_cell_below hb c0
        replace c1 := pw_cell_below hb c1
        clear hb
        cases hac : acyB cur with
        | false =>
         clear hac
         go_wp2
         go_ret
         exact ⟨_, _, rfl, HO8.out, HL5.out, HD5.out.trans HD8.out⟩
        | true =>
         clear hac
         go_wp2_with (first | (go_at_call 244; refine Aside0.out ?_))
         refine Aside0.mk ?_
         refine (specFill n w.heap.size _ xs _ cur _ HK8.out.read HC.out HO8.out (HD5.out.trans HD8.out).size (Nat.le_trans HL12.out (by decide))).mono ?_
         rintro e w9 ⟨u, rfl, ho, hb⟩
         have HO9 := Aside0.mk ho
         have HD9 := Aside0.mk (HD8.out.then_below hb)
         obtain ⟨A9, c9, rfl, -⟩ := id ho.readQ
         obtain ⟨L9, hL9⟩ : ∃ L, L = (fillP xs cur).length := ⟨_, rfl⟩
         rw [← hL9] at HO9 ⊢
         clear ho hb hL9
         go_wp2
         go_ret
         exact ⟨_, _, rfl, HO9.out, fill_len HC.out HL12.out, HD5.out.trans HD9.out⟩
       ·have hz0b : (r4 == 0) = false := by rw [beq_eq_false_iff_ne]; exact hz0
        by_cases hz1 : r4 = 1
        ·subst hz1
         go_wp2_with (first | (go_at_call 146; refine Aside0.out ?_))
         refine Aside0.mk ?_
         with_reducible refine (next bs 8 wz (by decide) HDz.out.src).mono ?_
         rintro e wy ⟨r8, rfl, h0_, h1_, hd⟩
         have hr8 := h1_ (by decide)
         have HDy := Aside0.mk (HDz.out.trans hd)
         have HOy := Aside0.mk (HOz.out.gm hd.1 HBS.out)
         clear hd h0_ h1_
         by_cases hz8 : r8 = 0
         ·subst hz8
          go_wp2_with (first | (go_at_call 146; refine Aside0.out ?_))
          refine Aside0.mk ?_
          with_reducible refine (next bs 8 wy (by decide) HDy.out.src).mono ?_
          rintro e wu ⟨rx, rfl, h0_, h1_, hd⟩
          have HDu := Aside0.mk (HDy.out.trans hd)
          have HOu := Aside0.mk (HOy.out.gm hd.1 HBS.out)
          clear hd h0_ h1_
          go_wp2_with (first | (go_at_call 146; refine Aside0.out ?_))
          refine Aside0.mk ?_
          with_reducible refine (next bs 8 wu (by decide) HDu.out.src).mono ?_
          rintro e wv ⟨ry, rfl, h0_, h1_, hd⟩
          have HDv := Aside0.mk (HDu.out.trans hd)
          have HOv := Aside0.mk (HOu.out.gm hd.1 HBS.out)
          have hzv := (HD5.out.trans (HDu.out.trans hd)).size
          clear hd h0_ h1_
          go_wp2_with (first | (at_builtin; go_must (refine app_pair (w0 := wv) w.heap.size rfl (.tmp 74) (.tmp 80) rfl _ cur rx ry rfl rfl HOv.out (Below.refl _ _) hzv ?hl ?_; (case hl => (have := HL.out; omega)); intro v1 wp ho hb hg hat; have HOp := Aside0.mk ho; have HBp := Aside0.mk hb; clear ho hb hg hat; obtain ⟨Ap, cp, rfl, -⟩ := id HOp.out.readQ; obtain ⟨Lp, hLp⟩ : ∃ L, L = (cur ++ [(rx, ry)]).length := ⟨_, rfl⟩; rw [← hLp] at HOp ⊢; clear hLp)))
          go_ret
          exact ⟨_, _, rfl, HOp.out, by rw [List.length_append, List.length_singleton]; have := HL12.out; omega, (HD5.out.trans HDv.out).top HBp.out (Nat.le_refl _) HBS.out⟩
         ·have hz8b : (r8 == 0) = false := by rw [beq_eq_false_iff_ne]; exact hz8
          go_wp2
          go_ret
          exact ⟨_, _, rfl, HOy.out, HL5.out, HD5.out.trans HDy.out⟩
        ·have hz1b : (r4 == 1) = false := by rw [beq_eq_false_iff_ne]; exact hz1
         go_wp2
         go_ret
         exact ⟨_, _, rfl, HOz.out, HL5.out, HD5.out.trans HDz.out⟩
     ·have ht12I : ¬ (t : Int) < 12 := by omega
      obtain ⟨A7, c7, rfl, -⟩ := id HO.out.readQ
      obtain ⟨L7, hL7⟩ : ∃ L, L = cur.length := ⟨_, rfl⟩
      rw [← hL7] at HO ⊢
      clear hL7
      go_wp2_with (first | (go_at_call 146; refine Aside0.out ?_))
      refine Aside0.mk ?_
      with_reducible refine (next bs 4 wr (by decide) HDr.out.src).mono ?_
      rintro e wz ⟨r4, rfl, h0_, h1_, hd⟩
      have hr4 := h1_ (by decide)
      have HDz := Aside0.mk (HDr.out.trans hd)
      have HOz := Aside0.mk (HO.out.gm hd.1 HBS.out)
      have HKz := Aside0.mk (HKr.out.gm hd.1 HBB.out)
      have c0 := hd.cell HNB.out c0
      have c1 := hd.cell HNB.out c1
      clear hd h0_ h1_ HO HKr
      have HL5 : Aside0 (cur.length ≤ 5000) := ⟨by have := HL.out; omega⟩
      by_cases hz0 : r4 = 0
      ·subst hz0
       go_wp2_with (first | (go_at_call 181; refine Aside0.out ?_))
       refine Aside0.mk ?_
       with_reducible refine (specAcyclic _ cur _ HOz.out.read HPD.out).mono ?_
       rintro e w8 ⟨rfl, hb⟩
       have HO8 := Aside0.mk (HOz.out.below hb)
       have HD8 := Aside0.mk (HDz.out.then_below hb)
       have HK8 := Aside0.mk (HKz.out.below hb)
       replace c0 := pw_cell_below hb c0
       replace c1 := pw_cell_below hb c1
       clear hb
       cases hac : acyB cur with
       | false =>
        clear hac
        go_wp2
        go_ret
        exact ⟨_, _, rfl, HO8.out, HL5.out, HD5.out.trans HD8.out⟩
       | true =>
        clear hac
        go_wp2_with (first | (go_at_call 244; refine Aside0.out ?_))
        refine Aside0.mk ?_
        refine (specFill n w.heap.size _ xs _ cur _ HK8.out.read HC.out HO8.out (HD5.out.trans HD8.out).size (Nat.le_trans HL12.out (by decide))).mono ?_
        rintro e w9 ⟨u, rfl, ho, hb⟩
        have HO9 := Aside0.mk ho
        have HD9 := Aside0.mk (HD8.out.then_below hb)
        obtain ⟨A9, c9, rfl, -⟩ := id ho.readQ
        obtain ⟨L9, hL9⟩ : ∃ L, L = (fillP xs cur).length := ⟨_, rfl⟩
        rw [← hL9] at HO9 ⊢
        clear ho hb hL9
        go_wp2
        go_ret
        exact ⟨_, _, rfl, HO9.out, fill_len HC.out HL12.out, HD5.out.trans HD9.out⟩
      ·have hz0b : (r4 == 0) = false := by rw [beq_eq_false_iff_ne]; exact hz0
       by_cases hz1 : r4 = 1
       ·subst hz1
        go_wp2_with (first | (go_at_call 146; refine Aside0.out ?_))
        refine Aside0.mk ?_
        with_reducible refine (next bs 8 wz (by decide) HDz.out.src).mono ?_
        rintro e wy ⟨r8, rfl, h0_, h1_, hd⟩
        have hr8 := h1_ (by decide)
        have HDy := Aside0.mk (HDz.out.trans hd)
        have HOy := Aside0.mk (HOz.out.gm hd.1 HBS.out)
        clear hd h0_ h1_
        by_cases hz8 : r8 = 0
        ·subst hz8
         go_wp2_with (first | (go_at_call 146; refine Aside0.out ?_))
         refine Aside0.mk ?_
         with_reducible refine (next bs 8 wy (by decide) HDy.out.src).mono ?_
         rintro e wu ⟨rx, rfl, h0_, h1_, hd⟩
         have HDu := Aside0.mk (HDy.out.trans hd)
         have HOu := Aside0.mk (HOy.out.gm hd.1 HBS.out)
         clear hd h0_ h1_
         go_wp2_with (first | (go_at_call 146; refine Aside0.out ?_))
         refine Aside0.mk ?_
         with_reducible refine (next bs 8 wu (by decide) HDu.out.src).mono ?_
         rintro e wv ⟨ry, rfl, h0_, h1_, hd⟩
         have HDv := Aside0.mk (HDu.out.trans hd)
         have HOv := Aside0.mk (HOu.out.gm hd.1 HBS.out)
         have hzv := (HD5.out.trans (HDu.out.trans hd)).size
         clear hd h0_ h1_
         go_wp2_with (first | (at_builtin; go_must (refine app_pair (w0 := wv) w.heap.size rfl (.tmp 74) (.tmp 80) rfl _ cur rx ry rfl rfl HOv.out (Below.refl _ _) hzv ?hl ?_; (case hl => (have := HL.out; omega)); intro v1 wp ho hb hg hat; have HOp := Aside0.mk ho; have HBp := Aside0.mk hb; clear ho hb hg hat; obtain ⟨Ap, cp, rfl, -⟩ := id HOp.out.readQ; obtain ⟨Lp, hLp⟩ : ∃ L, L = (cur ++ [(rx, ry)]).length := ⟨_, rfl⟩; rw [← hLp] at HOp ⊢; clear hLp)))
         go_ret
         exact ⟨_, _, rfl, HOp.out, by rw [List.length_append, List.length_singleton]; have := HL12.out; omega, (HD5.out.trans HDv.out).top HBp.out (Nat.le_refl _) HBS.out⟩
        ·have hz8b : (r8 == 0) = false := by rw [beq_eq_false_iff_ne]; exact hz8
         go_wp2
         go_ret
         exact ⟨_, _, rfl, HOy.out, HL5.out, HD5.out.trans HDy.out⟩
       ·have hz1b : (r4 == 1) = false := by rw [beq_eq_false_iff_ne]; exact hz1
        go_wp2
        go_ret
        exact ⟨_, _, rfl, HOz.out, HL5.out, HD5.out.trans HDz.out⟩
structure DI (bs kr js : Nat) (cs : Array Value) (PR : Nat → Value → World → Prop) (w0 : World) (b : Nat → Bool) (s : Nat → Value) (W : World) : Prop where
 src : Src bs W
 bel : Below kr w0 W
 far : ∀ k, k < w0.heap.size → k ≠ bs → k ≠ kr → W.heap[k]? = w0.heap[k]?
 size : w0.heap.size ≤ W.heap.size
 blk : W.heap[kr]? = some (if b js then .cells cs 26 else C0)
 val : ∀ j, b j = true → PR j (s j) W
section
variable {bs kr js : Nat} {cs : Array Value} {PR : Nat → Value → World → Prop} {w0 W W' : World} {b : Nat → Bool} {s : Nat → Value} {a : Int} {z : Value}
theorem DI.start (hs : Src bs w0) (hk : w0.heap[kr]? = some C0) (hb : ∀ i, b i = false) : DI bs kr js cs PR w0 b s w0.drew :=
 ⟨hs.below (Below.refl _ _).drew, (Below.refl _ _).drew, fun _ _ _ _ => rfl, Nat.le_refl _, by rw [hb, if_neg (by decide)]; exact hk, fun j hj => by rw [hb] at hj; cases hj⟩
theorem DI.set (h : DI bs kr js cs PR w0 b s W) {i : Nat} (hi : i ≠ js) {v : Value} (hv : PR i v W) : DI bs kr js cs PR w0 (markU b i) (upd s i v) W := by
 refine ⟨h.src, h.bel, h.far, h.size, by rw [markU_ne b (Ne.symm hi)]; exact h.blk, fun j hj => ?_⟩
 by_cases hji : j = i
 ·subst hji; rw [upd_self]; exact hv
 ·rw [upd_ne s v hji]; rw [markU_ne b hji] at hj; exact h.val j hj
theorem DI.dw (h : DI bs kr js cs PR w0 b s W) (hd : Dw bs W W') (hne : kr < bs) (hst : ∀ j v, PR j v W → PR j v W') : DI bs kr js cs PR w0 b s W' := by
 have hlt := blk_lt h.blk
 refine ⟨hd.2, h.bel.trans (below_grown hd.1 (Nat.le_of_lt hne) (Nat.le_of_lt hlt)), fun k h1 h2 h3 => ?_, Nat.le_trans h.size hd.1.size, ?_, fun j hj => hst j _ (h.val j hj)⟩
 ·rw [hd.1.block k (Nat.lt_of_lt_of_le h1 h.size) (fun e => h2 (Option.some.inj e))]; exact h.far k h1 h2 h3
 ·rw [hd.1.block kr hlt (fun e => by have := Option.some.inj e; omega)]; exact h.blk
theorem DI.put (h : DI bs kr js #[.int .i64 a, z] PR w0 b s W) (hb : b js = false) (hne : kr ≠ bs) (hP : PR js (s js) W) (hst : ∀ W', W.grownBy W' (some kr) → ∀ j v, PR j v W → PR j v W') :
  DI bs kr js #[.int .i64 a, z] PR w0 (markU b js) s ((W.setCell ⟨kr, 0, none⟩ (.int .i64 a)).setCell ⟨kr, 1, none⟩ z) := by
 have hk := h.blk
 rw [hb, if_neg (by decide)] at hk
 have hg : W.grownBy ((W.setCell ⟨kr, 0, none⟩ (.int .i64 a)).setCell ⟨kr, 1, none⟩ z) (some kr) := grown_trans (set_grown' _ kr _ _) (set_grown' _ kr _ _)
 refine ⟨h.src.turn hk hne hg, h.bel.trans (below_grown hg (Nat.le_refl _) (Nat.le_of_lt (blk_lt hk))), fun k h1 h2 h3 => ?_, Nat.le_trans h.size hg.size, ?_, fun j hj => ?_⟩
 ·rw [hg.block k (Nat.lt_of_lt_of_le h1 h.size) (fun e => h3 (Option.some.inj e))]; exact h.far k h1 h2 h3
 ·rw [markU_self, if_pos rfl]
  refine blk_put (cs := #[.int .i64 a, .slice none 0 0]) ?_ 1 _ rfl; refine blk_put (cs := #[.int .i64 0, .slice none 0 0]) ?_ 0 _ rfl; exact hk
 ·by_cases hji : j = js
  ·subst hji; exact hst _ hg _ _ hP
  ·rw [markU_ne b hji] at hj; exact hst _ hg _ _ (h.val j hj)
theorem DI.c0 (h : DI bs kr js cs PR w0 b s W) (hb : b js = false) : W.heap[kr]? = some C0 := by
 have hk := h.blk
 rwa [hb, if_neg (by decide)] at hk
theorem DI.hold (h : DI bs kr js cs PR w0 b s W) {k : Nat} {o : Obj} (hk : w0.heap[k]? = some o) (h1 : k ≠ bs) (h2 : k ≠ kr) : W.heap[k]? = some o := by
 rw [h.far k (blk_lt hk) h1 h2]; exact hk
theorem DI.own (h : DI bs kr js cs PR w0 b s W) {B : Nat} {v : Value} {l : List Int} (ho : OwnI B w0 v l) (h1 : bs < B) (h2 : kr < bs) : OwnI B W v l := by
 have hbs := ho.base
 have hl := ho.lt
 obtain ⟨h0, inner, h3, hr⟩ := ho
 exact ⟨h0, inner, own_move h3 (fun k hk => h.far k (hl k hk) (by have := hbs k hk; omega) (by have := hbs k hk; omega)), hr⟩
theorem DI.ownP (h : DI bs kr js cs PR w0 b s W) {B : Nat} {v : Value} {l : List (Int × Int)} (ho : OwnP B w0 v l) (h1 : bs < B) (h2 : kr < bs) : OwnP B W v l :=
 own_move ho (fun k hk => h.far k (ho.lt k hk) (by have := ho.base k hk; omega) (by have := ho.base k hk; omega))
end
end Go.Proofs.YtomofijniefelaaGreat.H
