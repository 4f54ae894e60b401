/- A draw of three complexes and two maps: DrawComposeMaps. A draw of a complex and a map into itself: DrawFixedFaces. Tests of lists that the laws make: laws.hasInt, laws.likeInts. Complexes that are alike: laws.complexes5. -/
import Derived.Test.YtomofijniefelaaGreatKFnMaps1
import Derived.Test.YtomofijniefelaaGreatKFnMaps2
import Derived.Test.YtomofijniefelaaGreatKFnMaps3
import Derived.Test.YtomofijniefelaaGreatKFnMaps4
import Derived.Test.YtomofijniefelaaGreatKFnMaps5
import Derived.Test.YtomofijniefelaaGreatKFnMaps6
import Derived.Test.YtomofijniefelaaGreatKFnMaps7
import Derived.Test.YtomofijniefelaaGreatKFnMaps8
import Derived.Test.YtomofijniefelaaGreatKFnMaps9
import Derived.Test.YtomofijniefelaaGreatKFnMaps10
import Derived.Test.YtomofijniefelaaGreatKFnMaps11
import Derived.Test.YtomofijniefelaaGreatKFnMaps12
import Derived.Test.YtomofijniefelaaGreatKFnMaps13
import Derived.Test.YtomofijniefelaaGreatKFnMaps14
import Derived.Test.YtomofijniefelaaGreatKFnMaps15
import Derived.Test.YtomofijniefelaaGreatKFnMaps16
import Derived.Test.YtomofijniefelaaGreatKFnMaps17

namespace Go.Proofs.YtomofijniefelaaGreat.H
open Go.RowKit Go.Proofs.YtomofijniefelaaGreatW.PrintWords Go.Proofs.YtomofijniefelaaGreatW.PrintLast
set_option linter.unusedVariables false
set_option linter.unusedSimpArgs false
/-- a draw of three complexes and two maps, out of a code -/
def ThreeDraw (w : World) (e : Ending) (w' : World) : Prop := ∃ (a b c : Int) (u z y lv rv : Value) (ys zs xs p q : List Int), e = .returned (.tuple #[.agg #[.int .i64 a, u], .agg #[.int .i64 b, z], .agg #[.int .i64 c, y], lv, rv]) ∧ OwnI w.heap.size w' u ys ∧ OwnI w.heap.size w' z zs ∧ OwnI w.heap.size w' y xs ∧ OwnI w.heap.size w' lv p ∧ OwnI w.heap.size w' rv q ∧ Rc a ys ∧ Rc b zs ∧ Rc c xs ∧ p.length ≤ 7 ∧ (∀ x ∈ p, -1 ≤ x ∧ x ≤ 6) ∧ q.length ≤ 7 ∧ (∀ x ∈ q, -1 ≤ x ∧ x ≤ 6) ∧ Below w.heap.size w w'
set_option maxRecDepth 100000 in
set_option maxHeartbeats 8000000 in
theorem drawComposeMaps (v : Value) (nb : Nat) (w : World) (hn : nb ≤ 4096) (hv : ReadY w v nb) : Calls Tryz.prog 23 #[v] w (ThreeDraw w) := by
 obtain ⟨w1, hw1⟩ : ∃ w1, w1 = ((w.alloc C0).alloc C0).alloc C0 := ⟨_, rfl⟩
 have hB : Below w.heap.size w w1 := by rw [hw1]; exact (((Below.refl _ w).alloc (Nat.le_refl _) _).alloc (by simp) _).alloc (by simp; omega) _
 have hsz : w1.heap.size = w.heap.size + 3 := by rw [hw1]; simp
 have hk0 : w1.heap[w.heap.size]? = some C0 := by
  rw [hw1]; exact blk_below (blk_below (heap_alloc_new w _) (Below.alloc (Below.refl _ _) (Nat.le_refl _) _)) (Below.alloc (Below.refl _ _) (Nat.le_refl _) _)
 have hk1 : w1.heap[w.heap.size + 1]? = some C0 := by
  rw [hw1]; have h := heap_alloc_new (w.alloc C0) C0
  rw [World.size_alloc] at h
  exact blk_below h (Below.alloc (Below.refl _ _) (Nat.le_refl _) _)
 have hk2 : w1.heap[w.heap.size + 2]? = some C0 := by
  rw [hw1]; have h := heap_alloc_new ((w.alloc C0).alloc C0) C0
  rw [World.size_alloc, World.size_alloc] at h
  exact h
 have HB1 := Aside0.mk hB
 have HZ := Aside0.mk hsz
 have HK0 := Aside0.mk hk0
 have HK1 := Aside0.mk hk1
 have HK2 := Aside0.mk hk2
 have HFR := Aside0.mk (srcFrom v nb hn w1 (hv.below hB))
 have hmx : Tryz.prog.follows .mixedOrders = true := by kernel_rfl
 clear hv hB hk0 hk1 hk2 hsz
 go_enter Tryz.func23, Tryz.ntmps23
 go_wp2_with (first | (go_at_call 117; rw [← hw1]; clear hw1; refine HFR.out.mono ?_; rintro e w2 ⟨rfl, hs, hb⟩; have HS2 := Aside0.mk hs; have HB2 := Aside0.mk hb; clear hs hb) | (go_at_call 116; refine Aside0.out ?_))
 refine Aside0.mk ?_
 with_reducible refine (drawWith w1.heap.size w2 HS2.out).mono ?_
 rintro e w3 ⟨a, b, u, z, lv, ys, zs, p, rfl, hu, hz, hp, hra, hrb, hpl, hpb, hd⟩
 obtain ⟨Au, cu, rfl, -⟩ := id hu.read
 obtain ⟨Az, cz, rfl, -⟩ := id hz.read
 obtain ⟨Ap, cp, rfl, -⟩ := id hp.read
 obtain ⟨bs, hbs⟩ : ∃ bs, bs = w1.heap.size := ⟨_, rfl⟩
 rw [← hbs] at HS2 hd
 have hz0 := HZ.out
 have hx2 : XS bs w2.heap.size w [w.heap.size, w.heap.size + 1, w.heap.size + 2] [] [] w2 := XS.start (HB1.out.trans (HB2.out.mono HB1.out.size)) HS2.out (fun k hk => by
  simp only [List.mem_cons, List.not_mem_nil, or_false] at hk
  rcases hk with rfl | rfl | rfl
  ·exact ⟨by omega, Nat.le_refl _, blk_up HB2.out (by omega) HK0.out⟩
  ·exact ⟨by omega, by omega, blk_up HB2.out (by omega) HK1.out⟩
  ·exact ⟨by omega, by omega, blk_up HB2.out (by omega) HK2.out⟩) (by omega)
 have hlt := HS2.out.lt
 have hx3 := (((hx2.dw hd).row (hu.lower (b' := bs + 1) hlt)).row (hz.lower (b' := bs + 1) hlt)).row (hp.lower (b' := bs + 1) hlt)
 obtain ⟨w4, hw4⟩ : ∃ w4, w4 = (w3.alloc (.cells #[.int .i64 a, .slice Au ys.length cu] 26)).alloc (.cells #[.int .i64 b, .slice Az zs.length cz] 26) := ⟨_, rfl⟩
 have hx4 := (hx3.alloc a (.slice Au ys.length cu)).alloc b (.slice Az zs.length cz)
 rw [World.size_alloc, ← hw4] at hx4
 obtain ⟨k, hk⟩ : ∃ k, k = w3.heap.size := ⟨_, rfl⟩
 rw [← hk] at hx4
 have HX4 : Aside0 (XS bs (k + 2) w [w.heap.size, w.heap.size + 1, w.heap.size + 2] [(k + 1, b, .slice Az zs.length cz), (k, a, .slice Au ys.length cu)] [(.slice Ap p.length cp, p), (.slice Az zs.length cz, zs), (.slice Au ys.length cu, ys)] w4) := ⟨hx4⟩
 have HRA := Aside0.mk hra
 have HRB := Aside0.mk hrb
 have HPL := Aside0.mk hpl
 have HPB := Aside0.mk hpb
 have HBZ : Aside0 (bs = w.heap.size + 3) := ⟨by omega⟩
 clear hu hz hp hra hrb hpl hpb hd hx2 hx3 hx4 hlt hz0 HS2 HB2 HZ HK0 HK1 HK2 HB1
 go_upto_region 3 with (fail)
 rw [← hw4, ← hk, ← hbs]
 clear hw4 hk hbs
 go_upto_region 4 with (first | (go_at_call 145; refine Aside0.out ?_))
 refine Aside0.mk ?_
 have HS4 := Aside0.mk HX4.out.hS
 with_reducible refine (small bs w4 HS4.out).mono ?_
 rintro e w5 ⟨m, y, xs, rfl, ho, hg, hd⟩
 obtain ⟨Am, cm, rfl, -⟩ := id ho.read
 have HGM := Aside0.mk hg
 obtain ⟨w6, hw6⟩ : ∃ w6, w6 = w5.alloc (.cells #[.int .i64 (m : Int), .slice Am xs.length cm] 26) := ⟨_, rfl⟩
 have hx6 := ((HX4.out.dw hd).row (ho.lower (b' := bs + 1) HS4.out.lt)).alloc (m : Int) (.slice Am xs.length cm)
 obtain ⟨k2, hk2⟩ : ∃ k2, k2 = w5.heap.size := ⟨_, rfl⟩
 rw [← hw6, ← hk2] at hx6
 have HX6 : Aside0 (XS bs (k2 + 1) w [w.heap.size, w.heap.size + 1, w.heap.size + 2] [(k2, (m : Int), .slice Am xs.length cm), (k + 1, b, .slice Az zs.length cz), (k, a, .slice Au ys.length cu)] [(.slice Am xs.length cm, xs), (.slice Ap p.length cp, p), (.slice Az zs.length cz, zs), (.slice Au ys.length cu, ys)] w6) := ⟨hx6⟩
 have HK : Aside0 (bs < k ∧ k + 1 < k2) := ⟨by
  have h1 := (HX4.out.hc (k, a, .slice Au ys.length cu) (by simp)).1
  have h2 := HX4.out.hBW
  have h3 := hd.size
  simp only at h1
  omega⟩
 clear ho hg hd hx6 HX4 HS4
 go_upto_region 4 with (fail)
 rw [← hw6, ← hk2]
 clear hw6 hk2
 go_upto_if 26 with (first | (go_at_call 146; refine Aside0.out ?_))
 refine Aside0.mk ?_
 have HS6 := Aside0.mk HX6.out.hS
 with_reducible refine (next bs 2 w6 (by omega) HS6.out).mono ?_
 rintro e w7 ⟨q, rfl, -, -, hd⟩
 have HX7 := Aside0.mk (HX6.out.dw hd)
 clear hd HS6 HX6
 go_upto_if 26 with (fail)
 go_cut [] (fun wc => ∃ (B m : Nat) (Am : Option Addr) (cm : Nat) (xs : List Int), Aside0 (Gc m xs) ∧ Aside0 (XS bs B w [w.heap.size, w.heap.size + 1, w.heap.size + 2] [(k2, (m : Int), .slice Am xs.length cm), (k + 1, b, .slice Az zs.length cz), (k, a, .slice Au ys.length cu)] [(.slice Am xs.length cm, xs), (.slice Ap p.length cp, p), (.slice Az zs.length cz, zs), (.slice Au ys.length cu, ys)] wc))
 case first =>
  by_cases hq : q = 0
  ·have hq1 : (q == 0) = true := by rw [beq_iff_eq]; exact hq
   clear hq
   go_wp2_with (first | (go_at_call 147; refine Aside0.out ?_))
   refine Aside0.mk ?_
   with_reducible refine (named 4 _ rfl w7).mono ?_
   rintro e w8 ⟨_, v8, rfl, ⟨m8, z8, xs8, rfl, ho, hg⟩, hb⟩
   obtain ⟨A8, c8, rfl, -⟩ := id ho.read
   have hs7 := HX7.out.hS.lt
   have hx8 := (HX7.out.below hb).row (ho.lower (b' := bs + 1) hs7)
   have h11 := (hx8.hc (k2, (m : Int), .slice Am xs.length cm) (by simp)).2.2
   have hkk := HK.out
   have HP := Aside0.mk ((hx8.put (k2 := k2) (a := (m : Int)) (z := .slice Am xs.length cm) (by simp) (m8 : Int) (.slice A8 xs8.length c8) (C' := [(k2, (m8 : Int), .slice A8 xs8.length c8), (k + 1, b, .slice Az zs.length cz), (k, a, .slice Au ys.length cu)]) (fun c hc => by
    simp only [List.mem_cons, List.not_mem_nil, or_false] at hc
    rcases hc with rfl | rfl | rfl
    ·exact .inl rfl
    ·exact .inr ⟨by simp, by simp only; omega⟩
    ·exact .inr ⟨by simp, by simp only; omega⟩)).less (L' := [(.slice A8 xs8.length c8, xs8), (.slice Ap p.length cp, p), (.slice Az zs.length cz, zs), (.slice Au ys.length cu, ys)]) (fun l hl => by
    simp only [List.mem_cons, List.not_mem_nil, or_false] at hl
    rcases hl with rfl | rfl | rfl | rfl <;> simp))
   have c60 := blk_cell h11 0
   have c61 := blk_cell h11 1
   have f60 := blk_frozen h11 0
   have f61 := blk_frozen h11 1
   have HGM8 := Aside0.mk hg
   clear hs7 hx8 h11 hkk ho hg hb
   go_wp2
   go_meet
   case rel => exact ⟨_, m8, A8, c8, xs8, HGM8, HP⟩
  ·have hq1 : (q == 0) = false := by rw [beq_eq_false_iff_ne]; exact hq
   clear hq
   go_wp2
   go_meet
   case rel => exact ⟨_, m, Am, cm, xs, HGM, HX7⟩
 case rest =>
  clear HX7 HGM
  obtain ⟨B0, m, Am, cm, xs, HGM, HX7⟩ := hcut
  generalize wc = w7 at *
  obtain ⟨w8, hw8⟩ : ∃ w8, w8 = w7.alloc (.cells #[] 2) := ⟨_, rfl⟩
  have hb8 : Below w7.heap.size w7 w8 := by rw [hw8]; exact Below.alloc (Below.refl _ _) (Nat.le_refl _) _
  have HO8 : Aside0 (OwnI w7.heap.size w8 (.slice (some ⟨w7.heap.size, 0, none⟩) 0 0) []) := ⟨by rw [hw8]; exact OwnI.empty w7 (Nat.le_refl _)⟩
  have HX8 : Aside0 (XS bs w7.heap.size w [w.heap.size, w.heap.size + 1, w.heap.size + 2] [(k2, (m : Int), .slice Am xs.length cm), (k + 1, b, .slice Az zs.length cz), (k, a, .slice Au ys.length cu)] [(.slice Am xs.length cm, xs), (.slice Ap p.length cp, p), (.slice Az zs.length cz, zs), (.slice Au ys.length cu, ys)] w8) := ⟨HX7.out.lift.up hb8⟩
  clear hb8 HX7
  go_upto_region 7 with (fail)
  rw [← hw8]
  clear hw8
  have c60 := (HX8.out.cell (k := k + 1) (a := b) (z := .slice Az zs.length cz) (by simp)).1
  go_upto_if 34 with (first | (go_at_call 148; refine Aside0.out ?_))
  refine Aside0.mk ?_
  refine (specIn _ _ _ _).mono ?_
  rintro e w9 ⟨rfl, hb⟩
  have HX9 := Aside0.mk (HX8.out.below hb)
  have HO9 := Aside0.mk (HO8.out.below hb)
  clear hb HX8 HO8 c60
  obtain ⟨B, hBq⟩ : ∃ B, B = w7.heap.size := ⟨_, rfl⟩
  go_upto_if 34 with (fail)
  rw [← hBq] at HX9 HO9
  go_cut [12, 13] (fun s12 s13 wc => ∃ (B : Nat) (Aq : Option Addr) (cq : Nat) (q : List Int), s12 = .slice Aq q.length cq ∧ Aside0 (q.length ≤ 7) ∧ Aside0 (∀ x ∈ q, -1 ≤ x ∧ x ≤ 6) ∧ Aside0 (OwnI B wc (.slice Aq q.length cq) q) ∧ Aside0 (XS bs B w [w.heap.size, w.heap.size + 1, w.heap.size + 2] [(k2, (m : Int), .slice Am xs.length cm), (k + 1, b, .slice Az zs.length cz), (k, a, .slice Au ys.length cu)] [(.slice Am xs.length cm, xs), (.slice Ap p.length cp, p), (.slice Az zs.length cz, zs), (.slice Au ys.length cu, ys)] wc))
  case first =>
   by_cases hin : 1 ≤ b ∧ b ≤ 6
   ·rw [show (decide (1 ≤ b) && decide (b ≤ 6)) = true from by simp [hin.1, hin.2]]
    obtain ⟨bn, rfl⟩ : ∃ bn : Nat, b = bn := ⟨b.toNat, by omega⟩
    have hbn6 : bn ≤ 6 := by omega
    have HBN := Aside0.mk hbn6
    have c80 := (HX9.out.cell (k := k + 1) (a := (bn : Int)) (z := .slice Az zs.length cz) (by simp)).1
    have c81 := (HX9.out.cell (k := k + 1) (a := (bn : Int)) (z := .slice Az zs.length cz) (by simp)).2
    have c90 := (HX9.out.cell (k := k2) (a := (m : Int)) (z := .slice Am xs.length cm) (by simp)).1
    have c91 := (HX9.out.cell (k := k2) (a := (m : Int)) (z := .slice Am xs.length cm) (by simp)).2
    clear hin hbn6
    go_wp2_with (first | (go_at_call 149; refine Aside0.out ?_))
    refine Aside0.mk ?_
    have HS9 := Aside0.mk HX9.out.hS
    have hm1 : 1 ≤ m := HGM.out.1
    have hm6 : m ≤ 6 := HGM.out.2.1
    with_reducible refine (drawMap bs bn m HBN.out hm1 hm6 Az Am zs.length cz xs.length cm w9 HS9.out).mono ?_
    rintro e w10 ⟨_, q0, rfl, ho, hql, hqb, hd⟩
    obtain ⟨Aq, cq, rfl, -⟩ := id ho.read
    have hx10 := HX9.out.lift.dw hd
    have hlt9 := HX9.out.lift.hbB
    obtain ⟨B9, hB9⟩ : ∃ B9, B9 = w9.heap.size := ⟨_, rfl⟩
    rw [← hB9] at hx10 ho hlt9
    have HX10 := Aside0.mk hx10
    have HO10 := Aside0.mk ho
    have HQL := Aside0.mk hql
    have HQB := Aside0.mk hqb
    have HB9 := Aside0.mk hlt9
    clear HX9 HO9 HS9 hx10 ho hql hqb hd hB9 hlt9 c80 c81 c90 c91
    go_wp2_with (first | (go_at_call 146; refine Aside0.out ?_))
    refine Aside0.mk ?_
    have HS10 := Aside0.mk HX10.out.hS
    with_reducible refine (next bs 3 w10 (by omega) HS10.out).mono ?_
    rintro e w11 ⟨q3, rfl, -, -, hd⟩
    have HX11 := Aside0.mk (HX10.out.dw hd)
    have HO11 := Aside0.mk (HO10.out.gm hd.1 HB9.out)
    clear hd HS10 HX10 HO10
    by_cases hq : q3 = 0
    ·have hq1 : (q3 == 0) = true := by rw [beq_iff_eq]; exact hq
     clear hq
     go_wp2
     go_loopw [13] (fun s13 wr => ∃ (i : Nat) (L : List Int), s13 = .int .i64 i ∧ i ≤ q0.length ∧ Aside0 (L.length = q0.length) ∧ Aside0 (∀ x ∈ L, -1 ≤ x ∧ x ≤ 6) ∧ Aside0 (OwnI B9 wr (.slice Aq q0.length cq) L) ∧ Aside0 (XS bs B9 w [w.heap.size, w.heap.size + 1, w.heap.size + 2] [(k2, (m : Int), .slice Am xs.length cm), (k + 1, (bn : Int), .slice Az zs.length cz), (k, a, .slice Au ys.length cu)] [(.slice Am xs.length cm, xs), (.slice Ap p.length cp, p), (.slice Az zs.length cz, zs), (.slice Au ys.length cu, ys)] wr)) (fun s13 _ => q0.length - (intOf s13).toNat)
     case atStart => exact ⟨0, q0, rfl, Nat.zero_le _, ⟨rfl⟩, HQB, HO11, HX11⟩
     case round =>
      clear HO11 HX11
      obtain ⟨i, L, rfl, hi, HL, HBD, HO, HX⟩ := hrel
      have hq7 := HQL.out
      by_cases hlt : i < q0.length
      ·have hltI : (i : Int) < (q0.length : Int) := by omega
       have h0I : (0 : Int) < (q0.length : Int) := by omega
       have ho := HO.out
       obtain ⟨g, c, hform, -⟩ := Kd.R_form ho (by have := HL.out; omega)
       injection hform with hf1 hfm hf3
       clear hfm
       subst hf1
       subst hf3
       have HO8 := Aside0.mk ho
       obtain ⟨⟨y0, hcell2⟩, hf2⟩ := OwnI.slot ho (i := i) hlt
       have hc0 := (Kd.R_celln (0 : Int) ho (0 : Int) (by omega) (by omega)).1
       obtain ⟨x0, hx0⟩ : ∃ x0 : Int, x0 = L.getD 0 0 := ⟨_, rfl⟩
       replace hc0 : wr.cell? ⟨g, 0, none⟩ = some (.int .i64 x0) := by rw [hx0]; exact hc0
       have HX0 : Aside0 (-1 ≤ x0 ∧ x0 ≤ 6) := ⟨HBD.out x0 (mem_at (i := 0) (by have := HL.out; omega) hx0.symm)⟩
       clear ho hx0
       go_wp2_with (first | ((with_reducible refine gate_store (t := 2) (p := 53) rfl ?_); refine store_own (w0 := w) rfl (p := 53) rfl rfl i x0 HO8.out ?ha ?hb ?hc ?_; (case ha => omega); (case hb => rfl); (case hc => rfl); intro w12 ho hg hb; have HO12 := Aside0.mk ho; have HB12 := Aside0.mk hb; clear ho hg hb))
       go_roundw
       case rel => exact ⟨i + 1, L.set i x0, by go_num, by omega, ⟨by rw [List.length_set]; exact HL.out⟩, ⟨fun x hx => by
        rcases List.mem_or_eq_of_mem_set hx with h | h
        ·exact HBD.out x h
        ·subst h; exact HX0.out⟩, HO12, ⟨HX.out.up HB12.out⟩⟩
       case measure => simp [intOf]; omega
      ·have hltI : ¬ (i : Int) < (q0.length : Int) := by omega
       go_wp2
       go_meet
       case rel => exact ⟨B9, Aq, cq, L, by rw [HL.out], ⟨by rw [HL.out]; exact HQL.out⟩, HBD, ⟨by rw [HL.out]; exact HO.out⟩, HX⟩
    ·have hq1 : (q3 == 0) = false := by rw [beq_eq_false_iff_ne]; exact hq
     clear hq
     go_wp2
     go_meet
     case rel => exact ⟨B9, Aq, cq, q0, rfl, HQL, HQB, HO11, HX11⟩
   ·rw [show (decide (1 ≤ b) && decide (b ≤ 6)) = false from by simp; omega]
    go_wp2
    go_meet
    case rel => exact ⟨B, some ⟨B, 0, none⟩, 0, [], by rw [hBq]; rfl, ⟨by simp⟩, ⟨by simp⟩, HO9, HX9⟩
  case rest =>
   clear HX9 HO9 hBq
   obtain ⟨B, Aq, cq, q, rfl, HQL, HQB, HO6, HX6⟩ := hcut
   generalize wc = w6 at *
   have hB9 := HX6.out.hbB
   have H5 := Aside0.mk (HX6.out.hc (k, a, .slice Au ys.length cu) (by simp)).2.2
   have H6 := Aside0.mk (HX6.out.hc (k + 1, b, .slice Az zs.length cz) (by simp)).2.2
   have H7 := Aside0.mk (HX6.out.hc (k2, (m : Int), .slice Am xs.length cm) (by simp)).2.2
   have HC := Aside0.mk (HX6.out.hr w.heap.size (by simp)).2.2
   have HC1 := Aside0.mk (HX6.out.hr (w.heap.size + 1) (by simp)).2.2
   have HC2 := Aside0.mk (HX6.out.hr (w.heap.size + 2) (by simp)).2.2
   have hkb : w.heap.size + 3 ≤ k ∧ w.heap.size + 3 ≤ k2 := by have := HK.out; have := HBZ.out; omega
   have HU := Aside0.mk ((HX6.out.own (v := .slice Au ys.length cu) (l := ys) (by simp)).lower (b' := w.heap.size) (by have := HBZ.out; omega))
   have HV2 := Aside0.mk ((HX6.out.own (v := .slice Az zs.length cz) (l := zs) (by simp)).lower (b' := w.heap.size) (by have := HBZ.out; omega))
   have HM3 := Aside0.mk ((HX6.out.own (v := .slice Am xs.length cm) (l := xs) (by simp)).lower (b' := w.heap.size) (by have := HBZ.out; omega))
   have HP := Aside0.mk ((HX6.out.own (v := .slice Ap p.length cp) (l := p) (by simp)).lower (b' := w.heap.size) (by have := HBZ.out; omega))
   have HQ := Aside0.mk (HO6.out.lower (b' := w.heap.size) (by have := HBZ.out; omega))
   have HBw := Aside0.mk HX6.out.hB
   clear HX6 HO6 hB9
   go_upto_region 14 with (fail)
   obtain ⟨L, hL⟩ : ∃ L : List Ent, L = [⟨5, w.heap.size, a, .slice Au ys.length cu⟩, ⟨6, w.heap.size + 1, b, .slice Az zs.length cz⟩, ⟨7, w.heap.size + 2, (m : Int), .slice Am xs.length cm⟩] := ⟨_, rfl⟩
   have hm : ∀ e, e ∈ L ↔ e = ⟨5, w.heap.size, a, .slice Au ys.length cu⟩ ∨ e = ⟨6, w.heap.size + 1, b, .slice Az zs.length cz⟩ ∨ e = ⟨7, w.heap.size + 2, (m : Int), .slice Am xs.length cm⟩ := fun e => by rw [hL]; simp only [List.mem_cons, List.not_mem_nil, or_false]
   have hc0 : ∀ e ∈ L, w6.heap[e.k]? = some C0 := fun e he => by
    rcases (hm e).1 he with rfl | rfl | rfl
    ·exact HC.out
    ·exact HC1.out
    ·exact HC2.out
   have hlo : ∀ e ∈ L, w.heap.size ≤ e.k ∧ e.k < w.heap.size + 3 := fun e he => by
    rcases (hm e).1 he with rfl | rfl | rfl <;> exact ⟨by simp, by simp⟩
   have hu1 : ∀ e ∈ L, ∀ e' ∈ L, e'.k = e.k → e' = e := fun e he e' he' hq => by
    rcases (hm e).1 he with rfl | rfl | rfl <;> rcases (hm e').1 he' with rfl | rfl | rfl <;> first | rfl | (simp at hq)
   have hu2 : ∀ e ∈ L, ∀ e' ∈ L, e'.j = e.j → e' = e := fun e he e' he' hq => by
    rcases (hm e).1 he with rfl | rfl | rfl <;> rcases (hm e').1 he' with rfl | rfl | rfl <;> first | rfl | (simp at hq)
   have HM := Aside0.mk hm
   have HC0 := Aside0.mk hc0
   have HLO := Aside0.mk hlo
   have HU1 := Aside0.mk hu1
   have HU2 := Aside0.mk hu2
   clear hL hm hc0 hlo hu1 hu2
   refine wp_region_x 5 9 8 5 (.slice Ap p.length cp) (by decide) (by decide) (fun i => !(i == 5) && !(i == 6) && !(i == 7)) (fun i => match i with | 0 => fun v => v = .agg #[.int .i64 a, .slice Au ys.length cu] | 1 => fun v => v = .agg #[.int .i64 b, .slice Az zs.length cz] | 2 => fun v => v = .agg #[.int .i64 (m : Int), .slice Am xs.length cm] | 3 => fun v => v = .slice Ap p.length cp | 4 => fun v => v = .slice Aq q.length cq | _ => fun _ => True)
    (fun b _ W => CO w6 L b W) [0, 0, 0, 0, 0, 1, 35, 103, 239, 511] hmx (by kernel_rfl) (by kernel_rfl) ?start ?stay ?early ?steps ?val ?stores ?rest
   case start =>
    intro b s hb
    exact CO.start HC0.out hb
   case stay =>
    intro i b s v w1_ hq hI
    refine hI.quiet (fun e he => ?_)
    simp only [Bool.and_eq_true, Bool.not_eq_true', beq_eq_false_iff_ne, Bool.true_and] at hq
    rcases (HM.out e).1 he with rfl | rfl | rfl <;> first | exact fun h => hq.1 h.symm | exact fun h => hq.2 h.symm | exact fun h => hq.1.1 h.symm | exact fun h => hq.1.2 h.symm | exact fun h => hq h.symm
   case steps =>
    intro x
    refine ⟨?_, ?_, ?_, ?_, ?_, trivial⟩
    ·intro s b_ w_ hI hbi hd hq R hR hN
     generalize hA : putAll _ 0 s _ = A
     clear hq
     refine stepG_on rfl ?_
     have hkb := hI.blk H5.out (fun e he => by have := (HLO.out e he).2; omega)
     have k0 := blk_cell hkb 0
     have k1 := blk_cell hkb 1
     clear hkb
     have hR' := hR rfl (.agg #[.int .i64 a, .slice Au ys.length cu]) rfl
     clear hR hN hd
     refine opGives_value ?_ hR'
     subst hA
     simp only [dsOf, List.take, List.map_cons, List.map_nil, Option.getD_some, putAll, Act.put, List.setIfInBounds_toArray, List.set_cons_zero, List.set_cons_succ]
     go_simp
    ·intro s b_ w_ hI hbi hd hq R hR hN
     generalize hA : putAll _ 0 s _ = A
     clear hq
     refine stepG_on rfl ?_
     have hkb := hI.blk H6.out (fun e he => by have := (HLO.out e he).2; omega)
     have k0 := blk_cell hkb 0
     have k1 := blk_cell hkb 1
     clear hkb
     have hR' := hR rfl (.agg #[.int .i64 b, .slice Az zs.length cz]) rfl
     clear hR hN hd
     refine opGives_value ?_ hR'
     subst hA
     simp only [dsOf, List.take, List.map_cons, List.map_nil, Option.getD_some, putAll, Act.put, List.setIfInBounds_toArray, List.set_cons_zero, List.set_cons_succ]
     go_simp
    ·intro s b_ w_ hI hbi hd hq R hR hN
     generalize hA : putAll _ 0 s _ = A
     clear hq
     refine stepG_on rfl ?_
     have hkb := hI.blk H7.out (fun e he => by have := (HLO.out e he).2; omega)
     have k0 := blk_cell hkb 0
     have k1 := blk_cell hkb 1
     clear hkb
     have hR' := hR rfl (.agg #[.int .i64 (m : Int), .slice Am xs.length cm]) rfl
     clear hR hN hd
     refine opGives_value ?_ hR'
     subst hA
     simp only [dsOf, List.take, List.map_cons, List.map_nil, Option.getD_some, putAll, Act.put, List.setIfInBounds_toArray, List.set_cons_zero, List.set_cons_succ]
     go_simp
    ·intro s b_ w_ hI hbi hd hq R hR hN
     generalize hA : putAll _ 0 s _ = A
     clear hq
     refine stepG_on rfl ?_
     have hR' := hR rfl (.slice Ap p.length cp) rfl
     clear hR hN hd
     refine opGives_value ?_ hR'
     subst hA
     simp only [dsOf, List.take, List.map_cons, List.map_nil, Option.getD_some, putAll, Act.put, List.setIfInBounds_toArray, List.set_cons_zero, List.set_cons_succ]
     go_simp
    ·intro s b_ w_ hI hbi hd hq R hR hN
     generalize hA : putAll _ 0 s _ = A
     clear hq
     refine stepG_on rfl ?_
     have hR' := hR rfl (.slice Aq q.length cq) rfl
     clear hR hN hd
     refine opGives_value ?_ hR'
     subst hA
     simp only [dsOf, List.take, List.map_cons, List.map_nil, Option.getD_some, putAll, Act.put, List.setIfInBounds_toArray, List.set_cons_zero, List.set_cons_succ]
     go_simp
   case early =>
    intro b s w1_ hI
    refine hI.quiet (fun e he => ?_)
    rcases (HM.out e).1 he with rfl | rfl | rfl <;> simp
   case val =>
    intro o ho x s b_ w_ hI hbi hd
    cases ho
    generalize hA : putAll _ 0 s _ = A
    have e3 : s 3 = _ := (hd 3 (by decide) (by kernel_rfl)).2 (by decide) rfl
    refine opGives_value (v := .slice Ap p.length cp) (w' := w_) ?_ ⟨rfl, rfl⟩
    subst hA
    simp only [dsOf, List.take, List.map_cons, List.map_nil, Option.getD_some, putAll, Act.put, List.setIfInBounds_toArray, List.set_cons_zero, List.set_cons_succ]
    go_simp
   case stores =>
    intro i o h1 h2 hne ho x s b_ w_ hI hbi hd
    match i, h1, h2, hne, ho, hbi, hd with
    | 5, h1, h2, hne, ho, hbi, hd =>
     cases ho
     refine ⟨rfl, ?_⟩
     have e0 : s 0 = _ := (hd 0 (by decide) (by kernel_rfl)).2 (by decide) rfl
     have he : (⟨5, w.heap.size, a, .slice Au ys.length cu⟩ : Ent) ∈ L := (HM.out _).2 (by simp)
     have hk := hI.out _ he
     rw [hbi, if_neg (by decide)] at hk
     have c00 : w_.cell? ⟨w.heap.size, 0, none⟩ = some (.int .i64 0) := blk_cell hk 0
     have c01 : w_.cell? ⟨w.heap.size, 1, none⟩ = some (.slice none 0 0) := blk_cell hk 1
     have f00 : w_.frozen? ⟨w.heap.size, 0, none⟩ = false := blk_frozen hk 0
     have f01 : w_.frozen? ⟨w.heap.size, 1, none⟩ = false := blk_frozen hk 1
     generalize hA : putAll _ 0 s _ = A
     refine ⟨(w_.setCell ⟨w.heap.size, 0, none⟩ (.int .i64 a)).setCell ⟨w.heap.size, 1, none⟩ (.slice Au ys.length cu), ?_, ?_⟩
     ·subst hA
      simp only [dsOf, List.take, List.map_cons, List.map_nil, Option.getD_some, putAll, Act.put, List.setIfInBounds_toArray, List.set_cons_zero, List.set_cons_succ]
      clear hd
      go_simp
     ·exact hI.put he hbi (HU1.out _ he) (HU2.out _ he)
    | 6, h1, h2, hne, ho, hbi, hd =>
     cases ho
     refine ⟨rfl, ?_⟩
     have e1 : s 1 = _ := (hd 1 (by decide) (by kernel_rfl)).2 (by decide) rfl
     have he : (⟨6, w.heap.size + 1, b, .slice Az zs.length cz⟩ : Ent) ∈ L := (HM.out _).2 (by simp)
     have hk := hI.out _ he
     rw [hbi, if_neg (by decide)] at hk
     have c00 : w_.cell? ⟨w.heap.size + 1, 0, none⟩ = some (.int .i64 0) := blk_cell hk 0
     have c01 : w_.cell? ⟨w.heap.size + 1, 1, none⟩ = some (.slice none 0 0) := blk_cell hk 1
     have f00 : w_.frozen? ⟨w.heap.size + 1, 0, none⟩ = false := blk_frozen hk 0
     have f01 : w_.frozen? ⟨w.heap.size + 1, 1, none⟩ = false := blk_frozen hk 1
     generalize hA : putAll _ 0 s _ = A
     refine ⟨(w_.setCell ⟨w.heap.size + 1, 0, none⟩ (.int .i64 b)).setCell ⟨w.heap.size + 1, 1, none⟩ (.slice Az zs.length cz), ?_, ?_⟩
     ·subst hA
      simp only [dsOf, List.take, List.map_cons, List.map_nil, Option.getD_some, putAll, Act.put, List.setIfInBounds_toArray, List.set_cons_zero, List.set_cons_succ]
      clear hd
      go_simp
     ·exact hI.put he hbi (HU1.out _ he) (HU2.out _ he)
    | 7, h1, h2, hne, ho, hbi, hd =>
     cases ho
     refine ⟨rfl, ?_⟩
     have e2 : s 2 = _ := (hd 2 (by decide) (by kernel_rfl)).2 (by decide) rfl
     have he : (⟨7, w.heap.size + 2, (m : Int), .slice Am xs.length cm⟩ : Ent) ∈ L := (HM.out _).2 (by simp)
     have hk := hI.out _ he
     rw [hbi, if_neg (by decide)] at hk
     have c00 : w_.cell? ⟨w.heap.size + 2, 0, none⟩ = some (.int .i64 0) := blk_cell hk 0
     have c01 : w_.cell? ⟨w.heap.size + 2, 1, none⟩ = some (.slice none 0 0) := blk_cell hk 1
     have f00 : w_.frozen? ⟨w.heap.size + 2, 0, none⟩ = false := blk_frozen hk 0
     have f01 : w_.frozen? ⟨w.heap.size + 2, 1, none⟩ = false := blk_frozen hk 1
     generalize hA : putAll _ 0 s _ = A
     refine ⟨(w_.setCell ⟨w.heap.size + 2, 0, none⟩ (.int .i64 (m : Int))).setCell ⟨w.heap.size + 2, 1, none⟩ (.slice Am xs.length cm), ?_, ?_⟩
     ·subst hA
      simp only [dsOf, List.take, List.map_cons, List.map_nil, Option.getD_some, putAll, Act.put, List.setIfInBounds_toArray, List.set_cons_zero, List.set_cons_succ]
      clear hd
      go_simp
     ·exact hI.put he hbi (HU1.out _ he) (HU2.out _ he)
    | 8, h1, h2, hne, ho, hbi, hd =>
     exact absurd rfl hne
    | n + 9, h1, h2, hne, ho, hbi, hd => exact absurd h2 (by omega)
   case rest =>
    intro sf b_ wf hI hb hv
    have e0_ : sf 0 = _ := hv 0 (by decide) rfl
    have e1_ : sf 1 = _ := hv 1 (by decide) rfl
    have e2_ : sf 2 = _ := hv 2 (by decide) rfl
    have e3_ : sf 3 = _ := hv 3 (by decide) rfl
    have e4_ : sf 4 = _ := hv 4 (by decide) rfl
    simp only [dsOf, List.take, List.map_cons, List.map_nil, Option.getD_some, putAll, Act.put, List.setIfInBounds_toArray, List.set_cons_zero, List.set_cons_succ]
    clear hv
    have hk5 := hI.out _ ((HM.out ⟨5, w.heap.size, a, .slice Au ys.length cu⟩).2 (by simp))
    rw [hb 5 (by decide), if_pos rfl] at hk5
    have HF5 := Aside0.mk hk5
    clear hk5
    have hk6 := hI.out _ ((HM.out ⟨6, w.heap.size + 1, b, .slice Az zs.length cz⟩).2 (by simp))
    rw [hb 6 (by decide), if_pos rfl] at hk6
    have HF6 := Aside0.mk hk6
    clear hk6
    have hk7 := hI.out _ ((HM.out ⟨7, w.heap.size + 2, (m : Int), .slice Am xs.length cm⟩).2 (by simp))
    rw [hb 7 (by decide), if_pos rfl] at hk7
    have HF7 := Aside0.mk hk7
    clear hk7
    have HCO := Aside0.mk hI
    rw [e3_, e4_]
    clear hb hI e0_ e1_ e2_ e3_ e4_
    simp only [List.drop]
    unfold tailList
    refine .inl ?_
    refine opGives_value (v := .slice Aq q.length cq) (w' := wf) ?_ ?_
    ·go_simp
    simp only [List.drop, Act.put, List.setIfInBounds_toArray, List.set_cons_zero, List.set_cons_succ]
    unfold tailList
    go_wp2
    refine bodyPost_ret (results_ccctt rfl _ _ w.heap.size (w.heap.size + 1) (w.heap.size + 2) 26 26 26 #[.int .i64 a, .slice Au ys.length cu] #[.int .i64 b, .slice Az zs.length cz] #[.int .i64 (m : Int), .slice Am xs.length cm] (0, 0) (0, 0) (0, 0) _ _ _ rfl HF5.out Tryz.underlying26 rfl (by kernel_rfl) rfl HF6.out Tryz.underlying26 rfl (by kernel_rfl) rfl HF7.out Tryz.underlying26 rfl (by kernel_rfl)) rfl ?_
    exact ⟨a, b, (m : Int), .slice Au ys.length cu, .slice Az zs.length cz, .slice Am xs.length cm, .slice Ap p.length cp, .slice Aq q.length cq, ys, zs, xs, p, q, rfl, HCO.out.own HU.out HC0.out, HCO.out.own HV2.out HC0.out, HCO.out.own HM3.out HC0.out, HCO.out.own HP.out HC0.out, HCO.out.own HQ.out HC0.out, HRA.out, HRB.out, HGM.out.rc, HPL.out, HPB.out, HQL.out, HQB.out, HCO.out.below HBw.out HBw.out.size (fun e he => (HLO.out e he).1)⟩
/-- a draw of a complex and a map, out of a code -/
def SelfDraw (w : World) (e : Ending) (w' : World) : Prop := ∃ (a : Int) (u lv : Value) (ys p : List Int), e = .returned (.tuple #[.agg #[.int .i64 a, u], lv]) ∧ OwnI w.heap.size w' u ys ∧ OwnI w.heap.size w' lv p ∧ Rc a ys ∧ p.length ≤ 7 ∧ (∀ x ∈ p, -1 ≤ x ∧ x ≤ 6) ∧ Below w.heap.size w w'
set_option maxRecDepth 100000 in
set_option maxHeartbeats 8000000 in
theorem drawFixedFaces (v : Value) (nb : Nat) (w : World) (hn : nb ≤ 4096) (hv : ReadY w v nb) : Calls Tryz.prog 33 #[v] w (SelfDraw w) := by
 obtain ⟨w1, hw1⟩ : ∃ w1, w1 = w.alloc C0 := ⟨_, rfl⟩
 have hb1 : Below w.heap.size w w1 := by rw [hw1]; exact Below.alloc (Below.refl _ _) (Nat.le_refl _) _
 have HZ : Aside0 (w1.heap.size = w.heap.size + 1) := ⟨by rw [hw1]; simp⟩
 have HK0 : Aside0 (w1.heap[w.heap.size]? = some C0) := ⟨by rw [hw1]; exact blk_new w _⟩
 have HB1 := Aside0.mk hb1
 have HFR := Aside0.mk (srcFrom v nb hn w1 (hv.below hb1))
 have hmx : Tryz.prog.follows .mixedOrders = true := by kernel_rfl
 clear hv hb1
 go_enter Tryz.func33, Tryz.ntmps33
 go_wp2_with (first | (go_at_call 117; rw [← hw1]; clear hw1; refine HFR.out.mono ?_; rintro e w2 ⟨rfl, hs, hb⟩; have HS2 := Aside0.mk hs; have HB2 := Aside0.mk hb; clear hs hb) | (go_at_call 158; refine Aside0.out ?_))
 refine Aside0.mk ?_
 with_reducible refine (draw w1.heap.size w2 HS2.out).mono ?_
 rintro e w3 ⟨_, rfl, ⟨n, z, xs, rfl, ho, hg⟩, hd⟩
 obtain ⟨Az, cz, rfl, -⟩ := id ho.read
 obtain ⟨bs, hbs⟩ : ∃ bs, bs = w1.heap.size := ⟨_, rfl⟩
 rw [← hbs] at HS2 hd
 have hz0 := HZ.out
 have hx2 : XS bs w2.heap.size w [w.heap.size] [] [] w2 := XS.start (HB1.out.trans (HB2.out.mono HB1.out.size)) HS2.out (fun k hk => by
  rw [List.mem_singleton] at hk; subst hk
  exact ⟨by omega, Nat.le_refl _, blk_up HB2.out (by omega) HK0.out⟩) (by omega)
 have hlt := HS2.out.lt
 obtain ⟨w4, hw4⟩ : ∃ w4, w4 = w3.alloc (.cells #[.int .i64 (n : Int), .slice Az xs.length cz] 26) := ⟨_, rfl⟩
 have hx4 := ((hx2.dw hd).row (ho.lower (b' := bs + 1) hlt)).alloc (n : Int) (.slice Az xs.length cz)
 obtain ⟨k, hk⟩ : ∃ k, k = w3.heap.size := ⟨_, rfl⟩
 rw [← hw4, ← hk] at hx4
 have HX4 : Aside0 (XS bs (k + 1) w [w.heap.size] [(k, (n : Int), .slice Az xs.length cz)] [(.slice Az xs.length cz, xs)] w4) := ⟨hx4⟩
 have HG := Aside0.mk hg
 have HBZ : Aside0 (bs = w.heap.size + 1) := ⟨by omega⟩
 clear ho hg hd hx2 hx4 hlt hz0 HS2 HB2 HZ HK0 HB1
 go_upto_region 3 with (fail)
 rw [← hw4, ← hk, ← hbs]
 clear hw4 hk hbs
 have c50 := (HX4.out.cell (k := k) (a := (n : Int)) (z := .slice Az xs.length cz) (by simp)).1
 go_upto_region 4 with (first | (go_at_call 159; refine Aside0.out ?_))
 refine Aside0.mk ?_
 have HS4 := Aside0.mk HX4.out.hS
 have hn6 : n ≤ 6 := HG.out.2.1
 have hn1 : 1 ≤ n := HG.out.1
 with_reducible refine (drawOrder bs n hn6 w4 HS4.out).mono ?_
 rintro e w5 ⟨_, rfl, ⟨p, ho, hpl, hpb⟩, hd⟩
 obtain ⟨Ap, cp, rfl, -⟩ := id ho.read
 have hx5 := HX4.out.lift.dw hd
 obtain ⟨B, hB⟩ : ∃ B, B = w4.heap.size := ⟨_, rfl⟩
 rw [← hB] at hx5 ho
 have HX5 : Aside0 (XS bs B w [w.heap.size] [(k, (n : Int), .slice Az xs.length cz)] [(.slice Az xs.length cz, xs)] w5) := ⟨hx5⟩
 have HO5 := Aside0.mk ho
 have HPL : Aside0 (p.length ≤ 6) := ⟨by omega⟩
 have HPB := Aside0.mk hpb
 clear hd hx5 ho hpl hpb hB HX4 HS4 c50
 go_upto_block 0 with (fail)
 go_cut [6, 7] (fun s6 s7 wc => ∃ (B : Nat) (A : Option Addr) (c : Nat) (p : List Int), s6 = .slice A p.length c ∧ Aside0 (p.length ≤ 7) ∧ Aside0 (∀ x ∈ p, -1 ≤ x ∧ x ≤ 6) ∧ Aside0 (OwnI B wc (.slice A p.length c) p) ∧ Aside0 (XS bs B w [w.heap.size] [(k, (n : Int), .slice Az xs.length cz)] [(.slice Az xs.length cz, xs)] wc))
 case first =>
  go_wp2
  go_loopw [6, 7] (fun s6 s7 wr => ∃ (i B : Nat) (A : Option Addr) (c : Nat) (p : List Int), s7 = .int .i64 i ∧ s6 = .slice A p.length c ∧ i ≤ 30 ∧ Aside0 (p.length ≤ 6) ∧ Aside0 (∀ x ∈ p, 0 ≤ x ∧ x ≤ 5) ∧ Aside0 (OwnI B wr (.slice A p.length c) p) ∧ Aside0 (XS bs B w [w.heap.size] [(k, (n : Int), .slice Az xs.length cz)] [(.slice Az xs.length cz, xs)] wr)) (fun _ s7 _ => 30 - (intOf s7).toNat)
  case atStart => exact ⟨0, B, Ap, cp, p, rfl, rfl, Nat.zero_le _, HPL, HPB, HO5, HX5⟩
  case round =>
   clear HO5 HX5 HPL HPB
   obtain ⟨i, B, Ap, cp, p, rfl, rfl, hi, HPL, HPB, HO, HX⟩ := hrel
   have HPL7 : Aside0 (p.length ≤ 7) := ⟨by have := HPL.out; omega⟩
   have HPB6 : Aside0 (∀ x ∈ p, -1 ≤ x ∧ x ≤ 6) := ⟨fun x hx => by have := HPB.out x hx; omega⟩
   have c50 := (HX.out.cell (k := k) (a := (n : Int)) (z := .slice Az xs.length cz) (by simp)).1
   have c51 := (HX.out.cell (k := k) (a := (n : Int)) (z := .slice Az xs.length cz) (by simp)).2
   by_cases hlt : i < 30
   ·have hltI : (i : Int) < 30 := by omega
    have HRZ := Aside0.mk (HX.out.own (v := .slice Az xs.length cz) (l := xs) (by simp)).read
    cases hsp : simpOk xs xs p with
    | true =>
     go_wp2_with (first | (go_at_call 157; refine (specSimplicialG n n _ _ _ xs xs p _ HRZ.out HRZ.out HO.out.read HG.out.nat HPL.out HPB.out).mono ?_; rw [hsp]; rintro e w11 ⟨rfl, hb⟩; have HX11 := Aside0.mk (HX.out.below hb); have HO11 := Aside0.mk (HO.out.below hb); clear hb))
     go_meet
     case rel => exact ⟨B, Ap, cp, p, rfl, HPL7, HPB6, HO11, HX11⟩
    | false =>
     go_wp2_with (first | (go_at_call 157; refine (specSimplicialG n n _ _ _ xs xs p _ HRZ.out HRZ.out HO.out.read HG.out.nat HPL.out HPB.out).mono ?_; rw [hsp]; rintro e w11 ⟨rfl, hb⟩; have HX11 := Aside0.mk (HX.out.below hb); have HO11 := Aside0.mk (HO.out.below hb); clear hb) | (go_at_call 146; refine Aside0.out ?_))
     refine Aside0.mk ?_
     have HS11 := Aside0.mk HX11.out.hS
     with_reducible refine (next bs 10 w11 (by omega) HS11.out).mono ?_
     rintro e w12 ⟨q3, rfl, -, -, hd⟩
     have HX12 := Aside0.mk (HX11.out.dw hd)
     have HO12 := Aside0.mk (HO11.out.gm hd.1 HX11.out.hbB)
     clear hd HS11 c50 c51
     have c50 := (HX12.out.cell (k := k) (a := (n : Int)) (z := .slice Az xs.length cz) (by simp)).1
     have c51 := (HX12.out.cell (k := k) (a := (n : Int)) (z := .slice Az xs.length cz) (by simp)).2
     by_cases hq3 : 0 < q3
     ·go_wp2_with (first | (go_at_call 149; refine Aside0.out ?_))
      refine Aside0.mk ?_
      have HS12 := Aside0.mk HX12.out.hS
      with_reducible refine (drawMap bs n n hn6 hn1 hn6 Az Az xs.length cz xs.length cz w12 HS12.out).mono ?_
      rintro e w13 ⟨_, p', rfl, ho, hpl, hpb, hd⟩
      obtain ⟨Ap', cp', rfl, -⟩ := id ho.read
      have hx13 := HX12.out.lift.dw hd
      obtain ⟨B', hB'⟩ : ∃ B', B' = w12.heap.size := ⟨_, rfl⟩
      rw [← hB'] at ho hx13
      have HO13 := Aside0.mk ho
      have HX13 : Aside0 (XS bs B' w [w.heap.size] [(k, (n : Int), .slice Az xs.length cz)] [(.slice Az xs.length cz, xs)] w13) := ⟨hx13⟩
      have HPL' := Aside0.mk hpl
      have HPB' := Aside0.mk hpb
      clear ho hpl hpb hd hx13 hB' HS12 c50 c51
      have c50 := (HX13.out.cell (k := k) (a := (n : Int)) (z := .slice Az xs.length cz) (by simp)).1
      have c51 := (HX13.out.cell (k := k) (a := (n : Int)) (z := .slice Az xs.length cz) (by simp)).2
      have HM := Aside0.mk (specMap n n hn6 hn6 (.slice Az xs.length cz) (.slice Az xs.length cz) (.slice Ap' p'.length cp') p' w13 HO13.out.read)
      cases hmp : mapOk n n p' with
      | false =>
       rw [hmp] at HM
       go_wp2_with (first | (go_at_call 156; refine HM.out.mono ?_; rintro e w14 ⟨rfl, hb⟩; have HX14 := Aside0.mk (HX13.out.below hb); have HO14 := Aside0.mk (HO13.out.below hb); clear hb))
       go_meet
       case rel => exact ⟨B', Ap', cp', p', rfl, HPL', HPB', HO14, HX14⟩
      | true =>
       rw [hmp] at HM
       have hmm := mapOk_mp hmp
       have HLEN : Aside0 (p'.length ≤ 6) := ⟨by rw [hmm.len]; exact hn6⟩
       have HBD5 := Aside0.mk (hmm.bd5 hn6)
       clear hmm
       go_wp2_with (first | (go_at_call 156; refine HM.out.mono ?_; rintro e w14 ⟨rfl, hb⟩; have HX14 := Aside0.mk (HX13.out.below hb); have HO14 := Aside0.mk (HO13.out.below hb); clear hb))
       go_roundw
       case rel => exact ⟨i + 1, B', Ap', cp', p', by go_num, rfl, by omega, HLEN, HBD5, HO14, HX14⟩
       case measure => simp [intOf]; omega
     ·go_wp2
      go_meet
      case rel => exact ⟨B, Ap, cp, p, rfl, HPL7, HPB6, HO12, HX12⟩
   ·have hltI : ¬ (i : Int) < 30 := by omega
    go_wp2
    go_meet
    case rel => exact ⟨B, Ap, cp, p, rfl, HPL7, HPB6, HO, HX⟩
 case rest =>
  clear HO5 HX5 HPL HPB
  obtain ⟨B, Ap, cp, p, rfl, HPL, HPB, HO6, HX6⟩ := hcut
  generalize wc = w6 at *
  have c50 := (HX6.out.cell (k := k) (a := (n : Int)) (z := .slice Az xs.length cz) (by simp)).1
  have c51 := (HX6.out.cell (k := k) (a := (n : Int)) (z := .slice Az xs.length cz) (by simp)).2
  have HOZ := Aside0.mk (HX6.out.own (v := .slice Az xs.length cz) (l := xs) (by simp))
  have HSZ : Aside0 (bs < bs + 1 ∧ bs + 1 ≤ w6.heap.size) := ⟨by have := HX6.out.hS.lt; omega⟩
  have HBB := Aside0.mk HX6.out.hbB
  have HS6 := Aside0.mk HX6.out.hS
  go_wp2_with (first | (go_at_call 160; refine Aside0.out ?_))
  refine Aside0.mk ?_
  with_reducible refine (bad bs n (bs + 1) _ xs w6 HS6.out HOZ.out HSZ.out.1 HSZ.out.2 HG.out).mono ?_
  rintro e w9 ⟨_, rfl, ⟨a, u, ys, rfl, ho, hr⟩, hd⟩
  obtain ⟨Au, cu, rfl, -⟩ := id ho.read
  have HX9 := Aside0.mk (HX6.out.dw hd)
  have HP9 := Aside0.mk (HO6.out.gm hd.1 HBB.out)
  have HU9 := Aside0.mk ho
  have HR := Aside0.mk hr
  have hk9 : w9.heap[w.heap.size]? = some C0 := (HX9.out.hr w.heap.size (by simp)).2.2
  have HK9 := Aside0.mk hk9
  have c00 : w9.cell? ⟨w.heap.size, 0, none⟩ = some (.int .i64 0) := blk_cell hk9 0
  have c01 : w9.cell? ⟨w.heap.size, 1, none⟩ = some (.slice none 0 0) := blk_cell hk9 1
  have f00 : w9.frozen? ⟨w.heap.size, 0, none⟩ = false := blk_frozen hk9 0
  have f01 : w9.frozen? ⟨w.heap.size, 1, none⟩ = false := blk_frozen hk9 1
  clear ho hr hd hk9 c50 c51 HX6 HO6 HOZ HS6 HSZ
  go_wp2
  clear c00 c01 f00 f01
  refine bodyPost_ret (results_ct rfl _ _ w.heap.size 26 #[.int .i64 a, .slice Au ys.length cu] (0, 0) _ rfl (by refine blk_put (cs := #[.int .i64 a, .slice none 0 0]) ?_ 1 _ rfl; refine blk_put (cs := #[.int .i64 0, .slice none 0 0]) ?_ 0 _ rfl; exact HK9.out) Tryz.underlying26 rfl (by kernel_rfl)) rfl ?_
  have hbb : Below w.heap.size w9 ((w9.setCell ⟨w.heap.size, 0, none⟩ (Value.int IntKind.i64 a)).setCell ⟨w.heap.size, 1, none⟩ (Value.slice Au ys.length cu)) := ((Below.refl _ _).setCell (by simp) _).setCell (by simp) _
  have hz := HBZ.out
  have hb9 := HBB.out
  have own : ∀ {v : Value} {l : List Int}, OwnI (bs + 1) w9 v l → OwnI w.heap.size ((w9.setCell ⟨w.heap.size, 0, none⟩ (Value.int IntKind.i64 a)).setCell ⟨w.heap.size, 1, none⟩ (Value.slice Au ys.length cu)) v l := by
   intro v l ho
   have hbse := ho.base
   have ho := ho.lower (b' := w.heap.size) (by omega)
   exact (ho.grown (set_grown' _ w.heap.size _ _) (fun j hj e => by have := hbse _ hj; cases e; omega)).grown (set_grown' _ w.heap.size _ _) (fun j hj e => by have := hbse _ hj; cases e; omega)
  exact ⟨a, _, _, ys, p, rfl, own HU9.out, own (HP9.out.lower (b' := bs + 1) (by omega)), HR.out, HPL.out, HPB.out, HX9.out.hB.trans hbb⟩
set_option maxRecDepth 100000 in
set_option maxHeartbeats 2000000 in
theorem hasInt (v : Value) (xs : List Int) (h : Int) (w : World) (hv : ReadI w v xs) (hl : xs.length ≤ 1000000) :
  Calls Tryz.prog 17 #[v, .int .i64 h] w fun e w' => e = .returned (.bool (decide (h ∈ xs))) ∧ Below w.heap.size w w' := by
 have HV := Aside0.mk hv
 have HB := Aside0.mk (Below.refl w.heap.size w)
 obtain ⟨A, c, rfl, -⟩ := id hv
 clear hv
 go_enter Tryz.func17, Tryz.ntmps17
 go_wp2
 go_loopw [5] (fun s5 wr => ∃ i : Nat, s5 = .int .i64 i ∧ i ≤ xs.length ∧ Aside0 (∀ j, j < i → xs.getD j 0 ≠ h) ∧ Aside0 (Below w.heap.size w wr)) (fun s5 _ => xs.length - (intOf s5).toNat)
 case atStart => exact ⟨0, rfl, Nat.zero_le _, ⟨fun j hj => by omega⟩, HB⟩
 case round =>
  obtain ⟨i, rfl, hi, HN, HBr⟩ := hrel
  by_cases hlt : i < xs.length
  ·have hltI : (i : Int) < (xs.length : Int) := by omega
   obtain ⟨A_, c_, e_, -, hr⟩ := HV.out.below HBr.out
   cases e_
   obtain ⟨ad, y, rfl, hcell, HY⟩ := ReadI.get hr hlt
   clear hr
   by_cases hy : y = h
   ·go_wp2
    go_ret
    refine ⟨?_, HBr.out⟩
    have hm : y ∈ xs := mem_at hlt HY.out
    subst hy
    simp [hm]
   ·go_wp2
    go_roundw
    case rel => exact ⟨i + 1, by go_num, by omega, ⟨fun j hj => by
     by_cases hji : j = i
     ·subst hji; rw [HY.out]; exact hy
     ·exact HN.out j (by omega)⟩, HBr⟩
    case measure => simp [intOf]; omega
  ·have hltI : ¬ (i : Int) < (xs.length : Int) := by omega
   go_wp2
   go_ret
   refine ⟨?_, HBr.out⟩
   have hm : h ∉ xs := fun hc => by
    obtain ⟨j, hj⟩ := List.mem_iff_getElem?.1 hc
    exact HN.out j (by have := (List.getElem?_eq_some_iff.1 hj).1; omega) (by rw [List.getD_eq_getElem?_getD, hj]; rfl)
   simp [hm]
set_option maxHeartbeats 1000000 in
theorem likeInts (v u : Value) (xs ys : List Int) (w : World) (hv : ReadI w v xs) (hu : ReadI w u ys) :
  Calls Tryz.prog 22 #[v, u] w fun e w' => e = .returned (.bool (xs == ys)) ∧ Below w.heap.size w w' := by
 obtain ⟨A, c, rfl, hc, hr⟩ := hv
 obtain ⟨A', c', rfl, hc', hr'⟩ := hu
 have hlx := hr.2.1
 have HR := Aside0.mk hr
 have HR' := Aside0.mk hr'
 clear hr hc hr' hc'
 by_cases hl : xs.length = ys.length
 ·have h1 : ((xs.length : Int) != (ys.length : Int)) = false := by simp [hl]
  have HL := Aside0.mk hl
  clear hl
  go_enter Tryz.func22, Tryz.ntmps22
  go_wp2
  go_loopw [5] (fun v wr => ∃ i : Nat, v = .int .i64 i ∧ i ≤ xs.length ∧ Aside0 (xs.take i = ys.take i) ∧ Aside0 (Below w.heap.size w wr)) (fun v _ => xs.length - (intOf v).toNat)
  case atStart => exact ⟨0, rfl, Nat.zero_le _, ⟨rfl⟩, ⟨Below.refl _ _⟩⟩
  case round =>
   obtain ⟨i, rfl, hi, HI, HB2⟩ := hrel
   by_cases hlt : i < xs.length
   ·obtain ⟨ad, x, e1, hcell, HX⟩ := ReadI.get (Kd.C_below HR.out HB2.out) hlt
    cases e1
    have hlt' : (i : Int) < (ys.length : Int) := by have := HL.out; omega
    obtain ⟨ad', y, e1, hcell', HY⟩ := ReadI.get (Kd.C_below HR'.out HB2.out) (i := i) (by have := HL.out; omega)
    cases e1
    cases hq : (x == y) with
    | true =>
     have hq' : (x != y) = false := by rw [bne, hq]; rfl
     have HQ := Aside0.mk hq
     clear hq
     go_wp2
     go_quiet (fail)
     go_wp2
     go_roundw
     case rel => exact ⟨i + 1, by go_num, by omega, ⟨by rw [take_get hlt HX.out, take_get (by omega) HY.out, HI.out, eq_of_beq HQ.out]⟩, ⟨below_drewN HB2.out _⟩⟩
     case measure => simp [intOf]; omega
    | false =>
     have hq' : (x != y) = true := by rw [bne, hq]; rfl
     have HQ := Aside0.mk hq
     clear hq
     go_wp2
     go_quiet (fail)
     go_wp2
     go_ret
     exact ⟨by
      have : (xs == ys) = false := by
       rw [beq_eq_false_iff_ne]
       rintro rfl
       have h3 := HQ.out
       rw [← HX.out, ← HY.out] at h3
       simp at h3
      rw [this]; rfl, below_drewN HB2.out _⟩
   ·have e : i = xs.length := by omega
    have HE := Aside0.mk e
    clear e
    go_wp2
    go_ret
    exact ⟨by
     have h2 := HI.out
     rw [HE.out, List.take_length, HL.out, List.take_length] at h2
     rw [h2]; simp, HB2.out⟩
 ·have h1 : ((xs.length : Int) != (ys.length : Int)) = true := by simp; omega
  go_enter Tryz.func22, Tryz.ntmps22
  go_wp2
  go_ret
  exact ⟨by
   have : (xs == ys) = false := by
    rw [beq_eq_false_iff_ne]
    rintro rfl
    exact hl rfl
   rw [this]; rfl, Below.refl _ _⟩
theorem likeSame (v u : Value) (xs : List Int) (w : World) (hv : ReadI w v xs) (hu : ReadI w u xs) :
  Calls Tryz.prog 22 #[v, u] w fun e w' => e = .returned (.bool true) ∧ Below w.heap.size w w' := by
 refine (likeInts v u xs xs w hv hu).mono ?_
 rintro e w' ⟨rfl, hb⟩
 exact ⟨by rw [beq_self_eq_true], hb⟩
set_option maxHeartbeats 1000000 in
theorem complexes5Same (a : Int) (v u : Value) (xs : List Int) (w : World) (hv : ReadI w v xs) (hu : ReadI w u xs) :
  Calls Tryz.prog 13 #[.agg #[.int .i64 a, v], .agg #[.int .i64 a, u]] w fun e w' => e = .returned (.bool true) ∧ Below w.heap.size w w' := by
 obtain ⟨w1, hw1⟩ : ∃ w1, w1 = (w.alloc (.cells #[.int .i64 a, v] 26)).alloc (.cells #[.int .i64 a, u] 26) := ⟨_, rfl⟩
 have hB : Below w.heap.size w w1 := by rw [hw1]; exact ((Below.refl _ w).alloc (Nat.le_refl _) _).alloc (by simp) _
 have c0 : w1.cell? ⟨w.heap.size, 0, none⟩ = some (.int .i64 a) := by rw [hw1]; simp
 have c1 : w1.cell? ⟨w.heap.size, 1, none⟩ = some v := by rw [hw1]; simp
 have d0 : w1.cell? ⟨w.heap.size + 1, 0, none⟩ = some (.int .i64 a) := by rw [hw1]; simp
 have d1 : w1.cell? ⟨w.heap.size + 1, 1, none⟩ = some u := by rw [hw1]; simp
 obtain ⟨A1, k1, rfl, -⟩ := id hv
 obtain ⟨A2, k2, rfl, -⟩ := id hu
 have HL := Aside0.mk (likeSame _ _ xs w1 (hv.below hB) (hu.below hB))
 have HB := Aside0.mk hB
 clear hv hu hB
 go_enter Tryz.func13, Tryz.ntmps13
 go_upto_region 1 with (fail)
 rw [← hw1]
 clear hw1
 go_wp2_with (first | (go_at_call 22; refine HL.out.mono ?_; rintro e w2 ⟨rfl, hb⟩; have HB2 := Aside0.mk (HB.out.trans (hb.mono HB.out.size)); clear hb))
 go_ret
 exact ⟨rfl, HB2.out⟩
end Go.Proofs.YtomofijniefelaaGreat.H
