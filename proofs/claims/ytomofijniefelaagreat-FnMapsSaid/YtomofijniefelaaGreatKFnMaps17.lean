/- Draws of two complexes, a map and a face: l09DrawOver, DrawFibreOf. Draws of two complexes and two maps: DrawAreContiguous. -/
import Derived.Test.YtomofijniefelaaGreatKFnMaps1
import Derived.Test.YtomofijniefelaaGreatKFnMaps2
import Derived.Test.YtomofijniefelaaGreatKFnMaps3
import Derived.Test.YtomofijniefelaaGreatKFnMaps4
import Derived.Test.YtomofijniefelaaGreatKFnMaps5
import Derived.Test.YtomofijniefelaaGreatKFnMaps6
import Derived.Test.YtomofijniefelaaGreatKFnMaps7
import Derived.Test.YtomofijniefelaaGreatKFnMaps8
import Derived.Test.YtomofijniefelaaGreatKFnMaps9
import Derived.Test.YtomofijniefelaaGreatKFnMaps10
import Derived.Test.YtomofijniefelaaGreatKFnMaps11
import Derived.Test.YtomofijniefelaaGreatKFnMaps12
import Derived.Test.YtomofijniefelaaGreatKFnMaps13
import Derived.Test.YtomofijniefelaaGreatKFnMaps14
import Derived.Test.YtomofijniefelaaGreatKFnMaps15
import Derived.Test.YtomofijniefelaaGreatKFnMaps16

namespace Go.Proofs.YtomofijniefelaaGreat.H
open Go.RowKit Go.Proofs.YtomofijniefelaaGreatW.PrintWords Go.Proofs.YtomofijniefelaaGreatW.PrintLast
set_option linter.unusedVariables false
set_option linter.unusedSimpArgs false
/-- a draw of two complexes, a map and a face, out of a code -/
def OverDraw (w : World) (e : Ending) (w' : World) : Prop := ∃ (a b : Int) (u z lv : Value) (ys zs p : List Int) (g : Int), e = .returned (.tuple #[.agg #[.int .i64 a, u], .agg #[.int .i64 b, z], lv, .int .i64 g]) ∧ OwnI w.heap.size w' u ys ∧ OwnI w.heap.size w' z zs ∧ OwnI w.heap.size w' lv p ∧ Rc a ys ∧ Rc b zs ∧ p.length ≤ 7 ∧ (∀ x ∈ p, -1 ≤ x ∧ x ≤ 6) ∧ (-9223372036854775808 ≤ g ∧ g ≤ 9223372036854775807) ∧ Below w.heap.size w w'
def DrawsOver (f : FuncId) : Prop := ∀ (v : Value) (n : Nat) (w : World), n ≤ 4096 → ReadY w v n → Calls Tryz.prog f #[v] w (OverDraw w)
set_option maxRecDepth 100000 in
set_option maxHeartbeats 8000000 in
theorem drawOver : DrawsOver 142 := by
 intro v nb w hn hv
 obtain ⟨w1, hw1⟩ : ∃ w1, w1 = (w.alloc C0).alloc C0 := ⟨_, rfl⟩
 have hB : Below w.heap.size w w1 := by rw [hw1]; exact ((Below.refl _ w).alloc (Nat.le_refl _) _).alloc (by simp) _
 have hsz : w1.heap.size = w.heap.size + 2 := by rw [hw1]; simp
 have hk0 : w1.heap[w.heap.size]? = some C0 := by
  rw [hw1]; exact blk_below (heap_alloc_new w _) (Below.alloc (Below.refl _ _) (Nat.le_refl _) _)
 have hk1 : w1.heap[w.heap.size + 1]? = some C0 := by
  rw [hw1]; have h := heap_alloc_new (w.alloc C0) C0
  rw [World.size_alloc] at h
  exact h
 have HB1 := Aside0.mk hB
 have HZ := Aside0.mk hsz
 have HK0 := Aside0.mk hk0
 have HK1 := Aside0.mk hk1
 have HFR := Aside0.mk (srcFrom v nb hn w1 (hv.below hB))
 have hmx : Tryz.prog.follows .mixedOrders = true := by kernel_rfl
 clear hv hB hk0 hk1 hsz
 go_enter Tryz.func142, Tryz.ntmps142
 go_wp2_with (first | (go_at_call 117; rw [← hw1]; clear hw1; refine HFR.out.mono ?_; rintro e w2 ⟨rfl, hs, hb⟩; have HS2 := Aside0.mk hs; have HB2 := Aside0.mk hb; clear hs hb) | (go_at_call 116; refine Aside0.out ?_))
 refine Aside0.mk ?_
 with_reducible refine (drawWith w1.heap.size w2 HS2.out).mono ?_
 rintro e w3 ⟨a, b, u, z, lv, ys, zs, p, rfl, hu, hz, hp, hra, hrb, hpl, hpb, hd⟩
 obtain ⟨Au, cu, rfl, -⟩ := id hu.read
 obtain ⟨Az, cz, rfl, -⟩ := id hz.read
 obtain ⟨Ap, cp, rfl, -⟩ := id hp.read
 obtain ⟨bs, hbs⟩ : ∃ bs, bs = w1.heap.size := ⟨_, rfl⟩
 rw [← hbs] at HS2 hd
 have hz0 := HZ.out
 have hx2 : XS bs w2.heap.size w [w.heap.size, w.heap.size + 1] [] [] w2 := XS.start (HB1.out.trans (HB2.out.mono HB1.out.size)) HS2.out (fun k hk => by
  rcases List.mem_cons.1 hk with rfl | hk
  ·exact ⟨by omega, Nat.le_refl _, blk_up HB2.out (by omega) HK0.out⟩
  ·rw [List.mem_singleton] at hk; subst hk
   exact ⟨by omega, by omega, blk_up HB2.out (by omega) HK1.out⟩) (by omega)
 have hlt := HS2.out.lt
 have hx3 := (((hx2.dw hd).row (hu.lower (b' := bs + 1) hlt)).row (hz.lower (b' := bs + 1) hlt)).row (hp.lower (b' := bs + 1) hlt)
 obtain ⟨w4, hw4⟩ : ∃ w4, w4 = (w3.alloc (.cells #[.int .i64 a, .slice Au ys.length cu] 26)).alloc (.cells #[.int .i64 b, .slice Az zs.length cz] 26) := ⟨_, rfl⟩
 have hx4 := (hx3.alloc a (.slice Au ys.length cu)).alloc b (.slice Az zs.length cz)
 rw [World.size_alloc, ← hw4] at hx4
 obtain ⟨k, hk⟩ : ∃ k, k = w3.heap.size := ⟨_, rfl⟩
 rw [← hk] at hx4
 have HX4 : Aside0 (XS bs (k + 2) w [w.heap.size, w.heap.size + 1] [(k + 1, b, .slice Az zs.length cz), (k, a, .slice Au ys.length cu)] [(.slice Ap p.length cp, p), (.slice Az zs.length cz, zs), (.slice Au ys.length cu, ys)] w4) := ⟨hx4⟩
 have HRA := Aside0.mk hra
 have HRB := Aside0.mk hrb
 have HPL := Aside0.mk hpl
 have HPB := Aside0.mk hpb
 have HBZ : Aside0 (bs = w.heap.size + 2) := ⟨by omega⟩
 clear hu hz hp hra hrb hpl hpb hd hx2 hx3 hx4 hlt hz0 HS2 HB2 HZ HK0 HK1 HB1
 go_upto_region 3 with (fail)
 rw [← hw4, ← hk, ← hbs]
 clear hw4 hk hbs
 go_upto_region 4 with (first | (go_at_call 196; refine Aside0.out ?_))
 refine Aside0.mk ?_
 have HS4 := Aside0.mk HX4.out.hS
 with_reducible refine (near bs 15 w4 (by decide) (by decide) HS4.out).mono ?_
 rintro e w5 ⟨g0, rfl, hg0, hd⟩
 have HX5 := Aside0.mk (HX4.out.dw hd)
 have HG0 := Aside0.mk hg0
 clear hd HX4 HS4 hg0
 go_upto_region 4 with (fail)
 go_cut [29] (fun s29 wc => ∃ r : Bool, s29 = .bool r ∧ Aside0 (r = true → 0 < zs.length) ∧ Aside0 (XS bs (k + 2) w [w.heap.size, w.heap.size + 1] [(k + 1, b, .slice Az zs.length cz), (k, a, .slice Au ys.length cu)] [(.slice Ap p.length cp, p), (.slice Az zs.length cz, zs), (.slice Au ys.length cu, ys)] wc))
 case first =>
  have c60 := (HX5.out.cell (k := k + 1) (a := b) (z := .slice Az zs.length cz) (by simp)).1
  have c61 := (HX5.out.cell (k := k + 1) (a := b) (z := .slice Az zs.length cz) (by simp)).2
  by_cases hl0 : 0 < zs.length
  ·have hlI : (0 : Int) < (zs.length : Int) := by omega
   have HL0 := Aside0.mk hl0
   clear hl0
   go_wp2_with (first | (go_at_call 146; refine Aside0.out ?_))
   refine Aside0.mk ?_
   have HS5 := Aside0.mk HX5.out.hS
   with_reducible refine (next bs 8 w5 (by omega) HS5.out).mono ?_
   rintro e w6 ⟨q, rfl, -, -, hd⟩
   have HX6 := Aside0.mk (HX5.out.dw hd)
   clear hd HS5 HX5
   go_wp2
   go_meet
   case rel => exact ⟨_, rfl, ⟨fun _ => HL0.out⟩, HX6⟩
  ·have hlI : ¬ (0 : Int) < (zs.length : Int) := by omega
   go_wp2
   go_meet
   case rel => exact ⟨false, rfl, ⟨fun h => by cases h⟩, HX5⟩
 case rest =>
  clear HX5
  obtain ⟨r, rfl, HRL, HX5⟩ := hcut
  generalize wc = w5 at *
  go_upto_if 29 with (fail)
  go_cut [10] (fun s10 wc => ∃ g : Int, s10 = .int .i64 g ∧ Aside0 (-9223372036854775808 ≤ g ∧ g ≤ 9223372036854775807) ∧ Aside0 (XS bs (k + 2) w [w.heap.size, w.heap.size + 1] [(k + 1, b, .slice Az zs.length cz), (k, a, .slice Au ys.length cu)] [(.slice Ap p.length cp, p), (.slice Az zs.length cz, zs), (.slice Au ys.length cu, ys)] wc))
  case first =>
   cases r with
   | false =>
    go_wp2
    go_meet
    case rel => exact ⟨g0, rfl, HG0, HX5⟩
   | true =>
    have hzl := HRL.out rfl
    have HZL := Aside0.mk hzl
    have hz65 : zs.length ≤ 65 := HRB.out.2.2.2
    have HZ65 := Aside0.mk hz65
    have HOZ := Aside0.mk (HX5.out.own (v := .slice Az zs.length cz) (l := zs) (by simp))
    obtain ⟨g6, cap6, hform⟩ : ∃ g6 cap6, (.slice Az zs.length cz : Value) = .slice (some ⟨g6, 0, none⟩) zs.length cap6 := by
     obtain ⟨g1, c1, hf, -⟩ := Kd.R_form HOZ.out hzl
     exact ⟨g1, c1, hf⟩
    injection hform with hf1 _ hf3
    subst hf1
    subst hf3
    have HCL : Aside0 (∀ q : Nat, q < zs.length → ∃ y : Int, w5.cell? ⟨g6, q, none⟩ = some (.int .i64 y) ∧ (-9223372036854775808 ≤ y ∧ y ≤ 9223372036854775807)) := ⟨fun q hq => by
     have hc := Kd.R_celln (0 : Int) HOZ.out (q : Int) (by omega) (by omega)
     simp only [Int.toNat_natCast] at hc
     refine ⟨zs.getD q 0, hc.1, ?_⟩
     have hm := HRB.out.2.2.1 (zs.getD q 0) (mem_at hq rfl)
     omega⟩
    have HNE : Aside0 (g6 ≠ bs) := ⟨fun h => by have := HOZ.out.base g6 rfl; omega⟩
    have HKB : Aside0 (k + 1 ≠ bs) := ⟨fun h => by have := (HX5.out.hc (k + 1, b, .slice (some ⟨g6, 0, none⟩) zs.length cz) (by simp)).1; simp only at this; omega⟩
    have HS5 := Aside0.mk HX5.out.hS
    have c60 := (HX5.out.cell (k := k + 1) (a := b) (z := .slice (some ⟨g6, 0, none⟩) zs.length cz) (by simp)).1
    have c61 := (HX5.out.cell (k := k + 1) (a := b) (z := .slice (some ⟨g6, 0, none⟩) zs.length cz) (by simp)).2
    clear hzl hz65
    go_upto_region 5 with (fail)
    refine wp_region_g (Gm bs (Src bs)) (fun w => ⟨grown_drew w _, fun h => h.below (Below.refl _ _).drew⟩) (fun _ _ _ => Gm.trans) (fun i => match i with | 0 => fun v _ => v = .pointer (some ⟨k + 1, 1, none⟩) | 1 => fun v _ => v = .slice (some ⟨g6, 0, none⟩) zs.length cz | 2 => fun v _ => v = .pointer (some ⟨bs, 0, none⟩) | 3 => fun v _ => v = .pointer (some ⟨k + 1, 1, none⟩) | 4 => fun v _ => v = .slice (some ⟨g6, 0, none⟩) zs.length cz | 5 => fun v _ => v = .int .i64 (zs.length : Int) | 6 => fun v _ => ∃ q : Nat, v = .int .i64 q ∧ q < zs.length | 7 => fun v _ => ∃ q : Nat, v = .pointer (some ⟨g6, q, none⟩) ∧ q < zs.length | 8 => fun v _ => ∃ y : Int, v = .int .i64 y ∧ (-9223372036854775808 ≤ y ∧ y ≤ 9223372036854775807) | 9 => fun v _ => ∃ y : Int, v = .int .i64 y ∧ (-9223372036854775808 ≤ y ∧ y ≤ 9223372036854775807) | _ => fun _ _ => True)
     [0, 1, 0, 0, 8, 24, 60, 127, 255, 511] hmx (by kernel_rfl) ?qst ?qsteps ?qrest
    case qst =>
     intro i v w1_ w2_ hb
     match i with
     | 0 | 1 | 2 | 3 | 4 | 5 => exact id
     | 6 => exact id
     | 7 => exact id
     | 8 => exact id
     | 9 => exact id
     | n + 10 => exact id
    case qsteps =>
     refine ⟨?_, ?_, ?_, ?_, ?_, ?_, ?_, ?_, ?_, ?_, trivial⟩
     ·intro s w_ hb hd hq R hR
      generalize hA : putAll _ 0 s _ = A
      clear hq
      have hR' := hR (.pointer (some ⟨k + 1, 1, none⟩)) _ (Gm.refl _ _ _) rfl
      clear hR hd
      refine opGives_value ?_ hR'
      subst hA
      simp only [dsOf, List.map_cons, List.map_nil, Option.getD_some, putAll, Act.put, List.setIfInBounds_toArray, List.set_cons_zero, List.set_cons_succ]
      go_simp
     ·intro s w_ hb hd hq R hR
      generalize hA : putAll _ 0 s _ = A
      have e0 : s 0 = _ := hd 0 (by kernel_rfl)
      clear hq
      have c61 := grown_cell hb.1 c61 HKB.out
      have hR' := hR (.slice (some ⟨g6, 0, none⟩) zs.length cz) _ (Gm.refl _ _ _) rfl
      clear hR hd
      refine opGives_value ?_ hR'
      subst hA
      simp only [dsOf, List.map_cons, List.map_nil, Option.getD_some, putAll, Act.put, List.setIfInBounds_toArray, List.set_cons_zero, List.set_cons_succ]
      go_simp
     ·intro s w_ hb hd hq R hR
      generalize hA : putAll _ 0 s _ = A
      clear hq
      have hR' := hR (.pointer (some ⟨bs, 0, none⟩)) _ (Gm.refl _ _ _) rfl
      clear hR hd
      refine opGives_value ?_ hR'
      subst hA
      simp only [dsOf, List.map_cons, List.map_nil, Option.getD_some, putAll, Act.put, List.setIfInBounds_toArray, List.set_cons_zero, List.set_cons_succ]
      go_simp
     ·intro s w_ hb hd hq R hR
      generalize hA : putAll _ 0 s _ = A
      clear hq
      have hR' := hR (.pointer (some ⟨k + 1, 1, none⟩)) _ (Gm.refl _ _ _) rfl
      clear hR hd
      refine opGives_value ?_ hR'
      subst hA
      simp only [dsOf, List.map_cons, List.map_nil, Option.getD_some, putAll, Act.put, List.setIfInBounds_toArray, List.set_cons_zero, List.set_cons_succ]
      go_simp
     ·intro s w_ hb hd hq R hR
      generalize hA : putAll _ 0 s _ = A
      have e3 : s 3 = _ := hd 3 (by kernel_rfl)
      clear hq
      have c61 := grown_cell hb.1 c61 HKB.out
      have hR' := hR (.slice (some ⟨g6, 0, none⟩) zs.length cz) _ (Gm.refl _ _ _) rfl
      clear hR hd
      refine opGives_value ?_ hR'
      subst hA
      simp only [dsOf, List.map_cons, List.map_nil, Option.getD_some, putAll, Act.put, List.setIfInBounds_toArray, List.set_cons_zero, List.set_cons_succ]
      go_simp
     ·intro s w_ hb hd hq R hR
      generalize hA : putAll _ 0 s _ = A
      have e4 : s 4 = _ := hd 4 (by kernel_rfl)
      clear hq
      have hR' := hR (.int .i64 (zs.length : Int)) _ (Gm.refl _ _ _) rfl
      clear hR hd
      refine opGives_value ?_ hR'
      subst hA
      simp only [dsOf, List.map_cons, List.map_nil, Option.getD_some, putAll, Act.put, List.setIfInBounds_toArray, List.set_cons_zero, List.set_cons_succ]
      go_simp
     ·intro s w_ hb hd hq R hR
      generalize hA : putAll _ 0 s _ = A
      have e2 : s 2 = _ := hd 2 (by kernel_rfl)
      have e5 : s 5 = _ := hd 5 (by kernel_rfl)
      clear hq
      refine opGives_call (f := 146) (args := #[.pointer (some ⟨bs, 0, none⟩), .int .i64 (zs.length : Int)]) ?_ ?_
      ·subst hA
       clear hR hd
       simp only [dsOf, List.map_cons, List.map_nil, Option.getD_some, putAll, Act.put, List.setIfInBounds_toArray, List.set_cons_zero, List.set_cons_succ]
       go_simp
      clear hA A hd
      refine (next bs (zs.length : Int) w_ (by have := HZ65.out; omega) (hb.2 HS5.out)).mono ?_
      rintro e w3_ ⟨r, rfl, -, hr, hd⟩
      have hr := hr (by have := HZL.out; omega)
      obtain ⟨q, rfl⟩ : ∃ q : Nat, r = q := ⟨r.toNat, by omega⟩
      exact ⟨_, rfl, hR _ _ ⟨hd.1, fun _ => hd.2⟩ ⟨q, rfl, by omega⟩⟩
     ·intro s w_ hb hd hq R hR
      generalize hA : putAll _ 0 s _ = A
      have e1 : s 1 = _ := hd 1 (by kernel_rfl)
      obtain ⟨q, e6, hq0⟩ := hd 6 (by kernel_rfl)
      clear hq
      have hqI : (q : Int) < (zs.length : Int) := by omega
      have hR' := hR (.pointer (some ⟨g6, q, none⟩)) _ (Gm.refl _ _ _) (⟨q, rfl, hq0⟩)
      clear hR hd
      refine opGives_value ?_ hR'
      subst hA
      simp only [dsOf, List.map_cons, List.map_nil, Option.getD_some, putAll, Act.put, List.setIfInBounds_toArray, List.set_cons_zero, List.set_cons_succ]
      go_simp
     ·intro s w_ hb hd hq R hR
      generalize hA : putAll _ 0 s _ = A
      obtain ⟨q, e7, hq0⟩ := hd 7 (by kernel_rfl)
      clear hq
      obtain ⟨y, hcy, hyb⟩ := HCL.out q hq0
      have hcy := grown_cell hb.1 hcy HNE.out
      have hR' := hR (.int .i64 y) _ (Gm.refl _ _ _) (⟨y, rfl, hyb⟩)
      clear hR hd
      refine opGives_value ?_ hR'
      subst hA
      simp only [dsOf, List.map_cons, List.map_nil, Option.getD_some, putAll, Act.put, List.setIfInBounds_toArray, List.set_cons_zero, List.set_cons_succ]
      go_simp
     ·intro s w_ hb hd hq R hR
      generalize hA : putAll _ 0 s _ = A
      obtain ⟨y, e8, hyb⟩ := hd 8 (by kernel_rfl)
      clear hq
      have hR' := hR (.int .i64 y) _ (Gm.refl _ _ _) (⟨y, rfl, hyb⟩)
      clear hR hd
      refine opGives_value ?_ hR'
      subst hA
      simp only [dsOf, List.map_cons, List.map_nil, Option.getD_some, putAll, Act.put, List.setIfInBounds_toArray, List.set_cons_zero, List.set_cons_succ]
      go_simp
    case qrest =>
     intro s9 w9 hb hv
     obtain ⟨y, e9_, hyb⟩ := hv 9 (by decide)
     simp only [dsOf, List.map_cons, List.map_nil, Option.getD_some, putAll, Act.put, List.setIfInBounds_toArray, List.set_cons_zero, List.set_cons_succ]
     rw [e9_]
     clear hv e9_
     have HX6 := Aside0.mk (HX5.out.dw ⟨hb.1, hb.2 HS5.out⟩)
     have HYB := Aside0.mk hyb
     clear hb hyb HX5
     go_wp2
     go_meet
     case rel => exact ⟨y, rfl, HYB, HX6⟩
  case rest =>
   clear HX5
   obtain ⟨g, rfl, HG, HX6⟩ := hcut
   generalize wc = w6 at *
   have H5 := Aside0.mk (HX6.out.hc (k, a, .slice Au ys.length cu) (by simp)).2.2
   have H6 := Aside0.mk (HX6.out.hc (k + 1, b, .slice Az zs.length cz) (by simp)).2.2
   have HC := Aside0.mk (HX6.out.hr w.heap.size (by simp)).2.2
   have HC1 := Aside0.mk (HX6.out.hr (w.heap.size + 1) (by simp)).2.2
   have hkb : w.heap.size + 2 ≤ k := by have := (HX6.out.hc (k, a, .slice Au ys.length cu) (by simp)).1; have := HBZ.out; simp only at *; omega
   have HU := Aside0.mk ((HX6.out.own (v := .slice Au ys.length cu) (l := ys) (by simp)).lower (b' := w.heap.size) (by have := HBZ.out; omega))
   have HV2 := Aside0.mk ((HX6.out.own (v := .slice Az zs.length cz) (l := zs) (by simp)).lower (b' := w.heap.size) (by have := HBZ.out; omega))
   have HP := Aside0.mk ((HX6.out.own (v := .slice Ap p.length cp) (l := p) (by simp)).lower (b' := w.heap.size) (by have := HBZ.out; omega))
   have HBw := Aside0.mk HX6.out.hB
   clear HX6
   go_upto_region 6 with (fail)
   obtain ⟨L, hL⟩ : ∃ L : List Ent, L = [⟨4, w.heap.size, a, .slice Au ys.length cu⟩, ⟨5, w.heap.size + 1, b, .slice Az zs.length cz⟩] := ⟨_, rfl⟩
   have hm : ∀ e, e ∈ L ↔ e = ⟨4, w.heap.size, a, .slice Au ys.length cu⟩ ∨ e = ⟨5, w.heap.size + 1, b, .slice Az zs.length cz⟩ := fun e => by rw [hL]; simp only [List.mem_cons, List.not_mem_nil, or_false]
   have hc0 : ∀ e ∈ L, w6.heap[e.k]? = some C0 := fun e he => by
    rcases (hm e).1 he with rfl | rfl
    ·exact HC.out
    ·exact HC1.out
   have hlo : ∀ e ∈ L, w.heap.size ≤ e.k ∧ e.k < w.heap.size + 2 := fun e he => by
    rcases (hm e).1 he with rfl | rfl <;> exact ⟨by simp, by simp⟩
   have hu1 : ∀ e ∈ L, ∀ e' ∈ L, e'.k = e.k → e' = e := fun e he e' he' hq => by
    rcases (hm e).1 he with rfl | rfl <;> rcases (hm e').1 he' with rfl | rfl <;> first | rfl | (simp at hq)
   have hu2 : ∀ e ∈ L, ∀ e' ∈ L, e'.j = e.j → e' = e := fun e he e' he' hq => by
    rcases (hm e).1 he with rfl | rfl <;> rcases (hm e').1 he' with rfl | rfl <;> first | rfl | (simp at hq)
   have HM := Aside0.mk hm
   have HC0 := Aside0.mk hc0
   have HLO := Aside0.mk hlo
   have HU1 := Aside0.mk hu1
   have HU2 := Aside0.mk hu2
   clear hL hm hc0 hlo hu1 hu2
   refine wp_region_x 4 7 6 4 (.slice Ap p.length cp) (by decide) (by decide) (fun i => !(i == 4) && !(i == 5)) (fun i => match i with | 0 => fun v => v = .agg #[.int .i64 a, .slice Au ys.length cu] | 1 => fun v => v = .agg #[.int .i64 b, .slice Az zs.length cz] | 2 => fun v => v = .slice Ap p.length cp | 3 => fun v => v = .int .i64 g | _ => fun _ => True)
    (fun b _ W => CO w6 L b W) [0, 0, 0, 0, 1, 19, 55, 127] hmx (by kernel_rfl) (by kernel_rfl) ?start ?stay ?early ?steps ?val ?stores ?rest
   case start =>
    intro b s hb
    exact CO.start HC0.out hb
   case stay =>
    intro i b s v w1_ hq hI
    refine hI.quiet (fun e he => ?_)
    simp only [Bool.and_eq_true, Bool.not_eq_true', beq_eq_false_iff_ne, Bool.true_and] at hq
    rcases (HM.out e).1 he with rfl | rfl <;> first | exact fun h => hq.1 h.symm | exact fun h => hq.2 h.symm | exact fun h => hq.1.1 h.symm | exact fun h => hq.1.2 h.symm | exact fun h => hq h.symm
   case steps =>
    intro x
    refine ⟨?_, ?_, ?_, ?_, trivial⟩
    ·intro s b_ w_ hI hbi hd hq R hR hN
     generalize hA : putAll _ 0 s _ = A
     clear hq
     refine stepG_on rfl ?_
     have hkb := hI.blk H5.out (fun e he => by have := (HLO.out e he).2; omega)
     have k0 := blk_cell hkb 0
     have k1 := blk_cell hkb 1
     clear hkb
     have hR' := hR rfl (.agg #[.int .i64 a, .slice Au ys.length cu]) rfl
     clear hR hN hd
     refine opGives_value ?_ hR'
     subst hA
     simp only [dsOf, List.take, List.map_cons, List.map_nil, Option.getD_some, putAll, Act.put, List.setIfInBounds_toArray, List.set_cons_zero, List.set_cons_succ]
     go_simp
    ·intro s b_ w_ hI hbi hd hq R hR hN
     generalize hA : putAll _ 0 s _ = A
     clear hq
     refine stepG_on rfl ?_
     have hkb := hI.blk H6.out (fun e he => by have := (HLO.out e he).2; omega)
     have k0 := blk_cell hkb 0
     have k1 := blk_cell hkb 1
     clear hkb
     have hR' := hR rfl (.agg #[.int .i64 b, .slice Az zs.length cz]) rfl
     clear hR hN hd
     refine opGives_value ?_ hR'
     subst hA
     simp only [dsOf, List.take, List.map_cons, List.map_nil, Option.getD_some, putAll, Act.put, List.setIfInBounds_toArray, List.set_cons_zero, List.set_cons_succ]
     go_simp
    ·intro s b_ w_ hI hbi hd hq R hR hN
     generalize hA : putAll _ 0 s _ = A
     clear hq
     refine stepG_on rfl ?_
     have hR' := hR rfl (.slice Ap p.length cp) rfl
     clear hR hN hd
     refine opGives_value ?_ hR'
     subst hA
     simp only [dsOf, List.take, List.map_cons, List.map_nil, Option.getD_some, putAll, Act.put, List.setIfInBounds_toArray, List.set_cons_zero, List.set_cons_succ]
     go_simp
    ·intro s b_ w_ hI hbi hd hq R hR hN
     generalize hA : putAll _ 0 s _ = A
     clear hq
     refine stepG_on rfl ?_
     have hR' := hR rfl (.int .i64 g) rfl
     clear hR hN hd
     refine opGives_value ?_ hR'
     subst hA
     simp only [dsOf, List.take, List.map_cons, List.map_nil, Option.getD_some, putAll, Act.put, List.setIfInBounds_toArray, List.set_cons_zero, List.set_cons_succ]
     go_simp
   case early =>
    intro b s w1_ hI
    refine hI.quiet (fun e he => ?_)
    rcases (HM.out e).1 he with rfl | rfl <;> simp
   case val =>
    intro o ho x s b_ w_ hI hbi hd
    cases ho
    generalize hA : putAll _ 0 s _ = A
    have e2 : s 2 = _ := (hd 2 (by decide) (by kernel_rfl)).2 (by decide) rfl
    refine opGives_value (v := .slice Ap p.length cp) (w' := w_) ?_ ⟨rfl, rfl⟩
    subst hA
    simp only [dsOf, List.take, List.map_cons, List.map_nil, Option.getD_some, putAll, Act.put, List.setIfInBounds_toArray, List.set_cons_zero, List.set_cons_succ]
    go_simp
   case stores =>
    intro i o h1 h2 hne ho x s b_ w_ hI hbi hd
    match i, h1, h2, hne, ho, hbi, hd with
    | 4, h1, h2, hne, ho, hbi, hd =>
     cases ho
     refine ⟨rfl, ?_⟩
     have e0 : s 0 = _ := (hd 0 (by decide) (by kernel_rfl)).2 (by decide) rfl
     have he : (⟨4, w.heap.size, a, .slice Au ys.length cu⟩ : Ent) ∈ L := (HM.out _).2 (by simp)
     have hk := hI.out _ he
     rw [hbi, if_neg (by decide)] at hk
     have c00 : w_.cell? ⟨w.heap.size, 0, none⟩ = some (.int .i64 0) := blk_cell hk 0
     have c01 : w_.cell? ⟨w.heap.size, 1, none⟩ = some (.slice none 0 0) := blk_cell hk 1
     have f00 : w_.frozen? ⟨w.heap.size, 0, none⟩ = false := blk_frozen hk 0
     have f01 : w_.frozen? ⟨w.heap.size, 1, none⟩ = false := blk_frozen hk 1
     generalize hA : putAll _ 0 s _ = A
     refine ⟨(w_.setCell ⟨w.heap.size, 0, none⟩ (.int .i64 a)).setCell ⟨w.heap.size, 1, none⟩ (.slice Au ys.length cu), ?_, ?_⟩
     ·subst hA
      simp only [dsOf, List.take, List.map_cons, List.map_nil, Option.getD_some, putAll, Act.put, List.setIfInBounds_toArray, List.set_cons_zero, List.set_cons_succ]
      clear hd
      go_simp
     ·exact hI.put he hbi (HU1.out _ he) (HU2.out _ he)
    | 5, h1, h2, hne, ho, hbi, hd =>
     cases ho
     refine ⟨rfl, ?_⟩
     have e1 : s 1 = _ := (hd 1 (by decide) (by kernel_rfl)).2 (by decide) rfl
     have he : (⟨5, w.heap.size + 1, b, .slice Az zs.length cz⟩ : Ent) ∈ L := (HM.out _).2 (by simp)
     have hk := hI.out _ he
     rw [hbi, if_neg (by decide)] at hk
     have c00 : w_.cell? ⟨w.heap.size + 1, 0, none⟩ = some (.int .i64 0) := blk_cell hk 0
     have c01 : w_.cell? ⟨w.heap.size + 1, 1, none⟩ = some (.slice none 0 0) := blk_cell hk 1
     have f00 : w_.frozen? ⟨w.heap.size + 1, 0, none⟩ = false := blk_frozen hk 0
     have f01 : w_.frozen? ⟨w.heap.size + 1, 1, none⟩ = false := blk_frozen hk 1
     generalize hA : putAll _ 0 s _ = A
     refine ⟨(w_.setCell ⟨w.heap.size + 1, 0, none⟩ (.int .i64 b)).setCell ⟨w.heap.size + 1, 1, none⟩ (.slice Az zs.length cz), ?_, ?_⟩
     ·subst hA
      simp only [dsOf, List.take, List.map_cons, List.map_nil, Option.getD_some, putAll, Act.put, List.setIfInBounds_toArray, List.set_cons_zero, List.set_cons_succ]
      clear hd
      go_simp
     ·exact hI.put he hbi (HU1.out _ he) (HU2.out _ he)
    | 6, h1, h2, hne, ho, hbi, hd =>
     exact absurd rfl hne
    | n + 7, h1, h2, hne, ho, hbi, hd => exact absurd h2 (by omega)
   case rest =>
    intro sf b_ wf hI hb hv
    have e0_ : sf 0 = _ := hv 0 (by decide) rfl
    have e1_ : sf 1 = _ := hv 1 (by decide) rfl
    have e2_ : sf 2 = _ := hv 2 (by decide) rfl
    have e3_ : sf 3 = _ := hv 3 (by decide) rfl
    simp only [dsOf, List.take, List.map_cons, List.map_nil, Option.getD_some, putAll, Act.put, List.setIfInBounds_toArray, List.set_cons_zero, List.set_cons_succ]
    clear hv
    have hk4 := hI.out _ ((HM.out ⟨4, w.heap.size, a, .slice Au ys.length cu⟩).2 (by simp))
    rw [hb 4 (by decide), if_pos rfl] at hk4
    have HF4 := Aside0.mk hk4
    clear hk4
    have hk5 := hI.out _ ((HM.out ⟨5, w.heap.size + 1, b, .slice Az zs.length cz⟩).2 (by simp))
    rw [hb 5 (by decide), if_pos rfl] at hk5
    have HF5 := Aside0.mk hk5
    clear hk5
    have HCO := Aside0.mk hI
    rw [e2_, e3_]
    clear hb hI e0_ e1_ e2_ e3_
    simp only [List.drop]
    unfold tailList
    refine .inl ?_
    refine opGives_value (v := .int .i64 g) (w' := wf) ?_ ?_
    ·go_simp
    simp only [List.drop, Act.put, List.setIfInBounds_toArray, List.set_cons_zero, List.set_cons_succ]
    unfold tailList
    go_wp2
    refine bodyPost_ret (results_cctt rfl _ _ w.heap.size (w.heap.size + 1) 26 26 #[.int .i64 a, .slice Au ys.length cu] #[.int .i64 b, .slice Az zs.length cz] (0, 0) (0, 0) _ _ rfl HF4.out Tryz.underlying26 rfl (by kernel_rfl) rfl HF5.out Tryz.underlying26 rfl (by kernel_rfl)) rfl ?_
    exact ⟨a, b, .slice Au ys.length cu, .slice Az zs.length cz, .slice Ap p.length cp, ys, zs, p, g, rfl, HCO.out.own HU.out HC0.out, HCO.out.own HV2.out HC0.out, HCO.out.own HP.out HC0.out, HRA.out, HRB.out, HPL.out, HPB.out, HG.out, HCO.out.below HBw.out HBw.out.size (fun e he => (HLO.out e he).1)⟩
set_option maxRecDepth 100000 in
set_option maxHeartbeats 8000000 in
theorem drawFibreOf : DrawsOver 19 := by
 intro v nb w hn hv
 obtain ⟨w1, hw1⟩ : ∃ w1, w1 = (w.alloc C0).alloc C0 := ⟨_, rfl⟩
 have hB : Below w.heap.size w w1 := by rw [hw1]; exact ((Below.refl _ w).alloc (Nat.le_refl _) _).alloc (by simp) _
 have hsz : w1.heap.size = w.heap.size + 2 := by rw [hw1]; simp
 have hk0 : w1.heap[w.heap.size]? = some C0 := by
  rw [hw1]; exact blk_below (heap_alloc_new w _) (Below.alloc (Below.refl _ _) (Nat.le_refl _) _)
 have hk1 : w1.heap[w.heap.size + 1]? = some C0 := by
  rw [hw1]; have h := heap_alloc_new (w.alloc C0) C0
  rw [World.size_alloc] at h
  exact h
 have HB1 := Aside0.mk hB
 have HZ := Aside0.mk hsz
 have HK0 := Aside0.mk hk0
 have HK1 := Aside0.mk hk1
 have HDO := Aside0.mk (drawOver v nb w1 hn (hv.below hB))
 have hmx : Tryz.prog.follows .mixedOrders = true := by kernel_rfl
 clear hv hB hk0 hk1 hsz
 go_enter Tryz.func19, Tryz.ntmps19
 go_wp2_with (first | (go_at_call 142; rw [← hw1]; clear hw1; refine Aside0.out ?_))
 refine Aside0.mk ?_
 with_reducible refine HDO.out.mono ?_
 rintro e w3 ⟨a, b, u, z, lv, ys, zs, p, g, rfl, hu, hz, hp, hra, hrb, hpl, hpb, hg, hd⟩
 obtain ⟨Au, cu, rfl, -⟩ := id hu.read
 obtain ⟨Az, cz, rfl, -⟩ := id hz.read
 obtain ⟨Ap, cp, rfl, -⟩ := id hp.read
 obtain ⟨w4, hw4⟩ : ∃ w4, w4 = (w3.alloc (.cells #[.int .i64 a, .slice Au ys.length cu] 26)).alloc (.cells #[.int .i64 b, .slice Az zs.length cz] 26) := ⟨_, rfl⟩
 have hb4 : Below w3.heap.size w3 w4 := by rw [hw4]; exact ((Below.refl _ w3).alloc (Nat.le_refl _) _).alloc (by simp) _
 have h5 : w4.heap[w3.heap.size]? = some (.cells #[.int .i64 a, .slice Au ys.length cu] 26) := by
  rw [hw4]; exact blk_below (heap_alloc_new w3 _) (Below.alloc (Below.refl _ _) (Nat.le_refl _) _)
 have h6 : w4.heap[w3.heap.size + 1]? = some (.cells #[.int .i64 b, .slice Az zs.length cz] 26) := by
  rw [hw4]; have h := heap_alloc_new (w3.alloc (.cells #[.int .i64 a, .slice Au ys.length cu] 26)) (.cells #[.int .i64 b, .slice Az zs.length cz] 26)
  rw [World.size_alloc] at h
  exact h
 have hB4 : Below w1.heap.size w1 w4 := hd.trans (hb4.mono hd.size)
 have hz0 := HZ.out
 have hs3 := hd.size
 have HB4 := Aside0.mk hB4
 have H5 := Aside0.mk h5
 have H6 := Aside0.mk h6
 have HC := Aside0.mk (blk_up hB4 (by omega) HK0.out)
 have HC1 := Aside0.mk (blk_up hB4 (by omega) HK1.out)
 have HU := Aside0.mk ((hu.below hb4).lower (b' := w.heap.size) (by omega))
 have HV2 := Aside0.mk ((hz.below hb4).lower (b' := w.heap.size) (by omega))
 have HP := Aside0.mk ((hp.below hb4).lower (b' := w.heap.size) (by omega))
 have HRA := Aside0.mk hra
 have HRB := Aside0.mk hrb
 have HPL := Aside0.mk hpl
 have HPB := Aside0.mk hpb
 have HG := Aside0.mk hg
 clear hu hz hp hra hrb hpl hpb hd hb4 h5 h6 hB4 hg
 obtain ⟨k, hk⟩ : ∃ k, k = w3.heap.size := ⟨_, rfl⟩
 rw [← hk] at H5 H6 hs3
 go_upto_region 2 with (fail)
 rw [← hw4, ← hk]
 clear hw4 hk
 obtain ⟨L, hL⟩ : ∃ L : List Ent, L = [⟨4, w.heap.size, a, .slice Au ys.length cu⟩, ⟨5, w.heap.size + 1, b, .slice Az zs.length cz⟩] := ⟨_, rfl⟩
 have hm : ∀ e, e ∈ L ↔ e = ⟨4, w.heap.size, a, .slice Au ys.length cu⟩ ∨ e = ⟨5, w.heap.size + 1, b, .slice Az zs.length cz⟩ := fun e => by rw [hL]; simp only [List.mem_cons, List.not_mem_nil, or_false]
 have hc0 : ∀ e ∈ L, w4.heap[e.k]? = some C0 := fun e he => by
  rcases (hm e).1 he with rfl | rfl
  ·exact HC.out
  ·exact HC1.out
 have hlo : ∀ e ∈ L, w.heap.size ≤ e.k ∧ e.k < w.heap.size + 2 := fun e he => by
  rcases (hm e).1 he with rfl | rfl <;> exact ⟨by simp, by simp⟩
 have hu1 : ∀ e ∈ L, ∀ e' ∈ L, e'.k = e.k → e' = e := fun e he e' he' hq => by
  rcases (hm e).1 he with rfl | rfl <;> rcases (hm e').1 he' with rfl | rfl <;> first | rfl | (simp at hq)
 have hu2 : ∀ e ∈ L, ∀ e' ∈ L, e'.j = e.j → e' = e := fun e he e' he' hq => by
  rcases (hm e).1 he with rfl | rfl <;> rcases (hm e').1 he' with rfl | rfl <;> first | rfl | (simp at hq)
 have HM := Aside0.mk hm
 have HC0 := Aside0.mk hc0
 have HLO := Aside0.mk hlo
 have HU1 := Aside0.mk hu1
 have HU2 := Aside0.mk hu2
 clear hL hm hc0 hlo hu1 hu2
 refine wp_region_x 4 7 6 4 (.slice Ap p.length cp) (by decide) (by decide) (fun i => !(i == 4) && !(i == 5)) (fun i => match i with | 0 => fun v => v = .agg #[.int .i64 a, .slice Au ys.length cu] | 1 => fun v => v = .agg #[.int .i64 b, .slice Az zs.length cz] | 2 => fun v => v = .slice Ap p.length cp | 3 => fun v => v = .int .i64 g | _ => fun _ => True)
  (fun b _ W => CO w4 L b W) [0, 0, 0, 0, 1, 19, 55, 127] hmx (by kernel_rfl) (by kernel_rfl) ?start ?stay ?early ?steps ?val ?stores ?rest
 case start =>
  intro b s hb
  exact CO.start HC0.out hb
 case stay =>
  intro i b s v w1_ hq hI
  refine hI.quiet (fun e he => ?_)
  simp only [Bool.and_eq_true, Bool.not_eq_true', beq_eq_false_iff_ne, Bool.true_and] at hq
  rcases (HM.out e).1 he with rfl | rfl <;> first | exact fun h => hq.1 h.symm | exact fun h => hq.2 h.symm | exact fun h => hq.1.1 h.symm | exact fun h => hq.1.2 h.symm | exact fun h => hq h.symm
 case steps =>
  intro x
  refine ⟨?_, ?_, ?_, ?_, trivial⟩
  ·intro s b_ w_ hI hbi hd hq R hR hN
   generalize hA : putAll _ 0 s _ = A
   clear hq
   refine stepG_on rfl ?_
   have hkb := hI.blk H5.out (fun e he => by have := (HLO.out e he).2; omega)
   have k0 := blk_cell hkb 0
   have k1 := blk_cell hkb 1
   clear hkb
   have hR' := hR rfl (.agg #[.int .i64 a, .slice Au ys.length cu]) rfl
   clear hR hN hd
   refine opGives_value ?_ hR'
   subst hA
   simp only [dsOf, List.take, List.map_cons, List.map_nil, Option.getD_some, putAll, Act.put, List.setIfInBounds_toArray, List.set_cons_zero, List.set_cons_succ]
   go_simp
  ·intro s b_ w_ hI hbi hd hq R hR hN
   generalize hA : putAll _ 0 s _ = A
   clear hq
   refine stepG_on rfl ?_
   have hkb := hI.blk H6.out (fun e he => by have := (HLO.out e he).2; omega)
   have k0 := blk_cell hkb 0
   have k1 := blk_cell hkb 1
   clear hkb
   have hR' := hR rfl (.agg #[.int .i64 b, .slice Az zs.length cz]) rfl
   clear hR hN hd
   refine opGives_value ?_ hR'
   subst hA
   simp only [dsOf, List.take, List.map_cons, List.map_nil, Option.getD_some, putAll, Act.put, List.setIfInBounds_toArray, List.set_cons_zero, List.set_cons_succ]
   go_simp
  ·intro s b_ w_ hI hbi hd hq R hR hN
   generalize hA : putAll _ 0 s _ = A
   clear hq
   refine stepG_on rfl ?_
   have hR' := hR rfl (.slice Ap p.length cp) rfl
   clear hR hN hd
   refine opGives_value ?_ hR'
   subst hA
   simp only [dsOf, List.take, List.map_cons, List.map_nil, Option.getD_some, putAll, Act.put, List.setIfInBounds_toArray, List.set_cons_zero, List.set_cons_succ]
   go_simp
  ·intro s b_ w_ hI hbi hd hq R hR hN
   generalize hA : putAll _ 0 s _ = A
   clear hq
   refine stepG_on rfl ?_
   have hR' := hR rfl (.int .i64 g) rfl
   clear hR hN hd
   refine opGives_value ?_ hR'
   subst hA
   simp only [dsOf, List.take, List.map_cons, List.map_nil, Option.getD_some, putAll, Act.put, List.setIfInBounds_toArray, List.set_cons_zero, List.set_cons_succ]
   go_simp
 case early =>
  intro b s w1_ hI
  refine hI.quiet (fun e he => ?_)
  rcases (HM.out e).1 he with rfl | rfl <;> simp
 case val =>
  intro o ho x s b_ w_ hI hbi hd
  cases ho
  generalize hA : putAll _ 0 s _ = A
  have e2 : s 2 = _ := (hd 2 (by decide) (by kernel_rfl)).2 (by decide) rfl
  refine opGives_value (v := .slice Ap p.length cp) (w' := w_) ?_ ⟨rfl, rfl⟩
  subst hA
  simp only [dsOf, List.take, List.map_cons, List.map_nil, Option.getD_some, putAll, Act.put, List.setIfInBounds_toArray, List.set_cons_zero, List.set_cons_succ]
  go_simp
 case stores =>
  intro i o h1 h2 hne ho x s b_ w_ hI hbi hd
  match i, h1, h2, hne, ho, hbi, hd with
  | 4, h1, h2, hne, ho, hbi, hd =>
   cases ho
   refine ⟨rfl, ?_⟩
   have e0 : s 0 = _ := (hd 0 (by decide) (by kernel_rfl)).2 (by decide) rfl
   have he : (⟨4, w.heap.size, a, .slice Au ys.length cu⟩ : Ent) ∈ L := (HM.out _).2 (by simp)
   have hk := hI.out _ he
   rw [hbi, if_neg (by decide)] at hk
   have c00 : w_.cell? ⟨w.heap.size, 0, none⟩ = some (.int .i64 0) := blk_cell hk 0
   have c01 : w_.cell? ⟨w.heap.size, 1, none⟩ = some (.slice none 0 0) := blk_cell hk 1
   have f00 : w_.frozen? ⟨w.heap.size, 0, none⟩ = false := blk_frozen hk 0
   have f01 : w_.frozen? ⟨w.heap.size, 1, none⟩ = false := blk_frozen hk 1
   generalize hA : putAll _ 0 s _ = A
   refine ⟨(w_.setCell ⟨w.heap.size, 0, none⟩ (.int .i64 a)).setCell ⟨w.heap.size, 1, none⟩ (.slice Au ys.length cu), ?_, ?_⟩
   ·subst hA
    simp only [dsOf, List.take, List.map_cons, List.map_nil, Option.getD_some, putAll, Act.put, List.setIfInBounds_toArray, List.set_cons_zero, List.set_cons_succ]
    clear hd
    go_simp
   ·exact hI.put he hbi (HU1.out _ he) (HU2.out _ he)
  | 5, h1, h2, hne, ho, hbi, hd =>
   cases ho
   refine ⟨rfl, ?_⟩
   have e1 : s 1 = _ := (hd 1 (by decide) (by kernel_rfl)).2 (by decide) rfl
   have he : (⟨5, w.heap.size + 1, b, .slice Az zs.length cz⟩ : Ent) ∈ L := (HM.out _).2 (by simp)
   have hk := hI.out _ he
   rw [hbi, if_neg (by decide)] at hk
   have c00 : w_.cell? ⟨w.heap.size + 1, 0, none⟩ = some (.int .i64 0) := blk_cell hk 0
   have c01 : w_.cell? ⟨w.heap.size + 1, 1, none⟩ = some (.slice none 0 0) := blk_cell hk 1
   have f00 : w_.frozen? ⟨w.heap.size + 1, 0, none⟩ = false := blk_frozen hk 0
   have f01 : w_.frozen? ⟨w.heap.size + 1, 1, none⟩ = false := blk_frozen hk 1
   generalize hA : putAll _ 0 s _ = A
   refine ⟨(w_.setCell ⟨w.heap.size + 1, 0, none⟩ (.int .i64 b)).setCell ⟨w.heap.size + 1, 1, none⟩ (.slice Az zs.length cz), ?_, ?_⟩
   ·subst hA
    simp only [dsOf, List.take, List.map_cons, List.map_nil, Option.getD_some, putAll, Act.put, List.setIfInBounds_toArray, List.set_cons_zero, List.set_cons_succ]
    clear hd
    go_simp
   ·exact hI.put he hbi (HU1.out _ he) (HU2.out _ he)
  | 6, h1, h2, hne, ho, hbi, hd =>
   exact absurd rfl hne
  | n + 7, h1, h2, hne, ho, hbi, hd => exact absurd h2 (by omega)
 case rest =>
  intro sf b_ wf hI hb hv
  have e0_ : sf 0 = _ := hv 0 (by decide) rfl
  have e1_ : sf 1 = _ := hv 1 (by decide) rfl
  have e2_ : sf 2 = _ := hv 2 (by decide) rfl
  have e3_ : sf 3 = _ := hv 3 (by decide) rfl
  simp only [dsOf, List.take, List.map_cons, List.map_nil, Option.getD_some, putAll, Act.put, List.setIfInBounds_toArray, List.set_cons_zero, List.set_cons_succ]
  clear hv
  have hk4 := hI.out _ ((HM.out ⟨4, w.heap.size, a, .slice Au ys.length cu⟩).2 (by simp))
  rw [hb 4 (by decide), if_pos rfl] at hk4
  have HF4 := Aside0.mk hk4
  clear hk4
  have hk5 := hI.out _ ((HM.out ⟨5, w.heap.size + 1, b, .slice Az zs.length cz⟩).2 (by simp))
  rw [hb 5 (by decide), if_pos rfl] at hk5
  have HF5 := Aside0.mk hk5
  clear hk5
  have HCO := Aside0.mk hI
  rw [e2_, e3_]
  clear hb hI e0_ e1_ e2_ e3_
  simp only [List.drop]
  unfold tailList
  refine .inl ?_
  refine opGives_value (v := .int .i64 g) (w' := wf) ?_ ?_
  ·go_simp
  simp only [List.drop, Act.put, List.setIfInBounds_toArray, List.set_cons_zero, List.set_cons_succ]
  unfold tailList
  go_wp2
  refine bodyPost_ret (results_cctt rfl _ _ w.heap.size (w.heap.size + 1) 26 26 #[.int .i64 a, .slice Au ys.length cu] #[.int .i64 b, .slice Az zs.length cz] (0, 0) (0, 0) _ _ rfl HF4.out Tryz.underlying26 rfl (by kernel_rfl) rfl HF5.out Tryz.underlying26 rfl (by kernel_rfl)) rfl ?_
  exact ⟨a, b, .slice Au ys.length cu, .slice Az zs.length cz, .slice Ap p.length cp, ys, zs, p, g, rfl, HCO.out.own HU.out HC0.out, HCO.out.own HV2.out HC0.out, HCO.out.own HP.out HC0.out, HRA.out, HRB.out, HPL.out, HPB.out, HG.out, HCO.out.below (HB1.out.trans (HB4.out.mono HB1.out.size)) (Nat.le_trans HB1.out.size HB4.out.size) (fun e he => (HLO.out e he).1)⟩
/-- a draw of two complexes and two maps, out of a code -/
def TwoDraw (w : World) (e : Ending) (w' : World) : Prop := ∃ (a b : Int) (u z lv rv : Value) (ys zs p q : List Int), e = .returned (.tuple #[.agg #[.int .i64 a, u], .agg #[.int .i64 b, z], lv, rv]) ∧ OwnI w.heap.size w' u ys ∧ OwnI w.heap.size w' z zs ∧ OwnI w.heap.size w' lv p ∧ OwnI w.heap.size w' rv q ∧ Rc a ys ∧ Rc b zs ∧ p.length ≤ 7 ∧ (∀ x ∈ p, -1 ≤ x ∧ x ≤ 6) ∧ q.length ≤ 7 ∧ (∀ x ∈ q, -1 ≤ x ∧ x ≤ 6) ∧ Below w.heap.size w w'
set_option maxRecDepth 100000 in
set_option maxHeartbeats 8000000 in
theorem drawAreContiguous (v : Value) (nb : Nat) (w : World) (hn : nb ≤ 4096) (hv : ReadY w v nb) : Calls Tryz.prog 27 #[v] w (TwoDraw w) := by
 obtain ⟨w1, hw1⟩ : ∃ w1, w1 = (w.alloc C0).alloc C0 := ⟨_, rfl⟩
 have hB : Below w.heap.size w w1 := by rw [hw1]; exact ((Below.refl _ w).alloc (Nat.le_refl _) _).alloc (by simp) _
 have hsz : w1.heap.size = w.heap.size + 2 := by rw [hw1]; simp
 have hk0 : w1.heap[w.heap.size]? = some C0 := by
  rw [hw1]; exact blk_below (heap_alloc_new w _) (Below.alloc (Below.refl _ _) (Nat.le_refl _) _)
 have hk1 : w1.heap[w.heap.size + 1]? = some C0 := by
  rw [hw1]; have h := heap_alloc_new (w.alloc C0) C0
  rw [World.size_alloc] at h
  exact h
 have HB1 := Aside0.mk hB
 have HZ := Aside0.mk hsz
 have HK0 := Aside0.mk hk0
 have HK1 := Aside0.mk hk1
 have HFR := Aside0.mk (srcFrom v nb hn w1 (hv.below hB))
 have hmx : Tryz.prog.follows .mixedOrders = true := by kernel_rfl
 clear hv hB hk0 hk1 hsz
 go_enter Tryz.func27, Tryz.ntmps27
 go_wp2_with (first | (go_at_call 117; rw [← hw1]; clear hw1; refine HFR.out.mono ?_; rintro e w2 ⟨rfl, hs, hb⟩; have HS2 := Aside0.mk hs; have HB2 := Aside0.mk hb; clear hs hb) | (go_at_call 116; refine Aside0.out ?_))
 refine Aside0.mk ?_
 with_reducible refine (drawWith w1.heap.size w2 HS2.out).mono ?_
 rintro e w3 ⟨a, b, u, z, lv, ys, zs, p, rfl, hu, hz, hp, hra, hrb, hpl, hpb, hd⟩
 obtain ⟨Au, cu, rfl, -⟩ := id hu.read
 obtain ⟨Az, cz, rfl, -⟩ := id hz.read
 obtain ⟨Ap, cp, rfl, -⟩ := id hp.read
 obtain ⟨bs, hbs⟩ : ∃ bs, bs = w1.heap.size := ⟨_, rfl⟩
 rw [← hbs] at HS2 hd
 have hz0 := HZ.out
 have hx2 : XS bs w2.heap.size w [w.heap.size, w.heap.size + 1] [] [] w2 := XS.start (HB1.out.trans (HB2.out.mono HB1.out.size)) HS2.out (fun k hk => by
  rcases List.mem_cons.1 hk with rfl | hk
  ·exact ⟨by omega, Nat.le_refl _, blk_up HB2.out (by omega) HK0.out⟩
  ·rw [List.mem_singleton] at hk; subst hk
   exact ⟨by omega, by omega, blk_up HB2.out (by omega) HK1.out⟩) (by omega)
 have hlt := HS2.out.lt
 have hx3 := (((hx2.dw hd).row (hu.lower (b' := bs + 1) hlt)).row (hz.lower (b' := bs + 1) hlt)).row (hp.lower (b' := bs + 1) hlt)
 obtain ⟨w4, hw4⟩ : ∃ w4, w4 = (w3.alloc (.cells #[.int .i64 a, .slice Au ys.length cu] 26)).alloc (.cells #[.int .i64 b, .slice Az zs.length cz] 26) := ⟨_, rfl⟩
 have hx4 := (hx3.alloc a (.slice Au ys.length cu)).alloc b (.slice Az zs.length cz)
 rw [World.size_alloc, ← hw4] at hx4
 obtain ⟨k, hk⟩ : ∃ k, k = w3.heap.size := ⟨_, rfl⟩
 rw [← hk] at hx4
 have HX4 : Aside0 (XS bs (k + 2) w [w.heap.size, w.heap.size + 1] [(k + 1, b, .slice Az zs.length cz), (k, a, .slice Au ys.length cu)] [(.slice Ap p.length cp, p), (.slice Az zs.length cz, zs), (.slice Au ys.length cu, ys)] w4) := ⟨hx4⟩
 have HRA := Aside0.mk hra
 have HRB := Aside0.mk hrb
 have HPL := Aside0.mk hpl
 have HPB := Aside0.mk hpb
 have HBZ : Aside0 (bs = w.heap.size + 2) := ⟨by omega⟩
 clear hu hz hp hra hrb hpl hpb hd hx2 hx3 hx4 hlt hz0 HS2 HB2 HZ HK0 HK1 HB1
 go_upto_region 3 with (fail)
 rw [← hw4, ← hk, ← hbs]
 clear hw4 hk hbs
 go_upto_region 4 with (first | (go_at_call 153; refine Aside0.out ?_))
 refine Aside0.mk ?_
 have HRP := Aside0.mk (HX4.out.own (v := .slice Ap p.length cp) (l := p) (by simp)).read
 with_reducible refine (specOwn2 _ p w4 HRP.out (by have := HPL.out; omega)).mono ?_
 rintro e w5 ⟨_, rfl, ho, hb⟩
 obtain ⟨Ab, cb, rfl, -⟩ := id ho.read
 obtain ⟨B, hBq⟩ : ∃ B, B = w4.heap.size := ⟨_, rfl⟩
 have hx5 := HX4.out.lift.up hb
 rw [← hBq] at hx5 ho
 have HX5 : Aside0 (XS bs B w [w.heap.size, w.heap.size + 1] [(k + 1, b, .slice Az zs.length cz), (k, a, .slice Au ys.length cu)] [(.slice Ap p.length cp, p), (.slice Az zs.length cz, zs), (.slice Au ys.length cu, ys)] w5) := ⟨hx5⟩
 have HO5 := Aside0.mk ho
 have HLB : Aside0 (w.heap.size ≤ B ∧ bs < B) := ⟨by have := hx5.hbs; have := hx5.hbB; omega⟩
 clear hb ho hx5 hBq HX4 HRP
 go_upto_block 0 with (fail)
 go_cut [11] (fun s11 wc => ∃ L : List Int, L.length = p.length ∧ Aside0 (∀ x ∈ L, -1 ≤ x ∧ x ≤ 6) ∧ Aside0 (OwnI B wc (.slice Ab p.length cb) L) ∧ Aside0 (XS bs B w [w.heap.size, w.heap.size + 1] [(k + 1, b, .slice Az zs.length cz), (k, a, .slice Au ys.length cu)] [(.slice Ap p.length cp, p), (.slice Az zs.length cz, zs), (.slice Au ys.length cu, ys)] wc))
 case first =>
  go_wp2
  go_loopw [11] (fun s11 wr => ∃ (i : Nat) (L : List Int), s11 = .int .i64 i ∧ i ≤ p.length ∧ L.length = p.length ∧ Aside0 (∀ x ∈ L, -1 ≤ x ∧ x ≤ 6) ∧ Aside0 (OwnI B wr (.slice Ab p.length cb) L) ∧ Aside0 (XS bs B w [w.heap.size, w.heap.size + 1] [(k + 1, b, .slice Az zs.length cz), (k, a, .slice Au ys.length cu)] [(.slice Ap p.length cp, p), (.slice Az zs.length cz, zs), (.slice Au ys.length cu, ys)] wr)) (fun s11 _ => p.length - (intOf s11).toNat)
  case atStart => exact ⟨0, p, rfl, Nat.zero_le _, rfl, HPB, HO5, HX5⟩
  case round =>
   clear HO5 HX5
   obtain ⟨i, L, rfl, hi, hL, HBD, HO, HX⟩ := hrel
   have c60 := (HX.out.cell (k := k + 1) (a := b) (z := .slice Az zs.length cz) (by simp)).1
   have hp7 := HPL.out
   by_cases hlt : i < p.length
   ·have hltI : (i : Int) < (p.length : Int) := by omega
    have HLT := Aside0.mk hlt
    go_wp2_with (first | (go_at_call 146; refine Aside0.out ?_))
    refine Aside0.mk ?_
    have HS5 := Aside0.mk HX.out.hS
    with_reducible refine (next bs 3 wr (by omega) HS5.out).mono ?_
    rintro e w6 ⟨q, rfl, -, -, hd⟩
    have HX6 := Aside0.mk (HX.out.dw hd)
    have HO6 := Aside0.mk (HO.out.gm hd.1 HLB.out.2)
    clear hd HS5 c60
    have c60 := (HX6.out.cell (k := k + 1) (a := b) (z := .slice Az zs.length cz) (by simp)).1
    by_cases hq : q = 0
    ·have hq1 : (q == 0) = true := by rw [beq_iff_eq]; exact hq
     clear hq
     go_wp2_with (first | (go_at_call 148; refine Aside0.out ?_))
     refine Aside0.mk ?_
     refine (specIn _ _ _ _).mono ?_
     rintro e w7 ⟨rfl, hb⟩
     have HX7 := Aside0.mk (HX6.out.below hb)
     have HO7 := Aside0.mk (HO6.out.below hb)
     clear hb c60
     have c60 := (HX7.out.cell (k := k + 1) (a := b) (z := .slice Az zs.length cz) (by simp)).1
     by_cases hin : 1 ≤ b ∧ b ≤ 6
     ·rw [show (decide (1 ≤ b) && decide (b ≤ 6)) = true from by simp [hin.1, hin.2]]
      have HIN := Aside0.mk hin
      clear hin
      go_wp2_with (first | (go_at_call 146; refine Aside0.out ?_))
      refine Aside0.mk ?_
      have HS7 := Aside0.mk HX7.out.hS
      with_reducible refine (next bs b w7 (by have := HIN.out; omega) HS7.out).mono ?_
      rintro e w8 ⟨y, rfl, -, hy, hd⟩
      have hyb : -1 ≤ y ∧ y ≤ 6 := by have := hy HIN.out.1; have := HIN.out; omega
      have HY := Aside0.mk hyb
      have HX8 := Aside0.mk (HX7.out.dw hd)
      have ho8 := HO7.out.gm hd.1 HLB.out.2
      obtain ⟨g, c, hform, -⟩ := Kd.R_form ho8 (by omega)
      injection hform with hf1 hfm hf3
      clear hfm
      subst hf1
      subst hf3
      have HO8 := Aside0.mk ho8
      obtain ⟨⟨y0, hcell2⟩, hf2⟩ := OwnI.slot ho8 (i := i) hlt
      clear hy hd HS7 hyb c60 ho8
      go_wp2_with (first | ((with_reducible refine gate_store (t := 2) (p := 42) rfl ?_); refine store_own (w0 := w) rfl (p := 42) rfl rfl i y HO8.out ?ha ?hb ?hc ?_; (case ha => omega); (case hb => rfl); (case hc => rfl); intro w9 ho hg hb; have HO9 := Aside0.mk ho; have HB9 := Aside0.mk hb; clear ho hg hb))
      go_roundw
      case rel => exact ⟨i + 1, L.set i y, by go_num, by omega, by rw [List.length_set]; exact hL, ⟨fun x hx => by
       rcases List.mem_or_eq_of_mem_set hx with h | h
       ·exact HBD.out x h
       ·subst h; exact HY.out⟩, HO9, ⟨HX8.out.up HB9.out⟩⟩
      case measure => simp [intOf]; omega
     ·rw [show (decide (1 ≤ b) && decide (b ≤ 6)) = false from by simp; omega]
      go_wp2
      go_roundw
      case rel => exact ⟨i + 1, L, by go_num, by omega, hL, HBD, HO7, HX7⟩
      case measure => simp [intOf]; omega
    ·have hq1 : (q == 0) = false := by rw [beq_eq_false_iff_ne]; exact hq
     clear hq
     go_wp2
     go_roundw
     case rel => exact ⟨i + 1, L, by go_num, by omega, hL, HBD, HO6, HX6⟩
     case measure => simp [intOf]; omega
   ·have hltI : ¬ (i : Int) < (p.length : Int) := by omega
    go_wp2
    go_meet
    case rel => exact ⟨L, hL, HBD, HO, HX⟩
 case rest =>
  clear HO5 HX5
  obtain ⟨Lq, hL, HBD, HO6, HX6⟩ := hcut
  generalize wc = w6 at *
  have H5 := Aside0.mk (HX6.out.hc (k, a, .slice Au ys.length cu) (by simp)).2.2
  have H6 := Aside0.mk (HX6.out.hc (k + 1, b, .slice Az zs.length cz) (by simp)).2.2
  have HC := Aside0.mk (HX6.out.hr w.heap.size (by simp)).2.2
  have HC1 := Aside0.mk (HX6.out.hr (w.heap.size + 1) (by simp)).2.2
  have hkb : w.heap.size + 2 ≤ k := by have := (HX6.out.hc (k, a, .slice Au ys.length cu) (by simp)).1; have := HBZ.out; simp only at *; omega
  have HU := Aside0.mk ((HX6.out.own (v := .slice Au ys.length cu) (l := ys) (by simp)).lower (b' := w.heap.size) (by have := HBZ.out; omega))
  have HV2 := Aside0.mk ((HX6.out.own (v := .slice Az zs.length cz) (l := zs) (by simp)).lower (b' := w.heap.size) (by have := HBZ.out; omega))
  have HP := Aside0.mk ((HX6.out.own (v := .slice Ap p.length cp) (l := p) (by simp)).lower (b' := w.heap.size) (by have := HBZ.out; omega))
  have HQ := Aside0.mk (HO6.out.lower (b' := w.heap.size) HLB.out.1)
  have HBw := Aside0.mk HX6.out.hB
  have HLL := Aside0.mk hL
  clear HX6 HO6 hL
  go_upto_region 9 with (fail)
  obtain ⟨L, hL⟩ : ∃ L : List Ent, L = [⟨4, w.heap.size, a, .slice Au ys.length cu⟩, ⟨5, w.heap.size + 1, b, .slice Az zs.length cz⟩] := ⟨_, rfl⟩
  have hm : ∀ e, e ∈ L ↔ e = ⟨4, w.heap.size, a, .slice Au ys.length cu⟩ ∨ e = ⟨5, w.heap.size + 1, b, .slice Az zs.length cz⟩ := fun e => by rw [hL]; simp only [List.mem_cons, List.not_mem_nil, or_false]
  have hc0 : ∀ e ∈ L, w6.heap[e.k]? = some C0 := fun e he => by
   rcases (hm e).1 he with rfl | rfl
   ·exact HC.out
   ·exact HC1.out
  have hlo : ∀ e ∈ L, w.heap.size ≤ e.k ∧ e.k < w.heap.size + 2 := fun e he => by
   rcases (hm e).1 he with rfl | rfl <;> exact ⟨by simp, by simp⟩
  have hu1 : ∀ e ∈ L, ∀ e' ∈ L, e'.k = e.k → e' = e := fun e he e' he' hq => by
   rcases (hm e).1 he with rfl | rfl <;> rcases (hm e').1 he' with rfl | rfl <;> first | rfl | (simp at hq)
  have hu2 : ∀ e ∈ L, ∀ e' ∈ L, e'.j = e.j → e' = e := fun e he e' he' hq => by
   rcases (hm e).1 he with rfl | rfl <;> rcases (hm e').1 he' with rfl | rfl <;> first | rfl | (simp at hq)
  have HM := Aside0.mk hm
  have HC0 := Aside0.mk hc0
  have HLO := Aside0.mk hlo
  have HU1 := Aside0.mk hu1
  have HU2 := Aside0.mk hu2
  clear hL hm hc0 hlo hu1 hu2
  refine wp_region_x 4 7 6 4 (.slice Ap p.length cp) (by decide) (by decide) (fun i => !(i == 4) && !(i == 5)) (fun i => match i with | 0 => fun v => v = .agg #[.int .i64 a, .slice Au ys.length cu] | 1 => fun v => v = .agg #[.int .i64 b, .slice Az zs.length cz] | 2 => fun v => v = .slice Ap p.length cp | 3 => fun v => v = .slice Ab p.length cb | _ => fun _ => True)
   (fun b _ W => CO w6 L b W) [0, 0, 0, 0, 1, 19, 55, 127] hmx (by kernel_rfl) (by kernel_rfl) ?start ?stay ?early ?steps ?val ?stores ?rest
  case start =>
   intro b s hb
   exact CO.start HC0.out hb
  case stay =>
   intro i b s v w1_ hq hI
   refine hI.quiet (fun e he => ?_)
   simp only [Bool.and_eq_true, Bool.not_eq_true', beq_eq_false_iff_ne, Bool.true_and] at hq
   rcases (HM.out e).1 he with rfl | rfl <;> first | exact fun h => hq.1 h.symm | exact fun h => hq.2 h.symm | exact fun h => hq.1.1 h.symm | exact fun h => hq.1.2 h.symm | exact fun h => hq h.symm
  case steps =>
   intro x
   refine ⟨?_, ?_, ?_, ?_, trivial⟩
   ·intro s b_ w_ hI hbi hd hq R hR hN
    generalize hA : putAll _ 0 s _ = A
    clear hq
    refine stepG_on rfl ?_
    have hkb := hI.blk H5.out (fun e he => by have := (HLO.out e he).2; omega)
    have k0 := blk_cell hkb 0
    have k1 := blk_cell hkb 1
    clear hkb
    have hR' := hR rfl (.agg #[.int .i64 a, .slice Au ys.length cu]) rfl
    clear hR hN hd
    refine opGives_value ?_ hR'
    subst hA
    simp only [dsOf, List.take, List.map_cons, List.map_nil, Option.getD_some, putAll, Act.put, List.setIfInBounds_toArray, List.set_cons_zero, List.set_cons_succ]
    go_simp
   ·intro s b_ w_ hI hbi hd hq R hR hN
    generalize hA : putAll _ 0 s _ = A
    clear hq
    refine stepG_on rfl ?_
    have hkb := hI.blk H6.out (fun e he => by have := (HLO.out e he).2; omega)
    have k0 := blk_cell hkb 0
    have k1 := blk_cell hkb 1
    clear hkb
    have hR' := hR rfl (.agg #[.int .i64 b, .slice Az zs.length cz]) rfl
    clear hR hN hd
    refine opGives_value ?_ hR'
    subst hA
    simp only [dsOf, List.take, List.map_cons, List.map_nil, Option.getD_some, putAll, Act.put, List.setIfInBounds_toArray, List.set_cons_zero, List.set_cons_succ]
    go_simp
   ·intro s b_ w_ hI hbi hd hq R hR hN
    generalize hA : putAll _ 0 s _ = A
    clear hq
    refine stepG_on rfl ?_
    have hR' := hR rfl (.slice Ap p.length cp) rfl
    clear hR hN hd
    refine opGives_value ?_ hR'
    subst hA
    simp only [dsOf, List.take, List.map_cons, List.map_nil, Option.getD_some, putAll, Act.put, List.setIfInBounds_toArray, List.set_cons_zero, List.set_cons_succ]
    go_simp
   ·intro s b_ w_ hI hbi hd hq R hR hN
    generalize hA : putAll _ 0 s _ = A
    clear hq
    refine stepG_on rfl ?_
    have hR' := hR rfl (.slice Ab p.length cb) rfl
    clear hR hN hd
    refine opGives_value ?_ hR'
    subst hA
    simp only [dsOf, List.take, List.map_cons, List.map_nil, Option.getD_some, putAll, Act.put, List.setIfInBounds_toArray, List.set_cons_zero, List.set_cons_succ]
    go_simp
  case early =>
   intro b s w1_ hI
   refine hI.quiet (fun e he => ?_)
   rcases (HM.out e).1 he with rfl | rfl <;> simp
  case val =>
   intro o ho x s b_ w_ hI hbi hd
   cases ho
   generalize hA : putAll _ 0 s _ = A
   have e2 : s 2 = _ := (hd 2 (by decide) (by kernel_rfl)).2 (by decide) rfl
   refine opGives_value (v := .slice Ap p.length cp) (w' := w_) ?_ ⟨rfl, rfl⟩
   subst hA
   simp only [dsOf, List.take, List.map_cons, List.map_nil, Option.getD_some, putAll, Act.put, List.setIfInBounds_toArray, List.set_cons_zero, List.set_cons_succ]
   go_simp
  case stores =>
   intro i o h1 h2 hne ho x s b_ w_ hI hbi hd
   match i, h1, h2, hne, ho, hbi, hd with
   | 4, h1, h2, hne, ho, hbi, hd =>
    cases ho
    refine ⟨rfl, ?_⟩
    have e0 : s 0 = _ := (hd 0 (by decide) (by kernel_rfl)).2 (by decide) rfl
    have he : (⟨4, w.heap.size, a, .slice Au ys.length cu⟩ : Ent) ∈ L := (HM.out _).2 (by simp)
    have hk := hI.out _ he
    rw [hbi, if_neg (by decide)] at hk
    have c00 : w_.cell? ⟨w.heap.size, 0, none⟩ = some (.int .i64 0) := blk_cell hk 0
    have c01 : w_.cell? ⟨w.heap.size, 1, none⟩ = some (.slice none 0 0) := blk_cell hk 1
    have f00 : w_.frozen? ⟨w.heap.size, 0, none⟩ = false := blk_frozen hk 0
    have f01 : w_.frozen? ⟨w.heap.size, 1, none⟩ = false := blk_frozen hk 1
    generalize hA : putAll _ 0 s _ = A
    refine ⟨(w_.setCell ⟨w.heap.size, 0, none⟩ (.int .i64 a)).setCell ⟨w.heap.size, 1, none⟩ (.slice Au ys.length cu), ?_, ?_⟩
    ·subst hA
     simp only [dsOf, List.take, List.map_cons, List.map_nil, Option.getD_some, putAll, Act.put, List.setIfInBounds_toArray, List.set_cons_zero, List.set_cons_succ]
     clear hd
     go_simp
    ·exact hI.put he hbi (HU1.out _ he) (HU2.out _ he)
   | 5, h1, h2, hne, ho, hbi, hd =>
    cases ho
    refine ⟨rfl, ?_⟩
    have e1 : s 1 = _ := (hd 1 (by decide) (by kernel_rfl)).2 (by decide) rfl
    have he : (⟨5, w.heap.size + 1, b, .slice Az zs.length cz⟩ : Ent) ∈ L := (HM.out _).2 (by simp)
    have hk := hI.out _ he
    rw [hbi, if_neg (by decide)] at hk
    have c00 : w_.cell? ⟨w.heap.size + 1, 0, none⟩ = some (.int .i64 0) := blk_cell hk 0
    have c01 : w_.cell? ⟨w.heap.size + 1, 1, none⟩ = some (.slice none 0 0) := blk_cell hk 1
    have f00 : w_.frozen? ⟨w.heap.size + 1, 0, none⟩ = false := blk_frozen hk 0
    have f01 : w_.frozen? ⟨w.heap.size + 1, 1, none⟩ = false := blk_frozen hk 1
    generalize hA : putAll _ 0 s _ = A
    refine ⟨(w_.setCell ⟨w.heap.size + 1, 0, none⟩ (.int .i64 b)).setCell ⟨w.heap.size + 1, 1, none⟩ (.slice Az zs.length cz), ?_, ?_⟩
    ·subst hA
     simp only [dsOf, List.take, List.map_cons, List.map_nil, Option.getD_some, putAll, Act.put, List.setIfInBounds_toArray, List.set_cons_zero, List.set_cons_succ]
     clear hd
     go_simp
    ·exact hI.put he hbi (HU1.out _ he) (HU2.out _ he)
   | 6, h1, h2, hne, ho, hbi, hd =>
    exact absurd rfl hne
   | n + 7, h1, h2, hne, ho, hbi, hd => exact absurd h2 (by omega)
  case rest =>
   intro sf b_ wf hI hb hv
   have e0_ : sf 0 = _ := hv 0 (by decide) rfl
   have e1_ : sf 1 = _ := hv 1 (by decide) rfl
   have e2_ : sf 2 = _ := hv 2 (by decide) rfl
   have e3_ : sf 3 = _ := hv 3 (by decide) rfl
   simp only [dsOf, List.take, List.map_cons, List.map_nil, Option.getD_some, putAll, Act.put, List.setIfInBounds_toArray, List.set_cons_zero, List.set_cons_succ]
   clear hv
   have hk4 := hI.out _ ((HM.out ⟨4, w.heap.size, a, .slice Au ys.length cu⟩).2 (by simp))
   rw [hb 4 (by decide), if_pos rfl] at hk4
   have HF4 := Aside0.mk hk4
   clear hk4
   have hk5 := hI.out _ ((HM.out ⟨5, w.heap.size + 1, b, .slice Az zs.length cz⟩).2 (by simp))
   rw [hb 5 (by decide), if_pos rfl] at hk5
   have HF5 := Aside0.mk hk5
   clear hk5
   have HCO := Aside0.mk hI
   rw [e2_, e3_]
   clear hb hI e0_ e1_ e2_ e3_
   simp only [List.drop]
   unfold tailList
   refine .inl ?_
   refine opGives_value (v := .slice Ab p.length cb) (w' := wf) ?_ ?_
   ·go_simp
   simp only [List.drop, Act.put, List.setIfInBounds_toArray, List.set_cons_zero, List.set_cons_succ]
   unfold tailList
   go_wp2
   refine bodyPost_ret (results_cctt rfl _ _ w.heap.size (w.heap.size + 1) 26 26 #[.int .i64 a, .slice Au ys.length cu] #[.int .i64 b, .slice Az zs.length cz] (0, 0) (0, 0) _ _ rfl HF4.out Tryz.underlying26 rfl (by kernel_rfl) rfl HF5.out Tryz.underlying26 rfl (by kernel_rfl)) rfl ?_
   exact ⟨a, b, .slice Au ys.length cu, .slice Az zs.length cz, .slice Ap p.length cp, .slice Ab p.length cb, ys, zs, p, Lq, rfl, HCO.out.own HU.out HC0.out, HCO.out.own HV2.out HC0.out, HCO.out.own HP.out HC0.out, HCO.out.own HQ.out HC0.out, HRA.out, HRB.out, HPL.out, HPB.out, by rw [HLL.out]; exact HPL.out, HBD.out, HCO.out.below HBw.out HBw.out.size (fun e he => (HLO.out e he).1)⟩
end Go.Proofs.YtomofijniefelaaGreat.H
