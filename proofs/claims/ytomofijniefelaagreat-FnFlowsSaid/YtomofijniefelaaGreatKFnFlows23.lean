/- Pairings drawn: l02Draw (printed by genml.py). Faces and chains drawn: l02Face, l06DrawChain (printed by gendn.py). CriticalFaces of the reference: what a draw asks of it. -/
import Derived.Test.YtomofijniefelaaGreatKFnFlows1
import Derived.Test.YtomofijniefelaaGreatKFnFlows2
import Derived.Test.YtomofijniefelaaGreatKFnFlows3
import Derived.Test.YtomofijniefelaaGreatKFnFlows4
import Derived.Test.YtomofijniefelaaGreatKFnFlows5
import Derived.Test.YtomofijniefelaaGreatKFnFlows6
import Derived.Test.YtomofijniefelaaGreatKFnFlows7
import Derived.Test.YtomofijniefelaaGreatKFnFlows8
import Derived.Test.YtomofijniefelaaGreatKFnFlows9
import Derived.Test.YtomofijniefelaaGreatKFnFlows10
import Derived.Test.YtomofijniefelaaGreatKFnFlows11
import Derived.Test.YtomofijniefelaaGreatKFnFlows12
import Derived.Test.YtomofijniefelaaGreatKFnFlows13
import Derived.Test.YtomofijniefelaaGreatKFnFlows14
import Derived.Test.YtomofijniefelaaGreatKFnFlows15
import Derived.Test.YtomofijniefelaaGreatKFnFlows16
import Derived.Test.YtomofijniefelaaGreatKFnFlows17
import Derived.Test.YtomofijniefelaaGreatKFnFlows18
import Derived.Test.YtomofijniefelaaGreatKFnFlows19
import Derived.Test.YtomofijniefelaaGreatKFnFlows20
import Derived.Test.YtomofijniefelaaGreatKFnFlows21
import Derived.Test.YtomofijniefelaaGreatKFnFlows22

namespace Go.Proofs.YtomofijniefelaaGreat.H
open Go.RowKit Go.Proofs.YtomofijniefelaaGreatW.PrintWords Go.Proofs.YtomofijniefelaaGreatW.PrintLast
set_option linter.unusedVariables false
set_option linter.unusedSimpArgs false
set_option maxRecDepth 100000 in
set_option maxHeartbeats 4000000 in
theorem drawPaired (bs : Nat) (w : World) (hs : Src bs w) :
  Calls Tryz.prog 230 #[.pointer (some ⟨bs, 0, none⟩)] w fun e w' => ∃ (a : Int) (u tv : Value) (ys : List Int) (ps : List (Int × Int)), e = .returned (.tuple #[.agg #[.int .i64 a, u], tv]) ∧ OwnI w.heap.size w' u ys ∧ OwnP w.heap.size w' tv ps ∧ Rc a ys ∧ ps.length ≤ 5000 ∧ Dw bs w w' := by
 have HBS := Aside0.mk hs.lt
 obtain ⟨w1, hw1⟩ : ∃ w1, w1 = w.alloc C0 := ⟨_, rfl⟩
 have hb1 : Below w.heap.size w w1 := by rw [hw1]; exact Below.alloc (Below.refl _ _) (Nat.le_refl _) _
 have HZ1 : Aside0 (w1.heap.size = w.heap.size + 1) := ⟨by rw [hw1]; simp⟩
 have HK1 : Aside0 (w1.heap[w.heap.size]? = some C0) := ⟨by rw [hw1]; exact blk_new w _⟩
 have HD1 := Aside0.mk (Dw.of_below hs hb1)
 have hmx : Tryz.prog.follows .mixedOrders = true := by kernel_rfl
 clear hs hb1
 have HSP := Aside0.mk (spoil bs w1 HD1.out.2)
 go_enter Tryz.func230, Tryz.ntmps230
 go_wp2_with (first | (go_at_call 195; rw [← hw1]; clear hw1; refine HSP.out.mono ?_; rintro e w2 ⟨_, rfl, ⟨a, z, ys, rfl, ho, hr⟩, hd⟩; obtain ⟨Az, cz, rfl, -⟩ := id ho.read; have HD2 := Aside0.mk hd; have HO2 := Aside0.mk ho; have HR := Aside0.mk hr; clear ho hr hd) | (go_at_call 146; refine Aside0.out ?_))
 refine Aside0.mk ?_
 obtain ⟨w3, hw3⟩ : ∃ w3, w3 = w2.alloc (.cells #[.int .i64 a, .slice Az ys.length cz] 26) := ⟨_, rfl⟩
 rw [← hw3]
 have hb3 : Below w2.heap.size w2 w3 := by rw [hw3]; exact Below.alloc (Below.refl _ _) (Nat.le_refl _) _
 have hk3 : w3.heap[w2.heap.size]? = some (.cells #[.int .i64 a, .slice Az ys.length cz] 26) := by rw [hw3]; exact heap_alloc_new w2 _
 clear hw3
 have hkb : w2.heap.size ≠ bs := Nat.ne_of_gt HD2.out.2.lt
 have HD3 := Aside0.mk (HD2.out.then_below hb3)
 have SHD3 : Aside0 (Src bs w3) := ⟨HD3.out.2⟩
 have HO3 := Aside0.mk (HO2.out.below hb3)
 clear hb3
 with_reducible refine (next bs 2 w3 (by decide) SHD3.out).mono ?_
 rintro e w4 ⟨r, rfl, -, -, hd⟩
 have hk4 : w4.heap[w2.heap.size]? = some (.cells #[.int .i64 a, .slice Az ys.length cz] 26) := by rw [hd.1.block _ (blk_lt hk3) (fun e => hkb (Option.some.inj e))]; exact hk3
 have HD4 := Aside0.mk (HD3.out.trans hd)
 have HO4 := Aside0.mk (HO3.out.gm hd.1 HD1.out.2.lt)
 have SHD4 : Aside0 (Src bs w4) := ⟨hd.2⟩
 clear hd hk3
 by_cases hr0 : r = 0
 ·subst hr0
  have HS2 := Aside0.mk (blk_lt hk4)
  have HK4 := Aside0.mk hk4
  clear hk4 HR HO2 HO3 HO4
  go_wp2_with (first | (go_at_call 145; go_must (refine (small bs w4 SHD4.out).mono ?_; rintro e w5 ⟨n, z5, xs5, rfl, ho, hg, hd⟩; obtain ⟨A5, c5, rfl, -⟩ := id ho.read; have hk5 : w5.heap[w2.heap.size]? = some (.cells #[.int .i64 a, .slice Az ys.length cz] 26) := (by rw [hd.1.block _ HS2.out (fun e => hkb (Option.some.inj e))]; exact HK4.out); have HK5 := Aside0.mk hk5; have HD5 := Aside0.mk (HD4.out.trans hd); have HO5 := Aside0.mk ho; have HR5 := Aside0.mk hg.rc; have c00 : w5.cell? ⟨w2.heap.size, 0, none⟩ = some (.int .i64 a) := blk_cell hk5 0; have c01 : w5.cell? ⟨w2.heap.size, 1, none⟩ = some (.slice Az ys.length cz) := blk_cell hk5 1; have f00 : w5.frozen? ⟨w2.heap.size, 0, none⟩ = false := blk_frozen hk5 0; have f01 : w5.frozen? ⟨w2.heap.size, 1, none⟩ = false := blk_frozen hk5 1; clear ho hg hd hk5)))
  obtain ⟨wz, hwz⟩ : ∃ wz, wz = (w5.setCell ⟨w2.heap.size, 0, none⟩ (Value.int IntKind.i64 n)).setCell ⟨w2.heap.size, 1, none⟩ (Value.slice A5 xs5.length c5) := ⟨_, rfl⟩
  rw [← hwz]
  have hkz : wz.heap[w2.heap.size]? = some (.cells #[.int .i64 n, .slice A5 xs5.length c5] 26) := by
   rw [hwz]; refine blk_put (cs := #[.int .i64 n, .slice Az ys.length cz]) ?_ 1 _ rfl; refine blk_put (cs := #[.int .i64 a, .slice Az ys.length cz]) ?_ 0 _ rfl; exact HK5.out
  have hbb : Below w2.heap.size w5 wz := by rw [hwz]; exact ((Below.refl _ _).setCell (by simp) _).setCell (by simp) _
  have HDz := Aside0.mk (HD5.out.top (hbb.mono HD2.out.size) (Nat.le_refl _) HD1.out.2.lt)
  have HOz : Aside0 (OwnI w1.heap.size wz (.slice A5 xs5.length c5) xs5) := ⟨by
   have ho := HO5.out
   have hbse := ho.base
   have hs2 := HS2.out
   have ho := ho.lower (b' := w1.heap.size) HD4.out.size
   rw [hwz]
   exact (ho.grown (set_grown' _ w2.heap.size _ _) (fun j hj e => by have := hbse _ hj; cases e; omega)).grown (set_grown' _ w2.heap.size _ _) (fun j hj e => by have := hbse _ hj; cases e; omega)⟩
  clear hwz hbb c00 c01 f00 f01 HK5 HK4 HO5 HD5
  obtain ⟨a5, ha5⟩ : ∃ a5 : Int, a5 = n := ⟨_, rfl⟩
  rw [← ha5] at hkz HR5
  clear ha5
  clear HD4 SHD4
  have kc0 : wz.cell? ⟨w2.heap.size, 0, none⟩ = some (.int .i64 a5) := blk_cell hkz 0
  have kc1 : wz.cell? ⟨w2.heap.size, 1, none⟩ = some (.slice A5 xs5.length c5) := blk_cell hkz 1
  clear hkz
  have HBSz := Aside0.mk (show bs < wz.heap.size from HDz.out.2.lt)
  have HSz := Aside0.mk HDz.out.2
  have HZZ := Aside0.mk (HDz.out.size)
  refine wp_region_gv (Gm bs (Src bs)) (fun w => ⟨grown_drew w _, fun h => h.below (Below.refl _ _).drew⟩) (fun _ _ _ => Gm.trans) 4 (fun i => match i with | 0 => fun v _ => v = .agg #[.int .i64 a5, .slice A5 xs5.length c5] | 1 => fun v _ => v = .pointer (some ⟨bs, 0, none⟩) | 2 => fun v _ => v = .agg #[.int .i64 a5, .slice A5 xs5.length c5] | 3 => fun v W => ∃ t, OwnP wz.heap.size W v t ∧ t.length ≤ 5000 | _ => fun _ _ => True)
   [0, 0, 0, 6, 15, 31] hmx (by kernel_rfl) ?st ?steps ?rest
  case st =>
   intro i v w1_ w2_ hb
   match i with
   | 0 | 1 | 2 => exact id
   | 3 => exact fun ⟨t, ho, h1⟩ => ⟨t, ho.gm hb.1 HBSz.out, h1⟩
   | n + 4 => exact id
  case steps =>
   refine ⟨?_, ?_, ?_, ?_, trivial⟩
   ·intro s w_ hb hd hq R hR
    generalize hA : putAll _ 0 s _ = A
    clear hq
    have kc0 := grown_cell hb.1 kc0 hkb
    have kc1 := grown_cell hb.1 kc1 hkb
    have hR' := hR (.agg #[.int .i64 a5, .slice A5 xs5.length c5]) _ (Gm.refl _ _ _) rfl
    clear hR hd
    refine opGives_value ?_ hR'
    subst hA
    simp only [dsOf, List.take, List.map_cons, List.map_nil, Option.getD_some, putAll, Act.put, List.setIfInBounds_toArray, List.set_cons_zero, List.set_cons_succ]
    go_simp
   ·intro s w_ hb hd hq R hR
    generalize hA : putAll _ 0 s _ = A
    clear hq
    have hR' := hR (.pointer (some ⟨bs, 0, none⟩)) _ (Gm.refl _ _ _) rfl
    clear hR hd
    refine opGives_value ?_ hR'
    subst hA
    simp only [dsOf, List.take, List.map_cons, List.map_nil, Option.getD_some, putAll, Act.put, List.setIfInBounds_toArray, List.set_cons_zero, List.set_cons_succ]
    go_simp
   ·intro s w_ hb hd hq R hR
    generalize hA : putAll _ 0 s _ = A
    clear hq
    have kc0 := grown_cell hb.1 kc0 hkb
    have kc1 := grown_cell hb.1 kc1 hkb
    have hR' := hR (.agg #[.int .i64 a5, .slice A5 xs5.length c5]) _ (Gm.refl _ _ _) rfl
    clear hR hd
    refine opGives_value ?_ hR'
    subst hA
    simp only [dsOf, List.take, List.map_cons, List.map_nil, Option.getD_some, putAll, Act.put, List.setIfInBounds_toArray, List.set_cons_zero, List.set_cons_succ]
    go_simp
   ·intro s w_ hb hd hq R hR
    generalize hA : putAll _ 0 s _ = A
    have e1 : s 1 = _ := hd 1 (by kernel_rfl)
    have e2 : s 2 = _ := hd 2 (by kernel_rfl)
    clear hq
    refine opGives_call (f := 330) (args := #[.pointer (some ⟨bs, 0, none⟩), .agg #[.int .i64 a5, .slice A5 xs5.length c5]]) ?_ ?_
    ·subst hA
     clear hR hd
     simp only [dsOf, List.take, List.map_cons, List.map_nil, Option.getD_some, putAll, Act.put, List.setIfInBounds_toArray, List.set_cons_zero, List.set_cons_succ]
     go_simp
    clear hA A hd
    refine (drawPairs bs w1.heap.size a5 _ xs5 w_ (hb.2 HSz.out) (HOz.out.gm hb.1 HD1.out.2.lt) HD1.out.2.lt (Nat.le_trans HDz.out.size hb.1.size)).mono ?_
    rintro e w3_ ⟨u3, t, rfl, ho, hl, hd⟩
    exact ⟨_, rfl, hR _ _ ⟨hd.1, fun _ => hd.2⟩ ⟨t, ho.lower hb.1.size, hl⟩⟩
  case rest =>
   intro s9 w9 hb hv
   have e0_ : s9 0 = _ := hv 0 (by decide)
   obtain ⟨t4, o4, l4⟩ : ∃ t, OwnP wz.heap.size w9 (s9 3) t ∧ t.length ≤ 5000 := hv 3 (by decide)
   obtain ⟨A4, c4, e3_, -⟩ := id o4.readQ
   rw [e3_] at o4
   clear hv
   simp only [dsOf, List.take, List.map_cons, List.map_nil, Option.getD_some, putAll, Act.put, List.setIfInBounds_toArray, List.set_cons_zero, List.set_cons_succ]
   have hd9 : Dw bs w1 w9 := HDz.out.trans ⟨hb.1, hb.2 HSz.out⟩
   have hk9 : w9.heap[w.heap.size]? = some C0 := by rw [hd9.1.block _ (by have h1 := HZ1.out; omega) (fun e => by have := Option.some.inj e; have := HBS.out; omega)]; exact HK1.out
   have HK9 := Aside0.mk hk9
   have HD9 := Aside0.mk hd9
   have HO9 := Aside0.mk (HOz.out.gm hb.1 (HD1.out.2.lt))
   have HT9 := Aside0.mk (o4.lower HZZ.out)
   have HL9 := Aside0.mk l4
   have c00 : w9.cell? ⟨w.heap.size, 0, none⟩ = some (.int .i64 0) := blk_cell hk9 0
   have c01 : w9.cell? ⟨w.heap.size, 1, none⟩ = some (.slice none 0 0) := blk_cell hk9 1
   have f00 : w9.frozen? ⟨w.heap.size, 0, none⟩ = false := blk_frozen hk9 0
   have f01 : w9.frozen? ⟨w.heap.size, 1, none⟩ = false := blk_frozen hk9 1
   rw [e0_, e3_]
   clear hb hd9 hk9 o4 l4 e3_ e0_
   refine .inr ⟨(w9.setCell ⟨w.heap.size, 0, none⟩ (.int .i64 a5)).setCell ⟨w.heap.size, 1, none⟩ (.slice A5 xs5.length c5), (by go_simp), ?_⟩
   simp only [List.drop, Act.put, List.setIfInBounds_toArray, List.set_cons_zero, List.set_cons_succ]
   unfold tailList
   refine .inl ?_
   refine opGives_value (v := .slice A4 t4.length c4) (w' := (w9.setCell ⟨w.heap.size, 0, none⟩ (.int .i64 a5)).setCell ⟨w.heap.size, 1, none⟩ (.slice A5 xs5.length c5)) ?_ ?_
   ·go_simp
   simp only [List.drop, Act.put, List.setIfInBounds_toArray, List.set_cons_zero, List.set_cons_succ]
   unfold tailList
   go_wp2
   refine bodyPost_ret (results_ct rfl _ _ w.heap.size 26 #[.int .i64 a5, .slice A5 xs5.length c5] (0, 0) _ rfl (by refine blk_put (cs := #[.int .i64 a5, .slice none 0 0]) ?_ 1 _ rfl; refine blk_put (cs := #[.int .i64 0, .slice none 0 0]) ?_ 0 _ rfl; exact HK9.out) Tryz.underlying26 rfl (by kernel_rfl)) rfl ?_
   have hbb : Below w.heap.size w9 ((w9.setCell ⟨w.heap.size, 0, none⟩ (Value.int IntKind.i64 a5)).setCell ⟨w.heap.size, 1, none⟩ (Value.slice A5 xs5.length c5)) := ((Below.refl _ _).setCell (by simp) _).setCell (by simp) _
   have hz := HZ1.out
   have own : ∀ {v : Value} {l : List Int}, OwnI w1.heap.size w9 v l → OwnI w.heap.size ((w9.setCell ⟨w.heap.size, 0, none⟩ (Value.int IntKind.i64 a5)).setCell ⟨w.heap.size, 1, none⟩ (Value.slice A5 xs5.length c5)) v l := by
    intro v l ho
    have hbse := ho.base
    have ho := ho.lower (b' := w.heap.size) (by omega)
    exact (ho.grown (set_grown' _ w.heap.size _ _) (fun j hj e => by have := hbse _ hj; cases e; omega)).grown (set_grown' _ w.heap.size _ _) (fun j hj e => by have := hbse _ hj; cases e; omega)
   have ownp : ∀ {v : Value} {l : List (Int × Int)}, OwnP w1.heap.size w9 v l → OwnP w.heap.size ((w9.setCell ⟨w.heap.size, 0, none⟩ (Value.int IntKind.i64 a5)).setCell ⟨w.heap.size, 1, none⟩ (Value.slice A5 xs5.length c5)) v l := by
    intro v l ho
    have hbse := ho.base
    have ho := ho.lower (b' := w.heap.size) (by omega)
    exact (ho.grown (set_grown' _ w.heap.size _ _) (fun j hj e => by have := hbse _ hj; cases e; omega)).grown (set_grown' _ w.heap.size _ _) (fun j hj e => by have := hbse _ hj; cases e; omega)
   exact ⟨a5, _, _, xs5, t4, rfl, own HO9.out, ownp HT9.out, HR5.out, HL9.out, (HD1.out.trans HD9.out).top hbb (Nat.le_refl _) HBS.out⟩
 ·have HDz : Aside0 (Dw bs w1 w4) := HD4
  have HOz := HO4
  obtain ⟨wz, hwz⟩ : ∃ wz, wz = w4 := ⟨_, rfl⟩
  have kc0 : w4.cell? ⟨w2.heap.size, 0, none⟩ = some (.int .i64 a) := blk_cell hk4 0
  have kc1 : w4.cell? ⟨w2.heap.size, 1, none⟩ = some (.slice Az ys.length cz) := blk_cell hk4 1
  clear hk4
  go_wp2
  subst hwz
  have HBSz := Aside0.mk (show bs < wz.heap.size from HDz.out.2.lt)
  have HSz := Aside0.mk HDz.out.2
  have HZZ := Aside0.mk (HDz.out.size)
  refine wp_region_gv (Gm bs (Src bs)) (fun w => ⟨grown_drew w _, fun h => h.below (Below.refl _ _).drew⟩) (fun _ _ _ => Gm.trans) 4 (fun i => match i with | 0 => fun v _ => v = .agg #[.int .i64 a, .slice Az ys.length cz] | 1 => fun v _ => v = .pointer (some ⟨bs, 0, none⟩) | 2 => fun v _ => v = .agg #[.int .i64 a, .slice Az ys.length cz] | 3 => fun v W => ∃ t, OwnP wz.heap.size W v t ∧ t.length ≤ 5000 | _ => fun _ _ => True)
   [0, 0, 0, 6, 15, 31] hmx (by kernel_rfl) ?st ?steps ?rest
  case st =>
   intro i v w1_ w2_ hb
   match i with
   | 0 | 1 | 2 => exact id
   | 3 => exact fun ⟨t, ho, h1⟩ => ⟨t, ho.gm hb.1 HBSz.out, h1⟩
   | n + 4 => exact id
  case steps =>
   refine ⟨?_, ?_, ?_, ?_, trivial⟩
   ·intro s w_ hb hd hq R hR
    generalize hA : putAll _ 0 s _ = A
    clear hq
    have kc0 := grown_cell hb.1 kc0 hkb
    have kc1 := grown_cell hb.1 kc1 hkb
    have hR' := hR (.agg #[.int .i64 a, .slice Az ys.length cz]) _ (Gm.refl _ _ _) rfl
    clear hR hd
    refine opGives_value ?_ hR'
    subst hA
    simp only [dsOf, List.take, List.map_cons, List.map_nil, Option.getD_some, putAll, Act.put, List.setIfInBounds_toArray, List.set_cons_zero, List.set_cons_succ]
    go_simp
   ·intro s w_ hb hd hq R hR
    generalize hA : putAll _ 0 s _ = A
    clear hq
    have hR' := hR (.pointer (some ⟨bs, 0, none⟩)) _ (Gm.refl _ _ _) rfl
    clear hR hd
    refine opGives_value ?_ hR'
    subst hA
    simp only [dsOf, List.take, List.map_cons, List.map_nil, Option.getD_some, putAll, Act.put, List.setIfInBounds_toArray, List.set_cons_zero, List.set_cons_succ]
    go_simp
   ·intro s w_ hb hd hq R hR
    generalize hA : putAll _ 0 s _ = A
    clear hq
    have kc0 := grown_cell hb.1 kc0 hkb
    have kc1 := grown_cell hb.1 kc1 hkb
    have hR' := hR (.agg #[.int .i64 a, .slice Az ys.length cz]) _ (Gm.refl _ _ _) rfl
    clear hR hd
    refine opGives_value ?_ hR'
    subst hA
    simp only [dsOf, List.take, List.map_cons, List.map_nil, Option.getD_some, putAll, Act.put, List.setIfInBounds_toArray, List.set_cons_zero, List.set_cons_succ]
    go_simp
   ·intro s w_ hb hd hq R hR
    generalize hA : putAll _ 0 s _ = A
    have e1 : s 1 = _ := hd 1 (by kernel_rfl)
    have e2 : s 2 = _ := hd 2 (by kernel_rfl)
    clear hq
    refine opGives_call (f := 330) (args := #[.pointer (some ⟨bs, 0, none⟩), .agg #[.int .i64 a, .slice Az ys.length cz]]) ?_ ?_
    ·subst hA
     clear hR hd
     simp only [dsOf, List.take, List.map_cons, List.map_nil, Option.getD_some, putAll, Act.put, List.setIfInBounds_toArray, List.set_cons_zero, List.set_cons_succ]
     go_simp
    clear hA A hd
    refine (drawPairs bs w1.heap.size a _ ys w_ (hb.2 HSz.out) (HOz.out.gm hb.1 HD1.out.2.lt) HD1.out.2.lt (Nat.le_trans HDz.out.size hb.1.size)).mono ?_
    rintro e w3_ ⟨u3, t, rfl, ho, hl, hd⟩
    exact ⟨_, rfl, hR _ _ ⟨hd.1, fun _ => hd.2⟩ ⟨t, ho.lower hb.1.size, hl⟩⟩
  case rest =>
   intro s9 w9 hb hv
   have e0_ : s9 0 = _ := hv 0 (by decide)
   obtain ⟨t4, o4, l4⟩ : ∃ t, OwnP wz.heap.size w9 (s9 3) t ∧ t.length ≤ 5000 := hv 3 (by decide)
   obtain ⟨A4, c4, e3_, -⟩ := id o4.readQ
   rw [e3_] at o4
   clear hv
   simp only [dsOf, List.take, List.map_cons, List.map_nil, Option.getD_some, putAll, Act.put, List.setIfInBounds_toArray, List.set_cons_zero, List.set_cons_succ]
   have hd9 : Dw bs w1 w9 := HDz.out.trans ⟨hb.1, hb.2 HSz.out⟩
   have hk9 : w9.heap[w.heap.size]? = some C0 := by rw [hd9.1.block _ (by have h1 := HZ1.out; omega) (fun e => by have := Option.some.inj e; have := HBS.out; omega)]; exact HK1.out
   have HK9 := Aside0.mk hk9
   have HD9 := Aside0.mk hd9
   have HO9 := Aside0.mk (HOz.out.gm hb.1 (HD1.out.2.lt))
   have HT9 := Aside0.mk (o4.lower HZZ.out)
   have HL9 := Aside0.mk l4
   have c00 : w9.cell? ⟨w.heap.size, 0, none⟩ = some (.int .i64 0) := blk_cell hk9 0
   have c01 : w9.cell? ⟨w.heap.size, 1, none⟩ = some (.slice none 0 0) := blk_cell hk9 1
   have f00 : w9.frozen? ⟨w.heap.size, 0, none⟩ = false := blk_frozen hk9 0
   have f01 : w9.frozen? ⟨w.heap.size, 1, none⟩ = false := blk_frozen hk9 1
   rw [e0_, e3_]
   clear hb hd9 hk9 o4 l4 e3_ e0_
   refine .inr ⟨(w9.setCell ⟨w.heap.size, 0, none⟩ (.int .i64 a)).setCell ⟨w.heap.size, 1, none⟩ (.slice Az ys.length cz), (by go_simp), ?_⟩
   simp only [List.drop, Act.put, List.setIfInBounds_toArray, List.set_cons_zero, List.set_cons_succ]
   unfold tailList
   refine .inl ?_
   refine opGives_value (v := .slice A4 t4.length c4) (w' := (w9.setCell ⟨w.heap.size, 0, none⟩ (.int .i64 a)).setCell ⟨w.heap.size, 1, none⟩ (.slice Az ys.length cz)) ?_ ?_
   ·go_simp
   simp only [List.drop, Act.put, List.setIfInBounds_toArray, List.set_cons_zero, List.set_cons_succ]
   unfold tailList
   go_wp2
   refine bodyPost_ret (results_ct rfl _ _ w.heap.size 26 #[.int .i64 a, .slice Az ys.length cz] (0, 0) _ rfl (by refine blk_put (cs := #[.int .i64 a, .slice none 0 0]) ?_ 1 _ rfl; refine blk_put (cs := #[.int .i64 0, .slice none 0 0]) ?_ 0 _ rfl; exact HK9.out) Tryz.underlying26 rfl (by kernel_rfl)) rfl ?_
   have hbb : Below w.heap.size w9 ((w9.setCell ⟨w.heap.size, 0, none⟩ (Value.int IntKind.i64 a)).setCell ⟨w.heap.size, 1, none⟩ (Value.slice Az ys.length cz)) := ((Below.refl _ _).setCell (by simp) _).setCell (by simp) _
   have hz := HZ1.out
   have own : ∀ {v : Value} {l : List Int}, OwnI w1.heap.size w9 v l → OwnI w.heap.size ((w9.setCell ⟨w.heap.size, 0, none⟩ (Value.int IntKind.i64 a)).setCell ⟨w.heap.size, 1, none⟩ (Value.slice Az ys.length cz)) v l := by
    intro v l ho
    have hbse := ho.base
    have ho := ho.lower (b' := w.heap.size) (by omega)
    exact (ho.grown (set_grown' _ w.heap.size _ _) (fun j hj e => by have := hbse _ hj; cases e; omega)).grown (set_grown' _ w.heap.size _ _) (fun j hj e => by have := hbse _ hj; cases e; omega)
   have ownp : ∀ {v : Value} {l : List (Int × Int)}, OwnP w1.heap.size w9 v l → OwnP w.heap.size ((w9.setCell ⟨w.heap.size, 0, none⟩ (Value.int IntKind.i64 a)).setCell ⟨w.heap.size, 1, none⟩ (Value.slice Az ys.length cz)) v l := by
    intro v l ho
    have hbse := ho.base
    have ho := ho.lower (b' := w.heap.size) (by omega)
    exact (ho.grown (set_grown' _ w.heap.size _ _) (fun j hj e => by have := hbse _ hj; cases e; omega)).grown (set_grown' _ w.heap.size _ _) (fun j hj e => by have := hbse _ hj; cases e; omega)
   exact ⟨a, _, _, ys, t4, rfl, own HO9.out, ownp HT9.out, HR.out, HL9.out, (HD1.out.trans HD9.out).top hbb (Nat.le_refl _) HBS.out⟩
set_option maxRecDepth 100000 in
set_option maxHeartbeats 1000000 in
theorem onesAny (x : Nat) (hx : x ≤ 64) (w : World) : Calls Tryz.prog 213 #[.int .i64 x] w fun e w' => ∃ r : Nat, e = .returned (.int .i64 (r : Nat)) ∧ r ≤ 64 ∧ Below w.heap.size w w' := by
 go_enter Tryz.func213, Tryz.ntmps213
 go_wp2
 go_loopw [0, 3] (fun s0 s3 wr => ∃ g k : Nat, s0 = .int .i64 g ∧ s3 = .int .i64 k ∧ g + k ≤ 64 ∧ wr = w) (fun s0 _ _ => (intOf s0).toNat)
 case atStart => exact ⟨x, 0, rfl, rfl, hx, rfl⟩
 case round =>
  obtain ⟨g, k, rfl, rfl, hgk, rfl⟩ := hrel
  by_cases h0 : 0 < g
  ·have h0I : (0 : Int) < (g : Int) := by omega
   have hr1 : Int.tmod (g : Int) 2 = ((g % 2 : Nat) : Int) := by rw [Int.tmod_eq_emod_of_nonneg (by omega)]; omega
   have hq1 : Int.tdiv (g : Int) 2 = ((g / 2 : Nat) : Int) := by rw [Int.tdiv_eq_ediv_of_nonneg (by omega)]; omega
   have hr2 : (g : Int) % 2 = ((g % 2 : Nat) : Int) := by omega
   have hq2 : (g : Int) / 2 = ((g / 2 : Nat) : Int) := by omega
   obtain ⟨r, hr⟩ : ∃ r, r = g % 2 := ⟨_, rfl⟩
   obtain ⟨q, hq⟩ : ∃ q, q = g / 2 := ⟨_, rfl⟩
   have hqg : q < g := by omega
   have hr6 : r ≤ 1 := by omega
   have hsum : q + (k + r) ≤ 64 := by omega
   rw [← hr] at hr1 hr2
   rw [← hq] at hq1 hq2
   clear hr hq
   go_wp2
   go_roundw
   case rel => exact ⟨q, k + r, by first | rfl | (simp [hq1, hq2]) | (simp; omega), by first | rfl | (simp [hr1, hr2]) | (simp; omega), hsum, trivial⟩
   case measure => simp [intOf] <;> omega
  ·obtain rfl : g = 0 := by omega
   go_wp2
   go_ret
   exact ⟨k, rfl, by omega, Below.refl _ _⟩
set_option maxRecDepth 100000 in
set_option maxHeartbeats 4000000 in
theorem drawFace (bs B : Nat) (a : Int) (ku : Value) (xs : List Int) (w : World) (hs : Src bs w) (hk : OwnI B w ku xs) (hbB : bs < B) (hB : B ≤ w.heap.size) (hl : xs.length ≤ 1000) :
  Calls Tryz.prog 231 #[.pointer (some ⟨bs, 0, none⟩), .agg #[.int .i64 a, ku]] w fun e w' => ∃ r : Int, e = .returned (.int .i64 r) ∧ Dw bs w w' := by
 have hmx : Tryz.prog.follows .mixedOrders = true := by kernel_rfl
 have HBS := Aside0.mk hs.lt
 have HBB := Aside0.mk hbB
 have HNB : Aside0 (w.heap.size ≠ bs) := ⟨by omega⟩
 have HXL := Aside0.mk hl
 obtain ⟨w1, hw1⟩ : ∃ w1, w1 = w.alloc (.cells #[.int .i64 a, ku] 26) := ⟨_, rfl⟩
 have hb1 : Below w.heap.size w w1 := by rw [hw1]; exact Below.alloc (Below.refl _ _) (Nat.le_refl _) _
 have c1 : w1.cell? ⟨w.heap.size, 1, none⟩ = some ku := by rw [hw1]; simp
 have HD1 := Aside0.mk (Dw.of_below hs hb1)
 have HK1 := Aside0.mk (hk.below hb1)
 obtain ⟨A1, d1, rfl, -⟩ := id hk.read
 clear hs hk hbB hB hb1 hl
 by_cases hx0 : ((xs.length : Int) == 0) = true
 ·go_enter Tryz.func231, Tryz.ntmps231
  go_upto_region 2 with (fail)
  rw [← hw1]
  clear hw1
  obtain ⟨wp, hwp⟩ : ∃ wp, wp = w1.alloc (.cells #[.int .i64 0, .int .i64 5, .int .i64 63, .int .i64 64, .int .i64 (-1)] 2) := ⟨_, rfl⟩
  have hbp : Below w1.heap.size w1 wp := by rw [hwp]; exact Below.alloc (Below.refl _ _) (Nat.le_refl _) _
  have HLP : Aside0 (RdK bs wp (.slice (some ⟨w1.heap.size, 0, none⟩) 5 5) [0, 5, 63, 64, -1]) := ⟨by rw [hwp]; exact (lit_own w1 w1.heap.size [0, 5, 63, 64, -1] (Nat.le_refl _) (by decide)).rdk HD1.out.src.lt⟩
  have HDp := Aside0.mk (HD1.out.then_below hbp)
  have HBp := Aside0.mk hbp
  clear hbp
  go_wp2_with (first | (go_at_call 255; rw [← hwp]; clear hwp; refine Aside0.out ?_))
  refine Aside0.mk ?_
  with_reducible refine (pick bs _ [0, 5, 63, 64, -1] wp HDp.out.src HLP.out (by decide) (by decide)).mono ?_
  rintro e wq ⟨rp, rfl, -, hd⟩
  have HDq := Aside0.mk (HDp.out.trans hd)
  clear hd
  go_wp2
  go_ret
  exact ⟨_, rfl, HDq.out⟩
 ·have hxne : xs.length ≠ 0 := fun e => hx0 (by rw [e]; rfl)
  have hx0I : ¬ (xs.length : Int) = 0 := by omega
  clear hx0
  go_enter Tryz.func231, Tryz.ntmps231
  go_wp2_with (first | (go_at_call 146; rw [← hw1]; clear hw1; refine Aside0.out ?_))
  refine Aside0.mk ?_
  with_reducible refine (next bs 24 w1 (by decide) HD1.out.src).mono ?_
  rintro e wr ⟨r, rfl, h0_, h1_, hd⟩
  have HDr := Aside0.mk (HD1.out.trans hd)
  have HKr := Aside0.mk (HK1.out.gm hd.1 HBB.out)
  replace c1 := hd.cell HNB.out c1
  clear hd h0_ h1_ HK1
  by_cases hr0 : r = 0
  ·subst hr0
   go_upto_region 2 with (fail)
   obtain ⟨wp, hwp⟩ : ∃ wp, wp = wr.alloc (.cells #[.int .i64 0, .int .i64 5, .int .i64 63, .int .i64 64, .int .i64 (-1)] 2) := ⟨_, rfl⟩
   have hbp : Below wr.heap.size wr wp := by rw [hwp]; exact Below.alloc (Below.refl _ _) (Nat.le_refl _) _
   have HLP : Aside0 (RdK bs wp (.slice (some ⟨wr.heap.size, 0, none⟩) 5 5) [0, 5, 63, 64, -1]) := ⟨by rw [hwp]; exact (lit_own wr wr.heap.size [0, 5, 63, 64, -1] (Nat.le_refl _) (by decide)).rdk HDr.out.src.lt⟩
   have HDp := Aside0.mk (HDr.out.then_below hbp)
   have HBp := Aside0.mk hbp
   clear hbp
   go_wp2_with (first | (go_at_call 255; rw [← hwp]; clear hwp; refine Aside0.out ?_))
   refine Aside0.mk ?_
   with_reducible refine (pick bs _ [0, 5, 63, 64, -1] wp HDp.out.src HLP.out (by decide) (by decide)).mono ?_
   rintro e wq ⟨rp, rfl, -, hd⟩
   have HDq := Aside0.mk (HDp.out.trans hd)
   clear hd
   go_wp2
   go_ret
   exact ⟨_, rfl, HDq.out⟩
  ·have hr0b : (r == 0) = false := by rw [beq_eq_false_iff_ne]; exact hr0
   have HSr := Aside0.mk HDr.out.src
   obtain ⟨ad, y0, rfl, -, -⟩ := ReadI.get (i := 0) (by obtain ⟨_, _, e, _, h⟩ := HKr.out.read; cases e; exact h) (by omega)
   go_wp2
   refine wp_region_g (Gm bs (Src bs)) (fun w => ⟨grown_drew w _, fun h => h.below (Below.refl _ _).drew⟩) (fun _ _ _ => Gm.trans) (fun i => match i with | 0 => fun v _ => v = .pointer (some ⟨w.heap.size, 1, none⟩) | 1 => fun v _ => v = .slice (some ad) xs.length d1 | 2 => fun v _ => v = .pointer (some ⟨bs, 0, none⟩) | 3 => fun v _ => v = .pointer (some ⟨w.heap.size, 1, none⟩) | 4 => fun v _ => v = .slice (some ad) xs.length d1 | 5 => fun v _ => v = .int .i64 (xs.length : Int) | 6 => fun v _ => ∃ r : Nat, v = .int .i64 (r : Int) ∧ r < xs.length | 7 => fun v _ => ∃ r : Nat, v = .pointer (some (ad.add r)) ∧ r < xs.length | 8 => fun v _ => ∃ y : Int, v = .int .i64 y | 9 => fun v _ => ∃ y : Int, v = .int .i64 y | _ => fun _ _ => True)
    [0, 1, 0, 0, 8, 24, 60, 127, 255, 511] hmx (by kernel_rfl) ?ast ?asteps ?arest
   case ast =>
    intro i v w1_ w2_ hb
    match i with
    | 0 | 1 | 2 | 3 | 4 | 5 => exact id
    | 6 => exact id
    | 7 => exact id
    | 8 => exact id
    | 9 => exact id
    | n + 10 => exact id
   case asteps =>
    refine ⟨?_, ?_, ?_, ?_, ?_, ?_, ?_, ?_, ?_, ?_, trivial⟩
    ·intro s w_ hb hd hq R hR
     generalize hA : putAll _ 0 s _ = A
     clear hq
     have hR' := hR (.pointer (some ⟨w.heap.size, 1, none⟩)) _ (Gm.refl _ _ _) rfl
     clear hR hd
     refine opGives_value ?_ hR'
     subst hA
     simp only [dsOf, List.map_cons, List.map_nil, Option.getD_some, putAll, Act.put, List.setIfInBounds_toArray, List.set_cons_zero, List.set_cons_succ]
     go_simp
    ·intro s w_ hb hd hq R hR
     generalize hA : putAll _ 0 s _ = A
     have e0 : s 0 = _ := hd 0 (by kernel_rfl)
     clear hq
     have c1 := grown_cell hb.1 c1 HNB.out
     have hR' := hR (.slice (some ad) xs.length d1) _ (Gm.refl _ _ _) rfl
     clear hR hd
     refine opGives_value ?_ hR'
     subst hA
     simp only [dsOf, List.map_cons, List.map_nil, Option.getD_some, putAll, Act.put, List.setIfInBounds_toArray, List.set_cons_zero, List.set_cons_succ]
     go_simp
    ·intro s w_ hb hd hq R hR
     generalize hA : putAll _ 0 s _ = A
     clear hq
     have hR' := hR (.pointer (some ⟨bs, 0, none⟩)) _ (Gm.refl _ _ _) rfl
     clear hR hd
     refine opGives_value ?_ hR'
     subst hA
     simp only [dsOf, List.map_cons, List.map_nil, Option.getD_some, putAll, Act.put, List.setIfInBounds_toArray, List.set_cons_zero, List.set_cons_succ]
     go_simp
    ·intro s w_ hb hd hq R hR
     generalize hA : putAll _ 0 s _ = A
     clear hq
     have hR' := hR (.pointer (some ⟨w.heap.size, 1, none⟩)) _ (Gm.refl _ _ _) rfl
     clear hR hd
     refine opGives_value ?_ hR'
     subst hA
     simp only [dsOf, List.map_cons, List.map_nil, Option.getD_some, putAll, Act.put, List.setIfInBounds_toArray, List.set_cons_zero, List.set_cons_succ]
     go_simp
    ·intro s w_ hb hd hq R hR
     generalize hA : putAll _ 0 s _ = A
     have e3 : s 3 = _ := hd 3 (by kernel_rfl)
     clear hq
     have c1 := grown_cell hb.1 c1 HNB.out
     have hR' := hR (.slice (some ad) xs.length d1) _ (Gm.refl _ _ _) rfl
     clear hR hd
     refine opGives_value ?_ hR'
     subst hA
     simp only [dsOf, List.map_cons, List.map_nil, Option.getD_some, putAll, Act.put, List.setIfInBounds_toArray, List.set_cons_zero, List.set_cons_succ]
     go_simp
    ·intro s w_ hb hd hq R hR
     generalize hA : putAll _ 0 s _ = A
     have e4 : s 4 = _ := hd 4 (by kernel_rfl)
     clear hq
     have hR' := hR (.int .i64 (xs.length : Int)) _ (Gm.refl _ _ _) rfl
     clear hR hd
     refine opGives_value ?_ hR'
     subst hA
     simp only [dsOf, List.map_cons, List.map_nil, Option.getD_some, putAll, Act.put, List.setIfInBounds_toArray, List.set_cons_zero, List.set_cons_succ]
     go_simp
    ·intro s w_ hb hd hq R hR
     generalize hA : putAll _ 0 s _ = A
     have e2 : s 2 = _ := hd 2 (by kernel_rfl)
     have e5 : s 5 = _ := hd 5 (by kernel_rfl)
     clear hq
     refine opGives_call (f := 146) (args := #[.pointer (some ⟨bs, 0, none⟩), .int .i64 (xs.length : Int)]) ?_ ?_
     ·subst hA
      clear hR hd
      simp only [dsOf, List.map_cons, List.map_nil, Option.getD_some, putAll, Act.put, List.setIfInBounds_toArray, List.set_cons_zero, List.set_cons_succ]
      go_simp
     clear hA A hd
     refine (next bs (xs.length : Int) w_ (by have := HXL.out; omega) (hb.2 HSr.out)).mono ?_
     rintro e w3_ ⟨r, rfl, h0_, h1_, hd⟩
     obtain ⟨hra, hrb⟩ := h1_ (by omega)
     exact ⟨_, rfl, hR _ _ ⟨hd.1, fun _ => hd.2⟩ ⟨r.toNat, by rw [Int.toNat_of_nonneg hra], by omega⟩⟩
    ·intro s w_ hb hd hq R hR
     generalize hA : putAll _ 0 s _ = A
     have e1 : s 1 = _ := hd 1 (by kernel_rfl)
     obtain ⟨r6, e6, hr6⟩ := hd 6 (by kernel_rfl)
     clear hq
     have hr6I : (r6 : Int) < (xs.length : Int) := by omega
     have hR' := hR (.pointer (some (ad.add r6))) _ (Gm.refl _ _ _) (⟨r6, rfl, hr6⟩)
     clear hR hd
     refine opGives_value ?_ hR'
     subst hA
     simp only [dsOf, List.map_cons, List.map_nil, Option.getD_some, putAll, Act.put, List.setIfInBounds_toArray, List.set_cons_zero, List.set_cons_succ]
     go_simp
    ·intro s w_ hb hd hq R hR
     generalize hA : putAll _ 0 s _ = A
     obtain ⟨r7, e7, hr7⟩ := hd 7 (by kernel_rfl)
     clear hq
     obtain ⟨ad_, y, e_, hcell, -⟩ := ReadI.get (by obtain ⟨_, _, e, _, h⟩ := (HKr.out.gm hb.1 HBB.out).read; cases e; exact h) hr7
     cases e_
     have hR' := hR (.int .i64 y) _ (Gm.refl _ _ _) (⟨y, rfl⟩)
     clear hR hd
     refine opGives_value ?_ hR'
     subst hA
     simp only [dsOf, List.map_cons, List.map_nil, Option.getD_some, putAll, Act.put, List.setIfInBounds_toArray, List.set_cons_zero, List.set_cons_succ]
     go_simp
    ·intro s w_ hb hd hq R hR
     generalize hA : putAll _ 0 s _ = A
     obtain ⟨y8, e8⟩ := hd 8 (by kernel_rfl)
     clear hq
     have hR' := hR (.int .i64 y8) _ (Gm.refl _ _ _) (⟨y8, rfl⟩)
     clear hR hd
     refine opGives_value ?_ hR'
     subst hA
     simp only [dsOf, List.map_cons, List.map_nil, Option.getD_some, putAll, Act.put, List.setIfInBounds_toArray, List.set_cons_zero, List.set_cons_succ]
     go_simp
   case arest =>
    intro s9 w9 hb hv
    obtain ⟨y9, e9_⟩ := hv 9 (by decide)
    simp only [dsOf, List.map_cons, List.map_nil, Option.getD_some, putAll, Act.put, List.setIfInBounds_toArray, List.set_cons_zero, List.set_cons_succ]
    rw [e9_]
    clear hv e9_
    have HD9 := Aside0.mk (HDr.out.trans ⟨hb.1, hb.2 HSr.out⟩)
    clear hb
    go_wp2
    go_ret
    exact ⟨_, rfl, HD9.out⟩
/-- what is known while a list is drawn: the source, a boxed value's block, and the list -/
def DstO (ob : Obj) (bs : Nat) (w W : World) (s : Value) (ss : List Int) : Prop := Dw bs w W ∧ W.heap[w.heap.size]? = some ob ∧ OwnI (w.heap.size + 1) W s ss
theorem DstO.go {ob : Obj} {bs : Nat} {w W W' : World} {s : Value} {ss : List Int} (h : DstO ob bs w W s ss) (hbs : bs < w.heap.size) (hd : Dw bs W W') : DstO ob bs w W' s ss :=
 ⟨h.1.trans hd, by rw [hd.1.block _ (blk_lt h.2.1) (fun e => by have := Option.some.inj e; omega)]; exact h.2.1, h.2.2.grown hd.1 (fun k hk e => by have := h.2.2.base k hk; have := Option.some.inj e; omega)⟩
theorem DstO.below {ob : Obj} {bs : Nat} {w W W' : World} {s : Value} {ss : List Int} (h : DstO ob bs w W s ss) (hbs : bs < w.heap.size) (hb : Below W.heap.size W W') : DstO ob bs w W' s ss := h.go hbs (Dw.of_below h.1.2 hb)
theorem DstO.app {ob : Obj} {bs : Nat} {w W W' : World} {s s' : Value} {ss ss' : List Int} (h : DstO ob bs w W s ss) (hbs : bs < w.heap.size) (ho : OwnI (w.heap.size + 1) W' s' ss') (hb : Below (w.heap.size + 1) W W') : DstO ob bs w W' s' ss' :=
 ⟨h.1.top hb (by omega) (by omega), by rw [hb.block _ (by omega)]; exact h.2.1, ho⟩
set_option maxRecDepth 100000 in
set_option maxHeartbeats 8000000 in
theorem drawChain (bs B : Nat) (a : Int) (ku : Value) (xs : List Int) (w : World) (hs : Src bs w) (hk : OwnI B w ku xs) (hbB : bs < B) (hB : B ≤ w.heap.size) (hrc : Rc a xs) :
  Calls Tryz.prog 286 #[.pointer (some ⟨bs, 0, none⟩), .agg #[.int .i64 a, ku]] w fun e w' => ∃ v l, e = .returned v ∧ OwnI w.heap.size w' v l ∧ l.length ≤ 70 ∧ Dw bs w w' := by
 have hmx : Tryz.prog.follows .mixedOrders = true := by kernel_rfl
 have HBS := Aside0.mk hs.lt
 have HBB := Aside0.mk hbB
 have HNB : Aside0 (w.heap.size ≠ bs) := ⟨by omega⟩
 have hxl : xs.length ≤ 65 := hrc.2.2.2
 have HXL : Aside0 (xs.length ≤ 1000) := ⟨by omega⟩
 have HXN : Aside0 (∀ y ∈ xs, ∃ z : Nat, y = z ∧ z ≤ 64) := ⟨fun y hy => by have := hrc.2.2.1 y hy; exact ⟨y.toNat, by omega, by omega⟩⟩
 obtain ⟨w1, hw1⟩ : ∃ w1, w1 = (w.alloc (.cells #[.int .i64 a, ku] 26)).alloc (.cells #[] 2) := ⟨_, rfl⟩
 have hb1 : Below w.heap.size w w1 := by rw [hw1]; exact ((Below.refl _ w).alloc (Nat.le_refl _) _).alloc (by simp) _
 have c1 : w1.cell? ⟨w.heap.size, 1, none⟩ = some ku := by rw [hw1]; simp
 have HD1 := Aside0.mk (Dw.of_below hs hb1)
 have HK1 := Aside0.mk (hk.below hb1)
 have HK0 := Aside0.mk hk
 obtain ⟨OB, hOB⟩ : ∃ OB, OB = Obj.cells #[.int .i64 a, ku] 26 := ⟨_, rfl⟩
 have HOB : Aside0 (∀ W : World, W.heap[w.heap.size]? = some OB → W.cell? ⟨w.heap.size, 1, none⟩ = some ku) := ⟨fun W h => by rw [hOB] at h; exact blk_cell h 1⟩
 have HS1 : Aside0 (DstO OB bs w w1 (.slice (some ⟨w.heap.size + 1, 0, none⟩) 0 0) []) := ⟨by
  have h := OwnI.empty (b := w.heap.size + 1) (w.alloc (.cells #[.int .i64 a, ku] 26)) (by simp)
  rw [World.size_alloc, ← hw1] at h
  exact ⟨Dw.of_below hs hb1, by rw [hw1, hOB]; exact blk_alloc (blk_new w _) _, h⟩⟩
 clear hOB
 obtain ⟨A1, d1, rfl, -⟩ := id hk.read
 clear hs hk hbB hB hb1 hrc
 by_cases hx0 : ((xs.length : Int) == 0) = true
 ·go_enter Tryz.func286, Tryz.ntmps286
  go_wp2
  rw [← hw1]
  clear hw1
  go_ret
  exact ⟨_, _, rfl, HS1.out.2.2.lower (by omega), by decide, HD1.out⟩
 ·have hxne : xs.length ≠ 0 := fun e => hx0 (by rw [e]; rfl)
  have hx0I : ¬ (xs.length : Int) = 0 := by omega
  clear hx0
  go_enter Tryz.func286, Tryz.ntmps286
  go_wp2
  rw [← hw1]
  clear hw1
  have HSr := Aside0.mk HD1.out.src
  have HKr := HK1
  obtain ⟨ad, y0, rfl, -, -⟩ := ReadI.get (i := 0) (by obtain ⟨_, _, e, _, h⟩ := HKr.out.read; cases e; exact h) (by omega)
  refine wp_region_g (Gm bs (Src bs)) (fun w => ⟨grown_drew w _, fun h => h.below (Below.refl _ _).drew⟩) (fun _ _ _ => Gm.trans) (fun i => match i with | 0 => fun v _ => v = .pointer (some ⟨w.heap.size, 1, none⟩) | 1 => fun v _ => v = .slice (some ad) xs.length d1 | 2 => fun v _ => v = .pointer (some ⟨bs, 0, none⟩) | 3 => fun v _ => v = .pointer (some ⟨w.heap.size, 1, none⟩) | 4 => fun v _ => v = .slice (some ad) xs.length d1 | 5 => fun v _ => v = .int .i64 (xs.length : Int) | 6 => fun v _ => ∃ r : Nat, v = .int .i64 (r : Int) ∧ r < xs.length | 7 => fun v _ => ∃ r : Nat, v = .pointer (some (ad.add r)) ∧ r < xs.length | 8 => fun v _ => ∃ y : Nat, v = .int .i64 (y : Int) ∧ y ≤ 64 | 9 => fun v _ => ∃ y : Nat, v = .int .i64 (y : Int) ∧ y ≤ 64 | _ => fun _ _ => True)
   [0, 1, 0, 0, 8, 24, 60, 127, 255, 511] hmx (by kernel_rfl) ?ast ?asteps ?arest
  case ast =>
   intro i v w1_ w2_ hb
   match i with
   | 0 | 1 | 2 | 3 | 4 | 5 => exact id
   | 6 => exact id
   | 7 => exact id
   | 8 => exact id
   | 9 => exact id
   | n + 10 => exact id
  case asteps =>
   refine ⟨?_, ?_, ?_, ?_, ?_, ?_, ?_, ?_, ?_, ?_, trivial⟩
   ·intro s w_ hb hd hq R hR
    generalize hA : putAll _ 0 s _ = A
    clear hq
    have hR' := hR (.pointer (some ⟨w.heap.size, 1, none⟩)) _ (Gm.refl _ _ _) rfl
    clear hR hd
    refine opGives_value ?_ hR'
    subst hA
    simp only [dsOf, List.map_cons, List.map_nil, Option.getD_some, putAll, Act.put, List.setIfInBounds_toArray, List.set_cons_zero, List.set_cons_succ]
    go_simp
   ·intro s w_ hb hd hq R hR
    generalize hA : putAll _ 0 s _ = A
    have e0 : s 0 = _ := hd 0 (by kernel_rfl)
    clear hq
    have c1 := grown_cell hb.1 c1 HNB.out
    have hR' := hR (.slice (some ad) xs.length d1) _ (Gm.refl _ _ _) rfl
    clear hR hd
    refine opGives_value ?_ hR'
    subst hA
    simp only [dsOf, List.map_cons, List.map_nil, Option.getD_some, putAll, Act.put, List.setIfInBounds_toArray, List.set_cons_zero, List.set_cons_succ]
    go_simp
   ·intro s w_ hb hd hq R hR
    generalize hA : putAll _ 0 s _ = A
    clear hq
    have hR' := hR (.pointer (some ⟨bs, 0, none⟩)) _ (Gm.refl _ _ _) rfl
    clear hR hd
    refine opGives_value ?_ hR'
    subst hA
    simp only [dsOf, List.map_cons, List.map_nil, Option.getD_some, putAll, Act.put, List.setIfInBounds_toArray, List.set_cons_zero, List.set_cons_succ]
    go_simp
   ·intro s w_ hb hd hq R hR
    generalize hA : putAll _ 0 s _ = A
    clear hq
    have hR' := hR (.pointer (some ⟨w.heap.size, 1, none⟩)) _ (Gm.refl _ _ _) rfl
    clear hR hd
    refine opGives_value ?_ hR'
    subst hA
    simp only [dsOf, List.map_cons, List.map_nil, Option.getD_some, putAll, Act.put, List.setIfInBounds_toArray, List.set_cons_zero, List.set_cons_succ]
    go_simp
   ·intro s w_ hb hd hq R hR
    generalize hA : putAll _ 0 s _ = A
    have e3 : s 3 = _ := hd 3 (by kernel_rfl)
    clear hq
    have c1 := grown_cell hb.1 c1 HNB.out
    have hR' := hR (.slice (some ad) xs.length d1) _ (Gm.refl _ _ _) rfl
    clear hR hd
    refine opGives_value ?_ hR'
    subst hA
    simp only [dsOf, List.map_cons, List.map_nil, Option.getD_some, putAll, Act.put, List.setIfInBounds_toArray, List.set_cons_zero, List.set_cons_succ]
    go_simp
   ·intro s w_ hb hd hq R hR
    generalize hA : putAll _ 0 s _ = A
    have e4 : s 4 = _ := hd 4 (by kernel_rfl)
    clear hq
    have hR' := hR (.int .i64 (xs.length : Int)) _ (Gm.refl _ _ _) rfl
    clear hR hd
    refine opGives_value ?_ hR'
    subst hA
    simp only [dsOf, List.map_cons, List.map_nil, Option.getD_some, putAll, Act.put, List.setIfInBounds_toArray, List.set_cons_zero, List.set_cons_succ]
    go_simp
   ·intro s w_ hb hd hq R hR
    generalize hA : putAll _ 0 s _ = A
    have e2 : s 2 = _ := hd 2 (by kernel_rfl)
    have e5 : s 5 = _ := hd 5 (by kernel_rfl)
    clear hq
    refine opGives_call (f := 146) (args := #[.pointer (some ⟨bs, 0, none⟩), .int .i64 (xs.length : Int)]) ?_ ?_
    ·subst hA
     clear hR hd
     simp only [dsOf, List.map_cons, List.map_nil, Option.getD_some, putAll, Act.put, List.setIfInBounds_toArray, List.set_cons_zero, List.set_cons_succ]
     go_simp
    clear hA A hd
    refine (next bs (xs.length : Int) w_ (by have := HXL.out; omega) (hb.2 HSr.out)).mono ?_
    rintro e w3_ ⟨r, rfl, h0_, h1_, hd⟩
    obtain ⟨hra, hrb⟩ := h1_ (by omega)
    exact ⟨_, rfl, hR _ _ ⟨hd.1, fun _ => hd.2⟩ ⟨r.toNat, by rw [Int.toNat_of_nonneg hra], by omega⟩⟩
   ·intro s w_ hb hd hq R hR
    generalize hA : putAll _ 0 s _ = A
    have e1 : s 1 = _ := hd 1 (by kernel_rfl)
    obtain ⟨r6, e6, hr6⟩ := hd 6 (by kernel_rfl)
    clear hq
    have hr6I : (r6 : Int) < (xs.length : Int) := by omega
    have hR' := hR (.pointer (some (ad.add r6))) _ (Gm.refl _ _ _) (⟨r6, rfl, hr6⟩)
    clear hR hd
    refine opGives_value ?_ hR'
    subst hA
    simp only [dsOf, List.map_cons, List.map_nil, Option.getD_some, putAll, Act.put, List.setIfInBounds_toArray, List.set_cons_zero, List.set_cons_succ]
    go_simp
   ·intro s w_ hb hd hq R hR
    generalize hA : putAll _ 0 s _ = A
    obtain ⟨r7, e7, hr7⟩ := hd 7 (by kernel_rfl)
    clear hq
    obtain ⟨ad_, y_, e_, hcell, HYY⟩ := ReadI.get (by obtain ⟨_, _, e, _, h⟩ := (HKr.out.gm hb.1 HBB.out).read; cases e; exact h) hr7
    cases e_
    obtain ⟨y, rfl, hy⟩ := HXN.out _ (mem_at hr7 HYY.out)
    have hR' := hR (.int .i64 (y : Int)) _ (Gm.refl _ _ _) (⟨y, rfl, hy⟩)
    clear hR hd
    refine opGives_value ?_ hR'
    subst hA
    simp only [dsOf, List.map_cons, List.map_nil, Option.getD_some, putAll, Act.put, List.setIfInBounds_toArray, List.set_cons_zero, List.set_cons_succ]
    go_simp
   ·intro s w_ hb hd hq R hR
    generalize hA : putAll _ 0 s _ = A
    obtain ⟨y8, e8, hy8⟩ := hd 8 (by kernel_rfl)
    clear hq
    have hR' := hR (.int .i64 (y8 : Int)) _ (Gm.refl _ _ _) (⟨y8, rfl, hy8⟩)
    clear hR hd
    refine opGives_value ?_ hR'
    subst hA
    simp only [dsOf, List.map_cons, List.map_nil, Option.getD_some, putAll, Act.put, List.setIfInBounds_toArray, List.set_cons_zero, List.set_cons_succ]
    go_simp
  case arest =>
   intro s9 w9 hb hv
   obtain ⟨y9, e9_, hy9⟩ := hv 9 (by decide)
   simp only [dsOf, List.map_cons, List.map_nil, Option.getD_some, putAll, Act.put, List.setIfInBounds_toArray, List.set_cons_zero, List.set_cons_succ]
   rw [e9_]
   clear hv e9_
   have hd : Dw bs w1 w9 := ⟨hb.1, hb.2 HSr.out⟩
   have HS5 := Aside0.mk (HS1.out.go HBS.out hd)
   clear hb hd HKr HK1 HS1 HSr c1 HD1
   have hxF : ((xs.length : Int) == 0) = false := by rw [beq_eq_false_iff_ne]; exact hx0I
   try simp only [Nat.reduceAdd]
   go_wp2
   try simp only [hxF]
   go_loopw [5, 7] (fun s5 s7 wr => ∃ (iv : Nat) (l : List Int), s7 = .int .i64 iv ∧ iv ≤ xs.length ∧ Aside0 (l.length ≤ iv) ∧ Aside0 (DstO OB bs w wr s5 l)) (fun _ s7 _ => xs.length - (intOf s7).toNat)
   case atStart => exact ⟨0, [], rfl, Nat.zero_le _, ⟨Nat.le_refl _⟩, HS5⟩
   case round =>
    obtain ⟨iv, l, rfl, hi, HL, HDr⟩ := hrel
    have c1 := HOB.out _ HDr.out.2.1
    have HKr := Aside0.mk (HK0.out.gm HDr.out.1.1 HBB.out)
    obtain ⟨A7, c7, rfl, -⟩ := id HDr.out.2.2.read
    obtain ⟨L7, hL7⟩ : ∃ L, L = l.length := ⟨_, rfl⟩
    rw [← hL7] at HDr ⊢
    clear hL7
    by_cases hlt : iv < xs.length
    ·have hltI : (iv : Int) < (xs.length : Int) := by omega
     obtain ⟨ad_, y_, e_, hcell, HYY⟩ := ReadI.get (by obtain ⟨_, _, e, _, h⟩ := HKr.out.read; cases e; exact h) hlt
     cases e_
     obtain ⟨y, rfl, hy⟩ := HXN.out _ (mem_at hlt HYY.out)
     have HO1y := Aside0.mk (onesAny y hy)
     have HO1f := Aside0.mk (onesAny y9 hy9)
     go_wp2_with (first | (go_at_call 213; refine Aside0.out ?_))
     refine Aside0.mk ?_
     with_reducible refine (HO1y.out _).mono ?_
     rintro e wa ⟨ra, rfl, hra, hb⟩
     have HDa := Aside0.mk (HDr.out.below HBS.out hb)
     replace c1 := pw_cell_below hb c1
     replace hcell := pw_cell_below hb hcell
     clear hb HKr HDr
     go_wp2_with (first | (go_at_call 213; refine Aside0.out ?_))
     refine Aside0.mk ?_
     with_reducible refine (HO1f.out _).mono ?_
     rintro e wb ⟨rb, rfl, hrb, hb⟩
     have HDb := Aside0.mk (HDa.out.below HBS.out hb)
     replace c1 := pw_cell_below hb c1
     clear hb HDa HO1y HO1f hcell
     have HL1 : Aside0 (l.length ≤ iv + 1) := ⟨by have := HL.out; omega⟩
     by_cases hab : ra = rb
     ·have habI : ((ra : Int) == (rb : Int)) = true := by rw [beq_iff_eq]; omega
      clear hab
      have HSb := Aside0.mk HDb.out.1.2
      go_wp2_with (first | (go_at_call 146; refine Aside0.out ?_))
      refine Aside0.mk ?_
      with_reducible refine (next bs 3 wb (by decide) HSb.out).mono ?_
      rintro e wc ⟨q, rfl, h0_, h1_, hd⟩
      have HDc := Aside0.mk (HDb.out.go HBS.out hd)
      replace c1 := HOB.out _ HDc.out.2.1
      have HKc := Aside0.mk (HK0.out.gm HDc.out.1.1 HBB.out)
      obtain ⟨ad_, y_, e_, hcell, HYY⟩ := ReadI.get (by obtain ⟨_, _, e, _, h⟩ := HKc.out.read; cases e; exact h) hlt
      cases e_
      clear hd h0_ h1_ HDb HKc
      by_cases hq0 : 0 < q
      ·go_wp2_with (first | (at_builtin; go_must (refine app_own (w0 := wc) (w.heap.size + 1) rfl (.tmp 44) (.tmp 50) rfl _ l y_ rfl rfl HDc.out.2.2 (Below.refl _ _) (by have := blk_lt HDc.out.2.1; omega) ?hl ?_; (case hl => (have := HL.out; omega)); intro v1 w8 ho hb hg hat; have HD8 := Aside0.mk (HDc.out.app HBS.out ho hb); clear ho hb hg hat)))
       go_roundw
       case rel => exact ⟨iv + 1, _, by go_num, by omega, ⟨by rw [List.length_append, List.length_singleton]; have := HL.out; omega⟩, HD8⟩
       case measure => simp [intOf]; omega
      ·go_wp2
       go_roundw
       case rel => exact ⟨iv + 1, l, by go_num, by omega, HL1, HDc⟩
       case measure => simp [intOf]; omega
     ·have habI : ((ra : Int) == (rb : Int)) = false := by rw [beq_eq_false_iff_ne]; omega
      clear hab
      go_wp2
      go_roundw
      case rel => exact ⟨iv + 1, l, by go_num, by omega, HL1, HDb⟩
      case measure => simp [intOf]; omega
    ·have hltI : ¬ (iv : Int) < (xs.length : Int) := by omega
     have HSz := Aside0.mk HDr.out.1.2
     go_wp2_with (first | (go_at_call 146; refine Aside0.out ?_))
     refine Aside0.mk ?_
     with_reducible refine (next bs 24 wr (by decide) HSz.out).mono ?_
     rintro e wz ⟨q, rfl, h0_, h1_, hd⟩
     have HDz := Aside0.mk (HDr.out.go HBS.out hd)
     clear hd h0_ h1_ HDr
     by_cases hq0 : q = 0
     ·subst hq0
      go_upto_region 11 with (fail)
      obtain ⟨wp, hwp⟩ : ∃ wp, wp = wz.alloc (.cells #[.int .i64 1, .int .i64 63, .int .i64 64, .int .i64 0] 2) := ⟨_, rfl⟩
      have hbp : Below wz.heap.size wz wp := by rw [hwp]; exact Below.alloc (Below.refl _ _) (Nat.le_refl _) _
      have HLP : Aside0 (RdK bs wp (.slice (some ⟨wz.heap.size, 0, none⟩) 4 4) [1, 63, 64, 0]) := ⟨by rw [hwp]; exact (lit_own wz wz.heap.size [1, 63, 64, 0] (Nat.le_refl _) (by decide)).rdk HDz.out.1.2.lt⟩
      have HDp := Aside0.mk (HDz.out.1.then_below hbp)
      have HSp := Aside0.mk (HDz.out.below HBS.out (hbp))
      have HBp := Aside0.mk hbp
      clear hbp
      go_wp2_with (first | (go_at_call 255; rw [← hwp]; clear hwp; refine Aside0.out ?_))
      refine Aside0.mk ?_
      with_reducible refine (pick bs _ [1, 63, 64, 0] wp HDp.out.src HLP.out (by decide) (by decide)).mono ?_
      rintro e wq ⟨rp, rfl, -, hd⟩
      have HDq := Aside0.mk (HDp.out.trans hd)
      have HSq := Aside0.mk (HSp.out.go HBS.out hd)
      clear hd
      go_wp2_with (first | (at_builtin; go_must (refine app_own (w0 := wq) (w.heap.size + 1) rfl (.tmp 55) (.tmp 59) rfl _ l rp rfl rfl HSq.out.2.2 (Below.refl _ _) (by have := blk_lt HSq.out.2.1; omega) ?hl ?_; (case hl => (have := HL.out; omega)); intro v1 w8 ho hb hg hat; have HD8 := Aside0.mk (HSq.out.app HBS.out ho hb); clear ho hb hg hat; obtain ⟨A8, c8, rfl, -⟩ := id HD8.out.2.2.read; obtain ⟨L8, hL8⟩ : ∃ L, L = (l ++ [rp]).length := ⟨_, rfl⟩; rw [← hL8] at HD8 ⊢; clear hL8)))
      go_ret
      exact ⟨_, _, rfl, HD8.out.2.2.lower (by omega), by rw [List.length_append, List.length_singleton]; have := HL.out; omega, HD8.out.1⟩
     ·have hq0b : (q == 0) = false := by rw [beq_eq_false_iff_ne]; exact hq0
      go_wp2
      go_ret
      exact ⟨_, _, rfl, HDz.out.2.2.lower (by omega), by have := HL.out; omega, HDz.out.1⟩
set_option maxRecDepth 100000 in
set_option maxHeartbeats 2000000 in
theorem specCriticalFaces (a : Int) (ku : Value) (xs : List Int) (v : Value) (ps : List (Int × Int)) (w : World) (hk : ReadI w ku xs) (hv : ReadP w v ps) (hl : xs.length ≤ 1000000) :
  Calls Tryz.prog 292 #[cx a ku, v] w fun e w' => ∃ r l c, e = .returned (.tuple #[r, .int .i64 c]) ∧ OwnI w.heap.size w' r l ∧ (∀ x ∈ l, x ∈ xs) ∧ l.length ≤ xs.length ∧ Below w.heap.size w w' := by
 obtain ⟨w1, hw1⟩ : ∃ w1, w1 = w.alloc (.cells #[.int .i64 a, ku] 26) := ⟨_, rfl⟩
 have hB : Below w.heap.size w w1 := by rw [hw1]; exact Below.alloc (Below.refl _ _) (Nat.le_refl _) _
 have c0 : w1.cell? ⟨w.heap.size, 0, none⟩ = some (.int .i64 a) := by rw [hw1]; simp
 have c1 : w1.cell? ⟨w.heap.size, 1, none⟩ = some ku := by rw [hw1]; simp
 have HB := Aside0.mk hB
 obtain ⟨q, hq⟩ : ∃ q : Int, q = (if cxOk a xs then (if pOk xs ps then 0 else 2) else 1) := ⟨_, rfl⟩
 have HM := Aside0.mk (specCode2 a ku xs v ps w1 (hk.below hB) (hv.below hB))
 rw [← hq] at HM
 have HCL := Aside0.mk (fun W (h : Below w1.heap.size w1 W) => specCritL a ku xs v ps W ((hk.below hB).below h) ((hv.below hB).below h) hl)
 have HSB : Aside0 ((∀ x ∈ critL xs ps, x ∈ xs) ∧ (critL xs ps).length ≤ xs.length) := ⟨fun x hx => (List.mem_filter.1 hx).1, List.length_filter_le _ _⟩
 obtain ⟨A1, d1, rfl, -⟩ := id hk
 obtain ⟨A2, d2, rfl, -⟩ := id hv
 clear hk hv hB hq hl
 by_cases h0 : q = 0
 ·subst h0
  go_enter Tryz.func292, Tryz.ntmps292
  go_wp2_with (first | (go_at_call 179; rw [← hw1]; clear hw1; refine HM.out.mono ?_; rintro e w2 ⟨rfl, hb⟩; replace c0 := pw_cell_below hb c0; replace c1 := pw_cell_below hb c1; have HB2 := Aside0.mk hb; clear hb) | (go_at_call 302; refine (HCL.out _ HB2.out).mono ?_; rintro e w3 ⟨u, rfl, ho, hb⟩; have HO3 := Aside0.mk (ho.lower (b' := w.heap.size) (Nat.le_trans HB.out.size HB2.out.size)); have HB3 := Aside0.mk (HB2.out.trans (hb.mono HB2.out.size)); clear ho hb))
  go_ret2
  exact ⟨_, _, _, rfl, HO3.out, HSB.out.1, HSB.out.2, HB.out.trans (HB3.out.mono HB.out.size)⟩
 ·have h0b : (q == 0) = false := by rw [beq_eq_false_iff_ne]; exact h0
  go_enter Tryz.func292, Tryz.ntmps292
  go_wp2_with (first | (go_at_call 179; rw [← hw1]; clear hw1; refine HM.out.mono ?_; rintro e w2 ⟨rfl, hb⟩; have HB2 := Aside0.mk hb; clear hb))
  go_ret2
  exact ⟨_, _, _, rfl, OwnI.nil _ _, (fun x hx => by cases hx), Nat.zero_le _, HB.out.trans (HB2.out.mono HB.out.size)⟩
end Go.Proofs.YtomofijniefelaaGreat.H
