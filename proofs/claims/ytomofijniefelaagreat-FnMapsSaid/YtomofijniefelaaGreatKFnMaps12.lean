/- Complexes drawn: l01Renamed, l01Draw. -/
import Derived.Test.YtomofijniefelaaGreatKFnMaps1
import Derived.Test.YtomofijniefelaaGreatKFnMaps2
import Derived.Test.YtomofijniefelaaGreatKFnMaps3
import Derived.Test.YtomofijniefelaaGreatKFnMaps4
import Derived.Test.YtomofijniefelaaGreatKFnMaps5
import Derived.Test.YtomofijniefelaaGreatKFnMaps6
import Derived.Test.YtomofijniefelaaGreatKFnMaps7
import Derived.Test.YtomofijniefelaaGreatKFnMaps8
import Derived.Test.YtomofijniefelaaGreatKFnMaps9
import Derived.Test.YtomofijniefelaaGreatKFnMaps10
import Derived.Test.YtomofijniefelaaGreatKFnMaps11

namespace Go.Proofs.YtomofijniefelaaGreat.H
open Go.RowKit Go.Proofs.YtomofijniefelaaGreatW.PrintWords Go.Proofs.YtomofijniefelaaGreatW.PrintLast
set_option linter.unusedVariables false
set_option linter.unusedSimpArgs false
theorem OwnI.gm {bs b : Nat} {w w' : World} {v : Value} {xs : List Int} (h : OwnI b w v xs) (hg : w.grownBy w' (some bs)) (hb : bs < b) : OwnI b w' v xs :=
 h.grown hg (fun k hk e => by have := h.base k hk; have := Option.some.inj e; omega)
set_option maxRecDepth 100000 in
set_option maxHeartbeats 4000000 in
theorem renamed (n : Nat) (ku : Value) (xs : List Int) (v : Value) (p : List Int) (w : World) (hk : ReadI w ku xs) (hg : Gc n xs) (hv : ReadI w v p) (hpl : p.length ≤ 6) (hp : ∀ x ∈ p, 0 ≤ x ∧ x ≤ 5) :
  Calls Tryz.prog 183 #[.agg #[.int .i64 n, ku], v] w fun e w' => ∃ u, e = .returned (.agg #[.int .i64 n, u]) ∧ (∃ ys, OwnI w.heap.size w' u ys ∧ Gc n ys) ∧ Below w.heap.size w w' := by
 obtain ⟨w1, hw1⟩ : ∃ w1, w1 = (w.alloc (.cells #[.int .i64 n, ku] 26)).alloc C0 := ⟨_, rfl⟩
 have hB1 : Below w.heap.size w w1 := by rw [hw1]; exact ((Below.refl _ w).alloc (Nat.le_refl _) _).alloc (by simp) _
 have hs1 : w1.heap.size = w.heap.size + 1 + 1 := by rw [hw1]; simp
 have c0 : w1.cell? ⟨w.heap.size, 0, none⟩ = some (.int .i64 n) := by rw [hw1]; simp
 have c1 : w1.cell? ⟨w.heap.size, 1, none⟩ = some ku := by rw [hw1]; simp
 have hk1 : w1.heap[w.heap.size + 1]? = some C0 := by
  have := blk_new (w.alloc (.cells #[.int .i64 n, ku] 26)) C0
  rw [World.size_alloc, ← hw1] at this; exact this
 obtain ⟨w2, hw2⟩ : ∃ w2, w2 = w1.alloc (.cells #[] 2) := ⟨_, rfl⟩
 have hB2 : Below w1.heap.size w1 w2 := by rw [hw2]; exact Below.alloc (Below.refl _ _) (Nat.le_refl _) _
 have HO2 : Aside0 (OwnI w1.heap.size w2 (.slice (some ⟨w1.heap.size, 0, none⟩) 0 0) []) := ⟨by rw [hw2]; exact OwnI.empty w1 (Nat.le_refl _)⟩
 rw [hs1] at HO2
 have HB2 := Aside0.mk (hB1.trans (hB2.mono hB1.size))
 have HK := Aside0.mk hk
 have HV := Aside0.mk hv
 have HK2 : Aside0 (w2.heap[w.heap.size + 1]? = some C0) := ⟨by rw [hB2.block _ (blk_lt hk1)]; exact hk1⟩
 have HC0 := Aside0.mk (pw_cell_below hB2 c0)
 have HC1 := Aside0.mk (pw_cell_below hB2 c1)
 have HS2 : Aside0 (w.heap.size + 1 + 1 ≤ w2.heap.size) := ⟨by have := hB2.size; omega⟩
 have HG := Aside0.mk hg
 obtain ⟨A1, d1, rfl, -⟩ := id hk
 obtain ⟨A2, d2, rfl, -⟩ := id hv
 have hxl := hg.2.2.2
 subst hw1
 clear hk hv hB1 hB2 hk1 c0 c1 hg hs1
 go_enter Tryz.func183, Tryz.ntmps183
 go_wp2
 rw [← hw2]
 clear hw2
 go_loopw [5, 6] (fun s5 s6 wr => ∃ (iv : Nat) (ss : List Int), s6 = .int .i64 iv ∧ iv ≤ xs.length ∧ Aside0 (ss.length = iv) ∧ Aside0 (∀ s ∈ ss, ∃ z : Nat, s = z ∧ z < 64) ∧ Aside0 (OwnI (w.heap.size + 1 + 1) wr s5 ss) ∧ Aside0 (Below (w.heap.size + 1 + 1) w2 wr)) (fun _ s6 _ => xs.length - (intOf s6).toNat)
 case atStart => exact ⟨0, [], rfl, Nat.zero_le _, ⟨rfl⟩, ⟨fun s h => by cases h⟩, HO2, ⟨Below.refl _ _⟩⟩
 case round =>
  obtain ⟨iv, ss, rfl, hi, HL, HSS, HO, HBr⟩ := hrel
  obtain ⟨A5, c5, e5, -⟩ := id HO.out.read
  rw [HL.out] at e5
  subst e5
  have lift : ∀ {x y : World}, Below (w.heap.size + 1 + 1) x y → Below w.heap.size x y := fun h => h.mono (by omega)
  have HBw := Aside0.mk (HB2.out.trans (lift HBr.out))
  have hkr : wr.heap[w.heap.size + 1]? = some C0 := by rw [HBr.out.block _ (by omega)]; exact HK2.out
  have hb0 : wr.heap[w.heap.size]? = w2.heap[w.heap.size]? := HBr.out.block _ (by omega)
  have c0 : wr.cell? ⟨w.heap.size, 0, none⟩ = some (.int .i64 n) := by rw [World.cell?_of_block (w := w2) hb0]; exact HC0.out
  have c1 : wr.cell? ⟨w.heap.size, 1, none⟩ = some (.slice A1 xs.length d1) := by rw [World.cell?_of_block (w := w2) hb0]; exact HC1.out
  have HKR := Aside0.mk hkr
  have hz2 := HS2.out
  have hzr := HBr.out.size
  by_cases hlt : iv < xs.length
  ·obtain ⟨A_, c_, e_, -, hcc⟩ := HK.out.below HBw.out
   cases e_
   obtain ⟨ad, y, rfl, hcell, HY⟩ := ReadI.get hcc hlt
   have hyb := HG.out.2.2.1 y (mem_at hlt HY.out)
   have h64 := pwn HG.out.2.1
   obtain ⟨f, rfl⟩ : ∃ f : Nat, y = f := ⟨y.toNat, by omega⟩
   have hf63 : f ≤ 63 := by omega
   have hltI : (iv : Int) < (xs.length : Int) := by omega
   have hlen : xs.length ≤ 64 := hxl
   have HMV := Aside0.mk (fun W (hb : Below w.heap.size w W) => specMoved f hf63 _ p W (HV.out.below hb) hpl hp)
   have HIM : Aside0 (img f p < 64) := ⟨imgTo_lt hp _⟩
   obtain ⟨m, hm⟩ : ∃ m, m = img f p := ⟨_, rfl⟩
   rw [← hm] at HMV HIM
   have HSL : Aside0 (ss.length ≤ 64) := ⟨by rw [HL.out]; omega⟩
   clear hcc hyb h64 hm
   go_wp2_with (first | (go_at_call 126; refine (HMV.out _ HBw.out).mono ?_; rintro e w5 ⟨rfl, hb⟩; have HO5 := Aside0.mk (OwnI.below HO.out hb); have HB5 := Aside0.mk (HBr.out.trans (hb.mono (Nat.le_trans hz2 hzr))); have hz5 := hb.size; clear hb) | (at_builtin; refine app_own (w0 := w2) (w.heap.size + 1 + 1) rfl (.tmp 15) (.tmp 23) rfl _ ss (m : Int) rfl rfl HO5.out HB5.out (by omega) (by have := HSL.out; omega) ?_; intro v1 w9 ho hb hg hat; have HO9 := Aside0.mk ho; have HB9 := Aside0.mk hb; clear ho hb hg hat))
   go_roundw
   case rel => exact ⟨iv + 1, ss ++ [(m : Int)], by go_num, by omega, ⟨by rw [List.length_append, List.length_singleton, HL.out]⟩, ⟨fun s hs => by
    rcases List.mem_append.1 hs with h | h
    ·exact HSS.out s h
    ·rw [List.mem_singleton] at h; exact ⟨m, h, HIM.out⟩⟩, HO9, HB9⟩
   case measure => simp [intOf]; omega
  ·have hltI : ¬ (iv : Int) < (xs.length : Int) := by omega
   have HN6 := Aside0.mk HG.out.2.1
   go_wp2_with (first | (go_at_call 127; go_must (refine (specMade n HN6.out _ ss _ (by have h := HO.out.read; exact h) HSS.out).mono ?_; rintro e w6 ⟨u, rfl, ho, hb⟩; have hk6 : w6.heap[w.heap.size + 1]? = some C0 := (by rw [hb.block _ (blk_lt HKR.out)]; exact HKR.out); have HK6 := Aside0.mk hk6; have HO6 := Aside0.mk ho; have HB6 := Aside0.mk (HBw.out.trans (hb.mono HBw.out.size)); obtain ⟨A6, c6, rfl, -⟩ := id ho.read; have c00 : w6.cell? ⟨w.heap.size + 1, 0, none⟩ = some (.int .i64 0) := blk_cell hk6 0; have c01 : w6.cell? ⟨w.heap.size + 1, 1, none⟩ = some (.slice none 0 0) := blk_cell hk6 1; have f00 : w6.frozen? ⟨w.heap.size + 1, 0, none⟩ = false := blk_frozen hk6 0; have f01 : w6.frozen? ⟨w.heap.size + 1, 1, none⟩ = false := blk_frozen hk6 1; clear ho hb hk6)))
   refine bodyPost_ret (results_cell_row rfl _ _ (w.heap.size + 1) 26 #[.int .i64 n, .slice A6 (thL (madeAt ss) (2 ^ n)).length c6] (0, 0) _ rfl (by refine blk_put (cs := #[.int .i64 n, .slice none 0 0]) ?_ 1 _ rfl; refine blk_put (cs := #[.int .i64 0, .slice none 0 0]) ?_ 0 _ rfl; exact HK6.out) Tryz.underlying26 rfl (by kernel_rfl)) rfl ?_
   have hbb : Below w.heap.size w6 ((w6.setCell ⟨w.heap.size + 1, 0, none⟩ (Value.int IntKind.i64 n)).setCell ⟨w.heap.size + 1, 1, none⟩ (Value.slice A6 (thL (madeAt ss) (2 ^ n)).length c6)) := ((Below.refl _ _).setCell (by simp) _).setCell (by simp) _
   refine ⟨_, rfl, ⟨thL (madeAt ss) (2 ^ n), ?_, made_gc HG.out.1 HN6.out (madeAt ss)⟩, HB6.out.trans hbb⟩
   have ho := HO6.out
   have hbse := ho.base
   have ho := ho.lower (b' := w.heap.size) (by omega)
   exact (ho.grown (set_grown' _ (w.heap.size + 1) _ _) (fun j hj e => by have := hbse _ hj; cases e; omega)).grown (set_grown' _ (w.heap.size + 1) _ _) (fun j hj e => by have := hbse _ hj; cases e; omega)
set_option maxRecDepth 100000 in
set_option maxHeartbeats 4000000 in
theorem draw (bs : Nat) (w : World) (hs : Src bs w) :
  Calls Tryz.prog 158 #[.pointer (some ⟨bs, 0, none⟩)] w fun e w' => ∃ v, e = .returned v ∧ (∃ (n : Nat) (u : Value) (xs : List Int), v = .agg #[.int .i64 n, u] ∧ OwnI w.heap.size w' u xs ∧ Gc n xs) ∧ Dw bs w w' := by
 have HBS := Aside0.mk hs.lt
 obtain ⟨w1, hw1⟩ : ∃ w1, w1 = w.alloc C0 := ⟨_, rfl⟩
 have hb1 : Below w.heap.size w w1 := by rw [hw1]; exact Below.alloc (Below.refl _ _) (Nat.le_refl _) _
 have HZ1 : Aside0 (w1.heap.size = w.heap.size + 1) := ⟨by rw [hw1]; simp⟩
 have HK1 : Aside0 (w1.heap[w.heap.size]? = some C0) := ⟨by rw [hw1]; exact blk_new w _⟩
 have HD1 := Aside0.mk (Dw.of_below hs hb1)
 have hmx : Tryz.prog.follows .mixedOrders = true := by kernel_rfl
 clear hs hb1
 have HNX := Aside0.mk (next bs 3 w1 (by decide) HD1.out.2)
 go_enter Tryz.func158, Tryz.ntmps158
 go_wp2_with (first | (go_at_call 146; rw [← hw1]; clear hw1; refine HNX.out.mono ?_; rintro e w2 ⟨r, rfl, -, -, hd⟩; have HD2 := Aside0.mk hd; clear hd) | (go_at_call 277; refine (names w2).mono ?_; rintro e w5 ⟨rfl, hrow, hb⟩; have HR5 := Aside0.mk hrow; have HD5 := Aside0.mk (HD2.out.then_below hb); clear hrow hb) | (go_at_call 146; go_must (refine (next bs 11 w5 (by decide) HD5.out.2).mono ?_; rintro e w6 ⟨r2, rfl, -, hr, hd⟩; have hr := hr (by decide); obtain ⟨k, rfl⟩ : ∃ k : Nat, r2 = k := ⟨r2.toNat, by omega⟩; have hk11 : k < 11 := (by omega); have hkI : (k : Int) < 11 := (by omega); obtain ⟨nm, hnm⟩ : ∃ nm, namesL[k]? = some nm := ⟨_, List.getElem?_eq_getElem (show k < namesL.length from hk11)⟩; have hr6 : RowT w6 w2.heap.size namesL := (by have h0 := HR5.out; unfold RowT at h0 ⊢; rw [hd.1.block _ (blk_lt h0) (fun e => by have := Option.some.inj e; have h1 := HD2.out.2.lt; omega)]; exact h0); have hcn := hr6.cell hnm; have HNM := Aside0.mk hnm; have HD6 := Aside0.mk (HD5.out.trans hd); clear hd hr6 hnm)) | (go_at_call 147; go_must (refine (named k nm HNM.out _).mono ?_; rintro e w3 ⟨_, v3, rfl, ⟨n, z, xs, rfl, ho, hg⟩, hb⟩; obtain ⟨Az, cz, rfl, -⟩ := id ho.read; have HD3 := Aside0.mk (HD6.out.then_below hb); have HO3 := Aside0.mk (ho.lower (HD6.out.size)); have HG := Aside0.mk hg; clear ho hg hb)) | (go_at_call 255; go_must (obtain ⟨w7, hw7⟩ : ∃ w7, w7 = w2.alloc (.cells #[.int .i64 1, .int .i64 2, .int .i64 3, .int .i64 4, .int .i64 4, .int .i64 5, .int .i64 5, .int .i64 6, .int .i64 6] 2) := ⟨_, rfl⟩; rw [← hw7]; have hb7 : Below w2.heap.size w2 w7 := (by rw [hw7]; exact Below.alloc (Below.refl _ _) (Nat.le_refl _) _); have hl7 : RdK bs w7 (.slice (some ⟨w2.heap.size, 0, none⟩) 9 9) [1, 2, 3, 4, 4, 5, 5, 6, 6] := (by rw [hw7]; exact (lit_own w2 w2.heap.size [1, 2, 3, 4, 4, 5, 5, 6, 6] (Nat.le_refl _) (by decide)).rdk HD2.out.2.lt); have HD7 := Aside0.mk (HD2.out.then_below hb7); clear hw7; refine (pick bs _ [1, 2, 3, 4, 4, 5, 5, 6, 6] w7 HD7.out.2 hl7 (by decide) (by decide)).mono ?_; rintro e w8 ⟨sz, rfl, hm, hd⟩; have HD8 := Aside0.mk (HD7.out.trans hd); have hsz : 1 ≤ sz ∧ sz ≤ 6 := (by simp at hm; omega); obtain ⟨n8, rfl⟩ : ∃ n : Nat, sz = n := ⟨sz.toNat, by omega⟩; clear hm hd hb7 hl7)) | (go_at_call 205; go_must (refine (drawOf bs n8 (by omega) (by omega) w8 HD8.out.2).mono ?_; rintro e w9 ⟨u9, ys, rfl, ho, hg, hd⟩; have HD9 := Aside0.mk (HD8.out.trans hd); have hk9 : w9.heap[w.heap.size]? = some C0 := (by rw [(HD8.out.trans hd).1.block _ (by have h1 := HZ1.out; omega) (fun e => by have := Option.some.inj e; have := HBS.out; omega)]; exact HK1.out); have HK9 := Aside0.mk hk9; have HO9 := Aside0.mk (ho.lower HD8.out.size); have HG9 := Aside0.mk hg; obtain ⟨A9, c9, rfl, -⟩ := id ho.read; have c00 : w9.cell? ⟨w.heap.size, 0, none⟩ = some (.int .i64 0) := blk_cell hk9 0; have c01 : w9.cell? ⟨w.heap.size, 1, none⟩ = some (.slice none 0 0) := blk_cell hk9 1; have f00 : w9.frozen? ⟨w.heap.size, 0, none⟩ = false := blk_frozen hk9 0; have f01 : w9.frozen? ⟨w.heap.size, 1, none⟩ = false := blk_frozen hk9 1; clear ho hg hd hk9)))
 ·obtain ⟨w4, hw4⟩ : ∃ w4, w4 = w3.alloc (.cells #[.int .i64 (n : Int), .slice Az xs.length cz] 26) := ⟨_, rfl⟩
  have hb4 : Below w3.heap.size w3 w4 := by rw [hw4]; exact Below.alloc (Below.refl _ _) (Nat.le_refl _) _
  have hz4 : w4.heap.size = w3.heap.size + 1 := by rw [hw4]; simp
  have hk4 : w4.heap[w3.heap.size]? = some (.cells #[.int .i64 (n : Int), .slice Az xs.length cz] 26) := by rw [hw4]; exact heap_alloc_new w3 _
  have kc0 : w4.cell? ⟨w3.heap.size, 0, none⟩ = some (.int .i64 (n : Int)) := blk_cell hk4 0
  have kc1 : w4.cell? ⟨w3.heap.size, 1, none⟩ = some (.slice Az xs.length cz) := blk_cell hk4 1
  rw [← hw4]
  clear hw4 hk4
  have HD4 := Aside0.mk (HD3.out.then_below hb4)
  have HS4 := Aside0.mk HD4.out.2
  have HBS4 := Aside0.mk HD4.out.2.lt
  have HBS3 : Aside0 (bs < w1.heap.size) := ⟨HD1.out.2.lt⟩
  have HZ := Aside0.mk (HO3.out.below hb4)
  have hkb : w3.heap.size ≠ bs := Nat.ne_of_gt HD3.out.2.lt
  have HZZ := Aside0.mk (Nat.le_trans HD3.out.size (show w3.heap.size ≤ w4.heap.size by omega))
  clear hb4 hz4
  go_wp2
  refine wp_region_gv (Gm bs (Src bs)) (fun w => ⟨grown_drew w _, fun h => h.below (Below.refl _ _).drew⟩) (fun _ _ _ => Gm.trans) 6 (fun i => match i with | 0 => fun v _ => v = .agg #[.int .i64 (n : Int), .slice Az xs.length cz] | 1 => fun v _ => v = .pointer (some ⟨bs, 0, none⟩) | 2 => fun v _ => v = .pointer (some ⟨w3.heap.size, 0, none⟩) | 3 => fun v _ => v = .int .i64 (n : Int) | 4 => fun v W => ∃ p, OwnI w4.heap.size W v p ∧ p.length = n ∧ ∀ x ∈ p, 0 ≤ x ∧ x ≤ 5 | 5 => fun v W => ∃ u ys, v = .agg #[.int .i64 (n : Int), u] ∧ OwnI w4.heap.size W u ys ∧ Gc n ys | _ => fun _ _ => True)
   [0, 0, 0, 4, 14, 31, 63] hmx (by kernel_rfl) ?st ?steps ?rest
  case st =>
   intro i v w1_ w2_ hb
   match i with
   | 0 | 1 | 2 | 3 => exact id
   | 4 => exact fun ⟨p, ho, h1, h2⟩ => ⟨p, ho.gm hb.1 HBS4.out, h1, h2⟩
   | 5 => exact fun ⟨u, ys, e, ho, hg⟩ => ⟨u, ys, e, ho.gm hb.1 HBS4.out, hg⟩
   | n + 6 => exact id
  case steps =>
   refine ⟨?_, ?_, ?_, ?_, ?_, ?_, trivial⟩
   ·intro s w_ hb hd hq R hR
    generalize hA : putAll _ 0 s _ = A
    clear hq
    have kc0 := grown_cell hb.1 kc0 hkb
    have kc1 := grown_cell hb.1 kc1 hkb
    have hR' := hR (.agg #[.int .i64 (n : Int), .slice Az xs.length cz]) _ (Gm.refl _ _ _) rfl
    clear hR hd
    refine opGives_value ?_ hR'
    subst hA
    simp only [dsOf, List.take, List.map_cons, List.map_nil, Option.getD_some, putAll, Act.put, List.setIfInBounds_toArray, List.set_cons_zero, List.set_cons_succ]
    go_simp
   ·intro s w_ hb hd hq R hR
    generalize hA : putAll _ 0 s _ = A
    clear hq
    have hR' := hR (.pointer (some ⟨bs, 0, none⟩)) _ (Gm.refl _ _ _) rfl
    clear hR hd
    refine opGives_value ?_ hR'
    subst hA
    simp only [dsOf, List.take, List.map_cons, List.map_nil, Option.getD_some, putAll, Act.put, List.setIfInBounds_toArray, List.set_cons_zero, List.set_cons_succ]
    go_simp
   ·intro s w_ hb hd hq R hR
    generalize hA : putAll _ 0 s _ = A
    clear hq
    have hR' := hR (.pointer (some ⟨w3.heap.size, 0, none⟩)) _ (Gm.refl _ _ _) rfl
    clear hR hd
    refine opGives_value ?_ hR'
    subst hA
    simp only [dsOf, List.take, List.map_cons, List.map_nil, Option.getD_some, putAll, Act.put, List.setIfInBounds_toArray, List.set_cons_zero, List.set_cons_succ]
    go_simp
   ·intro s w_ hb hd hq R hR
    generalize hA : putAll _ 0 s _ = A
    have e2 : s 2 = _ := hd 2 (by kernel_rfl)
    clear hq
    have kc0 := grown_cell hb.1 kc0 hkb
    have hR' := hR (.int .i64 (n : Int)) _ (Gm.refl _ _ _) rfl
    clear hR hd
    refine opGives_value ?_ hR'
    subst hA
    simp only [dsOf, List.take, List.map_cons, List.map_nil, Option.getD_some, putAll, Act.put, List.setIfInBounds_toArray, List.set_cons_zero, List.set_cons_succ]
    go_simp
   ·intro s w_ hb hd hq R hR
    generalize hA : putAll _ 0 s _ = A
    have e1 : s 1 = _ := hd 1 (by kernel_rfl)
    have e3 : s 3 = _ := hd 3 (by kernel_rfl)
    clear hq
    refine opGives_call (f := 159) (args := #[.pointer (some ⟨bs, 0, none⟩), .int .i64 (n : Int)]) ?_ ?_
    ·subst hA
     clear hR hd
     simp only [dsOf, List.take, List.map_cons, List.map_nil, Option.getD_some, putAll, Act.put, List.setIfInBounds_toArray, List.set_cons_zero, List.set_cons_succ]
     go_simp
    clear hA A hd
    refine (drawOrder bs n HG.out.2.1 w_ (hb.2 HS4.out)).mono ?_
    rintro e w3_ ⟨u3, rfl, ⟨p, ho, hl, hp⟩, hd⟩
    exact ⟨_, rfl, hR _ _ ⟨hd.1, fun _ => hd.2⟩ ⟨p, ho.lower hb.1.size, hl, hp⟩⟩
   ·intro s w_ hb hd hq R hR
    generalize hA : putAll _ 0 s _ = A
    have e0 : s 0 = _ := hd 0 (by kernel_rfl)
    obtain ⟨p4, o4, l4, h4⟩ : ∃ p, OwnI w4.heap.size w_ (s 4) p ∧ p.length = n ∧ ∀ x ∈ p, 0 ≤ x ∧ x ≤ 5 := hd 4 (by kernel_rfl)
    obtain ⟨A4, c4, e4, -⟩ := id o4.read
    rw [e4] at o4
    clear hq
    refine opGives_call (f := 183) (args := #[.agg #[.int .i64 (n : Int), .slice Az xs.length cz], .slice A4 p4.length c4]) ?_ ?_
    ·subst hA
     clear hR hd
     simp only [dsOf, List.take, List.map_cons, List.map_nil, Option.getD_some, putAll, Act.put, List.setIfInBounds_toArray, List.set_cons_zero, List.set_cons_succ]
     go_simp
    clear hA A hd
    refine (renamed n _ xs _ p4 w_ (HZ.out.gm hb.1 HBS3.out).read HG.out o4.read (by rw [l4]; exact HG.out.2.1) h4).mono ?_
    rintro e w3_ ⟨u3, rfl, ⟨ys, ho, hg⟩, hb3⟩
    exact ⟨_, rfl, hR _ _ ⟨grown_below hb3 _, fun h => h.below hb3⟩ ⟨u3, ys, rfl, ho.lower hb.1.size, hg⟩⟩
  case rest =>
   intro s9 w9 hb hv
   obtain ⟨u5, ys, e5_, o5, g5⟩ : ∃ u ys, s9 5 = .agg #[.int .i64 (n : Int), u] ∧ OwnI w4.heap.size w9 u ys ∧ Gc n ys := hv 5 (by decide)
   clear hv
   simp only [dsOf, List.take, List.map_cons, List.map_nil, Option.getD_some, putAll, Act.put, List.setIfInBounds_toArray, List.set_cons_zero, List.set_cons_succ]
   have hd9 : Dw bs w1 w9 := HD4.out.trans ⟨hb.1, hb.2 HS4.out⟩
   have hk9 : w9.heap[w.heap.size]? = some C0 := by rw [hd9.1.block _ (by have h1 := HZ1.out; omega) (fun e => by have := Option.some.inj e; have := HBS.out; omega)]; exact HK1.out
   have HK9 := Aside0.mk hk9
   have HD9 := Aside0.mk hd9
   have HO9 := Aside0.mk (o5.lower HZZ.out)
   have HG9 := Aside0.mk g5
   obtain ⟨A9, c9, rfl, -⟩ := id o5.read
   have c00 : w9.cell? ⟨w.heap.size, 0, none⟩ = some (.int .i64 0) := blk_cell hk9 0
   have c01 : w9.cell? ⟨w.heap.size, 1, none⟩ = some (.slice none 0 0) := blk_cell hk9 1
   have f00 : w9.frozen? ⟨w.heap.size, 0, none⟩ = false := blk_frozen hk9 0
   have f01 : w9.frozen? ⟨w.heap.size, 1, none⟩ = false := blk_frozen hk9 1
   rw [e5_]
   clear hb hd9 hk9 o5 g5 e5_
   refine .inr ⟨(w9.setCell ⟨w.heap.size, 0, none⟩ (.int .i64 (n : Int))).setCell ⟨w.heap.size, 1, none⟩ (.slice A9 ys.length c9), (by go_simp), ?_⟩
   simp only [List.drop, Act.put, List.setIfInBounds_toArray, List.set_cons_zero, List.set_cons_succ]
   unfold tailList
   go_wp2
   refine bodyPost_ret (results_cell_row rfl _ _ w.heap.size 26 #[.int .i64 (n : Nat), .slice A9 ys.length c9] (0, 0) _ rfl (by refine blk_put (cs := #[.int .i64 (n : Nat), .slice none 0 0]) ?_ 1 _ rfl; refine blk_put (cs := #[.int .i64 0, .slice none 0 0]) ?_ 0 _ rfl; exact HK9.out) Tryz.underlying26 rfl (by kernel_rfl)) rfl ?_
   have hbb : Below w.heap.size w9 ((w9.setCell ⟨w.heap.size, 0, none⟩ (Value.int IntKind.i64 (n : Nat))).setCell ⟨w.heap.size, 1, none⟩ (Value.slice A9 ys.length c9)) := ((Below.refl _ _).setCell (by simp) _).setCell (by simp) _
   have hz := HZ1.out
   refine ⟨_, rfl, ⟨n, _, ys, rfl, ?_, HG9.out⟩, (HD1.out.trans HD9.out).top hbb (Nat.le_refl _) HBS.out⟩
   have ho := HO9.out
   have hbse := ho.base
   have ho := ho.lower (b' := w.heap.size) (by omega)
   exact (ho.grown (set_grown' _ w.heap.size _ _) (fun j hj e => by have := hbse _ hj; cases e; omega)).grown (set_grown' _ w.heap.size _ _) (fun j hj e => by have := hbse _ hj; cases e; omega)
 ·refine bodyPost_ret (results_cell_row rfl _ _ w.heap.size 26 #[.int .i64 (n8 : Nat), .slice A9 ys.length c9] (0, 0) _ rfl (by refine blk_put (cs := #[.int .i64 (n8 : Nat), .slice none 0 0]) ?_ 1 _ rfl; refine blk_put (cs := #[.int .i64 0, .slice none 0 0]) ?_ 0 _ rfl; exact HK9.out) Tryz.underlying26 rfl (by kernel_rfl)) rfl ?_
  have hbb : Below w.heap.size w9 ((w9.setCell ⟨w.heap.size, 0, none⟩ (Value.int IntKind.i64 (n8 : Nat))).setCell ⟨w.heap.size, 1, none⟩ (Value.slice A9 ys.length c9)) := ((Below.refl _ _).setCell (by simp) _).setCell (by simp) _
  have hz := HZ1.out
  refine ⟨_, rfl, ⟨n8, _, ys, rfl, ?_, HG9.out⟩, (HD1.out.trans HD9.out).top hbb (Nat.le_refl _) HBS.out⟩
  have ho := HO9.out
  have hbse := ho.base
  have ho := ho.lower (b' := w.heap.size) (by omega)
  exact (ho.grown (set_grown' _ w.heap.size _ _) (fun j hj e => by have := hbse _ hj; cases e; omega)).grown (set_grown' _ w.heap.size _ _) (fun j hj e => by have := hbse _ hj; cases e; omega)
end Go.Proofs.YtomofijniefelaaGreat.H
