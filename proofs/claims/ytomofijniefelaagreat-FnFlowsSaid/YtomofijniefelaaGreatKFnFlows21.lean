/- l02All of the reference: all pairs of a complex (printed by gendk.py). l02Fill of the reference (printed by gendk.py). A complex that is one has a number of vertices. -/
import Derived.Test.YtomofijniefelaaGreatKFnFlows1
import Derived.Test.YtomofijniefelaaGreatKFnFlows2
import Derived.Test.YtomofijniefelaaGreatKFnFlows3
import Derived.Test.YtomofijniefelaaGreatKFnFlows4
import Derived.Test.YtomofijniefelaaGreatKFnFlows5
import Derived.Test.YtomofijniefelaaGreatKFnFlows6
import Derived.Test.YtomofijniefelaaGreatKFnFlows7
import Derived.Test.YtomofijniefelaaGreatKFnFlows8
import Derived.Test.YtomofijniefelaaGreatKFnFlows9
import Derived.Test.YtomofijniefelaaGreatKFnFlows10
import Derived.Test.YtomofijniefelaaGreatKFnFlows11
import Derived.Test.YtomofijniefelaaGreatKFnFlows12
import Derived.Test.YtomofijniefelaaGreatKFnFlows13
import Derived.Test.YtomofijniefelaaGreatKFnFlows14
import Derived.Test.YtomofijniefelaaGreatKFnFlows15
import Derived.Test.YtomofijniefelaaGreatKFnFlows16
import Derived.Test.YtomofijniefelaaGreatKFnFlows17
import Derived.Test.YtomofijniefelaaGreatKFnFlows18
import Derived.Test.YtomofijniefelaaGreatKFnFlows19
import Derived.Test.YtomofijniefelaaGreatKFnFlows20

namespace Go.Proofs.YtomofijniefelaaGreat.H
open Go.RowKit Go.Proofs.YtomofijniefelaaGreatW.PrintWords Go.Proofs.YtomofijniefelaaGreatW.PrintLast
set_option linter.unusedVariables false
set_option linter.unusedSimpArgs false
set_option maxRecDepth 100000 in
set_option maxHeartbeats 4000000 in
theorem specAll2 (n : Nat) (ku : Value) (xs : List Int) (w : World) (hk : ReadI w ku xs) (hc : Cx n xs) :
  Calls Tryz.prog 238 #[cx n ku] w fun e w' => ∃ u, e = .returned u ∧ OwnP w.heap.size w' u (allP xs) ∧ Below w.heap.size w w' := by
 obtain ⟨w1, hw1⟩ : ∃ w1, w1 = w.alloc (.cells #[.int .i64 n, ku] 26) := ⟨_, rfl⟩
 have hB : Below w.heap.size w w1 := by rw [hw1]; exact Below.alloc (Below.refl _ _) (Nat.le_refl _) _
 have c0 : w1.cell? ⟨w.heap.size, 0, none⟩ = some (.int .i64 n) := by rw [hw1]; simp
 have c1 : w1.cell? ⟨w.heap.size, 1, none⟩ = some ku := by rw [hw1]; simp
 have HB := Aside0.mk hB
 have HC := Aside0.mk hc
 have hlen := hc.len
 have hmx : Tryz.prog.follows .mixedOrders = true := by kernel_rfl
 have HK := Aside0.mk (hk.below hB)
 obtain ⟨A1, d1, rfl, -⟩ := id hk
 have hsz : w1.heap.size = w.heap.size + 1 := by rw [hw1]; simp
 have HE1 := Aside0.mk (OwnP.empty (b := w1.heap.size) w1 (Nat.le_refl _))
 have HE1 : Aside0 (OwnP w1.heap.size (w1.alloc (.cells #[] 72)) (.slice (some ⟨w.heap.size + 1, 0, none⟩) 0 0) []) := ⟨by have h := HE1.out; rw [hsz] at h ⊢; exact h⟩
 clear hk hB hc
 go_enter Tryz.func238, Tryz.ntmps238
 go_wp2
 rw [← hw1]
 clear hw1
 go_loopw [3, 4] (fun s3 s4 wr => ∃ iv : Nat, s4 = .int .i64 iv ∧ iv ≤ xs.length ∧ Aside0 (OwnP w1.heap.size wr s3 (allTo xs iv)) ∧ Aside0 (Below w1.heap.size w1 wr)) (fun _ s4 _ => xs.length - (intOf s4).toNat)
 case atStart => exact ⟨0, rfl, Nat.zero_le _, HE1, ⟨Below.alloc (Below.refl _ _) (Nat.le_refl _) _⟩⟩
 case round =>
  obtain ⟨iv, rfl, hi, HO, HBr⟩ := hrel
  have HZr : Aside0 (w1.heap.size ≤ wr.heap.size) := ⟨HBr.out.size⟩
  have c0q := Aside0.mk c0
  have c1q := Aside0.mk c1
  replace c0 := pw_cell_below HBr.out c0
  replace c1 := pw_cell_below HBr.out c1
  have HKr := Aside0.mk (HK.out.below HBr.out)
  by_cases hlt : iv < xs.length
  ·have hltI : (iv : Int) < (xs.length : Int) := by omega
   obtain ⟨ad, y, rfl, hcell, HY⟩ := ReadI.get (by obtain ⟨_, _, e, _, h⟩ := HKr.out; cases e; exact h) hlt
   obtain ⟨f, rfl, hf1, hf2⟩ := HC.out.nat (mem_at hlt HY.out)
   have HF64 : Aside0 (f < 64) := ⟨by omega⟩
   have HAN := Aside0.mk (allTo_next hlt HY.out)
   have hal := Nat.le_trans (above_len xs (f : Int)) hlen
   have HTL := Aside0.mk (allTo_len hlen iv)
   obtain ⟨A6, d6, rfl, -⟩ := id HO.out.readQ
   obtain ⟨L6, hL6⟩ : ∃ L, L = (allTo xs iv).length := ⟨_, rfl⟩
   rw [← hL6] at HO ⊢
   clear hL6
   go_wp2
   refine wp_region_g Bl (fun w => (Below.refl _ w).drew) (fun _ _ _ => Bl.trans) (fun i => match i with | 0 => fun v _ => v = .agg #[.int .i64 (n : Int), .slice (some ad) xs.length d1] | 1 => fun v _ => v = .pointer (some ⟨w.heap.size, 1, none⟩) | 2 => fun v _ => v = .slice (some ad) xs.length d1 | 3 => fun v _ => v = .int .i64 (iv : Int) | 4 => fun v _ => v = .pointer (some (ad.add iv)) | 5 => fun v _ => v = .int .i64 (f : Int) | 6 => fun v W => OwnI w1.heap.size W v (aboveL xs (f : Int)) | 7 => fun v W => OwnI w1.heap.size W v (aboveL xs (f : Int)) | _ => fun _ _ => True)
    [0, 0, 2, 0, 14, 30, 63, 127] hmx (by kernel_rfl) ?ast ?asteps ?arest
   case ast =>
    intro i v w1_ w2_ hb
    match i with
    | 0 | 1 | 2 | 3 | 4 | 5 => exact id
    | 6 => exact fun h => OwnI.below h hb
    | 7 => exact fun h => OwnI.below h hb
    | n + 8 => exact id
   case asteps =>
    refine ⟨?_, ?_, ?_, ?_, ?_, ?_, ?_, ?_, trivial⟩
    ·intro s w_ hb hd hq R hR
     generalize hA : putAll _ 0 s _ = A
     clear hq
     have c0 := pw_cell_below hb c0
     have c1 := pw_cell_below hb c1
     have hR' := hR (.agg #[.int .i64 (n : Int), .slice (some ad) xs.length d1]) _ (Below.refl _ _) rfl
     clear hR hd
     refine opGives_value ?_ hR'
     subst hA
     simp only [dsOf, List.map_cons, List.map_nil, Option.getD_some, putAll, Act.put, List.setIfInBounds_toArray, List.set_cons_zero, List.set_cons_succ]
     go_simp
    ·intro s w_ hb hd hq R hR
     generalize hA : putAll _ 0 s _ = A
     clear hq
     have hR' := hR (.pointer (some ⟨w.heap.size, 1, none⟩)) _ (Below.refl _ _) rfl
     clear hR hd
     refine opGives_value ?_ hR'
     subst hA
     simp only [dsOf, List.map_cons, List.map_nil, Option.getD_some, putAll, Act.put, List.setIfInBounds_toArray, List.set_cons_zero, List.set_cons_succ]
     go_simp
    ·intro s w_ hb hd hq R hR
     generalize hA : putAll _ 0 s _ = A
     have e1 : s 1 = _ := hd 1 (by kernel_rfl)
     clear hq
     have c1 := pw_cell_below hb c1
     have hR' := hR (.slice (some ad) xs.length d1) _ (Below.refl _ _) rfl
     clear hR hd
     refine opGives_value ?_ hR'
     subst hA
     simp only [dsOf, List.map_cons, List.map_nil, Option.getD_some, putAll, Act.put, List.setIfInBounds_toArray, List.set_cons_zero, List.set_cons_succ]
     go_simp
    ·intro s w_ hb hd hq R hR
     generalize hA : putAll _ 0 s _ = A
     clear hq
     have hR' := hR (.int .i64 (iv : Int)) _ (Below.refl _ _) rfl
     clear hR hd
     refine opGives_value ?_ hR'
     subst hA
     simp only [dsOf, List.map_cons, List.map_nil, Option.getD_some, putAll, Act.put, List.setIfInBounds_toArray, List.set_cons_zero, List.set_cons_succ]
     go_simp
    ·intro s w_ hb hd hq R hR
     generalize hA : putAll _ 0 s _ = A
     have e2 : s 2 = _ := hd 2 (by kernel_rfl)
     have e3 : s 3 = _ := hd 3 (by kernel_rfl)
     clear hq
     have hR' := hR (.pointer (some (ad.add iv))) _ (Below.refl _ _) rfl
     clear hR hd
     refine opGives_value ?_ hR'
     subst hA
     simp only [dsOf, List.map_cons, List.map_nil, Option.getD_some, putAll, Act.put, List.setIfInBounds_toArray, List.set_cons_zero, List.set_cons_succ]
     go_simp
    ·intro s w_ hb hd hq R hR
     generalize hA : putAll _ 0 s _ = A
     have e4 : s 4 = _ := hd 4 (by kernel_rfl)
     clear hq
     have hcell := pw_cell_below hb hcell
     have hR' := hR (.int .i64 (f : Int)) _ (Below.refl _ _) rfl
     clear hR hd
     refine opGives_value ?_ hR'
     subst hA
     simp only [dsOf, List.map_cons, List.map_nil, Option.getD_some, putAll, Act.put, List.setIfInBounds_toArray, List.set_cons_zero, List.set_cons_succ]
     go_simp
    ·intro s w_ hb hd hq R hR
     generalize hA : putAll _ 0 s _ = A
     have e0 : s 0 = _ := hd 0 (by kernel_rfl)
     have e5 : s 5 = _ := hd 5 (by kernel_rfl)
     clear hq
     refine opGives_call (f := 303) (args := #[.agg #[.int .i64 (n : Int), .slice (some ad) xs.length d1], .int .i64 (f : Int)]) ?_ ?_
     ·subst hA
      clear hR hd
      simp only [dsOf, List.map_cons, List.map_nil, Option.getD_some, putAll, Act.put, List.setIfInBounds_toArray, List.set_cons_zero, List.set_cons_succ]
      go_simp
     clear hA A hd
     refine (specAbove n _ xs f w_ (HKr.out.below hb) HC.out HF64.out).mono ?_
     rintro e w3_ ⟨u3, rfl, ho, hb3⟩
     exact ⟨_, rfl, hR _ _ hb3 (OwnI.lower ho (Nat.le_trans HZr.out hb.size))⟩
    ·intro s w_ hb hd hq R hR
     generalize hA : putAll _ 0 s _ = A
     have o6 : OwnI w1.heap.size w_ (s 6) (aboveL xs (f : Int)) := hd 6 (by kernel_rfl)
     obtain ⟨u6, e6⟩ : ∃ u, s 6 = u := ⟨_, rfl⟩
     rw [e6] at o6
     clear hq
     have hR' := hR (u6) _ (Below.refl _ _) (o6)
     clear hR hd
     refine opGives_value ?_ hR'
     subst hA
     simp only [dsOf, List.map_cons, List.map_nil, Option.getD_some, putAll, Act.put, List.setIfInBounds_toArray, List.set_cons_zero, List.set_cons_succ]
     go_simp
   case arest =>
    intro s9 w9 hb hv
    have o7 : OwnI w1.heap.size w9 (s9 7) (aboveL xs (f : Int)) := hv 7 (by decide)
    obtain ⟨u7, e7_⟩ : ∃ u, s9 7 = u := ⟨_, rfl⟩
    rw [e7_] at o7
    simp only [dsOf, List.map_cons, List.map_nil, Option.getD_some, putAll, Act.put, List.setIfInBounds_toArray, List.set_cons_zero, List.set_cons_succ]
    rw [e7_]
    clear hv e7_
    have HO5 := Aside0.mk o7
    have HOo := Aside0.mk (OwnP.below HO.out hb)
    obtain ⟨wo, hwo⟩ : ∃ wo, wo = w9 := ⟨_, rfl⟩
    rw [← hwo] at HO5 HOo hb ⊢
    have HBo := Aside0.mk (HBr.out.trans (hb.mono HBr.out.size))
    obtain ⟨A5, c5, rfl, -⟩ := id HO5.out.read
    clear hb o7 hwo
    simp only [Nat.reduceAdd]
    go_wp2
    go_loopw [3, 6] (fun s3 s6 wx => ∃ jv : Nat, s6 = .int .i64 jv ∧ jv ≤ (aboveL xs (f : Int)).length ∧ Aside0 (OwnP w1.heap.size wx s3 (allTo xs iv ++ ((aboveL xs (f : Int)).take jv).map fun g => ((f : Int), g))) ∧ Aside0 (Below wo.heap.size wo wx)) (fun _ s6 _ => (aboveL xs (f : Int)).length - (intOf s6).toNat)
    case atStart => exact ⟨0, rfl, Nat.zero_le _, ⟨by rw [List.take_zero, List.map_nil, List.append_nil]; exact HOo.out⟩, ⟨Below.refl _ _⟩⟩
    case round =>
     clear c0 c1 hcell HKr HZr HBr HOo HO
     obtain ⟨jv, rfl, hj, HO, HBx⟩ := hrel
     have HBr := Aside0.mk (HBo.out.trans (HBx.out.mono HBo.out.size))
     have c0 := pw_cell_below HBr.out c0q.out
     have c1 := pw_cell_below HBr.out c1q.out
     have HZr : Aside0 (w1.heap.size ≤ wr.heap.size) := ⟨HBr.out.size⟩
     have HKr := Aside0.mk (HK.out.below HBr.out)
     by_cases hlt2 : jv < (aboveL xs (f : Int)).length
     ·have hlt2I : (jv : Int) < ((aboveL xs (f : Int)).length : Int) := by omega
      obtain ⟨A_, c_, e_, -, hcc⟩ := id HKr.out
      injection e_ with e1 _ e3
      subst e1 e3
      obtain ⟨ad1, y1, e1, hcell, HY1⟩ := ReadI.get hcc hlt
      cases e1
      obtain rfl : (f : Int) = y1 := HY.out.symm.trans HY1.out
      obtain ⟨ad2, g, rfl, hcell2, HG⟩ := ReadI.get (by obtain ⟨_, _, e, _, h⟩ := HO5.out.read.below HBx.out; cases e; exact h) hlt2
      have HAST := Aside0.mk (all_last HC.out.asc hlt HY.out hlt2 HG.out)
      obtain ⟨acc, hacc⟩ : ∃ acc, acc = allTo xs iv ++ ((aboveL xs (f : Int)).take jv).map fun g => ((f : Int), g) := ⟨_, rfl⟩
      obtain ⟨acc2, hacc2⟩ : ∃ acc2, acc2 = allTo xs iv ++ ((aboveL xs (f : Int)).take (jv + 1)).map fun g => ((f : Int), g) := ⟨_, rfl⟩
      rw [← hacc] at HO HAST
      rw [← hacc2] at HAST
      have HACC2 := HAST
      have HA2 := Aside0.mk hacc2
      have HAL : Aside0 (acc.length ≤ 100000) := ⟨by
       rw [hacc, List.length_append, List.length_map, List.length_take]
       have := HTL.out
       omega⟩
      obtain ⟨A7, c7, rfl, -⟩ := id HO.out.readQ
      obtain ⟨L7, hL7⟩ : ∃ L, L = acc.length := ⟨_, rfl⟩
      rw [← hL7] at HO ⊢
      have HOA := HO
      clear hL7 hacc hacc2 hcc
      go_wp2
      refine wp_region_g Bl (fun w => (Below.refl _ w).drew) (fun _ _ _ => Bl.trans) (fun i => match i with | 0 => fun v _ => v = .agg #[.int .i64 (n : Int), .slice (some ad) xs.length d1] | 1 => fun v _ => v = .slice A7 L7 c7 | 2 => fun v _ => v = .pointer (some ⟨w.heap.size, 1, none⟩) | 3 => fun v _ => v = .slice (some ad) xs.length d1 | 4 => fun v _ => v = .int .i64 (iv : Int) | 5 => fun v _ => v = .pointer (some (ad.add iv)) | 6 => fun v _ => v = .int .i64 (f : Int) | 7 => fun v _ => v = .slice (some ad2) (aboveL xs (f : Int)).length c5 | 8 => fun v _ => v = .int .i64 (jv : Int) | 9 => fun v _ => v = .pointer (some (ad2.add jv)) | 10 => fun v _ => v = .int .i64 g | 11 => fun v _ => v = .agg #[.int .i64 (f : Int), .int .i64 g] | 12 => fun v W => ∃ (u : Value) (k : Bool), v = .tuple #[u, .bool k] ∧ OwnP w1.heap.size W u acc2 | 13 => fun v W => ∃ (u : Value) (k : Bool), v = .tuple #[u, .bool k] ∧ OwnP w1.heap.size W u acc2 | 14 => fun v W => OwnP w1.heap.size W v acc2 | 15 => fun v W => ∃ k : Bool, v = .bool k | 16 => fun v W => OwnP w1.heap.size W v acc2 | _ => fun _ _ => True)
       [0, 0, 0, 4, 0, 28, 60, 0, 0, 384, 896, 2044, 4095, 8191, 16383, 16383, 32767] hmx (by kernel_rfl) ?bst ?bsteps ?brest
      case bst =>
       intro i v w1_ w2_ hb
       match i with
       | 0 | 1 | 2 | 3 | 4 | 5 | 6 | 7 | 8 | 9 | 10 | 11 => exact id
       | 12 => exact fun h => by obtain ⟨u, k, e, ho⟩ := h; exact ⟨u, k, e, OwnP.below ho hb⟩
       | 13 => exact fun h => by obtain ⟨u, k, e, ho⟩ := h; exact ⟨u, k, e, OwnP.below ho hb⟩
       | 14 => exact fun h => OwnP.below h hb
       | 15 => exact id
       | 16 => exact fun h => OwnP.below h hb
       | n + 17 => exact id
      case bsteps =>
       refine ⟨?_, ?_, ?_, ?_, ?_, ?_, ?_, ?_, ?_, ?_, ?_, ?_, ?_, ?_, ?_, ?_, ?_, trivial⟩
       ·intro s w_ hb hd hq R hR
        generalize hA : putAll _ 0 s _ = A
        clear hq
        have c0 := pw_cell_below hb c0
        have c1 := pw_cell_below hb c1
        have hR' := hR (.agg #[.int .i64 (n : Int), .slice (some ad) xs.length d1]) _ (Below.refl _ _) rfl
        clear hR hd
        refine opGives_value ?_ hR'
        subst hA
        simp only [dsOf, List.map_cons, List.map_nil, Option.getD_some, putAll, Act.put, List.setIfInBounds_toArray, List.set_cons_zero, List.set_cons_succ]
        go_simp
       ·intro s w_ hb hd hq R hR
        generalize hA : putAll _ 0 s _ = A
        have q16 : s 16 = .slice A7 L7 c7 := hq 16 (by kernel_rfl)
        clear hq
        have hR' := hR (.slice A7 L7 c7) _ (Below.refl _ _) rfl
        clear hR hd
        refine opGives_value ?_ hR'
        subst hA
        simp only [dsOf, List.map_cons, List.map_nil, Option.getD_some, putAll, Act.put, List.setIfInBounds_toArray, List.set_cons_zero, List.set_cons_succ]
        go_simp
       ·intro s w_ hb hd hq R hR
        generalize hA : putAll _ 0 s _ = A
        clear hq
        have hR' := hR (.pointer (some ⟨w.heap.size, 1, none⟩)) _ (Below.refl _ _) rfl
        clear hR hd
        refine opGives_value ?_ hR'
        subst hA
        simp only [dsOf, List.map_cons, List.map_nil, Option.getD_some, putAll, Act.put, List.setIfInBounds_toArray, List.set_cons_zero, List.set_cons_succ]
        go_simp
       ·intro s w_ hb hd hq R hR
        generalize hA : putAll _ 0 s _ = A
        have e2 : s 2 = _ := hd 2 (by kernel_rfl)
        clear hq
        have c1 := pw_cell_below hb c1
        have hR' := hR (.slice (some ad) xs.length d1) _ (Below.refl _ _) rfl
        clear hR hd
        refine opGives_value ?_ hR'
        subst hA
        simp only [dsOf, List.map_cons, List.map_nil, Option.getD_some, putAll, Act.put, List.setIfInBounds_toArray, List.set_cons_zero, List.set_cons_succ]
        go_simp
       ·intro s w_ hb hd hq R hR
        generalize hA : putAll _ 0 s _ = A
        clear hq
        have hR' := hR (.int .i64 (iv : Int)) _ (Below.refl _ _) rfl
        clear hR hd
        refine opGives_value ?_ hR'
        subst hA
        simp only [dsOf, List.map_cons, List.map_nil, Option.getD_some, putAll, Act.put, List.setIfInBounds_toArray, List.set_cons_zero, List.set_cons_succ]
        go_simp
       ·intro s w_ hb hd hq R hR
        generalize hA : putAll _ 0 s _ = A
        have e3 : s 3 = _ := hd 3 (by kernel_rfl)
        have e4 : s 4 = _ := hd 4 (by kernel_rfl)
        clear hq
        have hR' := hR (.pointer (some (ad.add iv))) _ (Below.refl _ _) rfl
        clear hR hd
        refine opGives_value ?_ hR'
        subst hA
        simp only [dsOf, List.map_cons, List.map_nil, Option.getD_some, putAll, Act.put, List.setIfInBounds_toArray, List.set_cons_zero, List.set_cons_succ]
        go_simp
       ·intro s w_ hb hd hq R hR
        generalize hA : putAll _ 0 s _ = A
        have e5 : s 5 = _ := hd 5 (by kernel_rfl)
        clear hq
        have hcell := pw_cell_below hb hcell
        have hR' := hR (.int .i64 (f : Int)) _ (Below.refl _ _) rfl
        clear hR hd
        refine opGives_value ?_ hR'
        subst hA
        simp only [dsOf, List.map_cons, List.map_nil, Option.getD_some, putAll, Act.put, List.setIfInBounds_toArray, List.set_cons_zero, List.set_cons_succ]
        go_simp
       ·intro s w_ hb hd hq R hR
        generalize hA : putAll _ 0 s _ = A
        clear hq
        have hR' := hR (.slice (some ad2) (aboveL xs (f : Int)).length c5) _ (Below.refl _ _) rfl
        clear hR hd
        refine opGives_value ?_ hR'
        subst hA
        simp only [dsOf, List.map_cons, List.map_nil, Option.getD_some, putAll, Act.put, List.setIfInBounds_toArray, List.set_cons_zero, List.set_cons_succ]
        go_simp
       ·intro s w_ hb hd hq R hR
        generalize hA : putAll _ 0 s _ = A
        clear hq
        have hR' := hR (.int .i64 (jv : Int)) _ (Below.refl _ _) rfl
        clear hR hd
        refine opGives_value ?_ hR'
        subst hA
        simp only [dsOf, List.map_cons, List.map_nil, Option.getD_some, putAll, Act.put, List.setIfInBounds_toArray, List.set_cons_zero, List.set_cons_succ]
        go_simp
       ·intro s w_ hb hd hq R hR
        generalize hA : putAll _ 0 s _ = A
        have e7 : s 7 = _ := hd 7 (by kernel_rfl)
        have e8 : s 8 = _ := hd 8 (by kernel_rfl)
        clear hq
        have hR' := hR (.pointer (some (ad2.add jv))) _ (Below.refl _ _) rfl
        clear hR hd
        refine opGives_value ?_ hR'
        subst hA
        simp only [dsOf, List.map_cons, List.map_nil, Option.getD_some, putAll, Act.put, List.setIfInBounds_toArray, List.set_cons_zero, List.set_cons_succ]
        go_simp
       ·intro s w_ hb hd hq R hR
        generalize hA : putAll _ 0 s _ = A
        have e9 : s 9 = _ := hd 9 (by kernel_rfl)
        clear hq
        have hcell2 := pw_cell_below hb hcell2
        have hR' := hR (.int .i64 g) _ (Below.refl _ _) rfl
        clear hR hd
        refine opGives_value ?_ hR'
        subst hA
        simp only [dsOf, List.map_cons, List.map_nil, Option.getD_some, putAll, Act.put, List.setIfInBounds_toArray, List.set_cons_zero, List.set_cons_succ]
        go_simp
       ·intro s w_ hb hd hq R hR
        generalize hA : putAll _ 0 s _ = A
        have e6 : s 6 = _ := hd 6 (by kernel_rfl)
        have e10 : s 10 = _ := hd 10 (by kernel_rfl)
        clear hq
        have hR' := hR (.agg #[.int .i64 (f : Int), .int .i64 g]) _ (Below.refl _ _) rfl
        clear hR hd
        refine opGives_value ?_ hR'
        subst hA
        simp only [dsOf, List.map_cons, List.map_nil, Option.getD_some, putAll, Act.put, List.setIfInBounds_toArray, List.set_cons_zero, List.set_cons_succ]
        go_simp
       ·intro s w_ hb hd hq R hR
        generalize hA : putAll _ 0 s _ = A
        have e0 : s 0 = _ := hd 0 (by kernel_rfl)
        have e1 : s 1 = _ := hd 1 (by kernel_rfl)
        have e11 : s 11 = _ := hd 11 (by kernel_rfl)
        clear hq
        refine opGives_call (f := 242) (args := #[.agg #[.int .i64 (n : Int), .slice (some ad) xs.length d1], .slice A7 L7 c7, .agg #[.int .i64 (f : Int), .int .i64 g]]) ?_ ?_
        ·subst hA
         clear hR hd
         simp only [dsOf, List.map_cons, List.map_nil, Option.getD_some, putAll, Act.put, List.setIfInBounds_toArray, List.set_cons_zero, List.set_cons_succ]
         go_simp
        clear hA A hd
        refine (specWith n _ xs _ acc (f : Int) g w_ (HKr.out.below hb) HC.out (OwnP.below HOA.out hb).read (OwnP.below HOA.out hb).readQ HAL.out).mono ?_
        rintro e w3_ ⟨u3, rfl, ho, hb3⟩
        refine ⟨_, rfl, hR _ _ hb3 ⟨u3, _, rfl, ?_⟩⟩
        rw [HACC2.out] at ho
        exact OwnP.lower ho (Nat.le_trans HZr.out hb.size)
       ·intro s w_ hb hd hq R hR
        generalize hA : putAll _ 0 s _ = A
        obtain ⟨uu, ok, e12, oo⟩ : ∃ (u : Value) (k : Bool), s 12 = .tuple #[u, .bool k] ∧ OwnP w1.heap.size w_ u acc2 := hd 12 (by kernel_rfl)
        clear hq
        have hR' := hR (.tuple #[uu, .bool ok]) _ (Below.refl _ _) (⟨uu, ok, rfl, oo⟩)
        clear hR hd
        refine opGives_value ?_ hR'
        subst hA
        simp only [dsOf, List.map_cons, List.map_nil, Option.getD_some, putAll, Act.put, List.setIfInBounds_toArray, List.set_cons_zero, List.set_cons_succ]
        go_simp
       ·intro s w_ hb hd hq R hR
        generalize hA : putAll _ 0 s _ = A
        obtain ⟨uu, ok, e13, oo⟩ : ∃ (u : Value) (k : Bool), s 13 = .tuple #[u, .bool k] ∧ OwnP w1.heap.size w_ u acc2 := hd 13 (by kernel_rfl)
        clear hq
        have hR' := hR (uu) _ (Below.refl _ _) (oo)
        clear hR hd
        refine opGives_value ?_ hR'
        subst hA
        simp only [dsOf, List.map_cons, List.map_nil, Option.getD_some, putAll, Act.put, List.setIfInBounds_toArray, List.set_cons_zero, List.set_cons_succ]
        go_simp
       ·intro s w_ hb hd hq R hR
        generalize hA : putAll _ 0 s _ = A
        obtain ⟨uu, ok, e13, oo⟩ : ∃ (u : Value) (k : Bool), s 13 = .tuple #[u, .bool k] ∧ OwnP w1.heap.size w_ u acc2 := hd 13 (by kernel_rfl)
        clear hq
        have hR' := hR (.bool ok) _ (Below.refl _ _) (⟨ok, rfl⟩)
        clear hR hd
        refine opGives_value ?_ hR'
        subst hA
        simp only [dsOf, List.map_cons, List.map_nil, Option.getD_some, putAll, Act.put, List.setIfInBounds_toArray, List.set_cons_zero, List.set_cons_succ]
        go_simp
       ·intro s w_ hb hd hq R hR
        generalize hA : putAll _ 0 s _ = A
        have o14 : OwnP w1.heap.size w_ (s 14) acc2 := hd 14 (by kernel_rfl)
        obtain ⟨u14, e14⟩ : ∃ u, s 14 = u := ⟨_, rfl⟩
        rw [e14] at o14
        clear hq
        have hR' := hR (u14) _ (Below.refl _ _) (o14)
        clear hR hd
        refine opGives_value ?_ hR'
        subst hA
        simp only [dsOf, List.map_cons, List.map_nil, Option.getD_some, putAll, Act.put, List.setIfInBounds_toArray, List.set_cons_zero, List.set_cons_succ]
        go_simp
      case brest =>
       intro sq wq hb hv
       have o16 : OwnP w1.heap.size wq (sq 16) acc2 := hv 16 (by decide)
       obtain ⟨u16, e16_⟩ : ∃ u, sq 16 = u := ⟨_, rfl⟩
       rw [e16_] at o16
       simp only [dsOf, List.map_cons, List.map_nil, Option.getD_some, putAll, Act.put, List.setIfInBounds_toArray, List.set_cons_zero, List.set_cons_succ]
       rw [e16_]
       clear hv e16_
       have HO9 := Aside0.mk o16
       have HB9 := Aside0.mk (HBx.out.trans (hb.mono HBx.out.size))
       clear hb o16
       go_wp2
       go_roundw
       case rel => exact ⟨jv + 1, by go_num, by omega, ⟨by rw [← HA2.out]; exact HO9.out⟩, HB9⟩
       case measure => simp [intOf]; omega
     ·have e : (aboveL xs (f : Int)).take jv = aboveL xs (f : Int) := List.take_of_length_le (by omega)
      rw [e, ← HAN.out] at HO
      clear e
      go_wp2
      go_roundw
      case rel => exact ⟨iv + 1, by go_num, by omega, HO, HBr⟩
      case measure => simp [intOf]; omega
  ·have e : iv = xs.length := by omega
   have HE := HO
   rw [e] at HE
   obtain ⟨A6, d6, rfl, -⟩ := id HE.out.readQ
   clear e
   go_wp2
   go_ret
   exact ⟨_, rfl, HE.out.lower HB.out.size, HB.out.trans (HBr.out.mono HB.out.size)⟩
def fillP (xs : List Int) (acc : List (Int × Int)) : List (Int × Int) := fillTo xs acc (allP xs) (allP xs).length
theorem allP_len {xs : List Int} (hl : xs.length ≤ 63) : (allP xs).length ≤ 3969 := by
 have := allTo_len hl xs.length
 unfold allP
 have : xs.length * 63 ≤ 63 * 63 := Nat.mul_le_mul_right _ hl
 omega
set_option maxRecDepth 100000 in
set_option maxHeartbeats 4000000 in
theorem specFill (n b : Nat) (ku : Value) (xs : List Int) (v : Value) (acc : List (Int × Int)) (w : World) (hk : ReadI w ku xs) (hc : Cx n xs) (hv : OwnP b w v acc) (hbw : b ≤ w.heap.size) (hl : acc.length ≤ 5000) :
  Calls Tryz.prog 244 #[cx n ku, v] w fun e w' => ∃ u, e = .returned u ∧ OwnP b w' u (fillP xs acc) ∧ Below w.heap.size w w' := by
 obtain ⟨w1, hw1⟩ : ∃ w1, w1 = w.alloc (.cells #[.int .i64 n, ku] 26) := ⟨_, rfl⟩
 have hB : Below w.heap.size w w1 := by rw [hw1]; exact Below.alloc (Below.refl _ _) (Nat.le_refl _) _
 have c0 : w1.cell? ⟨w.heap.size, 0, none⟩ = some (.int .i64 n) := by rw [hw1]; simp
 have c1 : w1.cell? ⟨w.heap.size, 1, none⟩ = some ku := by rw [hw1]; simp
 have HB := Aside0.mk hB
 have HC := Aside0.mk hc
 have hal := allP_len hc.len
 have hmx : Tryz.prog.follows .mixedOrders = true := by kernel_rfl
 have HK := Aside0.mk (hk.below hB)
 have HV := Aside0.mk (hv.below hB)
 have HBW := Aside0.mk (Nat.le_trans hbw hB.size)
 have HL := Aside0.mk hl
 obtain ⟨A1, d1, rfl, -⟩ := id hk
 obtain ⟨A2, d2, rfl, -⟩ := id hv.readQ
 clear hk hB hc hv hbw hl
 go_enter Tryz.func244, Tryz.ntmps244
 go_wp2_with (first | (go_at_call 238; rw [← hw1]; clear hw1; refine (specAll2 n _ xs w1 HK.out HC.out).mono ?_; rintro e w2 ⟨u, rfl, ho, hb⟩; obtain ⟨A5, d5, rfl, -⟩ := id ho.readQ; have HA := Aside0.mk ho.read; have HB2 := Aside0.mk hb; have HV2 := Aside0.mk (HV.out.below hb); replace c0 := pw_cell_below hb c0; replace c1 := pw_cell_below hb c1; clear ho hb))
 go_loopw [1, 6] (fun s1 s6 wr => ∃ jv : Nat, s6 = .int .i64 jv ∧ jv ≤ (allP xs).length ∧ Aside0 (OwnP b wr s1 (fillTo xs acc (allP xs) jv)) ∧ Aside0 (Below w2.heap.size w2 wr)) (fun _ s6 _ => (allP xs).length - (intOf s6).toNat)
 case atStart => exact ⟨0, rfl, Nat.zero_le _, ⟨HV2.out⟩, ⟨Below.refl _ _⟩⟩
 case round =>
  obtain ⟨jv, rfl, hj, HO, HBr⟩ := hrel
  replace c0 := pw_cell_below HBr.out c0
  replace c1 := pw_cell_below HBr.out c1
  have HBw := Aside0.mk (HB2.out.trans (HBr.out.mono HB2.out.size))
  have HZr : Aside0 (b ≤ wr.heap.size) := ⟨Nat.le_trans HBW.out HBw.out.size⟩
  have HKr := Aside0.mk (HK.out.below HBw.out)
  obtain ⟨A7, c7, rfl, -⟩ := id HO.out.readQ
  by_cases hlt : jv < (allP xs).length
  ·have hltI : (jv : Int) < ((allP xs).length : Int) := by omega
   obtain ⟨gb, x, y, rfl, hxy, hc0, hc1⟩ := ReadP.get (HA.out.below HBr.out) hlt
   have HST := Aside0.mk (fillTo_next (xs := xs) (l := acc) hxy)
   obtain ⟨cur, hcur⟩ : ∃ cur, cur = fillTo xs acc (allP xs) jv := ⟨_, rfl⟩
   have HAL : Aside0 (cur.length ≤ 100000) := ⟨by rw [hcur]; have := fillTo_len xs acc (allP xs) jv; have := HL.out; omega⟩
   rw [← hcur] at HO HST ⊢
   obtain ⟨L7, hL7⟩ : ∃ L, L = cur.length := ⟨_, rfl⟩
   rw [← hL7] at HO ⊢
   obtain ⟨cand, hcand⟩ : ∃ cand, cand = putP cur (insAt cur (x, y)) (x, y) := ⟨_, rfl⟩
   obtain ⟨okb, hok⟩ : ∃ okb, okb = pOk xs cand := ⟨_, rfl⟩
   have HCAND := Aside0.mk hcand
   have HOK := Aside0.mk hok
   clear hcur hL7 hcand hok hxy
   go_wp2
   refine wp_region_g Bl (fun w => (Below.refl _ w).drew) (fun _ _ _ => Bl.trans) (fun i => match i with | 0 => fun v _ => v = .agg #[.int .i64 (n : Int), .slice A1 xs.length d1] | 1 => fun v _ => v = .slice A7 L7 c7 | 2 => fun v _ => v = .slice (some ⟨gb, 0, none⟩) (allP xs).length d5 | 3 => fun v _ => v = .int .i64 (jv : Int) | 4 => fun v _ => v = .pointer (some ⟨gb, jv * 2, none⟩) | 5 => fun v _ => v = .agg #[.int .i64 x, .int .i64 y] | 6 => fun v W => ∃ u : Value, v = .tuple #[u, .bool okb] ∧ OwnP b W u cand | 7 => fun v W => ∃ u : Value, v = .tuple #[u, .bool okb] ∧ OwnP b W u cand | 8 => fun v W => OwnP b W v cand | 9 => fun v _ => v = .bool okb | 10 => fun v W => OwnP b W v cand | 11 => fun v _ => v = .bool okb | _ => fun _ _ => True)
    [0, 0, 0, 0, 12, 28, 63, 127, 255, 255, 511, 2047] hmx (by kernel_rfl) ?ast ?asteps ?arest
   case ast =>
    intro i v w1_ w2_ hb
    match i with
    | 0 | 1 | 2 | 3 | 4 | 5 | 9 | 11 => exact id
    | 6 => exact fun h => by obtain ⟨u, e, ho⟩ := h; exact ⟨u, e, OwnP.below ho hb⟩
    | 7 => exact fun h => by obtain ⟨u, e, ho⟩ := h; exact ⟨u, e, OwnP.below ho hb⟩
    | 8 => exact fun h => OwnP.below h hb
    | 10 => exact fun h => OwnP.below h hb
    | n + 12 => exact id
   case asteps =>
    refine ⟨?_, ?_, ?_, ?_, ?_, ?_, ?_, ?_, ?_, ?_, ?_, ?_, trivial⟩
    ·intro s w_ hb hd hq R hR
     generalize hA : putAll _ 0 s _ = A
     clear hq
     have c0 := pw_cell_below hb c0
     have c1 := pw_cell_below hb c1
     have hR' := hR (.agg #[.int .i64 (n : Int), .slice A1 xs.length d1]) _ (Below.refl _ _) rfl
     clear hR hd
     refine opGives_value ?_ hR'
     subst hA
     simp only [dsOf, List.map_cons, List.map_nil, Option.getD_some, putAll, Act.put, List.setIfInBounds_toArray, List.set_cons_zero, List.set_cons_succ]
     go_simp
    ·intro s w_ hb hd hq R hR
     generalize hA : putAll _ 0 s _ = A
     clear hq
     have hR' := hR (.slice A7 L7 c7) _ (Below.refl _ _) rfl
     clear hR hd
     refine opGives_value ?_ hR'
     subst hA
     simp only [dsOf, List.map_cons, List.map_nil, Option.getD_some, putAll, Act.put, List.setIfInBounds_toArray, List.set_cons_zero, List.set_cons_succ]
     go_simp
    ·intro s w_ hb hd hq R hR
     generalize hA : putAll _ 0 s _ = A
     clear hq
     have hR' := hR (.slice (some ⟨gb, 0, none⟩) (allP xs).length d5) _ (Below.refl _ _) rfl
     clear hR hd
     refine opGives_value ?_ hR'
     subst hA
     simp only [dsOf, List.map_cons, List.map_nil, Option.getD_some, putAll, Act.put, List.setIfInBounds_toArray, List.set_cons_zero, List.set_cons_succ]
     go_simp
    ·intro s w_ hb hd hq R hR
     generalize hA : putAll _ 0 s _ = A
     clear hq
     have hR' := hR (.int .i64 (jv : Int)) _ (Below.refl _ _) rfl
     clear hR hd
     refine opGives_value ?_ hR'
     subst hA
     simp only [dsOf, List.map_cons, List.map_nil, Option.getD_some, putAll, Act.put, List.setIfInBounds_toArray, List.set_cons_zero, List.set_cons_succ]
     go_simp
    ·intro s w_ hb hd hq R hR
     generalize hA : putAll _ 0 s _ = A
     have e2 : s 2 = _ := hd 2 (by kernel_rfl)
     have e3 : s 3 = _ := hd 3 (by kernel_rfl)
     clear hq
     have hR' := hR (.pointer (some ⟨gb, jv * 2, none⟩)) _ (Below.refl _ _) rfl
     clear hR hd
     refine opGives_value ?_ hR'
     subst hA
     simp only [dsOf, List.map_cons, List.map_nil, Option.getD_some, putAll, Act.put, List.setIfInBounds_toArray, List.set_cons_zero, List.set_cons_succ]
     go_simp
    ·intro s w_ hb hd hq R hR
     generalize hA : putAll _ 0 s _ = A
     have e4 : s 4 = _ := hd 4 (by kernel_rfl)
     clear hq
     have hc0 := pw_cell_below hb hc0
     have hc1 := pw_cell_below hb hc1
     have hR' := hR (.agg #[.int .i64 x, .int .i64 y]) _ (Below.refl _ _) rfl
     clear hR hd
     refine opGives_value ?_ hR'
     subst hA
     simp only [dsOf, List.map_cons, List.map_nil, Option.getD_some, putAll, Act.put, List.setIfInBounds_toArray, List.set_cons_zero, List.set_cons_succ]
     go_simp
    ·intro s w_ hb hd hq R hR
     generalize hA : putAll _ 0 s _ = A
     have e0 : s 0 = _ := hd 0 (by kernel_rfl)
     have e1 : s 1 = _ := hd 1 (by kernel_rfl)
     have e5 : s 5 = _ := hd 5 (by kernel_rfl)
     clear hq
     refine opGives_call (f := 242) (args := #[.agg #[.int .i64 (n : Int), .slice A1 xs.length d1], .slice A7 L7 c7, .agg #[.int .i64 x, .int .i64 y]]) ?_ ?_
     ·subst hA
      clear hR hd
      simp only [dsOf, List.map_cons, List.map_nil, Option.getD_some, putAll, Act.put, List.setIfInBounds_toArray, List.set_cons_zero, List.set_cons_succ]
      go_simp
     clear hA A hd
     refine (specWith n _ xs _ cur x y w_ (HKr.out.below hb) HC.out (OwnP.below HO.out hb).read (OwnP.below HO.out hb).readQ HAL.out).mono ?_
     rintro e w3_ ⟨u3, rfl, ho, hb3⟩
     rw [← HCAND.out] at ho
     refine ⟨_, rfl, hR _ _ hb3 ⟨u3, by rw [← HCAND.out, ← HOK.out], ?_⟩⟩
     exact OwnP.lower ho (Nat.le_trans HZr.out hb.size)
    ·intro s w_ hb hd hq R hR
     generalize hA : putAll _ 0 s _ = A
     obtain ⟨uu, e6, oo⟩ : ∃ u : Value, s 6 = .tuple #[u, .bool okb] ∧ OwnP b w_ u cand := hd 6 (by kernel_rfl)
     clear hq
     have hR' := hR (.tuple #[uu, .bool okb]) _ (Below.refl _ _) (⟨uu, rfl, oo⟩)
     clear hR hd
     refine opGives_value ?_ hR'
     subst hA
     simp only [dsOf, List.map_cons, List.map_nil, Option.getD_some, putAll, Act.put, List.setIfInBounds_toArray, List.set_cons_zero, List.set_cons_succ]
     go_simp
    ·intro s w_ hb hd hq R hR
     generalize hA : putAll _ 0 s _ = A
     obtain ⟨uu, e7, oo⟩ : ∃ u : Value, s 7 = .tuple #[u, .bool okb] ∧ OwnP b w_ u cand := hd 7 (by kernel_rfl)
     clear hq
     have hR' := hR (uu) _ (Below.refl _ _) (oo)
     clear hR hd
     refine opGives_value ?_ hR'
     subst hA
     simp only [dsOf, List.map_cons, List.map_nil, Option.getD_some, putAll, Act.put, List.setIfInBounds_toArray, List.set_cons_zero, List.set_cons_succ]
     go_simp
    ·intro s w_ hb hd hq R hR
     generalize hA : putAll _ 0 s _ = A
     obtain ⟨uu, e7, oo⟩ : ∃ u : Value, s 7 = .tuple #[u, .bool okb] ∧ OwnP b w_ u cand := hd 7 (by kernel_rfl)
     clear hq
     have hR' := hR (.bool okb) _ (Below.refl _ _) rfl
     clear hR hd
     refine opGives_value ?_ hR'
     subst hA
     simp only [dsOf, List.map_cons, List.map_nil, Option.getD_some, putAll, Act.put, List.setIfInBounds_toArray, List.set_cons_zero, List.set_cons_succ]
     go_simp
    ·intro s w_ hb hd hq R hR
     generalize hA : putAll _ 0 s _ = A
     have o8 : OwnP b w_ (s 8) cand := hd 8 (by kernel_rfl)
     obtain ⟨u8, e8⟩ : ∃ u, s 8 = u := ⟨_, rfl⟩
     rw [e8] at o8
     clear hq
     have hR' := hR (u8) _ (Below.refl _ _) (o8)
     clear hR hd
     refine opGives_value ?_ hR'
     subst hA
     simp only [dsOf, List.map_cons, List.map_nil, Option.getD_some, putAll, Act.put, List.setIfInBounds_toArray, List.set_cons_zero, List.set_cons_succ]
     go_simp
    ·intro s w_ hb hd hq R hR
     generalize hA : putAll _ 0 s _ = A
     have e9 : s 9 = _ := hd 9 (by kernel_rfl)
     clear hq
     have hR' := hR (.bool okb) _ (Below.refl _ _) rfl
     clear hR hd
     refine opGives_value ?_ hR'
     subst hA
     simp only [dsOf, List.map_cons, List.map_nil, Option.getD_some, putAll, Act.put, List.setIfInBounds_toArray, List.set_cons_zero, List.set_cons_succ]
     go_simp
   case arest =>
    intro s9 w9 hb hv
    have o10 : OwnP b w9 (s9 10) cand := hv 10 (by decide)
    obtain ⟨u10, e10_⟩ : ∃ u, s9 10 = u := ⟨_, rfl⟩
    rw [e10_] at o10
    have e11_ : s9 11 = _ := hv 11 (by decide)
    simp only [dsOf, List.map_cons, List.map_nil, Option.getD_some, putAll, Act.put, List.setIfInBounds_toArray, List.set_cons_zero, List.set_cons_succ]
    rw [e10_, e11_]
    clear hv e10_ e11_
    have HO9 := Aside0.mk o10
    have HO7 := Aside0.mk (OwnP.below HO.out hb)
    have HB9 := Aside0.mk (HBr.out.trans (hb.mono HBr.out.size))
    obtain ⟨A9, c9, rfl, -⟩ := id HO9.out.readQ
    obtain ⟨L9, hL9⟩ : ∃ L, L = cand.length := ⟨_, rfl⟩
    rw [← hL9] at HO9 ⊢
    have HL9 := Aside0.mk hL9
    clear hb o10 hL9
    simp only [Nat.reduceAdd]
    cases okb with
    | false =>
     have HN : Aside0 (fillTo xs acc (allP xs) (jv + 1) = cur) := ⟨by rw [HST.out]; unfold fillStep; rw [← HCAND.out, ← HOK.out]; rfl⟩
     go_wp2
     go_roundw
     case rel => exact ⟨jv + 1, by go_num, by omega, ⟨by rw [HN.out]; exact HO7.out⟩, HB9⟩
     case measure => simp [intOf]; omega
    | true =>
     have HD : Aside0 (PsDom cand) := ⟨pOk_dom HC.out HOK.out.symm⟩
     obtain ⟨r, hr⟩ : ∃ r, r = acyB cand := ⟨_, rfl⟩
     have HR := Aside0.mk hr
     clear hr
     cases r with
     | false =>
      have HN : Aside0 (fillTo xs acc (allP xs) (jv + 1) = cur) := ⟨by rw [HST.out]; unfold fillStep; rw [← HCAND.out, ← HOK.out, ← HR.out]; rfl⟩
      go_wp2_with (first | (go_at_call 181; refine (specAcyclic _ cand _ HO9.out.read HD.out).mono ?_; rintro e w4 ⟨rfl, hb⟩; rw [← HR.out]; have HOn := Aside0.mk (HO7.out.below hb); have HBn := Aside0.mk (HB9.out.trans (hb.mono HB9.out.size)); clear hb))
      go_roundw
      case rel => exact ⟨jv + 1, by go_num, by omega, ⟨by rw [HN.out]; exact HOn.out⟩, HBn⟩
      case measure => simp [intOf]; omega
     | true =>
      have HN : Aside0 (fillTo xs acc (allP xs) (jv + 1) = cand) := ⟨by rw [HST.out]; unfold fillStep; rw [← HCAND.out, ← HOK.out, ← HR.out]; rfl⟩
      go_wp2_with (first | (go_at_call 181; refine (specAcyclic _ cand _ HO9.out.read HD.out).mono ?_; rintro e w4 ⟨rfl, hb⟩; rw [← HR.out]; have HOn := Aside0.mk (HO9.out.below hb); have HBn := Aside0.mk (HB9.out.trans (hb.mono HB9.out.size)); clear hb))
      go_roundw
      case rel => exact ⟨jv + 1, by go_num, by omega, ⟨by rw [HN.out]; exact HOn.out⟩, HBn⟩
      case measure => simp [intOf]; omega
  ·have e : jv = (allP xs).length := by omega
   rw [e] at HO ⊢
   clear e
   obtain ⟨L7, hL7⟩ : ∃ L, L = (fillTo xs acc (allP xs) (allP xs).length).length := ⟨_, rfl⟩
   rw [← hL7] at HO ⊢
   clear hL7
   go_wp2
   go_ret
   exact ⟨_, rfl, HO.out, HB.out.trans (HBw.out.mono HB.out.size)⟩
theorem cxOk_nat {a : Int} {xs : List Int} (h : cxOk a xs = true) : ∃ n : Nat, a = n ∧ Cx n xs := by
 obtain ⟨n, h1, h2, -⟩ := cxOk_cx h
 exact ⟨n, h1, h2⟩
end Go.Proofs.YtomofijniefelaaGreat.H
