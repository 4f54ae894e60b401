/- EulerOfLevels of the reference (printed by geneul.py). Marks over complexes. What the arguments of the laws read as. The law of EulerOfLevels (printed by lawgen.py). -/
import Derived.WalkKit
import Derived.ProofKit
import Derived.OpenShut
import Derived.ShutString
import Derived.ChangeOld
import Derived.Lib.SmallJoins
import Derived.Test.YtomofijniefelaaKFnExactEulerOfLevels1
import Derived.Test.YtomofijniefelaaKFnExactEulerOfLevels2
import Derived.Test.YtomofijniefelaaKFnExactEulerOfLevels3
import Derived.Test.YtomofijniefelaaKFnExactEulerOfLevels4
import Derived.Test.YtomofijniefelaaKFnExactEulerOfLevels5
import Derived.Test.YtomofijniefelaaKFnExactEulerOfLevels6
import Derived.Test.YtomofijniefelaaKFnExactEulerOfLevels7

namespace Go.Proofs.Ytomofijniefelaa.H
open Go.RowKit Go.Proofs.YtomofijniefelaaW.PrintWords Go.Proofs.YtomofijniefelaaW.PrintLast
set_option linter.unusedVariables false
set_option linter.unusedSimpArgs false
set_option maxRecDepth 100000 in
set_option maxHeartbeats 4000000 in
theorem specEulerOfLevels (a : Int) (ku : Value) (xs : List Int) (v : Value) (f : List Int) (w : World) (hk : ReadI w ku xs) (hv : ReadI w v f) :
  Calls Try.prog 6 #[cx a ku, v] w fun e w' => ∃ u, e = .returned (.tuple #[u, .int .i64 (ansEulerOfLevels a xs f).2]) ∧ OwnI w.heap.size w' u (ansEulerOfLevels a xs f).1 ∧ Below w.heap.size w w' := by
 obtain ⟨wa, hwa⟩ : ∃ wa, wa = w.alloc (.cells #[.int .i64 a, ku] 28) := ⟨_, rfl⟩
 obtain ⟨w1, hw1⟩ : ∃ w1, w1 = wa.alloc (.cells #[v] 22) := ⟨_, rfl⟩
 have hsa : wa.heap.size = w.heap.size + 1 := by rw [hwa]; simp
 have hBa : Below w.heap.size w wa := by rw [hwa]; exact Below.alloc (Below.refl _ _) (Nat.le_refl _) _
 have hB1 : Below wa.heap.size wa w1 := by rw [hw1]; exact Below.alloc (Below.refl _ _) (Nat.le_refl _) _
 have hB : Below w.heap.size w w1 := hBa.trans (hB1.mono hBa.size)
 have c0a : wa.cell? ⟨w.heap.size, 0, none⟩ = some (.int .i64 a) := by rw [hwa]; simp
 have c1a : wa.cell? ⟨w.heap.size, 1, none⟩ = some ku := by rw [hwa]; simp
 have c0 : w1.cell? ⟨w.heap.size, 0, none⟩ = some (.int .i64 a) := pw_cell_below hB1 c0a
 have c1 : w1.cell? ⟨w.heap.size, 1, none⟩ = some ku := pw_cell_below hB1 c1a
 have HB := Aside0.mk hB
 have HK := Aside0.mk (hk.below hB)
 have HV := Aside0.mk (hv.below hB)
 have HS := Aside0.mk (ReadS.one' (hv.below hBa))
 rw [← hw1, hsa] at HS
 have hlf := hv.len
 have hmx : Try.prog.follows .mixedOrders = true := by kernel_rfl
 obtain ⟨A1, d1, rfl, -⟩ := id hk
 obtain ⟨A2, d2, rfl, -⟩ := id hv
 clear hk hv hB hBa hB1 hsa
 subst hwa
 obtain ⟨q, hq⟩ : ∃ q, q = codeFun a xs true [f] := ⟨_, rfl⟩
 have HQ := Aside0.mk hq
 by_cases h0 : q = 0
 ·have h0' := hq.symm.trans h0
  obtain ⟨n, rfl, hcn, hbl, hfl, -⟩ := codeFun_zero h0'
  have HN := Aside0.mk hcn
  have HL := Aside0.mk hfl
  have hxl := hcn.len
  have hf63 : f.length ≤ 63 := by omega
  have HA := Aside0.mk (ansEul_hit h0')
  subst h0
  have k0 := c0
  have k1 := c1
  clear hcn hbl hfl h0' hq
  go_enter Try.func6, Try.ntmps6
  go_wp2_with (first | (go_at_call 18; rw [← hw1]; clear hw1 c0a c1a; refine (specFunCode n _ xs _ f _ HK.out HS.out).mono ?_; rintro e w2 ⟨rfl, hb⟩; rw [← HQ.out]; replace c0 := pw_cell_below hb c0; replace c1 := pw_cell_below hb c1; have HB2 := Aside0.mk hb; clear hb))
  obtain ⟨w3, hw3⟩ : ∃ w3, w3 = (w2.alloc (.cells #[] 2)).alloc (.cells #[] 2) := ⟨_, rfl⟩
  have hb3 : Below w2.heap.size w2 w3 := by rw [hw3]; exact ((Below.refl _ _).alloc (Nat.le_refl _) _).alloc (by simp) _
  have hz3 : w3.heap.size = w2.heap.size + 1 + 1 := by rw [hw3]; simp
  have HO3 := Aside0.mk (show OwnI w2.heap.size w3 (.slice (some ⟨w2.heap.size, 0, none⟩) 0 0) [] by rw [hw3]; exact (OwnI.empty w2 (Nat.le_refl _)).below (Below.alloc (Below.refl _ _) (Nat.le_refl _) _))
  have HE3 := Aside0.mk (show OwnI (w2.heap.size + 1) w3 (.slice (some ⟨w2.heap.size + 1, 0, none⟩) 0 0) [] by
   have h := OwnI.empty (b := w2.heap.size + 1) (w2.alloc (.cells #[] 2)) (by simp)
   rw [World.size_alloc, ← hw3] at h
   exact h)
  replace c0 := pw_cell_below hb3 c0
  replace c1 := pw_cell_below hb3 c1
  have HB3 := Aside0.mk (HB2.out.trans (hb3.mono HB2.out.size))
  rw [← hw3]
  clear hw3 hb3
  have c0q := Aside0.mk (show w1.cell? ⟨w.heap.size, 0, none⟩ = some (.int .i64 n) from k0)
  have c1q := Aside0.mk (show w1.cell? ⟨w.heap.size, 1, none⟩ = some (.slice A1 xs.length d1) from k1)
  clear k0 k1
  go_loopw [7, 9] (fun s7 s9 wr => ∃ i : Nat, s9 = .int .i64 i ∧ i ≤ f.length ∧ Aside0 (OwnI w2.heap.size wr s7 (uniqF (f.take i)) ∧ ∀ k, s7.ownBlock = some k → k ≠ w2.heap.size + 1) ∧ Aside0 (OwnI (w2.heap.size + 1) wr (.slice (some ⟨w2.heap.size + 1, 0, none⟩) 0 0) []) ∧ Aside0 (Below w1.heap.size w1 wr) ∧ Aside0 (w3.heap.size ≤ wr.heap.size)) (fun _ s9 _ => f.length - (intOf s9).toNat)
  case atStart => exact ⟨0, rfl, Nat.zero_le _, ⟨HO3.out, fun k e => by have e2 : w2.heap.size = k := Option.some.inj e; omega⟩, HE3, HB3, ⟨Nat.le_refl _⟩⟩
  case round =>
   obtain ⟨i, rfl, hi, HO7, HO8, HBr, HZr⟩ := hrel
   replace c0 := pw_cell_below HBr.out c0q.out
   replace c1 := pw_cell_below HBr.out c1q.out
   have hul := (uniq_ok (f.take i)).2.2
   rw [List.length_take, Nat.min_eq_left hi] at hul
   obtain ⟨A7, d7, rfl, -⟩ := id HO7.out.1.read
   by_cases hlt : i < f.length
   ·have hltI : (i : Int) < (f.length : Int) := by omega
    obtain ⟨ad, y, rfl, hcell, HY⟩ := ReadI.get (by obtain ⟨_, _, e, _, h⟩ := HV.out.below HBr.out; cases e; exact h) hlt
    have HUN : Aside0 (uniqF (f.take (i + 1)) = putU (uniqF (f.take i)) y) := ⟨by rw [take_get hlt HY.out, uniq_snoc]⟩
    have HUL := Aside0.mk hul
    clear hul
    have HF63 := Aside0.mk hf63
    go_wp2_with (first | (go_at_call 19; refine (specPutU w2.heap.size _ (uniqF (f.take i)) y _ HO7.out.1 (by have := HZr.out; omega) (by have := HUL.out; have := HF63.out; omega)).mono ?_; rintro e w4 ⟨u, rfl, ho, hat, hb⟩; have HO7n : Aside0 (OwnI w2.heap.size w4 u (uniqF (f.take (i + 1))) ∧ ∀ k, u.ownBlock = some k → k ≠ w2.heap.size + 1) := ⟨by rw [HUN.out]; refine ⟨ho, fun k hk => ?_⟩; rcases hat with rfl | h; (exact HO7.out.2 k hk); (have := h.base k hk; have := HZr.out; omega)⟩; have HO8n := Aside0.mk (HO8.out.below hb); have HBn := Aside0.mk (HBr.out.trans (hb.mono HBr.out.size)); have HZn := Aside0.mk (Nat.le_trans HZr.out hb.size); clear ho hat hb))
    go_roundw
    case rel => exact ⟨i + 1, by go_num, by omega, HO7n, HO8n, HBn, HZn⟩
    case measure => simp [intOf]; omega
   ·have e : f.take i = f := List.take_of_length_le (by omega)
    rw [e] at HO7 hul ⊢
    obtain ⟨U, hU⟩ : ∃ U, U = uniqF f := ⟨_, rfl⟩
    rw [← hU] at HO7 HA hul ⊢
    have hUf : U.length ≤ 63 := by omega
    clear e hU hul
    go_wp2
    obtain ⟨wo, hwo⟩ : ∃ wo, wo = wr := ⟨_, rfl⟩
    rw [← hwo] at HO7 HO8 HBr HZr c0 c1
    have hzo := HZr.out
    have hlt7 := HO7.out.1.lt
    have hne7 := HO7.out.2
    have HNE : Aside0 (∀ k, (Value.slice A7 U.length d7).ownBlock = some k → k ≠ w2.heap.size + 1 ∧ k < wo.heap.size) := ⟨fun k hk => ⟨hne7 k hk, hlt7 k hk⟩⟩
    clear hlt7 hne7
    rw [← hwo]
    go_loopw [8, 10] (fun s8 s10 wx => ∃ i : Nat, s10 = .int .i64 i ∧ i ≤ U.length ∧ Aside0 (OwnI (w2.heap.size + 1) wx s8 ((U.take i).map (eulAt xs f))) ∧ Aside0 (∀ k, s8.ownBlock = some k → k = w2.heap.size + 1 ∨ wo.heap.size ≤ k) ∧ Aside0 (OwnI w2.heap.size wx (.slice A7 U.length d7) U) ∧ Aside0 (Below w1.heap.size w1 wx) ∧ Aside0 (wo.heap.size ≤ wx.heap.size)) (fun _ s10 _ => U.length - (intOf s10).toNat)
    case atStart => exact ⟨0, rfl, Nat.zero_le _, HO8, ⟨fun k e => .inl (by have e2 : w2.heap.size + 1 = k := Option.some.inj e; omega)⟩, ⟨HO7.out.1⟩, HBr, ⟨Nat.le_refl _⟩⟩
    case round =>
     clear hwo
     obtain ⟨jv, rfl, hi, HOr, HNo, HUr, HBr, HZx⟩ := hrel
     have hml : ((U.take jv).map (eulAt xs f)).length = jv := by rw [List.length_map, List.length_take]; omega
     by_cases hlt : jv < U.length
     ·have hltI : (jv : Int) < (U.length : Int) := by omega
      obtain ⟨ad, y, rfl, hcell, HY⟩ := ReadI.get (by obtain ⟨_, _, e, _, h⟩ := HUr.out.read; cases e; exact h) hlt
      have HMN := Aside0.mk (map_take_get (g := eulAt xs f) hlt HY.out)
      have HCL := Aside0.mk (HN.out.filter (madeAt (levTo xs f y xs.length)))
      have c0 := pw_cell_below HBr.out c0q.out
      have c1 := pw_cell_below HBr.out c1q.out
      have HKr := Aside0.mk (HK.out.below HBr.out)
      have HVr := Aside0.mk (HV.out.below HBr.out)
      obtain ⟨A8, d8, rfl, -⟩ := id HOr.out.read
      rw [hml] at HOr HNo ⊢
      have HE : Aside0 (eulV (xs.filter (madeAt (levTo xs f y xs.length))) = eulAt xs f y) := ⟨rfl⟩
      obtain ⟨E, hE⟩ : ∃ E, E = eulAt xs f y := ⟨_, rfl⟩
      rw [← hE] at HMN HE
      clear hE hml
      go_wp2
      refine wp_region_tail 10 (fun i => match i with | 0 => fun v _ => v = .slice A8 jv d8 | 1 => fun v _ => v = .agg #[.int .i64 n, .slice A1 xs.length d1] | 2 => fun v _ => v = .slice A2 f.length d2 | 3 => fun v _ => v = .slice (some ad) U.length d7 | 4 => fun v _ => v = .int .i64 (jv : Int) | 5 => fun v _ => v = .pointer (some (ad.add jv)) | 6 => fun v _ => v = .int .i64 y | 7 => fun v W => ∃ u, v = .agg #[.int .i64 n, u] ∧ ReadI W u (xs.filter (madeAt (levTo xs f y xs.length))) | 8 => fun v _ => v = .int .i64 E | 9 => fun v W => ∃ k, v = .slice (some ⟨k, 0, none⟩) 1 1 ∧ W.cell? ⟨k, 0, none⟩ = some (.int .i64 E) | _ => fun _ _ => True)
       [0, 0, 0, 0, 0, 24, 56, 126, 254, 510, 1023, 2047] hmx (by kernel_rfl) ?st ?steps ?rest
      case st =>
       intro i v w1_ w2_ hb
       match i with
       | 0 | 1 | 2 | 3 | 4 | 5 | 6 | 8 => exact id
       | 7 => exact fun h => by obtain ⟨u, e, h⟩ := h; exact ⟨u, e, h.below hb⟩
       | 9 => exact fun h => by obtain ⟨k, e, h⟩ := h; exact ⟨k, e, pw_cell_below hb h⟩
       | n + 10 => exact id
      case steps =>
       refine ⟨?_, ?_, ?_, ?_, ?_, ?_, ?_, ?_, ?_, ?_, trivial⟩
       ·intro s w_ hb hd R hR
        generalize hA : putAll _ 0 s _ = A
        have hR' := hR (.slice A8 jv d8) _ (Below.refl _ _) rfl
        clear hR hd
        refine opGives_value ?_ hR'
        subst hA
        simp only [dsOf, List.take, List.map_cons, List.map_nil, Option.getD_some, putAll, Act.put, List.setIfInBounds_toArray, List.set_cons_zero, List.set_cons_succ]
        go_simp
       ·intro s w_ hb hd R hR
        generalize hA : putAll _ 0 s _ = A
        have c0 := pw_cell_below hb c0
        have c1 := pw_cell_below hb c1
        have hR' := hR (.agg #[.int .i64 n, .slice A1 xs.length d1]) _ (Below.refl _ _) rfl
        clear hR hd
        refine opGives_value ?_ hR'
        subst hA
        simp only [dsOf, List.take, List.map_cons, List.map_nil, Option.getD_some, putAll, Act.put, List.setIfInBounds_toArray, List.set_cons_zero, List.set_cons_succ]
        go_simp
       ·intro s w_ hb hd R hR
        generalize hA : putAll _ 0 s _ = A
        have hR' := hR (.slice A2 f.length d2) _ (Below.refl _ _) rfl
        clear hR hd
        refine opGives_value ?_ hR'
        subst hA
        simp only [dsOf, List.take, List.map_cons, List.map_nil, Option.getD_some, putAll, Act.put, List.setIfInBounds_toArray, List.set_cons_zero, List.set_cons_succ]
        go_simp
       ·intro s w_ hb hd R hR
        generalize hA : putAll _ 0 s _ = A
        have hR' := hR (.slice (some ad) U.length d7) _ (Below.refl _ _) rfl
        clear hR hd
        refine opGives_value ?_ hR'
        subst hA
        simp only [dsOf, List.take, List.map_cons, List.map_nil, Option.getD_some, putAll, Act.put, List.setIfInBounds_toArray, List.set_cons_zero, List.set_cons_succ]
        go_simp
       ·intro s w_ hb hd R hR
        generalize hA : putAll _ 0 s _ = A
        have hR' := hR (.int .i64 (jv : Int)) _ (Below.refl _ _) rfl
        clear hR hd
        refine opGives_value ?_ hR'
        subst hA
        simp only [dsOf, List.take, List.map_cons, List.map_nil, Option.getD_some, putAll, Act.put, List.setIfInBounds_toArray, List.set_cons_zero, List.set_cons_succ]
        go_simp
       ·intro s w_ hb hd R hR
        generalize hA : putAll _ 0 s _ = A
        have e3 : s 3 = _ := hd 3 (by kernel_rfl)
        have e4 : s 4 = _ := hd 4 (by kernel_rfl)
        have hR' := hR (.pointer (some (ad.add jv))) _ (Below.refl _ _) rfl
        clear hR hd
        refine opGives_value ?_ hR'
        subst hA
        simp only [dsOf, List.take, List.map_cons, List.map_nil, Option.getD_some, putAll, Act.put, List.setIfInBounds_toArray, List.set_cons_zero, List.set_cons_succ]
        go_simp
       ·intro s w_ hb hd R hR
        generalize hA : putAll _ 0 s _ = A
        have e5 : s 5 = _ := hd 5 (by kernel_rfl)
        have hcell := pw_cell_below hb hcell
        have hR' := hR (.int .i64 y) _ (Below.refl _ _) rfl
        clear hR hd
        refine opGives_value ?_ hR'
        subst hA
        simp only [dsOf, List.take, List.map_cons, List.map_nil, Option.getD_some, putAll, Act.put, List.setIfInBounds_toArray, List.set_cons_zero, List.set_cons_succ]
        go_simp
       ·intro s w_ hb hd R hR
        generalize hA : putAll _ 0 s _ = A
        have e1 : s 1 = _ := hd 1 (by kernel_rfl)
        have e2 : s 2 = _ := hd 2 (by kernel_rfl)
        have e6 : s 6 = _ := hd 6 (by kernel_rfl)
        refine opGives_call (f := 21) (args := #[.agg #[.int .i64 n, .slice A1 xs.length d1], .slice A2 f.length d2, .int .i64 y]) ?_ ?_
        ·subst hA
         clear hR hd
         simp only [dsOf, List.take, List.map_cons, List.map_nil, Option.getD_some, putAll, Act.put, List.setIfInBounds_toArray, List.set_cons_zero, List.set_cons_succ]
         go_simp
        clear hA A hd
        refine (specLevel n _ xs _ f y _ (ReadI.below HKr.out hb) (ReadI.below HVr.out hb) HN.out HL.out).mono ?_
        rintro e w3_ ⟨u, rfl, ho, hb3⟩
        exact ⟨_, rfl, hR _ _ hb3 ⟨u, rfl, ho.read⟩⟩
       ·intro s w_ hb hd R hR
        generalize hA : putAll _ 0 s _ = A
        obtain ⟨u7, e7, hr7⟩ := hd 7 (by kernel_rfl)
        refine opGives_call (f := 20) (args := #[.agg #[.int .i64 n, u7]]) ?_ ?_
        ·subst hA
         clear hR hd
         simp only [dsOf, List.take, List.map_cons, List.map_nil, Option.getD_some, putAll, Act.put, List.setIfInBounds_toArray, List.set_cons_zero, List.set_cons_succ]
         go_simp
        clear hA A hd
        refine (specEuler n _ _ _ hr7 HCL.out).mono ?_
        rintro e w3_ ⟨rfl, hb3⟩
        rw [HE.out]
        exact ⟨_, rfl, hR _ _ hb3 rfl⟩
       ·intro s w_ hb hd R hR
        generalize hA : putAll _ 0 s _ = A
        have e8 : s 8 = _ := hd 8 (by kernel_rfl)
        have hR' := hR (.slice (some ⟨w_.heap.size, 0, none⟩) 1 1) (w_.alloc (.cells #[.int .i64 E] 2)) (Below.alloc (Below.refl _ _) (Nat.le_refl _) _) ⟨w_.heap.size, rfl, by simp⟩
        clear hR hd
        refine opGives_value ?_ hR'
        subst hA
        simp only [dsOf, List.take, List.map_cons, List.map_nil, Option.getD_some, putAll, Act.put, List.setIfInBounds_toArray, List.set_cons_zero, List.set_cons_succ]
        go_simp
      case rest =>
       intro s9 w9 hb hv
       have e0_ : s9 0 = _ := hv 0 (by decide)
       obtain ⟨k9, e9_, hk9⟩ := hv 9 (by decide)
       clear hv
       simp only [dsOf, List.take, List.map_cons, List.map_nil, Option.getD_some, putAll, Act.put, List.setIfInBounds_toArray, List.set_cons_zero, List.set_cons_succ]
       have h9 := Below.size hb
       refine .inl (append_gives (w2.heap.size + 1) (.tmp 38) (.tmp 47) rfl _ ((U.take jv).map (eulAt xs f)) E k9 1 e0_ e9_ hk9 (HOr.out.below hb) (by have := HZx.out; have := HZr.out; omega) (by rw [List.length_map, List.length_take]; omega) ?_)
       intro v1 w10 ho10 hg10 hat10
       simp only [List.drop, Act.put, List.setIfInBounds_toArray, List.set_cons_zero, List.set_cons_succ]
       refine .inl (opGives_value (v := v1) (w' := w10) (by go_simp) ?_)
       simp only [List.drop, Act.put, List.setIfInBounds_toArray, List.set_cons_zero, List.set_cons_succ]
       unfold tailList
       have hno10 : ∀ k, (Value.slice A8 jv d8).ownBlock = some k → (Value.slice (some ad) U.length d7).ownBlock ≠ some k := fun k hk e => by
        have h1 := HNE.out k e
        rcases HNo.out k hk with h2 | h2
        ·exact h1.1 h2
        ·omega
       have hur10 : OwnI w2.heap.size w10 (.slice (some ad) U.length d7) U := (HUr.out.below hb).grown hg10 (fun k hk e => hno10 k e.symm hk)
       have hbb : Below w1.heap.size w1 w10 := (HBr.out.trans (hb.mono HBr.out.size)).grown hg10 (Nat.le_trans HBr.out.size h9) (fun j hj => by
        rcases HNo.out j hj with h2 | h2
        ·have := HB2.out.size; omega
        ·have := HZr.out; have := HB3.out.size; omega)
       have hz10 : wo.heap.size ≤ w10.heap.size := Nat.le_trans HZx.out (Nat.le_trans h9 hg10.size)
       have hno' : ∀ k, v1.ownBlock = some k → k = w2.heap.size + 1 ∨ wo.heap.size ≤ k := fun k hk => by
        rcases hat10 with e | e
        ·exact HNo.out k (by rw [← e]; exact hk)
        ·rw [e] at hk; have := Option.some.inj hk; have := HZx.out; omega
       have HO10 := Aside0.mk ho10
       have HB10 := Aside0.mk hbb
       have HU10 := Aside0.mk hur10
       have HZ10 := Aside0.mk hz10
       have HN10 := Aside0.mk hno'
       clear ho10 hg10 hat10 hb e0_ e9_ hk9 h9 hno10 hur10 hbb hz10 hno'
       go_wp2
       go_roundw
       case rel => exact ⟨jv + 1, by go_num, by omega, ⟨by rw [HMN.out]; exact HO10.out⟩, HN10, HU10, HB10, HZ10⟩
       case measure => simp [intOf]; omega
     ·have e2 : U.take jv = U := List.take_of_length_le (by omega)
      obtain ⟨A8, d8, rfl, -⟩ := id HOr.out.read
      rw [hml] at HOr ⊢
      rw [e2] at HOr
      clear hml e2
      go_wp2
      go_ret2
      have hsz : w.heap.size ≤ w2.heap.size + 1 := Nat.le_trans HB.out.size (Nat.le_trans HB2.out.size (Nat.le_succ _))
      exact ⟨_, by rw [HA.out]; rfl, by rw [HA.out]; exact HOr.out.lower hsz, HB.out.trans (HBr.out.mono HB.out.size)⟩
 ·have HA := Aside0.mk (ansEul_miss (a := a) (xs := xs) (f := f) (fun e => h0 (hq.trans e)))
  rw [← hq] at HA
  have h0n : (q != 0) = true := by simpa using h0
  clear hq h0
  go_enter Try.func6, Try.ntmps6
  go_wp2_with (first | (go_at_call 18; rw [← hw1]; clear hw1 c0a c1a; refine (specFunCode a _ xs _ f _ HK.out HS.out).mono ?_; rintro e w2 ⟨rfl, hb⟩; rw [← HQ.out]; have HB2 := Aside0.mk hb; clear hb))
  go_ret2
  exact ⟨_, by rw [HA.out]; rfl, by rw [HA.out]; exact OwnI.nil _ _, HB.out.trans (HB2.out.mono HB.out.size)⟩
end Go.Proofs.Ytomofijniefelaa.H

namespace Go.Proofs.Ytomofijniefelaa.H
open Go.ChangeShapes Go.WideShapes Go.ChangeAt
open Go.RowKit Go.Proofs.YtomofijniefelaaW.PrintWords Go.Proofs.YtomofijniefelaaW.PrintLast
set_option linter.unusedVariables false
set_option linter.unusedSimpArgs false
/-- an int64 -/
def W64 (a : Int) : Prop := (Lit.int .i64 a).wf = true
set_option maxRecDepth 100000 in
theorem read_list {H : Type} {enc : TypeId × Value → H} {W : World} {fuel : Nat} {v : Value} {y : DataW H × List MemPlace}
  (hf : DataW.trod enc Try.prog W 0 (fun _ => true) true fuel 22 [v] = some y) : ∃ l : List Int, ReadI W v l ∧ ∀ x ∈ l, W64 x := by
 rcases open_ints Try.underlying22 Try.underlying2 (by kernel_rfl) hf with ⟨hcs, _⟩ | ⟨x, l, c, zs, hcs, _, hl, hm, hz, _, hcell, hwz⟩
 ·simp at hcs
  subst hcs
  exact ⟨[], ReadI.nil _, fun x hx => by cases hx⟩
 ·simp at hcs
  subst hcs
  obtain ⟨l, rfl, hr, hm, hw, hc⟩ := ReadsInt.ofRowC (k := .i64) (w := W) (.inr ⟨_, rfl, hl, hm, by simpa using hz, hcell, hwz⟩)
  exact ⟨l, ⟨_, _, rfl, hc, Kd.C_of_reads (d := (0 : Int)) (h1 := fun _ => rfl) hr⟩, hw⟩
set_option maxRecDepth 100000 in
theorem open_list {H : Type} {enc : TypeId × Value → H} {W : World} {base : Nat} {v : Value} {d : DataW H} {p : List MemPlace}
  (hv : Value.okWide Try.prog W .any base 22 v) (h : DataW.Trod enc Try.prog W 0 (fun _ => true) true 22 v d p) : ∃ l : List Int, ReadI W v l ∧ ∀ x ∈ l, W64 x := by
 obtain ⟨a1, len1, cap1, rfl⟩ := okWide_slice Try.underlying22 hv
 obtain ⟨fuel, hf⟩ := h
 exact read_list hf
set_option maxRecDepth 100000 in
theorem open_complex {H : Type} {enc : TypeId × Value → H} {W : World} {base : Nat} {v : Value} {d : DataW H} {p : List MemPlace}
  (hv : Value.okWide Try.prog W .any base 24 v) (h : DataW.Trod enc Try.prog W 0 (fun _ => true) true 24 v d p) : ∃ (a : Int) (u : Value) (l : List Int), v = .agg #[.int .i64 a, u] ∧ W64 a ∧ ReadI W u l ∧ ∀ x ∈ l, W64 x := by
 obtain ⟨c0, c1, y0, y1, m, rfl, rfl, rfl, hy0, hy1⟩ := Joins.open_agg2 Try.underlying24 (by kernel_rfl) (by kernel_rfl) hv h
 obtain ⟨a, e0, rfl, wa⟩ := DataW.trod_int Try.underlying2 hy0
 simp at e0
 subst e0
 obtain ⟨l, hr, hw⟩ := read_list hy1
 exact ⟨a, c1, l, rfl, wa, hr, hw⟩
end Go.Proofs.Ytomofijniefelaa.H

namespace Go.Proofs.Ytomofijniefelaa.H
open Go.RowKit Go.Proofs.YtomofijniefelaaW.PrintWords Go.Proofs.YtomofijniefelaaW.PrintLast
set_option linter.unusedVariables false
set_option linter.unusedSimpArgs false
set_option maxRecDepth 1000000 in
set_option maxHeartbeats 8000000 in
theorem lawFnExactEulerOfLevels (w : World) (a0 : Int) (ga0 : W64 a0) (u0 : Value) (l0 : List Int) (h0 : ReadI w u0 l0) (g0 : ∀ x ∈ l0, W64 x) (v1 : Value) (l1 : List Int) (h1 : ReadI w v1 l1) (g1 : ∀ x ∈ l1, W64 x) :
  Calls Try.prog 3 #[.agg #[.int .i64 a0, u0], v1] w fun e w' => e = .returned (.bool true) ∧ Below w.heap.size w w' := by
 obtain ⟨w1, hw1⟩ : ∃ w1, w1 = (w.alloc (.cells #[.int .i64 a0, u0] 24)) := ⟨_, rfl⟩
 have hB : Below w.heap.size w w1 := by rw [hw1]; exact ((Below.refl _ w).alloc (by simp) _)
 have c0a : w1.cell? ⟨w.heap.size, 0, none⟩ = some (.int .i64 a0) := by rw [hw1]; simp
 have c0b : w1.cell? ⟨w.heap.size, 1, none⟩ = some u0 := by rw [hw1]; simp
 have hbs : w1.heap.size = w.heap.size + 1 := by rw [hw1]; simp
 have HBS := Aside0.mk hbs
 clear hbs
 have H0 := Aside0.mk (h0.below hB)
 have H1 := Aside0.mk (h1.below hB)
 obtain ⟨A0, d0, rfl, -⟩ := id h0
 obtain ⟨A1, d1, rfl, -⟩ := id h1
 have HB0 := Aside0.mk hB
 have HB := Aside0.mk (Below.refl w1.heap.size w1)
 have GA0 := Aside0.mk ga0
 have G0 := Aside0.mk g0
 have G1 := Aside0.mk g1
 clear hB h0 ga0 g0 h1 g1
 have st : Stg 0 := ⟨⟩
 by_cases q0 : l1.length ≤ 1048576
 ·have q0' : (l1.length : Int) ≤ 1048576 := by omega
  by_cases q1 : l0.length ≤ 1048576
  ·have hz0 : szAns (1048576) l0.length = 1048576 - l0.length := by unfold szAns; rw [if_neg (by omega)]
   have q1' : (l0.length : Int) ≤ 1048576 := by omega
   have hmx : Try.prog.follows .mixedOrders = true := by kernel_rfl
   obtain ⟨r0, hr0⟩ : ∃ r, r = (ansEulerOfLevels a0 l0 l1).1 := ⟨_, rfl⟩
   have HRr0 := Aside0.mk hr0
   clear hr0
   obtain ⟨r1, hr1⟩ : ∃ r, r = (ansEulerOfLevels a0 l0 l1).2 := ⟨_, rfl⟩
   have HRr1 := Aside0.mk hr1
   clear hr1
   have lenR : r0.length ≤ 1073741824 := by rw [HRr0.out]; exact lenEulerOfLevels a0 l0 l1
   go_enter Try.func3, Try.ntmps3
   go_wp2_with (first | (replace st := stg_next 0 1 st; rw [← hw1]; clear hw1; go_at_call 5; refine (szComplex _ _ l0 _ _ (ReadI.below H0.out HB.out) (by omega) (by omega)).mono ?_; rintro e w2 ⟨rfl, hb⟩; rw [hz0]; have z2 := Aside0.mk hb.size; replace HB := Aside0.belowC HB hb; replace c0a := pw_cell_below hb c0a; replace c0b := pw_cell_below hb c0b; clear hb) | (replace st := stg_next 1 2 st; go_at_call 7; refine (toComplex _ _ l0 _ (ReadI.below H0.out HB.out) (by omega)).mono ?_; rintro e w3 ⟨u, rfl, ho, hb⟩; obtain ⟨A_3, d_3, rfl, -⟩ := ho.read; have RG3 := Aside0.mk (fun k hk => And.intro (ho.base k hk) (ho.lt k hk)); have z3 := Aside0.mk hb.size; replace HB := Aside0.belowC HB hb; replace c0a := pw_cell_below hb c0a; replace c0b := pw_cell_below hb c0b; clear hb; have HO3 := Aside0.mk ho; clear ho; have ec0a := cell_ahead c0a; have ec0b := cell_ahead c0b) | (replace st := stg_next 2 3 st; go_at_call 8; refine (toInt64S _ l1 _ (ReadI.below H1.out HB.out) (by omega)).mono ?_; rintro e w4 ⟨u, rfl, ho, hb⟩; obtain ⟨A_4, d_4, rfl, -⟩ := ho.read; have RG4 := Aside0.mk (fun k hk => And.intro (ho.base k hk) (ho.lt k hk)); clear ec0a; clear ec0b; have z4 := Aside0.mk hb.size; replace HB := Aside0.belowC HB hb; replace c0a := pw_cell_below hb c0a; replace c0b := pw_cell_below hb c0b; replace HO3 := Aside0.own HO3 hb; clear hb; have HO4 := Aside0.mk ho; clear ho) | (replace st := stg_next 3 4 st; go_at_call 6; refine (specEulerOfLevels a0 _ l0 _ l1 _ HO3.out.read HO4.out.read).mono ?_; rw [← HRr0.out, ← HRr1.out]; rintro e w5 ⟨u, rfl, ho, hb⟩; obtain ⟨A_5, d_5, rfl, -⟩ := ho.read; have RG5 := Aside0.mk (fun k hk => And.intro (ho.base k hk) (ho.lt k hk)); have z5 := Aside0.mk hb.size; replace HB := Aside0.belowC HB hb; replace c0a := pw_cell_below hb c0a; replace c0b := pw_cell_below hb c0b; replace HO3 := Aside0.own HO3 hb; replace HO4 := Aside0.own HO4 hb; clear hb; have HO5 := Aside0.mk ho; clear ho) | (replace st := stg_next 4 5 st; go_at_call 7; refine (toComplex _ _ l0 _ (ReadI.below H0.out HB.out) (by omega)).mono ?_; rintro e w6 ⟨u, rfl, ho, hb⟩; obtain ⟨A_6, d_6, rfl, -⟩ := ho.read; have RG6 := Aside0.mk (fun k hk => And.intro (ho.base k hk) (ho.lt k hk)); have z6 := Aside0.mk hb.size; replace HB := Aside0.belowC HB hb; replace c0a := pw_cell_below hb c0a; replace c0b := pw_cell_below hb c0b; replace HO3 := Aside0.own HO3 hb; replace HO4 := Aside0.own HO4 hb; replace HO5 := Aside0.own HO5 hb; clear hb; have HO6 := Aside0.mk ho; clear ho; have ec0a := cell_ahead c0a; have ec0b := cell_ahead c0b) | (replace st := stg_next 5 6 st; go_at_call 8; refine (toInt64S _ l1 _ (ReadI.below H1.out (HB.out.trans (Below.alloc (Below.refl _ _) HB.out.size _))) (by omega)).mono ?_; rintro e w7 ⟨u, rfl, ho, hb⟩; obtain ⟨A_7, d_7, rfl, -⟩ := ho.read; have RG7 := Aside0.mk (fun k hk => And.intro (ho.base k hk) (ho.lt k hk)); clear ec0a; clear ec0b; have c100 : w7.cell? ⟨w6.heap.size, 0, none⟩ = some (.int .i64 a0) := pw_cell_below hb (new_cell _ _ _ 0 _ rfl); have c101 : w7.cell? ⟨w6.heap.size, 1, none⟩ = some (.slice A_6 l0.length d_6) := pw_cell_below hb (new_cell _ _ _ 1 _ rfl); have z7 := Aside0.mk (alloc_size hb); replace hb := below_unalloc hb; replace HB := Aside0.belowC HB hb; replace c0a := pw_cell_below hb c0a; replace c0b := pw_cell_below hb c0b; replace HO3 := Aside0.own HO3 hb; replace HO4 := Aside0.own HO4 hb; replace HO5 := Aside0.own HO5 hb; replace HO6 := Aside0.own HO6 hb; clear hb; have HO7 := Aside0.mk ho; clear ho) | (replace st := stg_next 6 7 st; go_at_call 9; refine (implEulerOfLevels a0 _ l0 _ l1 _ HO6.out.read HO7.out.read).mono ?_; rw [← HRr0.out, ← HRr1.out]; rintro e w8 ⟨u, rfl, ho, hb⟩; obtain ⟨A_8, d_8, rfl, -⟩ := ho.read; have RG8 := Aside0.mk (fun k hk => And.intro (ho.base k hk) (ho.lt k hk)); have z8 := Aside0.mk hb.size; replace HB := Aside0.belowC HB hb; replace c0a := pw_cell_below hb c0a; replace c0b := pw_cell_below hb c0b; replace c100 := pw_cell_below hb c100; replace c101 := pw_cell_below hb c101; replace HO3 := Aside0.own HO3 hb; replace HO4 := Aside0.own HO4 hb; replace HO5 := Aside0.own HO5 hb; replace HO6 := Aside0.own HO6 hb; replace HO7 := Aside0.own HO7 hb; clear hb; have HO8 := Aside0.mk ho; clear ho) | (replace st := stg_next 7 8 st; go_at_call 10; refine (eqInt64S _ _ r0 r0 _ HO8.out.read HO5.out.read).mono ?_; rintro e w9 ⟨rfl, hb⟩; rw [beq_self_eq_true]; have z9 := Aside0.mk hb.size; replace HB := Aside0.belowC HB hb; replace c0a := pw_cell_below hb c0a; replace c0b := pw_cell_below hb c0b; replace c100 := pw_cell_below hb c100; replace c101 := pw_cell_below hb c101; replace HO3 := Aside0.own HO3 hb; replace HO4 := Aside0.own HO4 hb; replace HO5 := Aside0.own HO5 hb; replace HO6 := Aside0.own HO6 hb; replace HO7 := Aside0.own HO7 hb; replace HO8 := Aside0.own HO8 hb; clear hb))
   refine wp_region_phi (fun i => match i with | 0 => fun v _ => v = .agg #[.int .i64 a0, .slice A_6 l0.length d_6] | 1 => fun v _ => v = .agg #[.int .i64 a0, .slice A0 l0.length d0] | 2 => fun v W => ∃ u, v = .agg #[.int .i64 a0, u] ∧ OwnI w9.heap.size W u l0 | 3 => fun v _ => v = .bool true | 4 => fun v _ => v = .bool false | _ => fun _ _ => True)
    [0, 0, 2, 7, 15] hmx (by kernel_rfl) ?st ?steps ?rest
   case st =>
    intro i v w1_ w2_ hb
    match i with
    | 0 | 1 | 3 | 4 => exact id
    | 2 => exact fun ⟨u, e, ho⟩ => ⟨u, e, ho.below hb⟩
    | n + 5 => exact id
   case steps =>
    refine ⟨?_, ?_, ?_, ?_, ?_, trivial⟩
    ·intro s w_ hb hd R hR
     generalize hA : putAll _ 0 s _ = A
     have c100 := pw_cell_below hb c100
     have c101 := pw_cell_below hb c101
     have hR' := hR (.agg #[.int .i64 a0, .slice A_6 l0.length d_6]) _ (Below.refl _ _) (rfl)
     clear hR hd
     refine opGives_value ?_ hR'
     subst hA
     simp only [dsOf, List.map_cons, List.map_nil, Option.getD_some, putAll, Act.put, List.setIfInBounds_toArray, List.set_cons_zero, List.set_cons_succ]
     go_simp
    ·intro s w_ hb hd R hR
     generalize hA : putAll _ 0 s _ = A
     have c0a := pw_cell_below hb c0a
     have c0b := pw_cell_below hb c0b
     have hR' := hR (.agg #[.int .i64 a0, .slice A0 l0.length d0]) _ (Below.refl _ _) (rfl)
     clear hR hd
     refine opGives_value ?_ hR'
     subst hA
     simp only [dsOf, List.map_cons, List.map_nil, Option.getD_some, putAll, Act.put, List.setIfInBounds_toArray, List.set_cons_zero, List.set_cons_succ]
     go_simp
    ·intro s w_ hb hd R hR
     generalize hA : putAll _ 0 s _ = A
     have e1 : s 1 = _ := hd 1 (by kernel_rfl)
     have hs := hb.size
     refine opGives_call (f := 7) (args := #[.agg #[.int .i64 a0, .slice A0 l0.length d0]]) ?_ ?_
     ·subst hA
      clear hR hd
      simp only [dsOf, List.map_cons, List.map_nil, Option.getD_some, putAll, Act.put, List.setIfInBounds_toArray, List.set_cons_zero, List.set_cons_succ]
      go_simp
     clear hA A
     refine (toComplex _ _ l0 w_ (ReadI.below H0.out (HB.out.trans (hb.mono HB.out.size))) (by omega)).mono ?_
     rintro e w__ ⟨u, rfl, ho, hb5⟩
     exact ⟨_, rfl, hR _ _ hb5 ⟨u, rfl, ho.lower hs⟩⟩
    ·intro s w_ hb hd R hR
     generalize hA : putAll _ 0 s _ = A
     have e0 : s 0 = _ := hd 0 (by kernel_rfl)
     obtain ⟨u2, e2, o2⟩ : ∃ u, s 2 = _ ∧ OwnI _ _ u l0 := hd 2 (by kernel_rfl)
     have hs := hb.size
     refine opGives_call (f := 11) (args := #[.agg #[.int .i64 a0, .slice A_6 l0.length d_6], .agg #[.int .i64 a0, u2]]) ?_ ?_
     ·subst hA
      clear hR hd
      simp only [dsOf, List.map_cons, List.map_nil, Option.getD_some, putAll, Act.put, List.setIfInBounds_toArray, List.set_cons_zero, List.set_cons_succ]
      go_simp
     clear hA A
     refine (eqComplex _ _ _ _ l0 l0 w_ (ReadI.below HO6.out.read hb) o2.read).mono ?_
     rintro e w__ ⟨rfl, hb5⟩
     rw [decide_eq_true rfl, beq_self_eq_true]
     exact ⟨_, rfl, hR _ _ hb5 rfl⟩
    ·intro s w_ hb hd R hR
     generalize hA : putAll _ 0 s _ = A
     have e3 : s 3 = _ := hd 3 (by kernel_rfl)
     have hR' := hR (.bool false) _ (Below.refl _ _) (rfl)
     clear hR hd
     refine opGives_value ?_ hR'
     subst hA
     simp only [dsOf, List.map_cons, List.map_nil, Option.getD_some, putAll, Act.put, List.setIfInBounds_toArray, List.set_cons_zero, List.set_cons_succ]
     go_simp
   case rest =>
    intro s10 w10 hb hv
    have e4_ : s10 4 = _ := hv 4 (by decide)
    simp only [dsOf, List.map_cons, List.map_nil, Option.getD_some, putAll, Act.put, List.setIfInBounds_toArray, List.set_cons_zero, List.set_cons_succ]
    rw [e4_]
    clear hv e4_
    have z10 := Aside0.mk hb.size
    replace HB := Aside0.belowC HB hb
    replace c0a := pw_cell_below hb c0a
    replace c0b := pw_cell_below hb c0b
    replace c100 := pw_cell_below hb c100
    replace c101 := pw_cell_below hb c101
    replace HO3 := Aside0.own HO3 hb
    replace HO4 := Aside0.own HO4 hb
    replace HO5 := Aside0.own HO5 hb
    replace HO6 := Aside0.own HO6 hb
    replace HO7 := Aside0.own HO7 hb
    replace HO8 := Aside0.own HO8 hb
    clear hb
    go_wp2_with (first | (replace st := stg_next 8 9 st; go_at_call 8; refine (toInt64S _ l1 _ (ReadI.below H1.out HB.out) (by omega)).mono ?_; rintro e w11 ⟨u, rfl, ho, hb⟩; obtain ⟨A_11, d_11, rfl, -⟩ := ho.read; have RG11 := Aside0.mk (fun k hk => And.intro (ho.base k hk) (ho.lt k hk)); have z11 := Aside0.mk hb.size; replace HB := Aside0.belowC HB hb; replace c0a := pw_cell_below hb c0a; replace c0b := pw_cell_below hb c0b; replace c100 := pw_cell_below hb c100; replace c101 := pw_cell_below hb c101; replace HO3 := Aside0.own HO3 hb; replace HO4 := Aside0.own HO4 hb; replace HO5 := Aside0.own HO5 hb; replace HO6 := Aside0.own HO6 hb; replace HO7 := Aside0.own HO7 hb; replace HO8 := Aside0.own HO8 hb; clear hb; have HO11 := Aside0.mk ho; clear ho) | (replace st := stg_next 9 10 st; go_at_call 10; refine (eqInt64S _ _ l1 l1 _ HO7.out.read HO11.out.read).mono ?_; rintro e w12 ⟨rfl, hb⟩; rw [beq_self_eq_true]; have z12 := Aside0.mk hb.size; replace HB := Aside0.belowC HB hb; replace c0a := pw_cell_below hb c0a; replace c0b := pw_cell_below hb c0b; replace c100 := pw_cell_below hb c100; replace c101 := pw_cell_below hb c101; replace HO3 := Aside0.own HO3 hb; replace HO4 := Aside0.own HO4 hb; replace HO5 := Aside0.own HO5 hb; replace HO6 := Aside0.own HO6 hb; replace HO7 := Aside0.own HO7 hb; replace HO8 := Aside0.own HO8 hb; replace HO11 := Aside0.own HO11 hb; clear hb) | (replace st := stg_next 10 11 st; go_at_call 12; have hl_ : l0.length ≤ 1073741824 := (by omega); refine (markComplex _ _ _ l0 (1) _ HO6.out (by omega) hl_ (by have hbs_ := HBS.out; have z2_ := z2.out; have z3_ := z3.out; have z4_ := z4.out; have z5_ := z5.out; have z6_ := z6.out; have z7_ := z7.out; have z8_ := z8.out; have z9_ := z9.out; have z10_ := z10.out; have z11_ := z11.out; have z12_ := z12.out; (try simp only [World.size_alloc]); omega)).mono ?_; rintro e w13 ⟨rfl, ho, hg, hb⟩; clear hl_; have z13 := Aside0.mk hg.size; replace HB := Aside0.mk (HB.out.trans (hb.mono (by have hbs_ := HBS.out; have z2_ := z2.out; have z3_ := z3.out; have z4_ := z4.out; have z5_ := z5.out; have z6_ := z6.out; have z7_ := z7.out; have z8_ := z8.out; have z9_ := z9.out; have z10_ := z10.out; have z11_ := z11.out; have z12_ := z12.out; (try simp only [World.size_alloc]); omega))); replace c0a := cell_grown hg RG6.out (by have hbs_ := HBS.out; have z2_ := z2.out; have z3_ := z3.out; have z4_ := z4.out; have z5_ := z5.out; have z6_ := z6.out; have z7_ := z7.out; have z8_ := z8.out; have z9_ := z9.out; have z10_ := z10.out; have z11_ := z11.out; have z12_ := z12.out; (try dsimp only); (try simp only [World.size_alloc]); omega) c0a; replace c0b := cell_grown hg RG6.out (by have hbs_ := HBS.out; have z2_ := z2.out; have z3_ := z3.out; have z4_ := z4.out; have z5_ := z5.out; have z6_ := z6.out; have z7_ := z7.out; have z8_ := z8.out; have z9_ := z9.out; have z10_ := z10.out; have z11_ := z11.out; have z12_ := z12.out; (try dsimp only); (try simp only [World.size_alloc]); omega) c0b; replace c100 := cell_grown hg RG6.out (by have hbs_ := HBS.out; have z2_ := z2.out; have z3_ := z3.out; have z4_ := z4.out; have z5_ := z5.out; have z6_ := z6.out; have z7_ := z7.out; have z8_ := z8.out; have z9_ := z9.out; have z10_ := z10.out; have z11_ := z11.out; have z12_ := z12.out; (try dsimp only); (try simp only [World.size_alloc]); omega) c100; replace c101 := cell_grown hg RG6.out (by have hbs_ := HBS.out; have z2_ := z2.out; have z3_ := z3.out; have z4_ := z4.out; have z5_ := z5.out; have z6_ := z6.out; have z7_ := z7.out; have z8_ := z8.out; have z9_ := z9.out; have z10_ := z10.out; have z11_ := z11.out; have z12_ := z12.out; (try dsimp only); (try simp only [World.size_alloc]); omega) c101; replace HO3 := Aside0.mk (own_grown hg RG6.out RG3.out (by have hbs_ := HBS.out; have z2_ := z2.out; have z3_ := z3.out; have z4_ := z4.out; have z5_ := z5.out; have z6_ := z6.out; have z7_ := z7.out; have z8_ := z8.out; have z9_ := z9.out; have z10_ := z10.out; have z11_ := z11.out; have z12_ := z12.out; (try simp only [World.size_alloc]); omega) HO3.out); replace HO4 := Aside0.mk (own_grown hg RG6.out RG4.out (by have hbs_ := HBS.out; have z2_ := z2.out; have z3_ := z3.out; have z4_ := z4.out; have z5_ := z5.out; have z6_ := z6.out; have z7_ := z7.out; have z8_ := z8.out; have z9_ := z9.out; have z10_ := z10.out; have z11_ := z11.out; have z12_ := z12.out; (try simp only [World.size_alloc]); omega) HO4.out); replace HO5 := Aside0.mk (own_grown hg RG6.out RG5.out (by have hbs_ := HBS.out; have z2_ := z2.out; have z3_ := z3.out; have z4_ := z4.out; have z5_ := z5.out; have z6_ := z6.out; have z7_ := z7.out; have z8_ := z8.out; have z9_ := z9.out; have z10_ := z10.out; have z11_ := z11.out; have z12_ := z12.out; (try simp only [World.size_alloc]); omega) HO5.out); replace HO7 := Aside0.mk (own_grown hg RG6.out RG7.out (by have hbs_ := HBS.out; have z2_ := z2.out; have z3_ := z3.out; have z4_ := z4.out; have z5_ := z5.out; have z6_ := z6.out; have z7_ := z7.out; have z8_ := z8.out; have z9_ := z9.out; have z10_ := z10.out; have z11_ := z11.out; have z12_ := z12.out; (try simp only [World.size_alloc]); omega) HO7.out); replace HO8 := Aside0.mk (own_grown hg RG6.out RG8.out (by have hbs_ := HBS.out; have z2_ := z2.out; have z3_ := z3.out; have z4_ := z4.out; have z5_ := z5.out; have z6_ := z6.out; have z7_ := z7.out; have z8_ := z8.out; have z9_ := z9.out; have z10_ := z10.out; have z11_ := z11.out; have z12_ := z12.out; (try simp only [World.size_alloc]); omega) HO8.out); replace HO11 := Aside0.mk (own_grown hg RG6.out RG11.out (by have hbs_ := HBS.out; have z2_ := z2.out; have z3_ := z3.out; have z4_ := z4.out; have z5_ := z5.out; have z6_ := z6.out; have z7_ := z7.out; have z8_ := z8.out; have z9_ := z9.out; have z10_ := z10.out; have z11_ := z11.out; have z12_ := z12.out; (try simp only [World.size_alloc]); omega) HO11.out); replace HO6 := Aside0.mk ho; clear ho hg hb) | (replace st := stg_next 11 12 st; go_at_call 13; have hl_ : l1.length ≤ 1073741824 := (by omega); refine (markInt64S _ _ l1 ((1 + l0.length)) _ HO7.out (by omega) hl_).mono ?_; rintro e w14 ⟨rfl, ho, hg, hb⟩; clear hl_; have z14 := Aside0.mk hg.size; replace HB := Aside0.mk (HB.out.trans (hb.mono (by have hbs_ := HBS.out; have z2_ := z2.out; have z3_ := z3.out; have z4_ := z4.out; have z5_ := z5.out; have z6_ := z6.out; have z7_ := z7.out; have z8_ := z8.out; have z9_ := z9.out; have z10_ := z10.out; have z11_ := z11.out; have z12_ := z12.out; have z13_ := z13.out; (try simp only [World.size_alloc]); omega))); replace c0a := cell_grown hg RG7.out (by have hbs_ := HBS.out; have z2_ := z2.out; have z3_ := z3.out; have z4_ := z4.out; have z5_ := z5.out; have z6_ := z6.out; have z7_ := z7.out; have z8_ := z8.out; have z9_ := z9.out; have z10_ := z10.out; have z11_ := z11.out; have z12_ := z12.out; have z13_ := z13.out; (try dsimp only); (try simp only [World.size_alloc]); omega) c0a; replace c0b := cell_grown hg RG7.out (by have hbs_ := HBS.out; have z2_ := z2.out; have z3_ := z3.out; have z4_ := z4.out; have z5_ := z5.out; have z6_ := z6.out; have z7_ := z7.out; have z8_ := z8.out; have z9_ := z9.out; have z10_ := z10.out; have z11_ := z11.out; have z12_ := z12.out; have z13_ := z13.out; (try dsimp only); (try simp only [World.size_alloc]); omega) c0b; replace c100 := cell_grown hg RG7.out (by have hbs_ := HBS.out; have z2_ := z2.out; have z3_ := z3.out; have z4_ := z4.out; have z5_ := z5.out; have z6_ := z6.out; have z7_ := z7.out; have z8_ := z8.out; have z9_ := z9.out; have z10_ := z10.out; have z11_ := z11.out; have z12_ := z12.out; have z13_ := z13.out; (try dsimp only); (try simp only [World.size_alloc]); omega) c100; replace c101 := cell_grown hg RG7.out (by have hbs_ := HBS.out; have z2_ := z2.out; have z3_ := z3.out; have z4_ := z4.out; have z5_ := z5.out; have z6_ := z6.out; have z7_ := z7.out; have z8_ := z8.out; have z9_ := z9.out; have z10_ := z10.out; have z11_ := z11.out; have z12_ := z12.out; have z13_ := z13.out; (try dsimp only); (try simp only [World.size_alloc]); omega) c101; replace HO3 := Aside0.mk (own_grown hg RG7.out RG3.out (by have hbs_ := HBS.out; have z2_ := z2.out; have z3_ := z3.out; have z4_ := z4.out; have z5_ := z5.out; have z6_ := z6.out; have z7_ := z7.out; have z8_ := z8.out; have z9_ := z9.out; have z10_ := z10.out; have z11_ := z11.out; have z12_ := z12.out; have z13_ := z13.out; (try simp only [World.size_alloc]); omega) HO3.out); replace HO4 := Aside0.mk (own_grown hg RG7.out RG4.out (by have hbs_ := HBS.out; have z2_ := z2.out; have z3_ := z3.out; have z4_ := z4.out; have z5_ := z5.out; have z6_ := z6.out; have z7_ := z7.out; have z8_ := z8.out; have z9_ := z9.out; have z10_ := z10.out; have z11_ := z11.out; have z12_ := z12.out; have z13_ := z13.out; (try simp only [World.size_alloc]); omega) HO4.out); replace HO5 := Aside0.mk (own_grown hg RG7.out RG5.out (by have hbs_ := HBS.out; have z2_ := z2.out; have z3_ := z3.out; have z4_ := z4.out; have z5_ := z5.out; have z6_ := z6.out; have z7_ := z7.out; have z8_ := z8.out; have z9_ := z9.out; have z10_ := z10.out; have z11_ := z11.out; have z12_ := z12.out; have z13_ := z13.out; (try simp only [World.size_alloc]); omega) HO5.out); replace HO6 := Aside0.mk (own_grown hg RG7.out RG6.out (by have hbs_ := HBS.out; have z2_ := z2.out; have z3_ := z3.out; have z4_ := z4.out; have z5_ := z5.out; have z6_ := z6.out; have z7_ := z7.out; have z8_ := z8.out; have z9_ := z9.out; have z10_ := z10.out; have z11_ := z11.out; have z12_ := z12.out; have z13_ := z13.out; (try simp only [World.size_alloc]); omega) HO6.out); replace HO8 := Aside0.mk (own_grown hg RG7.out RG8.out (by have hbs_ := HBS.out; have z2_ := z2.out; have z3_ := z3.out; have z4_ := z4.out; have z5_ := z5.out; have z6_ := z6.out; have z7_ := z7.out; have z8_ := z8.out; have z9_ := z9.out; have z10_ := z10.out; have z11_ := z11.out; have z12_ := z12.out; have z13_ := z13.out; (try simp only [World.size_alloc]); omega) HO8.out); replace HO11 := Aside0.mk (own_grown hg RG7.out RG11.out (by have hbs_ := HBS.out; have z2_ := z2.out; have z3_ := z3.out; have z4_ := z4.out; have z5_ := z5.out; have z6_ := z6.out; have z7_ := z7.out; have z8_ := z8.out; have z9_ := z9.out; have z10_ := z10.out; have z11_ := z11.out; have z12_ := z12.out; have z13_ := z13.out; (try simp only [World.size_alloc]); omega) HO11.out); replace HO7 := Aside0.mk ho; clear ho hg hb) | (replace st := stg_next 12 13 st; go_at_call 10; refine (eqInt64S _ _ r0 r0 _ HO8.out.read HO5.out.read).mono ?_; rintro e w15 ⟨rfl, hb⟩; rw [beq_self_eq_true]; have z15 := Aside0.mk hb.size; replace HB := Aside0.belowC HB hb; replace c0a := pw_cell_below hb c0a; replace c0b := pw_cell_below hb c0b; replace c100 := pw_cell_below hb c100; replace c101 := pw_cell_below hb c101; replace HO3 := Aside0.own HO3 hb; replace HO4 := Aside0.own HO4 hb; replace HO5 := Aside0.own HO5 hb; replace HO6 := Aside0.own HO6 hb; replace HO7 := Aside0.own HO7 hb; replace HO8 := Aside0.own HO8 hb; replace HO11 := Aside0.own HO11 hb; clear hb) | (replace st := stg_next 13 14 st; go_at_call 13; have hl_ : r0.length ≤ 1073741824 := lenR; refine (markInt64S _ _ r0 (1) _ HO8.out (by omega) hl_).mono ?_; rintro e w16 ⟨rfl, ho, hg, hb⟩; clear hl_; have z16 := Aside0.mk hg.size; replace HB := Aside0.mk (HB.out.trans (hb.mono (by have hbs_ := HBS.out; have z2_ := z2.out; have z3_ := z3.out; have z4_ := z4.out; have z5_ := z5.out; have z6_ := z6.out; have z7_ := z7.out; have z8_ := z8.out; have z9_ := z9.out; have z10_ := z10.out; have z11_ := z11.out; have z12_ := z12.out; have z13_ := z13.out; have z14_ := z14.out; have z15_ := z15.out; (try simp only [World.size_alloc]); omega))); replace c0a := cell_grown hg RG8.out (by have hbs_ := HBS.out; have z2_ := z2.out; have z3_ := z3.out; have z4_ := z4.out; have z5_ := z5.out; have z6_ := z6.out; have z7_ := z7.out; have z8_ := z8.out; have z9_ := z9.out; have z10_ := z10.out; have z11_ := z11.out; have z12_ := z12.out; have z13_ := z13.out; have z14_ := z14.out; have z15_ := z15.out; (try dsimp only); (try simp only [World.size_alloc]); omega) c0a; replace c0b := cell_grown hg RG8.out (by have hbs_ := HBS.out; have z2_ := z2.out; have z3_ := z3.out; have z4_ := z4.out; have z5_ := z5.out; have z6_ := z6.out; have z7_ := z7.out; have z8_ := z8.out; have z9_ := z9.out; have z10_ := z10.out; have z11_ := z11.out; have z12_ := z12.out; have z13_ := z13.out; have z14_ := z14.out; have z15_ := z15.out; (try dsimp only); (try simp only [World.size_alloc]); omega) c0b; replace c100 := cell_grown hg RG8.out (by have hbs_ := HBS.out; have z2_ := z2.out; have z3_ := z3.out; have z4_ := z4.out; have z5_ := z5.out; have z6_ := z6.out; have z7_ := z7.out; have z8_ := z8.out; have z9_ := z9.out; have z10_ := z10.out; have z11_ := z11.out; have z12_ := z12.out; have z13_ := z13.out; have z14_ := z14.out; have z15_ := z15.out; (try dsimp only); (try simp only [World.size_alloc]); omega) c100; replace c101 := cell_grown hg RG8.out (by have hbs_ := HBS.out; have z2_ := z2.out; have z3_ := z3.out; have z4_ := z4.out; have z5_ := z5.out; have z6_ := z6.out; have z7_ := z7.out; have z8_ := z8.out; have z9_ := z9.out; have z10_ := z10.out; have z11_ := z11.out; have z12_ := z12.out; have z13_ := z13.out; have z14_ := z14.out; have z15_ := z15.out; (try dsimp only); (try simp only [World.size_alloc]); omega) c101; replace HO3 := Aside0.mk (own_grown hg RG8.out RG3.out (by have hbs_ := HBS.out; have z2_ := z2.out; have z3_ := z3.out; have z4_ := z4.out; have z5_ := z5.out; have z6_ := z6.out; have z7_ := z7.out; have z8_ := z8.out; have z9_ := z9.out; have z10_ := z10.out; have z11_ := z11.out; have z12_ := z12.out; have z13_ := z13.out; have z14_ := z14.out; have z15_ := z15.out; (try simp only [World.size_alloc]); omega) HO3.out); replace HO4 := Aside0.mk (own_grown hg RG8.out RG4.out (by have hbs_ := HBS.out; have z2_ := z2.out; have z3_ := z3.out; have z4_ := z4.out; have z5_ := z5.out; have z6_ := z6.out; have z7_ := z7.out; have z8_ := z8.out; have z9_ := z9.out; have z10_ := z10.out; have z11_ := z11.out; have z12_ := z12.out; have z13_ := z13.out; have z14_ := z14.out; have z15_ := z15.out; (try simp only [World.size_alloc]); omega) HO4.out); replace HO5 := Aside0.mk (own_grown hg RG8.out RG5.out (by have hbs_ := HBS.out; have z2_ := z2.out; have z3_ := z3.out; have z4_ := z4.out; have z5_ := z5.out; have z6_ := z6.out; have z7_ := z7.out; have z8_ := z8.out; have z9_ := z9.out; have z10_ := z10.out; have z11_ := z11.out; have z12_ := z12.out; have z13_ := z13.out; have z14_ := z14.out; have z15_ := z15.out; (try simp only [World.size_alloc]); omega) HO5.out); replace HO6 := Aside0.mk (own_grown hg RG8.out RG6.out (by have hbs_ := HBS.out; have z2_ := z2.out; have z3_ := z3.out; have z4_ := z4.out; have z5_ := z5.out; have z6_ := z6.out; have z7_ := z7.out; have z8_ := z8.out; have z9_ := z9.out; have z10_ := z10.out; have z11_ := z11.out; have z12_ := z12.out; have z13_ := z13.out; have z14_ := z14.out; have z15_ := z15.out; (try simp only [World.size_alloc]); omega) HO6.out); replace HO7 := Aside0.mk (own_grown hg RG8.out RG7.out (by have hbs_ := HBS.out; have z2_ := z2.out; have z3_ := z3.out; have z4_ := z4.out; have z5_ := z5.out; have z6_ := z6.out; have z7_ := z7.out; have z8_ := z8.out; have z9_ := z9.out; have z10_ := z10.out; have z11_ := z11.out; have z12_ := z12.out; have z13_ := z13.out; have z14_ := z14.out; have z15_ := z15.out; (try simp only [World.size_alloc]); omega) HO7.out); replace HO11 := Aside0.mk (own_grown hg RG8.out RG11.out (by have hbs_ := HBS.out; have z2_ := z2.out; have z3_ := z3.out; have z4_ := z4.out; have z5_ := z5.out; have z6_ := z6.out; have z7_ := z7.out; have z8_ := z8.out; have z9_ := z9.out; have z10_ := z10.out; have z11_ := z11.out; have z12_ := z12.out; have z13_ := z13.out; have z14_ := z14.out; have z15_ := z15.out; (try simp only [World.size_alloc]); omega) HO11.out); replace HO8 := Aside0.mk ho; clear ho hg hb) | (replace st := stg_next 14 15 st; go_at_call 14; have hl_ : r0.length ≤ 1073741824 := lenR; refine (heldInt64S _ (1) r0.length _ HO8.out.read (by omega) hl_).mono ?_; rintro e w17 ⟨rfl, hb⟩; clear hl_; have z17 := Aside0.mk hb.size; replace HB := Aside0.belowC HB hb; replace c0a := pw_cell_below hb c0a; replace c0b := pw_cell_below hb c0b; replace c100 := pw_cell_below hb c100; replace c101 := pw_cell_below hb c101; replace HO3 := Aside0.own HO3 hb; replace HO4 := Aside0.own HO4 hb; replace HO5 := Aside0.own HO5 hb; replace HO6 := Aside0.own HO6 hb; replace HO7 := Aside0.own HO7 hb; replace HO8 := Aside0.own HO8 hb; replace HO11 := Aside0.own HO11 hb; clear hb) | (replace st := stg_next 15 16 st; go_at_call 7; refine (toComplex _ _ l0 _ (ReadI.below H0.out HB.out) (by omega)).mono ?_; rintro e w18 ⟨u, rfl, ho, hb⟩; obtain ⟨A_18, d_18, rfl, -⟩ := ho.read; have RG18 := Aside0.mk (fun k hk => And.intro (ho.base k hk) (ho.lt k hk)); have z18 := Aside0.mk hb.size; replace HB := Aside0.belowC HB hb; replace c0a := pw_cell_below hb c0a; replace c0b := pw_cell_below hb c0b; replace c100 := pw_cell_below hb c100; replace c101 := pw_cell_below hb c101; replace HO3 := Aside0.own HO3 hb; replace HO4 := Aside0.own HO4 hb; replace HO5 := Aside0.own HO5 hb; replace HO6 := Aside0.own HO6 hb; replace HO7 := Aside0.own HO7 hb; replace HO8 := Aside0.own HO8 hb; replace HO11 := Aside0.own HO11 hb; clear hb; have HO18 := Aside0.mk ho; clear ho; have ec0a := cell_ahead c0a; have ec0b := cell_ahead c0b; have ec100 := cell_ahead c100; have ec101 := cell_ahead c101) | (replace st := stg_next 16 17 st; go_at_call 8; refine (toInt64S _ l1 _ (ReadI.below H1.out HB.out) (by omega)).mono ?_; rintro e w19 ⟨u, rfl, ho, hb⟩; obtain ⟨A_19, d_19, rfl, -⟩ := ho.read; have RG19 := Aside0.mk (fun k hk => And.intro (ho.base k hk) (ho.lt k hk)); clear ec0a; clear ec0b; clear ec100; clear ec101; have z19 := Aside0.mk hb.size; replace HB := Aside0.belowC HB hb; replace c0a := pw_cell_below hb c0a; replace c0b := pw_cell_below hb c0b; replace c100 := pw_cell_below hb c100; replace c101 := pw_cell_below hb c101; replace HO3 := Aside0.own HO3 hb; replace HO4 := Aside0.own HO4 hb; replace HO5 := Aside0.own HO5 hb; replace HO6 := Aside0.own HO6 hb; replace HO7 := Aside0.own HO7 hb; replace HO8 := Aside0.own HO8 hb; replace HO11 := Aside0.own HO11 hb; replace HO18 := Aside0.own HO18 hb; clear hb; have HO19 := Aside0.mk ho; clear ho) | (replace st := stg_next 17 18 st; go_at_call 9; refine (implEulerOfLevels a0 _ l0 _ l1 _ HO18.out.read HO19.out.read).mono ?_; rw [← HRr0.out, ← HRr1.out]; rintro e w20 ⟨u, rfl, ho, hb⟩; obtain ⟨A_20, d_20, rfl, -⟩ := ho.read; have RG20 := Aside0.mk (fun k hk => And.intro (ho.base k hk) (ho.lt k hk)); have z20 := Aside0.mk hb.size; replace HB := Aside0.belowC HB hb; replace c0a := pw_cell_below hb c0a; replace c0b := pw_cell_below hb c0b; replace c100 := pw_cell_below hb c100; replace c101 := pw_cell_below hb c101; replace HO3 := Aside0.own HO3 hb; replace HO4 := Aside0.own HO4 hb; replace HO5 := Aside0.own HO5 hb; replace HO6 := Aside0.own HO6 hb; replace HO7 := Aside0.own HO7 hb; replace HO8 := Aside0.own HO8 hb; replace HO11 := Aside0.own HO11 hb; replace HO18 := Aside0.own HO18 hb; replace HO19 := Aside0.own HO19 hb; clear hb; have HO20 := Aside0.mk ho; clear ho) | (replace st := stg_next 18 19 st; go_at_call 10; refine (eqInt64S _ _ r0 r0 _ HO20.out.read HO5.out.read).mono ?_; rintro e w21 ⟨rfl, hb⟩; rw [beq_self_eq_true]; have z21 := Aside0.mk hb.size; replace HB := Aside0.belowC HB hb; replace c0a := pw_cell_below hb c0a; replace c0b := pw_cell_below hb c0b; replace c100 := pw_cell_below hb c100; replace c101 := pw_cell_below hb c101; replace HO3 := Aside0.own HO3 hb; replace HO4 := Aside0.own HO4 hb; replace HO5 := Aside0.own HO5 hb; replace HO6 := Aside0.own HO6 hb; replace HO7 := Aside0.own HO7 hb; replace HO8 := Aside0.own HO8 hb; replace HO11 := Aside0.own HO11 hb; replace HO18 := Aside0.own HO18 hb; replace HO19 := Aside0.own HO19 hb; replace HO20 := Aside0.own HO20 hb; clear hb) | (replace st := stg_next 19 20 st; go_at_call 14; have hl_ : r0.length ≤ 1073741824 := lenR; refine (heldInt64S _ (1) r0.length _ HO8.out.read (by omega) hl_).mono ?_; rintro e w22 ⟨rfl, hb⟩; clear hl_; have z22 := Aside0.mk hb.size; replace HB := Aside0.belowC HB hb; replace c0a := pw_cell_below hb c0a; replace c0b := pw_cell_below hb c0b; replace c100 := pw_cell_below hb c100; replace c101 := pw_cell_below hb c101; replace HO3 := Aside0.own HO3 hb; replace HO4 := Aside0.own HO4 hb; replace HO5 := Aside0.own HO5 hb; replace HO6 := Aside0.own HO6 hb; replace HO7 := Aside0.own HO7 hb; replace HO8 := Aside0.own HO8 hb; replace HO11 := Aside0.own HO11 hb; replace HO18 := Aside0.own HO18 hb; replace HO19 := Aside0.own HO19 hb; replace HO20 := Aside0.own HO20 hb; clear hb))
    go_ret
    exact ⟨rfl, HB0.out.trans (HB.out.mono HB0.out.size)⟩
  ·have hz0 : szAns (1048576) l0.length = -1 := by unfold szAns; rw [if_pos (by omega)]
   go_enter Try.func3, Try.ntmps3
   go_wp2_with (first | (replace st := stg_next 0 1 st; rw [← hw1]; clear hw1; go_at_call 5; refine (szComplex _ _ l0 _ _ (ReadI.below H0.out HB.out) (by omega) (by omega)).mono ?_; rintro e w2 ⟨rfl, hb⟩; rw [hz0]; have z2 := Aside0.mk hb.size; replace HB := Aside0.belowC HB hb; replace c0a := pw_cell_below hb c0a; replace c0b := pw_cell_below hb c0b; clear hb))
   go_ret
   exact ⟨rfl, HB0.out.trans (HB.out.mono HB0.out.size)⟩
 ·have q0' : (1048576 : Int) < l1.length := by omega
  go_enter Try.func3, Try.ntmps3
  go_wp2
  rw [← hw1]
  go_ret
  exact ⟨rfl, HB0.out.trans (HB.out.mono HB0.out.size)⟩
end Go.Proofs.Ytomofijniefelaa.H
