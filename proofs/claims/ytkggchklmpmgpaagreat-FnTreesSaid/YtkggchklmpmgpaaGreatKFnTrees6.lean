/- Least numbers of evaders, of the reference. -/
import Derived.Test.YtkggchklmpmgpaaGreatKFnTrees1
import Derived.Test.YtkggchklmpmgpaaGreatKFnTrees2
import Derived.Test.YtkggchklmpmgpaaGreatKFnTrees3
import Derived.Test.YtkggchklmpmgpaaGreatKFnTrees4
import Derived.Test.YtkggchklmpmgpaaGreatKFnTrees5

namespace Go.Proofs.YtkggchklmpmgpaaGreat.H
open Go.RowKit Go.Proofs.YtkggchklmpmgpaaGreatW.PrintWords Go.Proofs.YtkggchklmpmgpaaGreatW.PrintLast
set_option linter.unusedVariables false
set_option linter.unusedSimpArgs false
theorem sum_wrap {a b : Int} (h1 : 0 ≤ a) (h2 : a ≤ 64) (h3 : 0 ≤ b) (h4 : b ≤ 64) : IntKind.i64.wrap (a + b) = a + b := IntWalk.i64_in _ (by omega)
theorem ones_frees : ∀ n, n ≤ 6 → ∀ m, m < 2 ^ n → ones m + (frees m n).length = n := by decide +kernel
theorem ones_lefts {n p q : Nat} (hn : n ≤ 6) (h : Pl n p q) : ones (p ||| q) + lefts n p q = n := ones_frees n hn _ (Nat.or_lt_two_pow h.hp h.hq)
set_option maxRecDepth 100000 in
set_option maxHeartbeats 4000000 in
theorem specLeastS (n : Nat) (hn : n ≤ 6) (ku : Value) (xs : List Int) (b c : Nat) (p q : Nat) (w : World) (ih : ∀ p' q' w, lefts n p' q' < lefts n p q → Pl n p' q' → RdK b w ku xs → TabI n (leastV n xs) b c w →
  Calls Tryz.prog 204 #[cx n ku, .int .i64 (p' : Nat), .int .i64 (q' : Nat), .slice (some ⟨b, 0, none⟩) 4096 c] w fun e w' => e = .returned (.int .i64 (leastV n xs p' q')) ∧ w.grownBy w' (some b) ∧ TabI n (leastV n xs) b c w')
  (hp : Pl n p q) (hk : RdK b w ku xs) (hT : TabI n (leastV n xs) b c w) :
  Calls Tryz.prog 204 #[cx n ku, .int .i64 (p : Nat), .int .i64 (q : Nat), .slice (some ⟨b, 0, none⟩) 4096 c] w fun e w' => e = .returned (.int .i64 (leastV n xs p q)) ∧ w.grownBy w' (some b) ∧ TabI n (leastV n xs) b c w' := by
 obtain ⟨X, hX⟩ : ∃ X, X = leastV n xs p q := ⟨_, rfl⟩
 have HX := Aside0.mk hX
 obtain ⟨w1, hw1⟩ : ∃ w1, w1 = w.alloc (.cells #[.int .i64 n, ku] 26) := ⟨_, rfl⟩
 have hB : Below w.heap.size w w1 := by rw [hw1]; exact Below.alloc (Below.refl _ _) (Nat.le_refl _) _
 have hbl := hT.lt
 have c0 : w1.cell? ⟨w.heap.size, 0, none⟩ = some (.int .i64 n) := by rw [hw1]; simp
 have c1 : w1.cell? ⟨w.heap.size, 1, none⟩ = some ku := by rw [hw1]; simp
 have hne0 : w.heap.size ≠ b := by omega
 have HG := Aside0.mk (grown_below hB (some b))
 have HK := Aside0.mk (hk.below hB)
 have HT := Aside0.mk (hT.below hB)
 have hpq := hp.lt hn
 have HP := Aside0.mk hp
 have HPL := Aside0.mk (fun W => specPlace p q hpq.1 hpq.2 W)
 have h1 : (0 : Int) ≤ ((p * 64 + q : Nat) : Int) := by omega
 have h2 : ((p * 64 + q : Nat) : Int) < 4096 := by omega
 have h3 : ((p * 64 + q : Nat) : Int).toNat = p * 64 + q := by omega
 obtain ⟨K, hK⟩ : ∃ K, K = p * 64 + q := ⟨_, rfl⟩
 rw [← hK] at h1 h2 h3 HPL
 have HKK := Aside0.mk hK
 obtain ⟨y, hy, hyv⟩ := TabI.get hn hT hp
 have cy := pw_cell_below hB hy
 rw [← hK] at cy
 clear hy
 obtain ⟨A1, d1, rfl, -⟩ := id hk.read
 clear hk hT hB hK
 have HYV := Aside0.mk hyv
 clear hyv
 by_cases h0 : 0 ≤ y
 ·have HE := Aside0.mk (HYV.out h0)
  clear HYV
  go_enter Tryz.func204, Tryz.ntmps204
  go_wp2_with (first | (go_at_call 335; rw [← hw1]; clear hw1; refine (HPL.out _).mono ?_; rintro e w2 ⟨rfl, hb⟩; have HG2 := Aside0.mk (grown_trans HG.out (grown_below hb _)); have HT2 := Aside0.mk (HT.out.below hb); have HK2 := Aside0.mk (HK.out.below hb); replace c0 := pw_cell_below hb c0; replace c1 := pw_cell_below hb c1; replace cy := pw_cell_below hb cy; clear hb))
  go_ret
  exact ⟨by rw [HE.out]; rfl, HG2.out, HT2.out⟩
 ·have h0' : y < 0 := by omega
  clear h0 HYV
  have hU := or_lt64 hpq.1 hpq.2
  have HOR := Aside0.mk (or_i64 p q (lt_big hpq.1) (lt_big hpq.2))
  have hlo := ones_lefts hn hp
  obtain ⟨T, hTT⟩ : ∃ T, T = toldV n xs p q := ⟨_, rfl⟩
  have HTO := Aside0.mk (fun W hr => specTold n hn (.slice A1 xs.length d1) xs p q hpq.1 hpq.2 W hr)
  rw [← hTT] at HTO
  have HTT := Aside0.mk hTT
  obtain ⟨L0, hL0⟩ : ∃ L0, L0 = lefts n p q := ⟨_, rfl⟩
  have HL0 := Aside0.mk hL0
  have HSB : Aside0 (IntKind.i64.wrap ((n : Int) - ((ones (p ||| q) : Nat) : Int)) = (L0 : Int)) := ⟨by rw [hL0, IntWalk.i64_in _ (by omega)]; omega⟩
  have hL6 : L0 ≤ 6 := by omega
  obtain ⟨U, hUU⟩ : ∃ U, U = p ||| q := ⟨_, rfl⟩
  rw [← hUU] at hU HOR HSB
  have HUU := Aside0.mk hUU
  clear hlo hL0 hUU
  have hmx : Tryz.prog.follows .mixedOrders = true := by kernel_rfl
  by_cases ht : 0 ≤ T
  ·have HXZ : Aside0 (X = 0) := ⟨by rw [hX]; exact leastV_told (by rw [← hTT]; exact ht)⟩
   clear hTT hX
   go_enter Tryz.func204, Tryz.ntmps204
   go_wp2_with (first | (go_at_call 335; rw [← hw1]; clear hw1; refine (HPL.out _).mono ?_; rintro e w2 ⟨rfl, hb⟩; have HG2 := Aside0.mk (grown_trans HG.out (grown_below hb _)); have HT2 := Aside0.mk (HT.out.below hb); have HK2 := Aside0.mk (HK.out.below hb); replace c0 := pw_cell_below hb c0; replace c1 := pw_cell_below hb c1; replace cy := pw_cell_below hb cy; clear hb))
   refine wp_region_g (Gm b (TabI n (leastV n xs) b c)) (fun w => ⟨grown_drew w _, fun h => h.below (Below.refl _ _).drew⟩) (fun _ _ _ => Gm.trans) (fun i => match i with | 0 => fun v _ => v = .pointer (some ⟨w.heap.size, 0, none⟩) | 1 => fun v _ => v = .int .i64 (n : Int) | 2 => fun v _ => v = .int .i64 (p : Int) | 3 => fun v _ => v = .int .i64 (q : Int) | 4 => fun v _ => v = .int .i64 (U : Int) | 5 => fun v _ => v = .int .i64 ((ones U : Nat) : Int) | 6 => fun v _ => v = .int .i64 (L0 : Int) | 7 => fun v _ => v = .int .i64 (L0 : Int) | _ => fun _ _ => True)
    [0, 1, 0, 0, 12, 28, 63, 127] hmx (by kernel_rfl) ?st ?steps ?rest
   case st =>
    intro i v w1_ w2_ hb
    match i with
    | 0 | 1 | 2 | 3 | 4 | 5 | 6 | 7 => exact id
    | n + 8 => exact id
   case steps =>
    refine ⟨?_, ?_, ?_, ?_, ?_, ?_, ?_, ?_, trivial⟩
    ·intro s w_ hb hd hq R hR
     generalize hA : putAll _ 0 s _ = A
     clear hq
     have hR' := hR (.pointer (some ⟨w.heap.size, 0, none⟩)) _ (Gm.refl _ _ _) rfl
     clear hR hd
     refine opGives_value ?_ hR'
     subst hA
     simp only [dsOf, List.map_cons, List.map_nil, Option.getD_some, putAll, Act.put, List.setIfInBounds_toArray, List.set_cons_zero, List.set_cons_succ]
     go_simp
    ·intro s w_ hb hd hq R hR
     generalize hA : putAll _ 0 s _ = A
     have e0 : s 0 = _ := hd 0 (by kernel_rfl)
     clear hq
     have c0 := grown_cell hb.1 c0 hne0
     have hR' := hR (.int .i64 (n : Int)) _ (Gm.refl _ _ _) rfl
     clear hR hd
     refine opGives_value ?_ hR'
     subst hA
     simp only [dsOf, List.map_cons, List.map_nil, Option.getD_some, putAll, Act.put, List.setIfInBounds_toArray, List.set_cons_zero, List.set_cons_succ]
     go_simp
    ·intro s w_ hb hd hq R hR
     generalize hA : putAll _ 0 s _ = A
     clear hq
     have hR' := hR (.int .i64 (p : Int)) _ (Gm.refl _ _ _) rfl
     clear hR hd
     refine opGives_value ?_ hR'
     subst hA
     simp only [dsOf, List.map_cons, List.map_nil, Option.getD_some, putAll, Act.put, List.setIfInBounds_toArray, List.set_cons_zero, List.set_cons_succ]
     go_simp
    ·intro s w_ hb hd hq R hR
     generalize hA : putAll _ 0 s _ = A
     clear hq
     have hR' := hR (.int .i64 (q : Int)) _ (Gm.refl _ _ _) rfl
     clear hR hd
     refine opGives_value ?_ hR'
     subst hA
     simp only [dsOf, List.map_cons, List.map_nil, Option.getD_some, putAll, Act.put, List.setIfInBounds_toArray, List.set_cons_zero, List.set_cons_succ]
     go_simp
    ·intro s w_ hb hd hq R hR
     generalize hA : putAll _ 0 s _ = A
     have e2 : s 2 = _ := hd 2 (by kernel_rfl)
     have e3 : s 3 = _ := hd 3 (by kernel_rfl)
     clear hq
     have hor := HOR.out
     have hR' := hR (.int .i64 (U : Int)) _ (Gm.refl _ _ _) rfl
     clear hR hd
     refine opGives_value ?_ hR'
     subst hA
     simp only [dsOf, List.map_cons, List.map_nil, Option.getD_some, putAll, Act.put, List.setIfInBounds_toArray, List.set_cons_zero, List.set_cons_succ]
     go_simp
    ·intro s w_ hb hd hq R hR
     generalize hA : putAll _ 0 s _ = A
     have e4 : s 4 = _ := hd 4 (by kernel_rfl)
     clear hq
     refine opGives_call (f := 205) (args := #[.int .i64 (U : Int)]) ?_ ?_
     ·subst hA
      clear hR hd
      simp only [dsOf, List.map_cons, List.map_nil, Option.getD_some, putAll, Act.put, List.setIfInBounds_toArray, List.set_cons_zero, List.set_cons_succ]
      go_simp
     clear hA A hd
     refine (specOnes U hU w_).mono ?_
     rintro e w3_ ⟨rfl, hb3⟩
     exact ⟨_, rfl, hR _ _ ⟨grown_below hb3 _, fun h => h.below hb3⟩ rfl⟩
    ·intro s w_ hb hd hq R hR
     generalize hA : putAll _ 0 s _ = A
     have e1 : s 1 = _ := hd 1 (by kernel_rfl)
     have e5 : s 5 = _ := hd 5 (by kernel_rfl)
     clear hq
     have hsb := HSB.out
     have hR' := hR (.int .i64 (L0 : Int)) _ (Gm.refl _ _ _) rfl
     clear hR hd
     refine opGives_value ?_ hR'
     subst hA
     simp only [dsOf, List.map_cons, List.map_nil, Option.getD_some, putAll, Act.put, List.setIfInBounds_toArray, List.set_cons_zero, List.set_cons_succ]
     go_simp
    ·intro s w_ hb hd hq R hR
     generalize hA : putAll _ 0 s _ = A
     have e6 : s 6 = _ := hd 6 (by kernel_rfl)
     clear hq
     have hR' := hR (.int .i64 (L0 : Int)) _ (Gm.refl _ _ _) rfl
     clear hR hd
     refine opGives_value ?_ hR'
     subst hA
     simp only [dsOf, List.map_cons, List.map_nil, Option.getD_some, putAll, Act.put, List.setIfInBounds_toArray, List.set_cons_zero, List.set_cons_succ]
     go_simp
   case rest =>
    intro s4 w4 hb hv
    have e7_ : s4 7 = _ := hv 7 (by decide)
    simp only [dsOf, List.map_cons, List.map_nil, Option.getD_some, putAll, Act.put, List.setIfInBounds_toArray, List.set_cons_zero, List.set_cons_succ]
    rw [e7_]
    clear hv e7_
    have HG4 := Aside0.mk (grown_trans HG2.out hb.1)
    have HT4 := Aside0.mk (hb.2 HT2.out)
    have HK4 := Aside0.mk (HK2.out.go hb.1)
    replace c0 := grown_cell hb.1 c0 hne0
    replace c1 := grown_cell hb.1 c1 hne0
    clear hb cy
    go_wp2_with (first | (go_at_call 336; refine (HTO.out _ HK4.out.read).mono ?_; rintro e w3 ⟨rfl, hb⟩; have HG3 := Aside0.mk (grown_trans HG4.out (grown_below hb _)); have HT3 := Aside0.mk (HT4.out.below hb); have HK3 := Aside0.mk (HK4.out.below hb); replace c0 := pw_cell_below hb c0; replace c1 := pw_cell_below hb c1; clear hb) | ((with_reducible refine gate_store (t := 2) (p := 77) rfl ?_); obtain ⟨L_, ho_, hv_⟩ := HT3.out; refine store_own (w0 := w) (b := 0) rfl (p := 77) rfl rfl K 0 ho_ ?ha ?hb ?hc ?_; (case ha => omega); (case hb => rfl); (case hc => rfl); intro w8 ho8 hg8 hb8; have HGe := Aside0.mk (grown_trans HG3.out hg8); have HTe := Aside0.mk (show TabI n (leastV n xs) b c w8 from ⟨_, ho8, by rw [HKK.out, ← HXZ.out, HX.out]; exact tab_set hn hv_ HP.out⟩); clear ho_ hv_ ho8 hg8 hb8))
    go_ret
    exact ⟨by rw [← HX.out, HXZ.out]; rfl, HGe.out, HTe.out⟩
  ·have ht' : T < 0 := by omega
   by_cases h1l : L0 = 1
   ·have HXZ : Aside0 (X = 2) := ⟨by rw [hX]; exact leastV_last (by rw [← hTT]; exact ht) (HL0.out ▸ h1l)⟩
    have h1b : ((L0 : Int) == 1) = true := by rw [h1l]; rfl
    clear hTT hX ht h1l
    go_enter Tryz.func204, Tryz.ntmps204
    go_wp2_with (first | (go_at_call 335; rw [← hw1]; clear hw1; refine (HPL.out _).mono ?_; rintro e w2 ⟨rfl, hb⟩; have HG2 := Aside0.mk (grown_trans HG.out (grown_below hb _)); have HT2 := Aside0.mk (HT.out.below hb); have HK2 := Aside0.mk (HK.out.below hb); replace c0 := pw_cell_below hb c0; replace c1 := pw_cell_below hb c1; replace cy := pw_cell_below hb cy; clear hb))
    refine wp_region_g (Gm b (TabI n (leastV n xs) b c)) (fun w => ⟨grown_drew w _, fun h => h.below (Below.refl _ _).drew⟩) (fun _ _ _ => Gm.trans) (fun i => match i with | 0 => fun v _ => v = .pointer (some ⟨w.heap.size, 0, none⟩) | 1 => fun v _ => v = .int .i64 (n : Int) | 2 => fun v _ => v = .int .i64 (p : Int) | 3 => fun v _ => v = .int .i64 (q : Int) | 4 => fun v _ => v = .int .i64 (U : Int) | 5 => fun v _ => v = .int .i64 ((ones U : Nat) : Int) | 6 => fun v _ => v = .int .i64 (L0 : Int) | 7 => fun v _ => v = .int .i64 (L0 : Int) | _ => fun _ _ => True)
     [0, 1, 0, 0, 12, 28, 63, 127] hmx (by kernel_rfl) ?st ?steps ?rest
    case st =>
     intro i v w1_ w2_ hb
     match i with
     | 0 | 1 | 2 | 3 | 4 | 5 | 6 | 7 => exact id
     | n + 8 => exact id
    case steps =>
     refine ⟨?_, ?_, ?_, ?_, ?_, ?_, ?_, ?_, trivial⟩
     ·intro s w_ hb hd hq R hR
      generalize hA : putAll _ 0 s _ = A
      clear hq
      have hR' := hR (.pointer (some ⟨w.heap.size, 0, none⟩)) _ (Gm.refl _ _ _) rfl
      clear hR hd
      refine opGives_value ?_ hR'
      subst hA
      simp only [dsOf, List.map_cons, List.map_nil, Option.getD_some, putAll, Act.put, List.setIfInBounds_toArray, List.set_cons_zero, List.set_cons_succ]
      go_simp
     ·intro s w_ hb hd hq R hR
      generalize hA : putAll _ 0 s _ = A
      have e0 : s 0 = _ := hd 0 (by kernel_rfl)
      clear hq
      have c0 := grown_cell hb.1 c0 hne0
      have hR' := hR (.int .i64 (n : Int)) _ (Gm.refl _ _ _) rfl
      clear hR hd
      refine opGives_value ?_ hR'
      subst hA
      simp only [dsOf, List.map_cons, List.map_nil, Option.getD_some, putAll, Act.put, List.setIfInBounds_toArray, List.set_cons_zero, List.set_cons_succ]
      go_simp
     ·intro s w_ hb hd hq R hR
      generalize hA : putAll _ 0 s _ = A
      clear hq
      have hR' := hR (.int .i64 (p : Int)) _ (Gm.refl _ _ _) rfl
      clear hR hd
      refine opGives_value ?_ hR'
      subst hA
      simp only [dsOf, List.map_cons, List.map_nil, Option.getD_some, putAll, Act.put, List.setIfInBounds_toArray, List.set_cons_zero, List.set_cons_succ]
      go_simp
     ·intro s w_ hb hd hq R hR
      generalize hA : putAll _ 0 s _ = A
      clear hq
      have hR' := hR (.int .i64 (q : Int)) _ (Gm.refl _ _ _) rfl
      clear hR hd
      refine opGives_value ?_ hR'
      subst hA
      simp only [dsOf, List.map_cons, List.map_nil, Option.getD_some, putAll, Act.put, List.setIfInBounds_toArray, List.set_cons_zero, List.set_cons_succ]
      go_simp
     ·intro s w_ hb hd hq R hR
      generalize hA : putAll _ 0 s _ = A
      have e2 : s 2 = _ := hd 2 (by kernel_rfl)
      have e3 : s 3 = _ := hd 3 (by kernel_rfl)
      clear hq
      have hor := HOR.out
      have hR' := hR (.int .i64 (U : Int)) _ (Gm.refl _ _ _) rfl
      clear hR hd
      refine opGives_value ?_ hR'
      subst hA
      simp only [dsOf, List.map_cons, List.map_nil, Option.getD_some, putAll, Act.put, List.setIfInBounds_toArray, List.set_cons_zero, List.set_cons_succ]
      go_simp
     ·intro s w_ hb hd hq R hR
      generalize hA : putAll _ 0 s _ = A
      have e4 : s 4 = _ := hd 4 (by kernel_rfl)
      clear hq
      refine opGives_call (f := 205) (args := #[.int .i64 (U : Int)]) ?_ ?_
      ·subst hA
       clear hR hd
       simp only [dsOf, List.map_cons, List.map_nil, Option.getD_some, putAll, Act.put, List.setIfInBounds_toArray, List.set_cons_zero, List.set_cons_succ]
       go_simp
      clear hA A hd
      refine (specOnes U hU w_).mono ?_
      rintro e w3_ ⟨rfl, hb3⟩
      exact ⟨_, rfl, hR _ _ ⟨grown_below hb3 _, fun h => h.below hb3⟩ rfl⟩
     ·intro s w_ hb hd hq R hR
      generalize hA : putAll _ 0 s _ = A
      have e1 : s 1 = _ := hd 1 (by kernel_rfl)
      have e5 : s 5 = _ := hd 5 (by kernel_rfl)
      clear hq
      have hsb := HSB.out
      have hR' := hR (.int .i64 (L0 : Int)) _ (Gm.refl _ _ _) rfl
      clear hR hd
      refine opGives_value ?_ hR'
      subst hA
      simp only [dsOf, List.map_cons, List.map_nil, Option.getD_some, putAll, Act.put, List.setIfInBounds_toArray, List.set_cons_zero, List.set_cons_succ]
      go_simp
     ·intro s w_ hb hd hq R hR
      generalize hA : putAll _ 0 s _ = A
      have e6 : s 6 = _ := hd 6 (by kernel_rfl)
      clear hq
      have hR' := hR (.int .i64 (L0 : Int)) _ (Gm.refl _ _ _) rfl
      clear hR hd
      refine opGives_value ?_ hR'
      subst hA
      simp only [dsOf, List.map_cons, List.map_nil, Option.getD_some, putAll, Act.put, List.setIfInBounds_toArray, List.set_cons_zero, List.set_cons_succ]
      go_simp
    case rest =>
     intro s4 w4 hb hv
     have e7_ : s4 7 = _ := hv 7 (by decide)
     simp only [dsOf, List.map_cons, List.map_nil, Option.getD_some, putAll, Act.put, List.setIfInBounds_toArray, List.set_cons_zero, List.set_cons_succ]
     rw [e7_]
     clear hv e7_
     have HG4 := Aside0.mk (grown_trans HG2.out hb.1)
     have HT4 := Aside0.mk (hb.2 HT2.out)
     have HK4 := Aside0.mk (HK2.out.go hb.1)
     replace c0 := grown_cell hb.1 c0 hne0
     replace c1 := grown_cell hb.1 c1 hne0
     clear hb cy
     go_wp2_with (first | (go_at_call 336; refine (HTO.out _ HK4.out.read).mono ?_; rintro e w3 ⟨rfl, hb⟩; have HG3 := Aside0.mk (grown_trans HG4.out (grown_below hb _)); have HT3 := Aside0.mk (HT4.out.below hb); have HK3 := Aside0.mk (HK4.out.below hb); replace c0 := pw_cell_below hb c0; replace c1 := pw_cell_below hb c1; clear hb) | ((with_reducible refine gate_store (t := 2) (p := 77) rfl ?_); obtain ⟨L_, ho_, hv_⟩ := HT3.out; refine store_own (w0 := w) (b := 0) rfl (p := 77) rfl rfl K 2 ho_ ?ha ?hb ?hc ?_; (case ha => omega); (case hb => rfl); (case hc => rfl); intro w8 ho8 hg8 hb8; have HGe := Aside0.mk (grown_trans HG3.out hg8); have HTe := Aside0.mk (show TabI n (leastV n xs) b c w8 from ⟨_, ho8, by rw [HKK.out, ← HXZ.out, HX.out]; exact tab_set hn hv_ HP.out⟩); clear ho_ hv_ ho8 hg8 hb8))
     go_ret
     exact ⟨by rw [← HX.out, HXZ.out]; rfl, HGe.out, HTe.out⟩
   ·have HXO : Aside0 (X = leastTo n xs p q n) := ⟨by rw [hX]; exact leastV_open hn hp (by rw [← hTT]; exact ht) (fun h => h1l (HL0.out.trans h))⟩
    have h1b : ((L0 : Int) == 1) = false := by rw [beq_eq_false_iff_ne]; omega
    clear hTT hX ht h1l
    go_enter Tryz.func204, Tryz.ntmps204
    go_wp2_with (first | (go_at_call 335; rw [← hw1]; clear hw1; refine (HPL.out _).mono ?_; rintro e w2 ⟨rfl, hb⟩; have HG2 := Aside0.mk (grown_trans HG.out (grown_below hb _)); have HT2 := Aside0.mk (HT.out.below hb); have HK2 := Aside0.mk (HK.out.below hb); replace c0 := pw_cell_below hb c0; replace c1 := pw_cell_below hb c1; replace cy := pw_cell_below hb cy; clear hb))
    refine wp_region_g (Gm b (TabI n (leastV n xs) b c)) (fun w => ⟨grown_drew w _, fun h => h.below (Below.refl _ _).drew⟩) (fun _ _ _ => Gm.trans) (fun i => match i with | 0 => fun v _ => v = .pointer (some ⟨w.heap.size, 0, none⟩) | 1 => fun v _ => v = .int .i64 (n : Int) | 2 => fun v _ => v = .int .i64 (p : Int) | 3 => fun v _ => v = .int .i64 (q : Int) | 4 => fun v _ => v = .int .i64 (U : Int) | 5 => fun v _ => v = .int .i64 ((ones U : Nat) : Int) | 6 => fun v _ => v = .int .i64 (L0 : Int) | 7 => fun v _ => v = .int .i64 (L0 : Int) | _ => fun _ _ => True)
     [0, 1, 0, 0, 12, 28, 63, 127] hmx (by kernel_rfl) ?st ?steps ?rest
    case st =>
     intro i v w1_ w2_ hb
     match i with
     | 0 | 1 | 2 | 3 | 4 | 5 | 6 | 7 => exact id
     | n + 8 => exact id
    case steps =>
     refine ⟨?_, ?_, ?_, ?_, ?_, ?_, ?_, ?_, trivial⟩
     ·intro s w_ hb hd hq R hR
      generalize hA : putAll _ 0 s _ = A
      clear hq
      have hR' := hR (.pointer (some ⟨w.heap.size, 0, none⟩)) _ (Gm.refl _ _ _) rfl
      clear hR hd
      refine opGives_value ?_ hR'
      subst hA
      simp only [dsOf, List.map_cons, List.map_nil, Option.getD_some, putAll, Act.put, List.setIfInBounds_toArray, List.set_cons_zero, List.set_cons_succ]
      go_simp
     ·intro s w_ hb hd hq R hR
      generalize hA : putAll _ 0 s _ = A
      have e0 : s 0 = _ := hd 0 (by kernel_rfl)
      clear hq
      have c0 := grown_cell hb.1 c0 hne0
      have hR' := hR (.int .i64 (n : Int)) _ (Gm.refl _ _ _) rfl
      clear hR hd
      refine opGives_value ?_ hR'
      subst hA
      simp only [dsOf, List.map_cons, List.map_nil, Option.getD_some, putAll, Act.put, List.setIfInBounds_toArray, List.set_cons_zero, List.set_cons_succ]
      go_simp
     ·intro s w_ hb hd hq R hR
      generalize hA : putAll _ 0 s _ = A
      clear hq
      have hR' := hR (.int .i64 (p : Int)) _ (Gm.refl _ _ _) rfl
      clear hR hd
      refine opGives_value ?_ hR'
      subst hA
      simp only [dsOf, List.map_cons, List.map_nil, Option.getD_some, putAll, Act.put, List.setIfInBounds_toArray, List.set_cons_zero, List.set_cons_succ]
      go_simp
     ·intro s w_ hb hd hq R hR
      generalize hA : putAll _ 0 s _ = A
      clear hq
      have hR' := hR (.int .i64 (q : Int)) _ (Gm.refl _ _ _) rfl
      clear hR hd
      refine opGives_value ?_ hR'
      subst hA
      simp only [dsOf, List.map_cons, List.map_nil, Option.getD_some, putAll, Act.put, List.setIfInBounds_toArray, List.set_cons_zero, List.set_cons_succ]
      go_simp
     ·intro s w_ hb hd hq R hR
      generalize hA : putAll _ 0 s _ = A
      have e2 : s 2 = _ := hd 2 (by kernel_rfl)
      have e3 : s 3 = _ := hd 3 (by kernel_rfl)
      clear hq
      have hor := HOR.out
      have hR' := hR (.int .i64 (U : Int)) _ (Gm.refl _ _ _) rfl
      clear hR hd
      refine opGives_value ?_ hR'
      subst hA
      simp only [dsOf, List.map_cons, List.map_nil, Option.getD_some, putAll, Act.put, List.setIfInBounds_toArray, List.set_cons_zero, List.set_cons_succ]
      go_simp
     ·intro s w_ hb hd hq R hR
      generalize hA : putAll _ 0 s _ = A
      have e4 : s 4 = _ := hd 4 (by kernel_rfl)
      clear hq
      refine opGives_call (f := 205) (args := #[.int .i64 (U : Int)]) ?_ ?_
      ·subst hA
       clear hR hd
       simp only [dsOf, List.map_cons, List.map_nil, Option.getD_some, putAll, Act.put, List.setIfInBounds_toArray, List.set_cons_zero, List.set_cons_succ]
       go_simp
      clear hA A hd
      refine (specOnes U hU w_).mono ?_
      rintro e w3_ ⟨rfl, hb3⟩
      exact ⟨_, rfl, hR _ _ ⟨grown_below hb3 _, fun h => h.below hb3⟩ rfl⟩
     ·intro s w_ hb hd hq R hR
      generalize hA : putAll _ 0 s _ = A
      have e1 : s 1 = _ := hd 1 (by kernel_rfl)
      have e5 : s 5 = _ := hd 5 (by kernel_rfl)
      clear hq
      have hsb := HSB.out
      have hR' := hR (.int .i64 (L0 : Int)) _ (Gm.refl _ _ _) rfl
      clear hR hd
      refine opGives_value ?_ hR'
      subst hA
      simp only [dsOf, List.map_cons, List.map_nil, Option.getD_some, putAll, Act.put, List.setIfInBounds_toArray, List.set_cons_zero, List.set_cons_succ]
      go_simp
     ·intro s w_ hb hd hq R hR
      generalize hA : putAll _ 0 s _ = A
      have e6 : s 6 = _ := hd 6 (by kernel_rfl)
      clear hq
      have hR' := hR (.int .i64 (L0 : Int)) _ (Gm.refl _ _ _) rfl
      clear hR hd
      refine opGives_value ?_ hR'
      subst hA
      simp only [dsOf, List.map_cons, List.map_nil, Option.getD_some, putAll, Act.put, List.setIfInBounds_toArray, List.set_cons_zero, List.set_cons_succ]
      go_simp
    case rest =>
     intro s4 w4 hb hv
     have e7_ : s4 7 = _ := hv 7 (by decide)
     simp only [dsOf, List.map_cons, List.map_nil, Option.getD_some, putAll, Act.put, List.setIfInBounds_toArray, List.set_cons_zero, List.set_cons_succ]
     rw [e7_]
     clear hv e7_
     have HG4 := Aside0.mk (grown_trans HG2.out hb.1)
     have HT4 := Aside0.mk (hb.2 HT2.out)
     have HK4 := Aside0.mk (HK2.out.go hb.1)
     replace c0 := grown_cell hb.1 c0 hne0
     replace c1 := grown_cell hb.1 c1 hne0
     clear hb cy
     go_wp2_with (first | (go_at_call 336; refine (HTO.out _ HK4.out.read).mono ?_; rintro e w3 ⟨rfl, hb⟩; have HG3 := Aside0.mk (grown_trans HG4.out (grown_below hb _)); have HT3 := Aside0.mk (HT4.out.below hb); have HK3 := Aside0.mk (HK4.out.below hb); replace c0 := pw_cell_below hb c0; replace c1 := pw_cell_below hb c1; clear hb))
     go_loopw [11, 12] (fun s11 s12 wr => ∃ iv : Nat, s12 = .int .i64 iv ∧ iv ≤ n ∧ s11 = .int .i64 (leastTo n xs p q iv) ∧ Aside0 (w3.grownBy wr (some b)) ∧ Aside0 (TabI n (leastV n xs) b c wr)) (fun _ s12 _ => n - (intOf s12).toNat)
     case atStart => exact ⟨0, rfl, Nat.zero_le _, rfl, ⟨grown_below (Below.refl _ _) _⟩, HT3⟩
     case round =>
      obtain ⟨iv, rfl, hi, rfl, HGr, HTr⟩ := hrel
      have c0 := grown_cell HGr.out c0 hne0
      have c1 := grown_cell HGr.out c1 hne0
      have HKr := Aside0.mk (HK3.out.go HGr.out)
      have HGw := Aside0.mk (grown_trans HG3.out HGr.out)
      by_cases hlt : iv < n
      ·have hsh := pow_wrap iv (by omega)
       have hV := pow_lt64 (v := iv) (by omega)
       have hor := HOR.out
       have HMS := Aside0.mk (fun h : (p ||| q).testBit iv = true => leastTo_miss (n := n) (xs := xs) h)
       have HHT := Aside0.mk (fun h : (p ||| q).testBit iv = false => leastTo_hit (n := n) (xs := xs) h)
       have HAP := Aside0.mk (and_pow (p ||| q) iv)
       have hpb := Nat.two_pow_pos iv
       have HLP := Aside0.mk (fun h => lefts_p (v := iv) hn HP.out hlt h)
       have HLQ := Aside0.mk (fun h => lefts_q (v := iv) hn HP.out hlt h)
       have HPY := Aside0.mk (fun h => Pl.yes (v := iv) HP.out hlt h)
       have HPN := Aside0.mk (fun h => Pl.no (v := iv) HP.out hlt h)
       have HNA : Aside0 (leastAt n xs p q iv = leastV n xs (p ||| 2 ^ iv) q + leastV n xs p (q ||| 2 ^ iv)) := ⟨rfl⟩
       have hB0 := leastTo_bd n xs p q iv
       obtain ⟨V, hVV⟩ : ∃ V, V = 2 ^ iv := ⟨_, rfl⟩
       rw [← hVV] at hsh hV HAP hpb HLP HLQ HPY HPN HNA
       clear hVV
       rw [← HUU.out] at HAP HMS HHT HLP HLQ HPY HPN
       have hand := and_i64 U V (lt_big hU) (lt_big hV)
       cases hbit : U.testBit iv with
       | true =>
        have HM := Aside0.mk (HMS.out hbit)
        have hz : U &&& V = V := by have := HAP.out; rw [hbit, if_pos rfl] at this; exact this
        rw [hz] at hand
        have hne := ne_zero_nat hpb
        clear hz hbit
        go_wp2
        go_roundw
        case rel => exact ⟨iv + 1, by go_num, by omega, by rw [HM.out], HGr, HTr⟩
        case measure => simp [intOf]; omega
       | false =>
        have HM := Aside0.mk (HHT.out hbit)
        have hz : U &&& V = 0 := by have := HAP.out; rw [hbit, if_neg (by decide)] at this; exact this
        rw [hz] at hand
        have hl1 := HLP.out hbit
        have hl2 := HLQ.out hbit
        have hp1 := HPY.out hbit
        have hp2 := HPN.out hbit
        have ho1 := or_i64 p V (lt_big hpq.1) (lt_big hV)
        have ho2 := or_i64 q V (lt_big hpq.2) (lt_big hV)
        have IH1 := Aside0.mk (fun W hk hT => ih (p ||| V) q W (lt_of_succ hl1) hp1 hk hT)
        have IH2 := Aside0.mk (fun W hk hT => ih p (q ||| V) W (lt_of_succ hl2) hp2 hk hT)
        have hx1 := leastV_bd n xs (p ||| V) q
        have hx2 := leastV_bd n xs p (q ||| V)
        obtain ⟨p1, hp1'⟩ : ∃ p1, p1 = p ||| V := ⟨_, rfl⟩
        obtain ⟨q1, hq1'⟩ : ∃ q1, q1 = q ||| V := ⟨_, rfl⟩
        rw [← hp1'] at ho1 IH1 hx1 HNA
        rw [← hq1'] at ho2 IH2 hx2 HNA
        obtain ⟨x1, hx1'⟩ : ∃ x1, x1 = leastV n xs p1 q := ⟨_, rfl⟩
        obtain ⟨x2, hx2'⟩ : ∃ x2, x2 = leastV n xs p q1 := ⟨_, rfl⟩
        rw [← hx1'] at hx1 IH1 HNA
        rw [← hx2'] at hx2 IH2 HNA
        have HSM := Aside0.mk (sum_wrap hx1.1 hx1.2 hx2.1 hx2.2)
        have HO1 := Aside0.mk ho1
        have HO2 := Aside0.mk ho2
        clear hp1' hq1' hx1' hx2' hz hbit hl1 hl2 hp1 hp2 ho1 ho2 hx1 hx2
        obtain ⟨B0, hB0'⟩ : ∃ B0, B0 = leastTo n xs p q iv := ⟨_, rfl⟩
        rw [← hB0'] at hB0 HM ⊢
        have HB0 := Aside0.mk hB0
        clear hB0' hB0
        go_wp2
        refine wp_region_g (Gm b (TabI n (leastV n xs) b c)) (fun w => ⟨grown_drew w _, fun h => h.below (Below.refl _ _).drew⟩) (fun _ _ _ => Gm.trans) (fun i => match i with | 0 => fun v _ => v = .int .i64 B0 | 1 => fun v _ => v = .agg #[.int .i64 (n : Int), .slice A1 xs.length d1] | 2 => fun v _ => v = .int .i64 (p : Int) | 3 => fun v _ => v = .int .i64 (V : Int) | 4 => fun v _ => v = .int .i64 ((p1 : Nat) : Int) | 5 => fun v _ => v = .int .i64 (q : Int) | 6 => fun v _ => v = .slice (some ⟨b, 0, none⟩) 4096 c | 7 => fun v _ => v = .int .i64 x1 | 8 => fun v _ => v = .agg #[.int .i64 (n : Int), .slice A1 xs.length d1] | 9 => fun v _ => v = .int .i64 (p : Int) | 10 => fun v _ => v = .int .i64 (q : Int) | 11 => fun v _ => v = .int .i64 (V : Int) | 12 => fun v _ => v = .int .i64 ((q1 : Nat) : Int) | 13 => fun v _ => v = .slice (some ⟨b, 0, none⟩) 4096 c | 14 => fun v _ => v = .int .i64 x2 | 15 => fun v _ => v = .int .i64 (x1 + x2) | 16 => fun v _ => v = .int .i64 (min B0 (x1 + x2)) | 17 => fun v _ => v = .int .i64 (min B0 (x1 + x2)) | _ => fun _ _ => True)
         [0, 0, 0, 0, 12, 0, 0, 126, 0, 0, 0, 0, 3072, 0, 16382, 32766, 65535, 131071] hmx (by kernel_rfl) ?st ?steps ?rest
        case st =>
         intro i v w1_ w2_ hb
         match i with
         | 0 | 1 | 2 | 3 | 4 | 5 | 6 | 7 | 8 | 9 | 10 | 11 | 12 | 13 | 14 | 15 | 16 | 17 => exact id
         | n + 18 => exact id
        case steps =>
         refine ⟨?_, ?_, ?_, ?_, ?_, ?_, ?_, ?_, ?_, ?_, ?_, ?_, ?_, ?_, ?_, ?_, ?_, ?_, trivial⟩
         ·intro s w_ hb hd hq R hR
          generalize hA : putAll _ 0 s _ = A
          have q17 : s 17 = .int .i64 B0 := hq 17 (by kernel_rfl)
          clear hq
          have hR' := hR (.int .i64 B0) _ (Gm.refl _ _ _) rfl
          clear hR hd
          refine opGives_value ?_ hR'
          subst hA
          simp only [dsOf, List.map_cons, List.map_nil, Option.getD_some, putAll, Act.put, List.setIfInBounds_toArray, List.set_cons_zero, List.set_cons_succ]
          go_simp
         ·intro s w_ hb hd hq R hR
          generalize hA : putAll _ 0 s _ = A
          clear hq
          have c0 := grown_cell hb.1 c0 hne0
          have c1 := grown_cell hb.1 c1 hne0
          have hR' := hR (.agg #[.int .i64 (n : Int), .slice A1 xs.length d1]) _ (Gm.refl _ _ _) rfl
          clear hR hd
          refine opGives_value ?_ hR'
          subst hA
          simp only [dsOf, List.map_cons, List.map_nil, Option.getD_some, putAll, Act.put, List.setIfInBounds_toArray, List.set_cons_zero, List.set_cons_succ]
          go_simp
         ·intro s w_ hb hd hq R hR
          generalize hA : putAll _ 0 s _ = A
          clear hq
          have hR' := hR (.int .i64 (p : Int)) _ (Gm.refl _ _ _) rfl
          clear hR hd
          refine opGives_value ?_ hR'
          subst hA
          simp only [dsOf, List.map_cons, List.map_nil, Option.getD_some, putAll, Act.put, List.setIfInBounds_toArray, List.set_cons_zero, List.set_cons_succ]
          go_simp
         ·intro s w_ hb hd hq R hR
          generalize hA : putAll _ 0 s _ = A
          clear hq
          have hR' := hR (.int .i64 (V : Int)) _ (Gm.refl _ _ _) rfl
          clear hR hd
          refine opGives_value ?_ hR'
          subst hA
          simp only [dsOf, List.map_cons, List.map_nil, Option.getD_some, putAll, Act.put, List.setIfInBounds_toArray, List.set_cons_zero, List.set_cons_succ]
          go_simp
         ·intro s w_ hb hd hq R hR
          generalize hA : putAll _ 0 s _ = A
          have e2 : s 2 = _ := hd 2 (by kernel_rfl)
          have e3 : s 3 = _ := hd 3 (by kernel_rfl)
          clear hq
          have ho1 := HO1.out
          have hR' := hR (.int .i64 ((p1 : Nat) : Int)) _ (Gm.refl _ _ _) rfl
          clear hR hd
          refine opGives_value ?_ hR'
          subst hA
          simp only [dsOf, List.map_cons, List.map_nil, Option.getD_some, putAll, Act.put, List.setIfInBounds_toArray, List.set_cons_zero, List.set_cons_succ]
          go_simp
         ·intro s w_ hb hd hq R hR
          generalize hA : putAll _ 0 s _ = A
          clear hq
          have hR' := hR (.int .i64 (q : Int)) _ (Gm.refl _ _ _) rfl
          clear hR hd
          refine opGives_value ?_ hR'
          subst hA
          simp only [dsOf, List.map_cons, List.map_nil, Option.getD_some, putAll, Act.put, List.setIfInBounds_toArray, List.set_cons_zero, List.set_cons_succ]
          go_simp
         ·intro s w_ hb hd hq R hR
          generalize hA : putAll _ 0 s _ = A
          clear hq
          have hR' := hR (.slice (some ⟨b, 0, none⟩) 4096 c) _ (Gm.refl _ _ _) rfl
          clear hR hd
          refine opGives_value ?_ hR'
          subst hA
          simp only [dsOf, List.map_cons, List.map_nil, Option.getD_some, putAll, Act.put, List.setIfInBounds_toArray, List.set_cons_zero, List.set_cons_succ]
          go_simp
         ·intro s w_ hb hd hq R hR
          generalize hA : putAll _ 0 s _ = A
          have e1 : s 1 = _ := hd 1 (by kernel_rfl)
          have e4 : s 4 = _ := hd 4 (by kernel_rfl)
          have e5 : s 5 = _ := hd 5 (by kernel_rfl)
          have e6 : s 6 = _ := hd 6 (by kernel_rfl)
          clear hq
          refine opGives_call (f := 204) (args := #[.agg #[.int .i64 (n : Int), .slice A1 xs.length d1], .int .i64 ((p1 : Nat) : Int), .int .i64 ((q : Nat) : Int), .slice (some ⟨b, 0, none⟩) 4096 c]) ?_ ?_
          ·subst hA
           clear hR hd
           simp only [dsOf, List.map_cons, List.map_nil, Option.getD_some, putAll, Act.put, List.setIfInBounds_toArray, List.set_cons_zero, List.set_cons_succ]
           go_simp
          clear hA A hd
          refine (IH1.out w_ (HKr.out.go hb.1) (hb.2 HTr.out)).mono ?_
          rintro e w3_ ⟨rfl, hg, hT⟩
          exact ⟨_, rfl, hR _ _ ⟨hg, fun _ => hT⟩ rfl⟩
         ·intro s w_ hb hd hq R hR
          generalize hA : putAll _ 0 s _ = A
          clear hq
          have c0 := grown_cell hb.1 c0 hne0
          have c1 := grown_cell hb.1 c1 hne0
          have hR' := hR (.agg #[.int .i64 (n : Int), .slice A1 xs.length d1]) _ (Gm.refl _ _ _) rfl
          clear hR hd
          refine opGives_value ?_ hR'
          subst hA
          simp only [dsOf, List.map_cons, List.map_nil, Option.getD_some, putAll, Act.put, List.setIfInBounds_toArray, List.set_cons_zero, List.set_cons_succ]
          go_simp
         ·intro s w_ hb hd hq R hR
          generalize hA : putAll _ 0 s _ = A
          clear hq
          have hR' := hR (.int .i64 (p : Int)) _ (Gm.refl _ _ _) rfl
          clear hR hd
          refine opGives_value ?_ hR'
          subst hA
          simp only [dsOf, List.map_cons, List.map_nil, Option.getD_some, putAll, Act.put, List.setIfInBounds_toArray, List.set_cons_zero, List.set_cons_succ]
          go_simp
         ·intro s w_ hb hd hq R hR
          generalize hA : putAll _ 0 s _ = A
          clear hq
          have hR' := hR (.int .i64 (q : Int)) _ (Gm.refl _ _ _) rfl
          clear hR hd
          refine opGives_value ?_ hR'
          subst hA
          simp only [dsOf, List.map_cons, List.map_nil, Option.getD_some, putAll, Act.put, List.setIfInBounds_toArray, List.set_cons_zero, List.set_cons_succ]
          go_simp
         ·intro s w_ hb hd hq R hR
          generalize hA : putAll _ 0 s _ = A
          clear hq
          have hR' := hR (.int .i64 (V : Int)) _ (Gm.refl _ _ _) rfl
          clear hR hd
          refine opGives_value ?_ hR'
          subst hA
          simp only [dsOf, List.map_cons, List.map_nil, Option.getD_some, putAll, Act.put, List.setIfInBounds_toArray, List.set_cons_zero, List.set_cons_succ]
          go_simp
         ·intro s w_ hb hd hq R hR
          generalize hA : putAll _ 0 s _ = A
          have e10 : s 10 = _ := hd 10 (by kernel_rfl)
          have e11 : s 11 = _ := hd 11 (by kernel_rfl)
          clear hq
          have ho2 := HO2.out
          have hR' := hR (.int .i64 ((q1 : Nat) : Int)) _ (Gm.refl _ _ _) rfl
          clear hR hd
          refine opGives_value ?_ hR'
          subst hA
          simp only [dsOf, List.map_cons, List.map_nil, Option.getD_some, putAll, Act.put, List.setIfInBounds_toArray, List.set_cons_zero, List.set_cons_succ]
          go_simp
         ·intro s w_ hb hd hq R hR
          generalize hA : putAll _ 0 s _ = A
          clear hq
          have hR' := hR (.slice (some ⟨b, 0, none⟩) 4096 c) _ (Gm.refl _ _ _) rfl
          clear hR hd
          refine opGives_value ?_ hR'
          subst hA
          simp only [dsOf, List.map_cons, List.map_nil, Option.getD_some, putAll, Act.put, List.setIfInBounds_toArray, List.set_cons_zero, List.set_cons_succ]
          go_simp
         ·intro s w_ hb hd hq R hR
          generalize hA : putAll _ 0 s _ = A
          have e8 : s 8 = _ := hd 8 (by kernel_rfl)
          have e9 : s 9 = _ := hd 9 (by kernel_rfl)
          have e12 : s 12 = _ := hd 12 (by kernel_rfl)
          have e13 : s 13 = _ := hd 13 (by kernel_rfl)
          clear hq
          refine opGives_call (f := 204) (args := #[.agg #[.int .i64 (n : Int), .slice A1 xs.length d1], .int .i64 ((p : Nat) : Int), .int .i64 ((q1 : Nat) : Int), .slice (some ⟨b, 0, none⟩) 4096 c]) ?_ ?_
          ·subst hA
           clear hR hd
           simp only [dsOf, List.map_cons, List.map_nil, Option.getD_some, putAll, Act.put, List.setIfInBounds_toArray, List.set_cons_zero, List.set_cons_succ]
           go_simp
          clear hA A hd
          refine (IH2.out w_ (HKr.out.go hb.1) (hb.2 HTr.out)).mono ?_
          rintro e w3_ ⟨rfl, hg, hT⟩
          exact ⟨_, rfl, hR _ _ ⟨hg, fun _ => hT⟩ rfl⟩
         ·intro s w_ hb hd hq R hR
          generalize hA : putAll _ 0 s _ = A
          have e7 : s 7 = _ := hd 7 (by kernel_rfl)
          have e14 : s 14 = _ := hd 14 (by kernel_rfl)
          clear hq
          have hsm := HSM.out
          have hR' := hR (.int .i64 (x1 + x2)) _ (Gm.refl _ _ _) rfl
          clear hR hd
          refine opGives_value ?_ hR'
          subst hA
          simp only [dsOf, List.map_cons, List.map_nil, Option.getD_some, putAll, Act.put, List.setIfInBounds_toArray, List.set_cons_zero, List.set_cons_succ]
          go_simp
         ·intro s w_ hb hd hq R hR
          generalize hA : putAll _ 0 s _ = A
          have e0 : s 0 = _ := hd 0 (by kernel_rfl)
          have e15 : s 15 = _ := hd 15 (by kernel_rfl)
          clear hq
          have hmn := min_if B0 (x1 + x2)
          have hR' := hR (.int .i64 (min B0 (x1 + x2))) _ (Gm.refl _ _ _) rfl
          clear hR hd
          refine opGives_value ?_ hR'
          subst hA
          simp only [dsOf, List.map_cons, List.map_nil, Option.getD_some, putAll, Act.put, List.setIfInBounds_toArray, List.set_cons_zero, List.set_cons_succ]
          go_simp
         ·intro s w_ hb hd hq R hR
          generalize hA : putAll _ 0 s _ = A
          have e16 : s 16 = _ := hd 16 (by kernel_rfl)
          clear hq
          have hR' := hR (.int .i64 (min B0 (x1 + x2))) _ (Gm.refl _ _ _) rfl
          clear hR hd
          refine opGives_value ?_ hR'
          subst hA
          simp only [dsOf, List.map_cons, List.map_nil, Option.getD_some, putAll, Act.put, List.setIfInBounds_toArray, List.set_cons_zero, List.set_cons_succ]
          go_simp
        case rest =>
         intro s9 w9 hb hv
         have e17_ : s9 17 = _ := hv 17 (by decide)
         simp only [dsOf, List.map_cons, List.map_nil, Option.getD_some, putAll, Act.put, List.setIfInBounds_toArray, List.set_cons_zero, List.set_cons_succ]
         rw [e17_]
         clear hv e17_
         have HGn := Aside0.mk (grown_trans HGr.out hb.1)
         have HTn := Aside0.mk (hb.2 HTr.out)
         clear hb
         go_wp2
         go_roundw
         case rel => exact ⟨iv + 1, by go_num, by omega, by rw [HM.out, HNA.out], HGn, HTn⟩
         case measure => simp [intOf]; omega
      ·have e : iv = n := by omega
       have HXE : Aside0 (leastTo n xs p q iv = X) := ⟨by rw [HXO.out, e]⟩
       rw [HXE.out]
       clear e
       go_wp2_with (first | ((with_reducible refine gate_store (t := 2) (p := 77) rfl ?_); obtain ⟨L_, ho_, hv_⟩ := HTr.out; refine store_own (w0 := w) (b := 0) rfl (p := 77) rfl rfl K X ho_ ?ha ?hb ?hc ?_; (case ha => omega); (case hb => rfl); (case hc => rfl); intro w8 ho8 hg8 hb8; have HGe := Aside0.mk (grown_trans HGw.out hg8); have HTe := Aside0.mk (show TabI n (leastV n xs) b c w8 from ⟨_, ho8, by rw [HKK.out, HX.out]; exact tab_set hn hv_ HP.out⟩); clear ho_ hv_ ho8 hg8 hb8))
       go_ret
       exact ⟨by rw [HX.out]; rfl, HGe.out, HTe.out⟩
theorem specLeast (n : Nat) (hn : n ≤ 6) (ku : Value) (xs : List Int) (b c : Nat) (f : Nat) : ∀ p q w, lefts n p q < f → Pl n p q → RdK b w ku xs → TabI n (leastV n xs) b c w →
  Calls Tryz.prog 204 #[cx n ku, .int .i64 (p : Nat), .int .i64 (q : Nat), .slice (some ⟨b, 0, none⟩) 4096 c] w fun e w' => e = .returned (.int .i64 (leastV n xs p q)) ∧ w.grownBy w' (some b) ∧ TabI n (leastV n xs) b c w' := by
 induction f with
 | zero => exact fun p q w hl => absurd hl (Nat.not_lt_zero _)
 | succ f ih => exact fun p q w hl hp hk hT => specLeastS n hn ku xs b c p q w (fun p' q' w hl' => ih p' q' w (by omega)) hp hk hT
end Go.Proofs.YtkggchklmpmgpaaGreat.H
