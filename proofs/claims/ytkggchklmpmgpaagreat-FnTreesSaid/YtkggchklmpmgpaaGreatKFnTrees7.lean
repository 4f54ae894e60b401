/- Least numbers of evaders, of the program: by a question. Least numbers of evaders, of the program. -/
import Derived.Test.YtkggchklmpmgpaaGreatKFnTrees1
import Derived.Test.YtkggchklmpmgpaaGreatKFnTrees2
import Derived.Test.YtkggchklmpmgpaaGreatKFnTrees3
import Derived.Test.YtkggchklmpmgpaaGreatKFnTrees4
import Derived.Test.YtkggchklmpmgpaaGreatKFnTrees5
import Derived.Test.YtkggchklmpmgpaaGreatKFnTrees6

namespace Go.Proofs.YtkggchklmpmgpaaGreat.H
open Go.RowKit Go.Proofs.YtkggchklmpmgpaaGreatW.PrintWords Go.Proofs.YtkggchklmpmgpaaGreatW.PrintLast
set_option linter.unusedVariables false
set_option linter.unusedSimpArgs false
theorem frees_full : ∀ n, n ≤ 6 → ∀ m, m < 2 ^ n → (decide ((frees m n).length = 0) = decide (m + 1 = 2 ^ n)) := by decide +kernel
theorem full_lefts {n p q a : Nat} (hn : n ≤ 6) (h : Pl n p q) (ha : a = p ||| q) : lefts n p q = 0 ↔ a + 1 = 2 ^ n := by
 have := frees_full n hn (p ||| q) (Nat.or_lt_two_pow h.hp h.hq)
 rw [← ha] at this
 unfold lefts
 rw [← ha]
 constructor
 ·intro h0; exact of_decide_eq_true (by rw [← this]; exact decide_eq_true h0)
 ·intro h0; exact of_decide_eq_true (by rw [this]; exact decide_eq_true h0)
theorem full_eq {a N : Nat} (h : a + 1 = N) : ((a : Int) == (N : Int) - 1) = true := by rw [beq_iff_eq]; omega
theorem full_ne {a N : Nat} (h : ¬ a + 1 = N) : ((a : Int) == (N : Int) - 1) = false := by rw [beq_eq_false_iff_ne]; omega
set_option maxRecDepth 100000 in
set_option maxHeartbeats 4000000 in
theorem evadersByS (n : Nat) (ku : Value) (xs : List Int) (hcx : Cx n xs) (b : Nat) (p q a vq : Nat) (w : World) (ha : a = p ||| q) (hv : vq < n) (hf : a.testBit vq = false)
  (ih : ∀ p' q' a' w, a' = p' ||| q' → lefts n p' q' < lefts n p q → Pl n p' q' → RdK b w ku xs → MapI n (leastV n xs) b w →
   Calls Tryz.prog 202 #[cx n ku, .agg #[.int .i64 (a' : Nat), .int .i64 (p' : Nat)], .map (some b)] w fun e w' => e = .returned (.int .i64 (leastV n xs p' q')) ∧ w.grownBy w' (some b) ∧ MapI n (leastV n xs) b w')
  (hp : Pl n p q) (hk : RdK b w ku xs) (hT : MapI n (leastV n xs) b w) :
  Calls Tryz.prog 201 #[cx n ku, .agg #[.int .i64 (a : Nat), .int .i64 (p : Nat)], .int .i64 (vq : Nat), .map (some b)] w fun e w' => e = .returned (.int .i64 (byV n xs p q vq)) ∧ w.grownBy w' (some b) ∧ MapI n (leastV n xs) b w' := by
 have hn := hcx.hi
 have hpq := hp.lt hn
 have hal : a < 64 := by rw [ha]; exact or_lt64 hpq.1 hpq.2
 obtain ⟨wb, hwb⟩ : ∃ wb, wb = w.alloc (.cells #[.int .i64 n, ku] 26) := ⟨_, rfl⟩
 obtain ⟨w2, hw2⟩ : ∃ w2, w2 = wb.alloc (.cells #[.int .i64 (a : Nat), .int .i64 (p : Nat)] 148) := ⟨_, rfl⟩
 have hsb : wb.heap.size = w.heap.size + 1 := by rw [hwb]; simp
 have hBb : Below w.heap.size w wb := by rw [hwb]; exact Below.alloc (Below.refl _ _) (Nat.le_refl _) _
 have hB1 : Below wb.heap.size wb w2 := by rw [hw2]; exact Below.alloc (Below.refl _ _) (Nat.le_refl _) _
 have hB : Below w.heap.size w w2 := hBb.trans (hB1.mono hBb.size)
 have hbl := hT.lt
 have c0 : w2.cell? ⟨w.heap.size, 0, none⟩ = some (.int .i64 n) := pw_cell_below hB1 (by rw [hwb]; simp)
 have c1 : w2.cell? ⟨w.heap.size, 1, none⟩ = some ku := pw_cell_below hB1 (by rw [hwb]; simp)
 have s0 : w2.cell? ⟨w.heap.size + 1, 0, none⟩ = some (.int .i64 (a : Nat)) := by rw [hw2, ← hsb]; exact new_cell _ _ _ 0 _ rfl
 have s1 : w2.cell? ⟨w.heap.size + 1, 1, none⟩ = some (.int .i64 (p : Nat)) := by rw [hw2, ← hsb]; exact new_cell _ _ _ 1 _ rfl
 have hne0 : w.heap.size ≠ b := by omega
 have hne1 : w.heap.size + 1 ≠ b := by omega
 have HG := Aside0.mk (grown_below hB (some b))
 have HK := Aside0.mk (hk.below hB)
 have HT := Aside0.mk (hT.below hB)
 have HP := Aside0.mk hp
 have HA := Aside0.mk ha
 have hmx : Tryz.prog.follows .mixedOrders = true := by kernel_rfl
 obtain ⟨A1, d1, rfl, -⟩ := id hk.read
 obtain ⟨N, hN⟩ : ∃ N : Nat, N = 2 ^ n := ⟨_, rfl⟩
 have HN := Aside0.mk hN
 have HFU : Aside0 (∀ (u : Value) (W : World), Calls Tryz.prog 153 #[cx n u] W fun e w' => e = .returned (.int .i64 ((N : Int) - 1)) ∧ Below W.heap.size W w') := ⟨fun u W => by rw [hN]; exact full n hn _ W⟩
 have hsh := pow_wrap vq (by omega)
 have hsh' := pow_wrap' vq (by omega)
 have hV := pow_lt64 (v := vq) (by omega)
 have hf' := hf
 rw [ha] at hf'
 have hl1 := lefts_p hn hp hv hf'
 have hl2 := lefts_q hn hp hv hf'
 have hp1 := hp.yes hv hf'
 have hp2 := hp.no hv hf'
 have hop := or_p p q vq
 have hoq := or_q p q vq
 have hBY : byV n xs p q vq = if lefts n p q = 1 then (if 0 ≤ toldV n xs p q then 0 else 2) else leastAt n xs p q vq := rfl
 have hAT : leastAt n xs p q vq = leastV n xs (p ||| 2 ^ vq) q + leastV n xs p (q ||| 2 ^ vq) := rfl
 obtain ⟨V, hVV⟩ : ∃ V, V = 2 ^ vq := ⟨_, rfl⟩
 rw [← hVV] at hsh hsh' hV hl1 hl2 hp1 hp2 hop hoq hAT
 clear hVV
 have ho1 := or_i64 a V (lt_big hal) (lt_big hV)
 have ho2 := or_i64 p V (lt_big hpq.1) (lt_big hV)
 have hfl := full_lefts hn hp2 (a := a ||| V) (by rw [hoq, ha])
 rw [← hN] at hfl
 have hoq' : a ||| V = p ||| (q ||| V) := by rw [hoq, ha]
 have hop' : a ||| V = (p ||| V) ||| q := by rw [hop, ha]
 have IH1 := Aside0.mk (fun W hk hT => ih (p ||| V) q (a ||| V) W hop' (lt_of_succ hl1) hp1 hk hT)
 have IH2 := Aside0.mk (fun W hk hT => ih p (q ||| V) (a ||| V) W hoq' (lt_of_succ hl2) hp2 hk hT)
 have hx1 := leastV_bd n xs (p ||| V) q
 have hx2 := leastV_bd n xs p (q ||| V)
 obtain ⟨p1, hp1'⟩ : ∃ p1, p1 = p ||| V := ⟨_, rfl⟩
 obtain ⟨q1, hq1'⟩ : ∃ q1, q1 = q ||| V := ⟨_, rfl⟩
 obtain ⟨a1, ha1'⟩ : ∃ a1, a1 = a ||| V := ⟨_, rfl⟩
 have ha1l : a1 < 64 := by rw [ha1']; exact or_lt64 hal hV
 rw [← hp1'] at ho2 IH1 hx1 hAT
 rw [← hq1'] at IH2 hx2 hAT hfl hl2
 rw [← ha1'] at ho1 IH1 IH2 hfl
 obtain ⟨x1, hx1'⟩ : ∃ x1, x1 = leastV n xs p1 q := ⟨_, rfl⟩
 obtain ⟨x2, hx2'⟩ : ∃ x2, x2 = leastV n xs p q1 := ⟨_, rfl⟩
 rw [← hx1'] at hx1 IH1 hAT
 rw [← hx2'] at hx2 IH2 hAT
 have HSM := Aside0.mk (sum_wrap hx2.1 hx2.2 hx1.1 hx1.2)
 have HO1 := Aside0.mk ho1
 have HO2 := Aside0.mk ho2
 have HSH := Aside0.mk hsh'
 obtain ⟨T, hTT⟩ : ∃ T, T = toldV n xs p q := ⟨_, rfl⟩
 have hTB := toldB_toldV (xs := xs) hp
 rw [← ha, ← hTT] at hTB
 rw [← hTT] at hBY
 have HTO := Aside0.mk (fun W hr => isTold n (.slice A1 xs.length d1) xs a p hal hpq.1 W hr hcx)
 rw [hTB] at HTO
 subst hwb
 by_cases hlast : lefts n p q = 1
 ·have hfull := full_eq (hfl.1 (by omega))
  rw [if_pos hlast] at hBY
  by_cases ht : 0 ≤ T
  ·rw [decide_eq_true ht] at HTO
   rw [if_pos ht] at hBY
   have HBY := Aside0.mk hBY
   clear hk hT hB hsb hBb hB1 ha hsh hsh' hf hf' hl1 hl2 hp1 hp2 hop hoq hop' hoq' hAT ho1 ho2 hfl hx1 hx2 hp1' hq1' ha1' hx1' hx2' hTT hTB hlast hBY ht hN
   go_enter Tryz.func201, Tryz.ntmps201
   go_wp2
   rw [← hw2]
   clear hw2
   refine wp_region_g Bl (fun w => (Below.refl _ w).drew) (fun _ _ _ => Bl.trans) (fun i => match i with | 0 => fun v _ => v = .pointer (some ⟨w.heap.size + 1, 0, none⟩) | 1 => fun v _ => v = .int .i64 (a : Int) | 2 => fun v _ => v = .int .i64 (vq : Int) | 3 => fun v _ => v = .int .i64 (V : Int) | 4 => fun v _ => v = .int .i64 (a1 : Int) | 5 => fun v _ => v = .int .i64 (a1 : Int) | _ => fun _ _ => True)
    [0, 1, 0, 4, 15, 31] hmx (by kernel_rfl) ?st ?steps ?rest
   case st =>
    intro i v w1_ w2_ hb
    match i with
    | 0 | 1 | 2 | 3 | 4 | 5 => exact id
    | n + 6 => exact id
   case steps =>
    refine ⟨?_, ?_, ?_, ?_, ?_, ?_, trivial⟩
    ·intro s w_ hb hd hq R hR
     generalize hA : putAll _ 0 s _ = A
     clear hq
     have hR' := hR (.pointer (some ⟨w.heap.size + 1, 0, none⟩)) _ (Below.refl _ _) rfl
     clear hR hd
     refine opGives_value ?_ hR'
     subst hA
     simp only [dsOf, List.map_cons, List.map_nil, Option.getD_some, putAll, Act.put, List.setIfInBounds_toArray, List.set_cons_zero, List.set_cons_succ]
     go_simp
    ·intro s w_ hb hd hq R hR
     generalize hA : putAll _ 0 s _ = A
     have e0 : s 0 = _ := hd 0 (by kernel_rfl)
     clear hq
     have s0 := pw_cell_below hb s0
     have hR' := hR (.int .i64 (a : Int)) _ (Below.refl _ _) rfl
     clear hR hd
     refine opGives_value ?_ hR'
     subst hA
     simp only [dsOf, List.map_cons, List.map_nil, Option.getD_some, putAll, Act.put, List.setIfInBounds_toArray, List.set_cons_zero, List.set_cons_succ]
     go_simp
    ·intro s w_ hb hd hq R hR
     generalize hA : putAll _ 0 s _ = A
     clear hq
     have hR' := hR (.int .i64 (vq : Int)) _ (Below.refl _ _) rfl
     clear hR hd
     refine opGives_value ?_ hR'
     subst hA
     simp only [dsOf, List.map_cons, List.map_nil, Option.getD_some, putAll, Act.put, List.setIfInBounds_toArray, List.set_cons_zero, List.set_cons_succ]
     go_simp
    ·intro s w_ hb hd hq R hR
     generalize hA : putAll _ 0 s _ = A
     have e2 : s 2 = _ := hd 2 (by kernel_rfl)
     clear hq
     have hsh := HSH.out
     have hR' := hR (.int .i64 (V : Int)) _ (Below.refl _ _) rfl
     clear hR hd
     refine opGives_value ?_ hR'
     subst hA
     simp only [dsOf, List.map_cons, List.map_nil, Option.getD_some, putAll, Act.put, List.setIfInBounds_toArray, List.set_cons_zero, List.set_cons_succ]
     go_simp
    ·intro s w_ hb hd hq R hR
     generalize hA : putAll _ 0 s _ = A
     have e1 : s 1 = _ := hd 1 (by kernel_rfl)
     have e3 : s 3 = _ := hd 3 (by kernel_rfl)
     clear hq
     have ho1 := HO1.out
     have hR' := hR (.int .i64 (a1 : Int)) _ (Below.refl _ _) rfl
     clear hR hd
     refine opGives_value ?_ hR'
     subst hA
     simp only [dsOf, List.map_cons, List.map_nil, Option.getD_some, putAll, Act.put, List.setIfInBounds_toArray, List.set_cons_zero, List.set_cons_succ]
     go_simp
    ·intro s w_ hb hd hq R hR
     generalize hA : putAll _ 0 s _ = A
     have e4 : s 4 = _ := hd 4 (by kernel_rfl)
     clear hq
     have hR' := hR (.int .i64 (a1 : Int)) _ (Below.refl _ _) rfl
     clear hR hd
     refine opGives_value ?_ hR'
     subst hA
     simp only [dsOf, List.map_cons, List.map_nil, Option.getD_some, putAll, Act.put, List.setIfInBounds_toArray, List.set_cons_zero, List.set_cons_succ]
     go_simp
   case rest =>
    intro s4 w4 hb hv
    have e5_ : s4 5 = _ := hv 5 (by decide)
    simp only [dsOf, List.map_cons, List.map_nil, Option.getD_some, putAll, Act.put, List.setIfInBounds_toArray, List.set_cons_zero, List.set_cons_succ]
    rw [e5_]
    clear hv e5_
    have HG4 := Aside0.mk (grown_trans HG.out (grown_below hb _))
    have HT4 := Aside0.mk (HT.out.below hb)
    have HK4 := Aside0.mk (HK.out.below hb)
    replace c0 := pw_cell_below hb c0
    replace c1 := pw_cell_below hb c1
    replace s0 := pw_cell_below hb s0
    replace s1 := pw_cell_below hb s1
    clear hb
    go_wp2_with (first | (go_at_call 153; refine (HFU.out _ _).mono ?_; rintro e w5 ⟨rfl, hb⟩; have HG5 := Aside0.mk (grown_trans HG4.out (grown_below hb _)); have HT5 := Aside0.mk (HT4.out.below hb); have HK5 := Aside0.mk (HK4.out.below hb); replace c0 := pw_cell_below hb c0; replace c1 := pw_cell_below hb c1; replace s0 := pw_cell_below hb s0; replace s1 := pw_cell_below hb s1; clear hb) | (go_at_call 334; refine (HTO.out _ HK5.out.read).mono ?_; rintro e w6 ⟨rfl, hb⟩; have HG6 := Aside0.mk (grown_trans HG5.out (grown_below hb _)); have HT6 := Aside0.mk (HT5.out.below hb); clear hb))
    go_ret
    exact ⟨by rw [HBY.out]; rfl, HG6.out, HT6.out⟩
  ·rw [decide_eq_false ht] at HTO
   rw [if_neg ht] at hBY
   have HBY := Aside0.mk hBY
   clear hk hT hB hsb hBb hB1 ha hsh hsh' hf hf' hl1 hl2 hp1 hp2 hop hoq hop' hoq' hAT ho1 ho2 hfl hx1 hx2 hp1' hq1' ha1' hx1' hx2' hTT hTB hlast hBY ht hN
   go_enter Tryz.func201, Tryz.ntmps201
   go_wp2
   rw [← hw2]
   clear hw2
   refine wp_region_g Bl (fun w => (Below.refl _ w).drew) (fun _ _ _ => Bl.trans) (fun i => match i with | 0 => fun v _ => v = .pointer (some ⟨w.heap.size + 1, 0, none⟩) | 1 => fun v _ => v = .int .i64 (a : Int) | 2 => fun v _ => v = .int .i64 (vq : Int) | 3 => fun v _ => v = .int .i64 (V : Int) | 4 => fun v _ => v = .int .i64 (a1 : Int) | 5 => fun v _ => v = .int .i64 (a1 : Int) | _ => fun _ _ => True)
    [0, 1, 0, 4, 15, 31] hmx (by kernel_rfl) ?st ?steps ?rest
   case st =>
    intro i v w1_ w2_ hb
    match i with
    | 0 | 1 | 2 | 3 | 4 | 5 => exact id
    | n + 6 => exact id
   case steps =>
    refine ⟨?_, ?_, ?_, ?_, ?_, ?_, trivial⟩
    ·intro s w_ hb hd hq R hR
     generalize hA : putAll _ 0 s _ = A
     clear hq
     have hR' := hR (.pointer (some ⟨w.heap.size + 1, 0, none⟩)) _ (Below.refl _ _) rfl
     clear hR hd
     refine opGives_value ?_ hR'
     subst hA
     simp only [dsOf, List.map_cons, List.map_nil, Option.getD_some, putAll, Act.put, List.setIfInBounds_toArray, List.set_cons_zero, List.set_cons_succ]
     go_simp
    ·intro s w_ hb hd hq R hR
     generalize hA : putAll _ 0 s _ = A
     have e0 : s 0 = _ := hd 0 (by kernel_rfl)
     clear hq
     have s0 := pw_cell_below hb s0
     have hR' := hR (.int .i64 (a : Int)) _ (Below.refl _ _) rfl
     clear hR hd
     refine opGives_value ?_ hR'
     subst hA
     simp only [dsOf, List.map_cons, List.map_nil, Option.getD_some, putAll, Act.put, List.setIfInBounds_toArray, List.set_cons_zero, List.set_cons_succ]
     go_simp
    ·intro s w_ hb hd hq R hR
     generalize hA : putAll _ 0 s _ = A
     clear hq
     have hR' := hR (.int .i64 (vq : Int)) _ (Below.refl _ _) rfl
     clear hR hd
     refine opGives_value ?_ hR'
     subst hA
     simp only [dsOf, List.map_cons, List.map_nil, Option.getD_some, putAll, Act.put, List.setIfInBounds_toArray, List.set_cons_zero, List.set_cons_succ]
     go_simp
    ·intro s w_ hb hd hq R hR
     generalize hA : putAll _ 0 s _ = A
     have e2 : s 2 = _ := hd 2 (by kernel_rfl)
     clear hq
     have hsh := HSH.out
     have hR' := hR (.int .i64 (V : Int)) _ (Below.refl _ _) rfl
     clear hR hd
     refine opGives_value ?_ hR'
     subst hA
     simp only [dsOf, List.map_cons, List.map_nil, Option.getD_some, putAll, Act.put, List.setIfInBounds_toArray, List.set_cons_zero, List.set_cons_succ]
     go_simp
    ·intro s w_ hb hd hq R hR
     generalize hA : putAll _ 0 s _ = A
     have e1 : s 1 = _ := hd 1 (by kernel_rfl)
     have e3 : s 3 = _ := hd 3 (by kernel_rfl)
     clear hq
     have ho1 := HO1.out
     have hR' := hR (.int .i64 (a1 : Int)) _ (Below.refl _ _) rfl
     clear hR hd
     refine opGives_value ?_ hR'
     subst hA
     simp only [dsOf, List.map_cons, List.map_nil, Option.getD_some, putAll, Act.put, List.setIfInBounds_toArray, List.set_cons_zero, List.set_cons_succ]
     go_simp
    ·intro s w_ hb hd hq R hR
     generalize hA : putAll _ 0 s _ = A
     have e4 : s 4 = _ := hd 4 (by kernel_rfl)
     clear hq
     have hR' := hR (.int .i64 (a1 : Int)) _ (Below.refl _ _) rfl
     clear hR hd
     refine opGives_value ?_ hR'
     subst hA
     simp only [dsOf, List.map_cons, List.map_nil, Option.getD_some, putAll, Act.put, List.setIfInBounds_toArray, List.set_cons_zero, List.set_cons_succ]
     go_simp
   case rest =>
    intro s4 w4 hb hv
    have e5_ : s4 5 = _ := hv 5 (by decide)
    simp only [dsOf, List.map_cons, List.map_nil, Option.getD_some, putAll, Act.put, List.setIfInBounds_toArray, List.set_cons_zero, List.set_cons_succ]
    rw [e5_]
    clear hv e5_
    have HG4 := Aside0.mk (grown_trans HG.out (grown_below hb _))
    have HT4 := Aside0.mk (HT.out.below hb)
    have HK4 := Aside0.mk (HK.out.below hb)
    replace c0 := pw_cell_below hb c0
    replace c1 := pw_cell_below hb c1
    replace s0 := pw_cell_below hb s0
    replace s1 := pw_cell_below hb s1
    clear hb
    go_wp2_with (first | (go_at_call 153; refine (HFU.out _ _).mono ?_; rintro e w5 ⟨rfl, hb⟩; have HG5 := Aside0.mk (grown_trans HG4.out (grown_below hb _)); have HT5 := Aside0.mk (HT4.out.below hb); have HK5 := Aside0.mk (HK4.out.below hb); replace c0 := pw_cell_below hb c0; replace c1 := pw_cell_below hb c1; replace s0 := pw_cell_below hb s0; replace s1 := pw_cell_below hb s1; clear hb) | (go_at_call 334; refine (HTO.out _ HK5.out.read).mono ?_; rintro e w6 ⟨rfl, hb⟩; have HG6 := Aside0.mk (grown_trans HG5.out (grown_below hb _)); have HT6 := Aside0.mk (HT5.out.below hb); clear hb))
    go_ret
    exact ⟨by rw [HBY.out]; rfl, HG6.out, HT6.out⟩
 ·have hfull := full_ne (fun h => hlast (by have := hfl.2 h; omega))
  rw [if_neg hlast, hAT] at hBY
  have HBY := Aside0.mk hBY
  clear hk hT hB hsb hBb hB1 ha hsh hsh' hf hf' hl1 hl2 hp1 hp2 hop hoq hop' hoq' hAT ho1 ho2 hfl hx1 hx2 hp1' hq1' ha1' hx1' hx2' hTT hTB hlast hBY hN
  go_enter Tryz.func201, Tryz.ntmps201
  go_wp2
  rw [← hw2]
  clear hw2
  refine wp_region_g Bl (fun w => (Below.refl _ w).drew) (fun _ _ _ => Bl.trans) (fun i => match i with | 0 => fun v _ => v = .pointer (some ⟨w.heap.size + 1, 0, none⟩) | 1 => fun v _ => v = .int .i64 (a : Int) | 2 => fun v _ => v = .int .i64 (vq : Int) | 3 => fun v _ => v = .int .i64 (V : Int) | 4 => fun v _ => v = .int .i64 (a1 : Int) | 5 => fun v _ => v = .int .i64 (a1 : Int) | _ => fun _ _ => True)
   [0, 1, 0, 4, 15, 31] hmx (by kernel_rfl) ?st ?steps ?rest
  case st =>
   intro i v w1_ w2_ hb
   match i with
   | 0 | 1 | 2 | 3 | 4 | 5 => exact id
   | n + 6 => exact id
  case steps =>
   refine ⟨?_, ?_, ?_, ?_, ?_, ?_, trivial⟩
   ·intro s w_ hb hd hq R hR
    generalize hA : putAll _ 0 s _ = A
    clear hq
    have hR' := hR (.pointer (some ⟨w.heap.size + 1, 0, none⟩)) _ (Below.refl _ _) rfl
    clear hR hd
    refine opGives_value ?_ hR'
    subst hA
    simp only [dsOf, List.map_cons, List.map_nil, Option.getD_some, putAll, Act.put, List.setIfInBounds_toArray, List.set_cons_zero, List.set_cons_succ]
    go_simp
   ·intro s w_ hb hd hq R hR
    generalize hA : putAll _ 0 s _ = A
    have e0 : s 0 = _ := hd 0 (by kernel_rfl)
    clear hq
    have s0 := pw_cell_below hb s0
    have hR' := hR (.int .i64 (a : Int)) _ (Below.refl _ _) rfl
    clear hR hd
    refine opGives_value ?_ hR'
    subst hA
    simp only [dsOf, List.map_cons, List.map_nil, Option.getD_some, putAll, Act.put, List.setIfInBounds_toArray, List.set_cons_zero, List.set_cons_succ]
    go_simp
   ·intro s w_ hb hd hq R hR
    generalize hA : putAll _ 0 s _ = A
    clear hq
    have hR' := hR (.int .i64 (vq : Int)) _ (Below.refl _ _) rfl
    clear hR hd
    refine opGives_value ?_ hR'
    subst hA
    simp only [dsOf, List.map_cons, List.map_nil, Option.getD_some, putAll, Act.put, List.setIfInBounds_toArray, List.set_cons_zero, List.set_cons_succ]
    go_simp
   ·intro s w_ hb hd hq R hR
    generalize hA : putAll _ 0 s _ = A
    have e2 : s 2 = _ := hd 2 (by kernel_rfl)
    clear hq
    have hsh := HSH.out
    have hR' := hR (.int .i64 (V : Int)) _ (Below.refl _ _) rfl
    clear hR hd
    refine opGives_value ?_ hR'
    subst hA
    simp only [dsOf, List.map_cons, List.map_nil, Option.getD_some, putAll, Act.put, List.setIfInBounds_toArray, List.set_cons_zero, List.set_cons_succ]
    go_simp
   ·intro s w_ hb hd hq R hR
    generalize hA : putAll _ 0 s _ = A
    have e1 : s 1 = _ := hd 1 (by kernel_rfl)
    have e3 : s 3 = _ := hd 3 (by kernel_rfl)
    clear hq
    have ho1 := HO1.out
    have hR' := hR (.int .i64 (a1 : Int)) _ (Below.refl _ _) rfl
    clear hR hd
    refine opGives_value ?_ hR'
    subst hA
    simp only [dsOf, List.map_cons, List.map_nil, Option.getD_some, putAll, Act.put, List.setIfInBounds_toArray, List.set_cons_zero, List.set_cons_succ]
    go_simp
   ·intro s w_ hb hd hq R hR
    generalize hA : putAll _ 0 s _ = A
    have e4 : s 4 = _ := hd 4 (by kernel_rfl)
    clear hq
    have hR' := hR (.int .i64 (a1 : Int)) _ (Below.refl _ _) rfl
    clear hR hd
    refine opGives_value ?_ hR'
    subst hA
    simp only [dsOf, List.map_cons, List.map_nil, Option.getD_some, putAll, Act.put, List.setIfInBounds_toArray, List.set_cons_zero, List.set_cons_succ]
    go_simp
  case rest =>
   intro s4 w4 hb hv
   have e5_ : s4 5 = _ := hv 5 (by decide)
   simp only [dsOf, List.map_cons, List.map_nil, Option.getD_some, putAll, Act.put, List.setIfInBounds_toArray, List.set_cons_zero, List.set_cons_succ]
   rw [e5_]
   clear hv e5_
   have HG4 := Aside0.mk (grown_trans HG.out (grown_below hb _))
   have HT4 := Aside0.mk (HT.out.below hb)
   have HK4 := Aside0.mk (HK.out.below hb)
   replace c0 := pw_cell_below hb c0
   replace c1 := pw_cell_below hb c1
   replace s0 := pw_cell_below hb s0
   replace s1 := pw_cell_below hb s1
   clear hb
   go_wp2_with (first | (go_at_call 153; refine (HFU.out _ _).mono ?_; rintro e w5 ⟨rfl, hb⟩; have HG5 := Aside0.mk (grown_trans HG4.out (grown_below hb _)); have HT5 := Aside0.mk (HT4.out.below hb); have HK5 := Aside0.mk (HK4.out.below hb); replace c0 := pw_cell_below hb c0; replace c1 := pw_cell_below hb c1; replace s0 := pw_cell_below hb s0; replace s1 := pw_cell_below hb s1; clear hb))
   refine wp_region_g (Gm b (MapI n (leastV n xs) b)) (fun w => ⟨grown_drew w _, fun h => h.below (Below.refl _ _).drew⟩) (fun _ _ _ => Gm.trans) (fun i => match i with | 0 => fun v _ => v = .agg #[.int .i64 (n : Int), .slice A1 xs.length d1] | 1 => fun v _ => v = .int .i64 (a1 : Int) | 2 => fun v _ => v = .pointer (some ⟨w.heap.size + 1, 1, none⟩) | 3 => fun v _ => v = .int .i64 (p : Int) | 4 => fun v _ => v = .agg #[.int .i64 (a1 : Int), .int .i64 (p : Int)] | 5 => fun v _ => v = .map (some b) | 6 => fun v _ => v = .int .i64 x2 | 7 => fun v _ => v = .agg #[.int .i64 (n : Int), .slice A1 xs.length d1] | 8 => fun v _ => v = .int .i64 (a1 : Int) | 9 => fun v _ => v = .pointer (some ⟨w.heap.size + 1, 1, none⟩) | 10 => fun v _ => v = .int .i64 (p : Int) | 11 => fun v _ => v = .int .i64 (vq : Int) | 12 => fun v _ => v = .int .i64 (V : Int) | 13 => fun v _ => v = .int .i64 (p1 : Int) | 14 => fun v _ => v = .agg #[.int .i64 (a1 : Int), .int .i64 (p1 : Int)] | 15 => fun v _ => v = .map (some b) | 16 => fun v _ => v = .int .i64 x1 | 17 => fun v _ => v = .int .i64 (x2 + x1) | 18 => fun v _ => v = .int .i64 (x2 + x1) | _ => fun _ _ => True)
    [0, 0, 0, 4, 14, 0, 63, 0, 0, 0, 512, 0, 2048, 7680, 16128, 0, 65535, 131071, 262143] hmx (by kernel_rfl) ?st ?steps ?rest
   case st =>
    intro i v w1_ w2_ hb
    match i with
    | 0 | 1 | 2 | 3 | 4 | 5 | 6 | 7 | 8 | 9 | 10 | 11 | 12 | 13 | 14 | 15 | 16 | 17 | 18 => exact id
    | n + 19 => exact id
   case steps =>
    refine ⟨?_, ?_, ?_, ?_, ?_, ?_, ?_, ?_, ?_, ?_, ?_, ?_, ?_, ?_, ?_, ?_, ?_, ?_, ?_, trivial⟩
    ·intro s w_ hb hd hq R hR
     generalize hA : putAll _ 0 s _ = A
     clear hq
     have c0 := grown_cell hb.1 c0 hne0
     have c1 := grown_cell hb.1 c1 hne0
     have hR' := hR (.agg #[.int .i64 (n : Int), .slice A1 xs.length d1]) _ (Gm.refl _ _ _) rfl
     clear hR hd
     refine opGives_value ?_ hR'
     subst hA
     simp only [dsOf, List.map_cons, List.map_nil, Option.getD_some, putAll, Act.put, List.setIfInBounds_toArray, List.set_cons_zero, List.set_cons_succ]
     go_simp
    ·intro s w_ hb hd hq R hR
     generalize hA : putAll _ 0 s _ = A
     clear hq
     have hR' := hR (.int .i64 (a1 : Int)) _ (Gm.refl _ _ _) rfl
     clear hR hd
     refine opGives_value ?_ hR'
     subst hA
     simp only [dsOf, List.map_cons, List.map_nil, Option.getD_some, putAll, Act.put, List.setIfInBounds_toArray, List.set_cons_zero, List.set_cons_succ]
     go_simp
    ·intro s w_ hb hd hq R hR
     generalize hA : putAll _ 0 s _ = A
     clear hq
     have hR' := hR (.pointer (some ⟨w.heap.size + 1, 1, none⟩)) _ (Gm.refl _ _ _) rfl
     clear hR hd
     refine opGives_value ?_ hR'
     subst hA
     simp only [dsOf, List.map_cons, List.map_nil, Option.getD_some, putAll, Act.put, List.setIfInBounds_toArray, List.set_cons_zero, List.set_cons_succ]
     go_simp
    ·intro s w_ hb hd hq R hR
     generalize hA : putAll _ 0 s _ = A
     have e2 : s 2 = _ := hd 2 (by kernel_rfl)
     clear hq
     have s1 := grown_cell hb.1 s1 hne1
     have hR' := hR (.int .i64 (p : Int)) _ (Gm.refl _ _ _) rfl
     clear hR hd
     refine opGives_value ?_ hR'
     subst hA
     simp only [dsOf, List.map_cons, List.map_nil, Option.getD_some, putAll, Act.put, List.setIfInBounds_toArray, List.set_cons_zero, List.set_cons_succ]
     go_simp
    ·intro s w_ hb hd hq R hR
     generalize hA : putAll _ 0 s _ = A
     have e1 : s 1 = _ := hd 1 (by kernel_rfl)
     have e3 : s 3 = _ := hd 3 (by kernel_rfl)
     clear hq
     have hR' := hR (.agg #[.int .i64 (a1 : Int), .int .i64 (p : Int)]) _ (Gm.refl _ _ _) rfl
     clear hR hd
     refine opGives_value ?_ hR'
     subst hA
     simp only [dsOf, List.map_cons, List.map_nil, Option.getD_some, putAll, Act.put, List.setIfInBounds_toArray, List.set_cons_zero, List.set_cons_succ]
     go_simp
    ·intro s w_ hb hd hq R hR
     generalize hA : putAll _ 0 s _ = A
     clear hq
     have hR' := hR (.map (some b)) _ (Gm.refl _ _ _) rfl
     clear hR hd
     refine opGives_value ?_ hR'
     subst hA
     simp only [dsOf, List.map_cons, List.map_nil, Option.getD_some, putAll, Act.put, List.setIfInBounds_toArray, List.set_cons_zero, List.set_cons_succ]
     go_simp
    ·intro s w_ hb hd hq R hR
     generalize hA : putAll _ 0 s _ = A
     have e0 : s 0 = _ := hd 0 (by kernel_rfl)
     have e4 : s 4 = _ := hd 4 (by kernel_rfl)
     have e5 : s 5 = _ := hd 5 (by kernel_rfl)
     clear hq
     refine opGives_call (f := 202) (args := #[.agg #[.int .i64 (n : Int), .slice A1 xs.length d1], .agg #[.int .i64 (a1 : Int), .int .i64 (p : Int)], .map (some b)]) ?_ ?_
     ·subst hA
      clear hR hd
      simp only [dsOf, List.map_cons, List.map_nil, Option.getD_some, putAll, Act.put, List.setIfInBounds_toArray, List.set_cons_zero, List.set_cons_succ]
      go_simp
     clear hA A hd
     refine (IH2.out w_ (HK5.out.go hb.1) (hb.2 HT5.out)).mono ?_
     rintro e w3_ ⟨rfl, hg, hT⟩
     exact ⟨_, rfl, hR _ _ ⟨hg, fun _ => hT⟩ rfl⟩
    ·intro s w_ hb hd hq R hR
     generalize hA : putAll _ 0 s _ = A
     clear hq
     have c0 := grown_cell hb.1 c0 hne0
     have c1 := grown_cell hb.1 c1 hne0
     have hR' := hR (.agg #[.int .i64 (n : Int), .slice A1 xs.length d1]) _ (Gm.refl _ _ _) rfl
     clear hR hd
     refine opGives_value ?_ hR'
     subst hA
     simp only [dsOf, List.map_cons, List.map_nil, Option.getD_some, putAll, Act.put, List.setIfInBounds_toArray, List.set_cons_zero, List.set_cons_succ]
     go_simp
    ·intro s w_ hb hd hq R hR
     generalize hA : putAll _ 0 s _ = A
     clear hq
     have hR' := hR (.int .i64 (a1 : Int)) _ (Gm.refl _ _ _) rfl
     clear hR hd
     refine opGives_value ?_ hR'
     subst hA
     simp only [dsOf, List.map_cons, List.map_nil, Option.getD_some, putAll, Act.put, List.setIfInBounds_toArray, List.set_cons_zero, List.set_cons_succ]
     go_simp
    ·intro s w_ hb hd hq R hR
     generalize hA : putAll _ 0 s _ = A
     clear hq
     have hR' := hR (.pointer (some ⟨w.heap.size + 1, 1, none⟩)) _ (Gm.refl _ _ _) rfl
     clear hR hd
     refine opGives_value ?_ hR'
     subst hA
     simp only [dsOf, List.map_cons, List.map_nil, Option.getD_some, putAll, Act.put, List.setIfInBounds_toArray, List.set_cons_zero, List.set_cons_succ]
     go_simp
    ·intro s w_ hb hd hq R hR
     generalize hA : putAll _ 0 s _ = A
     have e9 : s 9 = _ := hd 9 (by kernel_rfl)
     clear hq
     have s1 := grown_cell hb.1 s1 hne1
     have hR' := hR (.int .i64 (p : Int)) _ (Gm.refl _ _ _) rfl
     clear hR hd
     refine opGives_value ?_ hR'
     subst hA
     simp only [dsOf, List.map_cons, List.map_nil, Option.getD_some, putAll, Act.put, List.setIfInBounds_toArray, List.set_cons_zero, List.set_cons_succ]
     go_simp
    ·intro s w_ hb hd hq R hR
     generalize hA : putAll _ 0 s _ = A
     clear hq
     have hR' := hR (.int .i64 (vq : Int)) _ (Gm.refl _ _ _) rfl
     clear hR hd
     refine opGives_value ?_ hR'
     subst hA
     simp only [dsOf, List.map_cons, List.map_nil, Option.getD_some, putAll, Act.put, List.setIfInBounds_toArray, List.set_cons_zero, List.set_cons_succ]
     go_simp
    ·intro s w_ hb hd hq R hR
     generalize hA : putAll _ 0 s _ = A
     have e11 : s 11 = _ := hd 11 (by kernel_rfl)
     clear hq
     have hsh := HSH.out
     have hR' := hR (.int .i64 (V : Int)) _ (Gm.refl _ _ _) rfl
     clear hR hd
     refine opGives_value ?_ hR'
     subst hA
     simp only [dsOf, List.map_cons, List.map_nil, Option.getD_some, putAll, Act.put, List.setIfInBounds_toArray, List.set_cons_zero, List.set_cons_succ]
     go_simp
    ·intro s w_ hb hd hq R hR
     generalize hA : putAll _ 0 s _ = A
     have e10 : s 10 = _ := hd 10 (by kernel_rfl)
     have e12 : s 12 = _ := hd 12 (by kernel_rfl)
     clear hq
     have ho2 := HO2.out
     have hR' := hR (.int .i64 (p1 : Int)) _ (Gm.refl _ _ _) rfl
     clear hR hd
     refine opGives_value ?_ hR'
     subst hA
     simp only [dsOf, List.map_cons, List.map_nil, Option.getD_some, putAll, Act.put, List.setIfInBounds_toArray, List.set_cons_zero, List.set_cons_succ]
     go_simp
    ·intro s w_ hb hd hq R hR
     generalize hA : putAll _ 0 s _ = A
     have e8 : s 8 = _ := hd 8 (by kernel_rfl)
     have e13 : s 13 = _ := hd 13 (by kernel_rfl)
     clear hq
     have hR' := hR (.agg #[.int .i64 (a1 : Int), .int .i64 (p1 : Int)]) _ (Gm.refl _ _ _) rfl
     clear hR hd
     refine opGives_value ?_ hR'
     subst hA
     simp only [dsOf, List.map_cons, List.map_nil, Option.getD_some, putAll, Act.put, List.setIfInBounds_toArray, List.set_cons_zero, List.set_cons_succ]
     go_simp
    ·intro s w_ hb hd hq R hR
     generalize hA : putAll _ 0 s _ = A
     clear hq
     have hR' := hR (.map (some b)) _ (Gm.refl _ _ _) rfl
     clear hR hd
     refine opGives_value ?_ hR'
     subst hA
     simp only [dsOf, List.map_cons, List.map_nil, Option.getD_some, putAll, Act.put, List.setIfInBounds_toArray, List.set_cons_zero, List.set_cons_succ]
     go_simp
    ·intro s w_ hb hd hq R hR
     generalize hA : putAll _ 0 s _ = A
     have e7 : s 7 = _ := hd 7 (by kernel_rfl)
     have e14 : s 14 = _ := hd 14 (by kernel_rfl)
     have e15 : s 15 = _ := hd 15 (by kernel_rfl)
     clear hq
     refine opGives_call (f := 202) (args := #[.agg #[.int .i64 (n : Int), .slice A1 xs.length d1], .agg #[.int .i64 (a1 : Int), .int .i64 (p1 : Int)], .map (some b)]) ?_ ?_
     ·subst hA
      clear hR hd
      simp only [dsOf, List.map_cons, List.map_nil, Option.getD_some, putAll, Act.put, List.setIfInBounds_toArray, List.set_cons_zero, List.set_cons_succ]
      go_simp
     clear hA A hd
     refine (IH1.out w_ (HK5.out.go hb.1) (hb.2 HT5.out)).mono ?_
     rintro e w3_ ⟨rfl, hg, hT⟩
     exact ⟨_, rfl, hR _ _ ⟨hg, fun _ => hT⟩ rfl⟩
    ·intro s w_ hb hd hq R hR
     generalize hA : putAll _ 0 s _ = A
     have e6 : s 6 = _ := hd 6 (by kernel_rfl)
     have e16 : s 16 = _ := hd 16 (by kernel_rfl)
     clear hq
     have hsm := HSM.out
     have hR' := hR (.int .i64 (x2 + x1)) _ (Gm.refl _ _ _) rfl
     clear hR hd
     refine opGives_value ?_ hR'
     subst hA
     simp only [dsOf, List.map_cons, List.map_nil, Option.getD_some, putAll, Act.put, List.setIfInBounds_toArray, List.set_cons_zero, List.set_cons_succ]
     go_simp
    ·intro s w_ hb hd hq R hR
     generalize hA : putAll _ 0 s _ = A
     have e17 : s 17 = _ := hd 17 (by kernel_rfl)
     clear hq
     have hR' := hR (.int .i64 (x2 + x1)) _ (Gm.refl _ _ _) rfl
     clear hR hd
     refine opGives_value ?_ hR'
     subst hA
     simp only [dsOf, List.map_cons, List.map_nil, Option.getD_some, putAll, Act.put, List.setIfInBounds_toArray, List.set_cons_zero, List.set_cons_succ]
     go_simp
   case rest =>
    intro s9 w9 hb hv
    have e18_ : s9 18 = _ := hv 18 (by decide)
    simp only [dsOf, List.map_cons, List.map_nil, Option.getD_some, putAll, Act.put, List.setIfInBounds_toArray, List.set_cons_zero, List.set_cons_succ]
    rw [e18_]
    clear hv e18_
    have HGn := Aside0.mk (grown_trans HG5.out hb.1)
    have HTn := Aside0.mk (hb.2 HT5.out)
    clear hb
    go_wp2
    go_ret
    exact ⟨by rw [HBY.out, Int.add_comm]; rfl, HGn.out, HTn.out⟩
set_option maxRecDepth 100000 in
set_option maxHeartbeats 4000000 in
theorem evadersS (n : Nat) (ku : Value) (xs : List Int) (hcx : Cx n xs) (b : Nat) (p q a : Nat) (w : World) (ha : a = p ||| q)
  (ihB : ∀ vq w, vq < n → a.testBit vq = false → RdK b w ku xs → MapI n (leastV n xs) b w →
   Calls Tryz.prog 201 #[cx n ku, .agg #[.int .i64 (a : Nat), .int .i64 (p : Nat)], .int .i64 (vq : Nat), .map (some b)] w fun e w' => e = .returned (.int .i64 (byV n xs p q vq)) ∧ w.grownBy w' (some b) ∧ MapI n (leastV n xs) b w')
  (hp : Pl n p q) (hk : RdK b w ku xs) (hT : MapI n (leastV n xs) b w) :
  Calls Tryz.prog 202 #[cx n ku, .agg #[.int .i64 (a : Nat), .int .i64 (p : Nat)], .map (some b)] w fun e w' => e = .returned (.int .i64 (leastV n xs p q)) ∧ w.grownBy w' (some b) ∧ MapI n (leastV n xs) b w' := by
 have hn := hcx.hi
 have hpq := hp.lt hn
 have hal : a < 64 := by rw [ha]; exact or_lt64 hpq.1 hpq.2
 obtain ⟨wb, hwb⟩ : ∃ wb, wb = w.alloc (.cells #[.int .i64 n, ku] 26) := ⟨_, rfl⟩
 obtain ⟨w2, hw2⟩ : ∃ w2, w2 = wb.alloc (.cells #[.int .i64 (a : Nat), .int .i64 (p : Nat)] 148) := ⟨_, rfl⟩
 have hsb : wb.heap.size = w.heap.size + 1 := by rw [hwb]; simp
 have hBb : Below w.heap.size w wb := by rw [hwb]; exact Below.alloc (Below.refl _ _) (Nat.le_refl _) _
 have hB1 : Below wb.heap.size wb w2 := by rw [hw2]; exact Below.alloc (Below.refl _ _) (Nat.le_refl _) _
 have hB : Below w.heap.size w w2 := hBb.trans (hB1.mono hBb.size)
 have hbl := hT.lt
 have c0 : w2.cell? ⟨w.heap.size, 0, none⟩ = some (.int .i64 n) := pw_cell_below hB1 (by rw [hwb]; simp)
 have c1 : w2.cell? ⟨w.heap.size, 1, none⟩ = some ku := pw_cell_below hB1 (by rw [hwb]; simp)
 have s0 : w2.cell? ⟨w.heap.size + 1, 0, none⟩ = some (.int .i64 (a : Nat)) := by rw [hw2, ← hsb]; exact new_cell _ _ _ 0 _ rfl
 have s1 : w2.cell? ⟨w.heap.size + 1, 1, none⟩ = some (.int .i64 (p : Nat)) := by rw [hw2, ← hsb]; exact new_cell _ _ _ 1 _ rfl
 have hne0 : w.heap.size ≠ b := by omega
 have hne1 : w.heap.size + 1 ≠ b := by omega
 have HG := Aside0.mk (grown_below hB (some b))
 have HK := Aside0.mk (hk.below hB)
 have HT := Aside0.mk (hT.below hB)
 have HP := Aside0.mk hp
 have HA := Aside0.mk ha
 have hmx : Tryz.prog.follows .mixedOrders = true := by kernel_rfl
 obtain ⟨A1, d1, rfl, -⟩ := id hk.read
 obtain ⟨N, hN⟩ : ∃ N : Nat, N = 2 ^ n := ⟨_, rfl⟩
 have HN := Aside0.mk hN
 have HFU : Aside0 (∀ (u : Value) (W : World), Calls Tryz.prog 153 #[cx n u] W fun e w' => e = .returned (.int .i64 ((N : Int) - 1)) ∧ Below W.heap.size W w') := ⟨fun u W => by rw [hN]; exact full n hn _ W⟩
 obtain ⟨X, hX⟩ : ∃ X, X = leastV n xs p q := ⟨_, rfl⟩
 have HX := Aside0.mk hX
 have HWX : Aside0 ((Lit.int .i64 X).wf = true) := ⟨WalkArith.wf_i64 (by have := leastV_bd n xs p q; omega)⟩
 obtain ⟨l, hkey⟩ := stLit a p hal hpq.1
 have hkey' := hkey
 rw [ha] at hkey'
 have HK0 := Aside0.mk hkey'
 have HKEY : Aside0 (keyOf Tryz.prog 148 (.agg #[.int .i64 (a : Nat), .int .i64 (p : Nat)]) = some l) := ⟨hkey⟩
 obtain ⟨k, D, ho, hv⟩ := HT.out
 have HOW := Aside0.mk (mapV_size hn ho hv)
 have HCV := Aside0.mk (fun h => mapV_get hp hv hkey' h)
 have hfl := full_lefts hn hp ha
 rw [← hN] at hfl
 subst hwb
 by_cases h0 : lefts n p q = 0
 ·have hfull := full_eq (hfl.1 h0)
  have HX0 : Aside0 (leastV n xs p q = 0) := ⟨leastV_told (told_all hp h0)⟩
  clear hk hT hB hsb hBb hB1 ha hN hX hkey hkey' ho hv hfl h0
  go_enter Tryz.func202, Tryz.ntmps202
  go_wp2
  rw [← hw2]
  clear hw2
  refine wp_region_g Bl (fun w => (Below.refl _ w).drew) (fun _ _ _ => Bl.trans) (fun i => match i with | 0 => fun v _ => v = .pointer (some ⟨w.heap.size + 1, 0, none⟩) | 1 => fun v _ => v = .int .i64 (a : Int) | 2 => fun v _ => v = .agg #[.int .i64 (n : Int), .slice A1 xs.length d1] | 3 => fun v _ => v = .int .i64 ((N : Int) - 1) | 4 => fun v _ => v = .bool ((a : Int) == (N : Int) - 1) | _ => fun _ _ => True)
   [0, 1, 0, 4, 15] hmx (by kernel_rfl) ?st ?steps ?rest
  case st =>
   intro i v w1_ w2_ hb
   match i with
   | 0 | 1 | 2 | 3 | 4 => exact id
   | n + 5 => exact id
  case steps =>
   refine ⟨?_, ?_, ?_, ?_, ?_, trivial⟩
   ·intro s w_ hb hd hq R hR
    generalize hA : putAll _ 0 s _ = A
    clear hq
    have hR' := hR (.pointer (some ⟨w.heap.size + 1, 0, none⟩)) _ (Below.refl _ _) rfl
    clear hR hd
    refine opGives_value ?_ hR'
    subst hA
    simp only [dsOf, List.map_cons, List.map_nil, Option.getD_some, putAll, Act.put, List.setIfInBounds_toArray, List.set_cons_zero, List.set_cons_succ]
    go_simp
   ·intro s w_ hb hd hq R hR
    generalize hA : putAll _ 0 s _ = A
    have e0 : s 0 = _ := hd 0 (by kernel_rfl)
    clear hq
    have s0 := pw_cell_below hb s0
    have hR' := hR (.int .i64 (a : Int)) _ (Below.refl _ _) rfl
    clear hR hd
    refine opGives_value ?_ hR'
    subst hA
    simp only [dsOf, List.map_cons, List.map_nil, Option.getD_some, putAll, Act.put, List.setIfInBounds_toArray, List.set_cons_zero, List.set_cons_succ]
    go_simp
   ·intro s w_ hb hd hq R hR
    generalize hA : putAll _ 0 s _ = A
    clear hq
    have c0 := pw_cell_below hb c0
    have c1 := pw_cell_below hb c1
    have hR' := hR (.agg #[.int .i64 (n : Int), .slice A1 xs.length d1]) _ (Below.refl _ _) rfl
    clear hR hd
    refine opGives_value ?_ hR'
    subst hA
    simp only [dsOf, List.map_cons, List.map_nil, Option.getD_some, putAll, Act.put, List.setIfInBounds_toArray, List.set_cons_zero, List.set_cons_succ]
    go_simp
   ·intro s w_ hb hd hq R hR
    generalize hA : putAll _ 0 s _ = A
    have e2 : s 2 = _ := hd 2 (by kernel_rfl)
    clear hq
    refine opGives_call (f := 153) (args := #[.agg #[.int .i64 (n : Int), .slice A1 xs.length d1]]) ?_ ?_
    ·subst hA
     clear hR hd
     simp only [dsOf, List.map_cons, List.map_nil, Option.getD_some, putAll, Act.put, List.setIfInBounds_toArray, List.set_cons_zero, List.set_cons_succ]
     go_simp
    clear hA A hd
    refine (HFU.out _ w_).mono ?_
    rintro e w3_ ⟨rfl, hb3⟩
    exact ⟨_, rfl, hR _ _ hb3 rfl⟩
   ·intro s w_ hb hd hq R hR
    generalize hA : putAll _ 0 s _ = A
    have e1 : s 1 = _ := hd 1 (by kernel_rfl)
    have e3 : s 3 = _ := hd 3 (by kernel_rfl)
    clear hq
    have hR' := hR (.bool ((a : Int) == (N : Int) - 1)) _ (Below.refl _ _) rfl
    clear hR hd
    refine opGives_value ?_ hR'
    subst hA
    simp only [dsOf, List.map_cons, List.map_nil, Option.getD_some, putAll, Act.put, List.setIfInBounds_toArray, List.set_cons_zero, List.set_cons_succ]
    go_simp
  case rest =>
   intro s4 w4 hb hv
   have e4_ : s4 4 = _ := hv 4 (by decide)
   simp only [dsOf, List.map_cons, List.map_nil, Option.getD_some, putAll, Act.put, List.setIfInBounds_toArray, List.set_cons_zero, List.set_cons_succ]
   rw [e4_]
   clear hv e4_
   have HG4 := Aside0.mk (grown_trans HG.out (grown_below hb _))
   have HT4 := Aside0.mk (HT.out.below hb)
   clear hb
   go_wp2
   go_ret
   exact ⟨by rw [HX0.out]; rfl, HG4.out, HT4.out⟩
 ·have hfull := full_ne (fun h => h0 (hfl.2 h))
  have HBL : Aside0 (bestTo n xs p q n = X) := ⟨by rw [hX]; exact best_least hn hp h0⟩
  have hn1 := hcx.lo
  have HB00 : Aside0 (bestTo n xs p q 0 = -1) := ⟨rfl⟩
  cases hhas : Maps.has D l with
  | true =>
   have HC := Aside0.mk (HCV.out hhas)
   clear HCV hX hk hT hB hsb hBb hB1 ha hN hkey hkey' ho hv hfl h0
   go_enter Tryz.func202, Tryz.ntmps202
   go_wp2
   rw [← hw2]
   clear hw2
   refine wp_region_g Bl (fun w => (Below.refl _ w).drew) (fun _ _ _ => Bl.trans) (fun i => match i with | 0 => fun v _ => v = .pointer (some ⟨w.heap.size + 1, 0, none⟩) | 1 => fun v _ => v = .int .i64 (a : Int) | 2 => fun v _ => v = .agg #[.int .i64 (n : Int), .slice A1 xs.length d1] | 3 => fun v _ => v = .int .i64 ((N : Int) - 1) | 4 => fun v _ => v = .bool ((a : Int) == (N : Int) - 1) | _ => fun _ _ => True)
    [0, 1, 0, 4, 15] hmx (by kernel_rfl) ?st ?steps ?rest
   case st =>
    intro i v w1_ w2_ hb
    match i with
    | 0 | 1 | 2 | 3 | 4 => exact id
    | n + 5 => exact id
   case steps =>
    refine ⟨?_, ?_, ?_, ?_, ?_, trivial⟩
    ·intro s w_ hb hd hq R hR
     generalize hA : putAll _ 0 s _ = A
     clear hq
     have hR' := hR (.pointer (some ⟨w.heap.size + 1, 0, none⟩)) _ (Below.refl _ _) rfl
     clear hR hd
     refine opGives_value ?_ hR'
     subst hA
     simp only [dsOf, List.map_cons, List.map_nil, Option.getD_some, putAll, Act.put, List.setIfInBounds_toArray, List.set_cons_zero, List.set_cons_succ]
     go_simp
    ·intro s w_ hb hd hq R hR
     generalize hA : putAll _ 0 s _ = A
     have e0 : s 0 = _ := hd 0 (by kernel_rfl)
     clear hq
     have s0 := pw_cell_below hb s0
     have hR' := hR (.int .i64 (a : Int)) _ (Below.refl _ _) rfl
     clear hR hd
     refine opGives_value ?_ hR'
     subst hA
     simp only [dsOf, List.map_cons, List.map_nil, Option.getD_some, putAll, Act.put, List.setIfInBounds_toArray, List.set_cons_zero, List.set_cons_succ]
     go_simp
    ·intro s w_ hb hd hq R hR
     generalize hA : putAll _ 0 s _ = A
     clear hq
     have c0 := pw_cell_below hb c0
     have c1 := pw_cell_below hb c1
     have hR' := hR (.agg #[.int .i64 (n : Int), .slice A1 xs.length d1]) _ (Below.refl _ _) rfl
     clear hR hd
     refine opGives_value ?_ hR'
     subst hA
     simp only [dsOf, List.map_cons, List.map_nil, Option.getD_some, putAll, Act.put, List.setIfInBounds_toArray, List.set_cons_zero, List.set_cons_succ]
     go_simp
    ·intro s w_ hb hd hq R hR
     generalize hA : putAll _ 0 s _ = A
     have e2 : s 2 = _ := hd 2 (by kernel_rfl)
     clear hq
     refine opGives_call (f := 153) (args := #[.agg #[.int .i64 (n : Int), .slice A1 xs.length d1]]) ?_ ?_
     ·subst hA
      clear hR hd
      simp only [dsOf, List.map_cons, List.map_nil, Option.getD_some, putAll, Act.put, List.setIfInBounds_toArray, List.set_cons_zero, List.set_cons_succ]
      go_simp
     clear hA A hd
     refine (HFU.out _ w_).mono ?_
     rintro e w3_ ⟨rfl, hb3⟩
     exact ⟨_, rfl, hR _ _ hb3 rfl⟩
    ·intro s w_ hb hd hq R hR
     generalize hA : putAll _ 0 s _ = A
     have e1 : s 1 = _ := hd 1 (by kernel_rfl)
     have e3 : s 3 = _ := hd 3 (by kernel_rfl)
     clear hq
     have hR' := hR (.bool ((a : Int) == (N : Int) - 1)) _ (Below.refl _ _) rfl
     clear hR hd
     refine opGives_value ?_ hR'
     subst hA
     simp only [dsOf, List.map_cons, List.map_nil, Option.getD_some, putAll, Act.put, List.setIfInBounds_toArray, List.set_cons_zero, List.set_cons_succ]
     go_simp
   case rest =>
    intro s4 w4 hb hv
    have e4_ : s4 4 = _ := hv 4 (by decide)
    simp only [dsOf, List.map_cons, List.map_nil, Option.getD_some, putAll, Act.put, List.setIfInBounds_toArray, List.set_cons_zero, List.set_cons_succ]
    rw [e4_]
    clear hv e4_
    have HG4 := Aside0.mk (grown_trans HG.out (grown_below hb _))
    have HT4 := Aside0.mk (HT.out.below hb)
    have HK4 := Aside0.mk (HK.out.below hb)
    replace c0 := pw_cell_below hb c0
    replace c1 := pw_cell_below hb c1
    replace s0 := pw_cell_below hb s0
    replace s1 := pw_cell_below hb s1
    have HOW4 := Aside0.mk (HOW.out.kept (grown_below hb none) (by simp))
    clear hb
    go_wp2_with (first | (at_lookup; refine wpList_lookup_own_ok_int _ rfl _ _ 145 rfl 148 2 .i64 stKeyed Tryz.underlying145 Tryz.underlying2 (zeroI _) b 4096 D rfl HOW4.out _ _ rfl HKEY.out ?_; intro c hat hwc; have HE := Aside0.mk (HC.out c hat); clear hat hwc))
    go_ret
    exact ⟨by rw [HE.out]; rfl, HG4.out, HT4.out⟩
  | false =>
   have HA := Aside0.mk ha
   clear HCV hX hk hT hB hsb hBb hB1 ha hN hkey hkey' ho hv hfl h0
   go_enter Tryz.func202, Tryz.ntmps202
   go_wp2
   rw [← hw2]
   clear hw2
   refine wp_region_g Bl (fun w => (Below.refl _ w).drew) (fun _ _ _ => Bl.trans) (fun i => match i with | 0 => fun v _ => v = .pointer (some ⟨w.heap.size + 1, 0, none⟩) | 1 => fun v _ => v = .int .i64 (a : Int) | 2 => fun v _ => v = .agg #[.int .i64 (n : Int), .slice A1 xs.length d1] | 3 => fun v _ => v = .int .i64 ((N : Int) - 1) | 4 => fun v _ => v = .bool ((a : Int) == (N : Int) - 1) | _ => fun _ _ => True)
    [0, 1, 0, 4, 15] hmx (by kernel_rfl) ?st ?steps ?rest
   case st =>
    intro i v w1_ w2_ hb
    match i with
    | 0 | 1 | 2 | 3 | 4 => exact id
    | n + 5 => exact id
   case steps =>
    refine ⟨?_, ?_, ?_, ?_, ?_, trivial⟩
    ·intro s w_ hb hd hq R hR
     generalize hA : putAll _ 0 s _ = A
     clear hq
     have hR' := hR (.pointer (some ⟨w.heap.size + 1, 0, none⟩)) _ (Below.refl _ _) rfl
     clear hR hd
     refine opGives_value ?_ hR'
     subst hA
     simp only [dsOf, List.map_cons, List.map_nil, Option.getD_some, putAll, Act.put, List.setIfInBounds_toArray, List.set_cons_zero, List.set_cons_succ]
     go_simp
    ·intro s w_ hb hd hq R hR
     generalize hA : putAll _ 0 s _ = A
     have e0 : s 0 = _ := hd 0 (by kernel_rfl)
     clear hq
     have s0 := pw_cell_below hb s0
     have hR' := hR (.int .i64 (a : Int)) _ (Below.refl _ _) rfl
     clear hR hd
     refine opGives_value ?_ hR'
     subst hA
     simp only [dsOf, List.map_cons, List.map_nil, Option.getD_some, putAll, Act.put, List.setIfInBounds_toArray, List.set_cons_zero, List.set_cons_succ]
     go_simp
    ·intro s w_ hb hd hq R hR
     generalize hA : putAll _ 0 s _ = A
     clear hq
     have c0 := pw_cell_below hb c0
     have c1 := pw_cell_below hb c1
     have hR' := hR (.agg #[.int .i64 (n : Int), .slice A1 xs.length d1]) _ (Below.refl _ _) rfl
     clear hR hd
     refine opGives_value ?_ hR'
     subst hA
     simp only [dsOf, List.map_cons, List.map_nil, Option.getD_some, putAll, Act.put, List.setIfInBounds_toArray, List.set_cons_zero, List.set_cons_succ]
     go_simp
    ·intro s w_ hb hd hq R hR
     generalize hA : putAll _ 0 s _ = A
     have e2 : s 2 = _ := hd 2 (by kernel_rfl)
     clear hq
     refine opGives_call (f := 153) (args := #[.agg #[.int .i64 (n : Int), .slice A1 xs.length d1]]) ?_ ?_
     ·subst hA
      clear hR hd
      simp only [dsOf, List.map_cons, List.map_nil, Option.getD_some, putAll, Act.put, List.setIfInBounds_toArray, List.set_cons_zero, List.set_cons_succ]
      go_simp
     clear hA A hd
     refine (HFU.out _ w_).mono ?_
     rintro e w3_ ⟨rfl, hb3⟩
     exact ⟨_, rfl, hR _ _ hb3 rfl⟩
    ·intro s w_ hb hd hq R hR
     generalize hA : putAll _ 0 s _ = A
     have e1 : s 1 = _ := hd 1 (by kernel_rfl)
     have e3 : s 3 = _ := hd 3 (by kernel_rfl)
     clear hq
     have hR' := hR (.bool ((a : Int) == (N : Int) - 1)) _ (Below.refl _ _) rfl
     clear hR hd
     refine opGives_value ?_ hR'
     subst hA
     simp only [dsOf, List.map_cons, List.map_nil, Option.getD_some, putAll, Act.put, List.setIfInBounds_toArray, List.set_cons_zero, List.set_cons_succ]
     go_simp
   case rest =>
    intro s4 w4 hb hv
    have e4_ : s4 4 = _ := hv 4 (by decide)
    simp only [dsOf, List.map_cons, List.map_nil, Option.getD_some, putAll, Act.put, List.setIfInBounds_toArray, List.set_cons_zero, List.set_cons_succ]
    rw [e4_]
    clear hv e4_
    have HG4 := Aside0.mk (grown_trans HG.out (grown_below hb _))
    have HT4 := Aside0.mk (HT.out.below hb)
    have HK4 := Aside0.mk (HK.out.below hb)
    replace c0 := pw_cell_below hb c0
    replace c1 := pw_cell_below hb c1
    replace s0 := pw_cell_below hb s0
    replace s1 := pw_cell_below hb s1
    have HOW4 := Aside0.mk (HOW.out.kept (grown_below hb none) (by simp))
    clear hb
    go_wp2_with (first | (at_lookup; refine wpList_lookup_own_ok_int _ rfl _ _ 145 rfl 148 2 .i64 stKeyed Tryz.underlying145 Tryz.underlying2 (zeroI _) b 4096 D rfl HOW4.out _ _ rfl HKEY.out ?_; intro c hat hwc; clear hat hwc))
    go_loopw [9, 27] (fun s9 s27 wr => ∃ iv : Nat, s27 = .int .i64 iv ∧ iv ≤ n ∧ s9 = .int .i64 (bestTo n xs p q iv) ∧ Aside0 (w.grownBy wr (some b)) ∧ Aside0 (MapI n (leastV n xs) b wr) ∧ Aside0 (w4.grownBy wr (some b))) (fun _ s27 _ => n - (intOf s27).toNat)
    case atStart => exact ⟨0, rfl, Nat.zero_le _, rfl, HG4, HT4, ⟨grown_below (Below.refl _ _) _⟩⟩
    case round =>
     obtain ⟨iv, rfl, hi, rfl, HGr, HTr, HGq⟩ := hrel
     have c0 := grown_cell HGq.out c0 hne0
     have c1 := grown_cell HGq.out c1 hne0
     have s0 := grown_cell HGq.out s0 hne1
     have s1 := grown_cell HGq.out s1 hne1
     have HKr := Aside0.mk (HK4.out.go HGq.out)
     by_cases hlt : iv < n
     ·have hsh := pow_wrap iv (by omega)
      have HMS := Aside0.mk (fun h : (p ||| q).testBit iv = true => bestTo_miss (n := n) (xs := xs) h)
      have HHT := Aside0.mk (fun h : (p ||| q).testBit iv = false => bestTo_hit (n := n) (xs := xs) h)
      rw [← HA.out] at HMS HHT
      have hB0 := bestTo_bd n xs p q iv
      have hY := byV_bd n xs p q iv
      have hbit := bit_of a iv (lt_big hal)
      cases ht : a.testBit iv with
      | true =>
       have HM := Aside0.mk (HMS.out ht)
       rw [ht, if_pos rfl] at hbit
       clear ht HMS HHT
       go_wp2
       go_roundw
       case rel => exact ⟨iv + 1, by go_num, by omega, by rw [HM.out], HGr, HTr, HGq⟩
       case measure => simp [intOf]; omega
      | false =>
       have HM := Aside0.mk (HHT.out ht)
       have HBY := Aside0.mk (fun W hk hT => ihB iv W hlt ht hk hT)
       rw [ht, if_neg (by decide)] at hbit
       clear ht HMS HHT
       obtain ⟨B0, hB0'⟩ : ∃ B0, B0 = bestTo n xs p q iv := ⟨_, rfl⟩
       obtain ⟨Y, hY'⟩ : ∃ Y, Y = byV n xs p q iv := ⟨_, rfl⟩
       rw [← hB0'] at hB0 HM ⊢
       rw [← hY'] at hY HM HBY
       clear hB0' hY'
       by_cases hneg : B0 < 0
       ·have hd : decide (B0 < 0) = true := decide_eq_true hneg
        have HM2 := Aside0.mk (HM.out.trans (if_pos (.inl hneg)))
        clear HM
        go_wp2_with (first | (go_at_call 201; refine (HBY.out _ HKr.out HTr.out).mono ?_; rintro e w5 ⟨rfl, hg, hT⟩; have HGn := Aside0.mk (grown_trans HGr.out hg); have HGm := Aside0.mk (grown_trans HGq.out hg); have HTn := Aside0.mk hT; clear hg hT))
        go_roundw
        case rel => exact ⟨iv + 1, by go_num, by omega, by rw [HM2.out], HGn, HTn, HGm⟩
        case measure => simp [intOf]; omega
       ·have hd : decide (B0 < 0) = false := decide_eq_false hneg
        by_cases hlq : Y < B0
        ·have hd2 : decide (Y < B0) = true := decide_eq_true hlq
         have HM2 := Aside0.mk (HM.out.trans (if_pos (.inr hlq)))
         clear HM
         go_wp2_with (first | (go_at_call 201; refine (HBY.out _ HKr.out HTr.out).mono ?_; rintro e w5 ⟨rfl, hg, hT⟩; have HGn := Aside0.mk (grown_trans HGr.out hg); have HGm := Aside0.mk (grown_trans HGq.out hg); have HTn := Aside0.mk hT; clear hg hT))
         go_roundw
         case rel => exact ⟨iv + 1, by go_num, by omega, by rw [HM2.out], HGn, HTn, HGm⟩
         case measure => simp [intOf]; omega
        ·have hd2 : decide (Y < B0) = false := decide_eq_false hlq
         have HM2 := Aside0.mk (HM.out.trans (if_neg (fun h => h.elim hneg hlq)))
         clear HM
         go_wp2_with (first | (go_at_call 201; refine (HBY.out _ HKr.out HTr.out).mono ?_; rintro e w5 ⟨rfl, hg, hT⟩; have HGn := Aside0.mk (grown_trans HGr.out hg); have HGm := Aside0.mk (grown_trans HGq.out hg); have HTn := Aside0.mk hT; clear hg hT))
         go_roundw
         case rel => exact ⟨iv + 1, by go_num, by omega, by rw [HM2.out], HGn, HTn, HGm⟩
         case measure => simp [intOf]; omega
     ·have e : iv = n := by omega
      have HXE : Aside0 (bestTo n xs p q iv = X) := ⟨by rw [e]; exact HBL.out⟩
      rw [HXE.out]
      clear e
      go_wp2_with (first | (at_mapUpdate; obtain ⟨k_, D_, ho_, hv_⟩ := HTr.out; refine wpList_mapUpdate_own _ rfl _ _ _ 145 rfl 148 2 stKeyed Tryz.underlying145 _ b 4096 _ rfl (mapV_size hn ho_ hv_) le4096 _ _ _ rfl rfl HKEY.out _ [] (plainElem_int Tryz.underlying2 HWX.out) ?_; intro w8 ho8 hg8; have HGe := Aside0.mk (grown_trans HGr.out hg8); have HTe := Aside0.mk (show MapI n (leastV n xs) b w8 from ⟨_, _, ho8, by rw [HX.out]; exact mapV_put HP.out hv_ (World.ownsMap.isMap ho_) HK0.out⟩); clear ho_ hv_ ho8 hg8))
      go_ret
      exact ⟨by rw [HX.out]; rfl, HGe.out, HTe.out⟩
theorem evadersBy (n : Nat) (ku : Value) (xs : List Int) (hcx : Cx n xs) (b : Nat) (f : Nat)
  (ih : ∀ p q a w, a = p ||| q → lefts n p q < f → Pl n p q → RdK b w ku xs → MapI n (leastV n xs) b w → Calls Tryz.prog 202 #[cx n ku, .agg #[.int .i64 (a : Nat), .int .i64 (p : Nat)], .map (some b)] w fun e w' => e = .returned (.int .i64 (leastV n xs p q)) ∧ w.grownBy w' (some b) ∧ MapI n (leastV n xs) b w') :
  ∀ p q a vq w, a = p ||| q → lefts n p q < f + 1 → Pl n p q → vq < n → a.testBit vq = false → RdK b w ku xs → MapI n (leastV n xs) b w →
  Calls Tryz.prog 201 #[cx n ku, .agg #[.int .i64 (a : Nat), .int .i64 (p : Nat)], .int .i64 (vq : Nat), .map (some b)] w fun e w' => e = .returned (.int .i64 (byV n xs p q vq)) ∧ w.grownBy w' (some b) ∧ MapI n (leastV n xs) b w' :=
 fun p q a vq w ha hl hp hv hf hk hT => evadersByS n ku xs hcx b p q a vq w ha hv hf (fun p' q' a' w ha' hl' hp' hk' hT' => ih p' q' a' w ha' (by omega) hp' hk' hT') hp hk hT
theorem evaders (n : Nat) (ku : Value) (xs : List Int) (hcx : Cx n xs) (b : Nat) (f : Nat) : ∀ p q a w, a = p ||| q → lefts n p q < f → Pl n p q → RdK b w ku xs → MapI n (leastV n xs) b w →
  Calls Tryz.prog 202 #[cx n ku, .agg #[.int .i64 (a : Nat), .int .i64 (p : Nat)], .map (some b)] w fun e w' => e = .returned (.int .i64 (leastV n xs p q)) ∧ w.grownBy w' (some b) ∧ MapI n (leastV n xs) b w' := by
 induction f with
 | zero => exact fun p q a w _ hl => absurd hl (Nat.not_lt_zero _)
 | succ f ih => exact fun p q a w ha hl hp hk hT => evadersS n ku xs hcx b p q a w ha (fun vq w hv hf hk' hT' => evadersBy n ku xs hcx b f ih p q a vq w ha hl hp hv hf hk' hT') hp hk hT
end Go.Proofs.YtkggchklmpmgpaaGreat.H
