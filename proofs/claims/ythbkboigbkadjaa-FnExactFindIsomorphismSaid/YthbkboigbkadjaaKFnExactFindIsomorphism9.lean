/- The law of FindIsomorphism (printed by lawgen.py). -/
import Derived.Test.YthbkboigbkadjaaKFnExactFindIsomorphism1
import Derived.Test.YthbkboigbkadjaaKFnExactFindIsomorphism2
import Derived.Test.YthbkboigbkadjaaKFnExactFindIsomorphism3
import Derived.Test.YthbkboigbkadjaaKFnExactFindIsomorphism4
import Derived.Test.YthbkboigbkadjaaKFnExactFindIsomorphism5
import Derived.Test.YthbkboigbkadjaaKFnExactFindIsomorphism6
import Derived.Test.YthbkboigbkadjaaKFnExactFindIsomorphism7
import Derived.Test.YthbkboigbkadjaaKFnExactFindIsomorphism8

namespace Go.Proofs.Ythbkboigbkadjaa.H
open Go.RowKit Go.Proofs.YthbkboigbkadjaaW.PrintWords Go.Proofs.YthbkboigbkadjaaW.PrintLast Go.Proofs.YthbkboigbkadjaaW.PrintMore
set_option linter.unusedVariables false
set_option linter.unusedSimpArgs false

set_option maxRecDepth 1000000 in
set_option maxHeartbeats 8000000 in
theorem lawFnExactFindIsomorphism (w : World) (a0 : Int) (ga0 : W64 a0) (u0 : Value) (l0 : List Int) (h0 : ReadI w u0 l0) (g0 : ∀ x ∈ l0, W64 x) (a1 : Int) (ga1 : W64 a1) (u1 : Value) (l1 : List Int) (h1 : ReadI w u1 l1) (g1 : ∀ x ∈ l1, W64 x) :
    Calls Try.prog 4 #[.agg #[.int .i64 a0, u0], .agg #[.int .i64 a1, u1]] w fun e w' => e = .returned (.bool true) ∧ Below w.heap.size w w' := by
  obtain ⟨w1, hw1⟩ : ∃ w1, w1 = ((w.alloc (.cells #[.int .i64 a0, u0] 24)).alloc (.cells #[.int .i64 a1, u1] 24)) := ⟨_, rfl⟩
  have hB : Below w.heap.size w w1 := by rw [hw1]; exact (((Below.refl _ w).alloc (by simp) _).alloc (by simp) _)
  have c0a : w1.cell? ⟨w.heap.size, 0, none⟩ = some (.int .i64 a0) := by rw [hw1]; simp
  have c0b : w1.cell? ⟨w.heap.size, 1, none⟩ = some u0 := by rw [hw1]; simp
  have c1a : w1.cell? ⟨w.heap.size + 1, 0, none⟩ = some (.int .i64 a1) := by rw [hw1]; simp
  have c1b : w1.cell? ⟨w.heap.size + 1, 1, none⟩ = some u1 := by rw [hw1]; simp
  have hbs : w1.heap.size = w.heap.size + 1 + 1 := by rw [hw1]; simp
  have HBS := Aside0.mk hbs
  clear hbs
  have H0 := Aside0.mk (h0.below hB)
  have H1 := Aside0.mk (h1.below hB)
  obtain ⟨A0, d0, rfl, -⟩ := id h0
  obtain ⟨A1, d1, rfl, -⟩ := id h1
  have HB0 := Aside0.mk hB
  have HB := Aside0.mk (Below.refl w1.heap.size w1)
  have GA0 := Aside0.mk ga0
  have G0 := Aside0.mk g0
  have GA1 := Aside0.mk ga1
  have G1 := Aside0.mk g1
  clear hB h0 ga0 g0 h1 ga1 g1
  have st : Stg 0 := ⟨⟩
  by_cases q0 : l0.length ≤ 1048576
  · have hz0 : szAns (1048576) l0.length = 1048576 - l0.length := by unfold szAns; rw [if_neg (by omega)]
    have q0' : (l0.length : Int) ≤ 1048576 := by omega
    by_cases q1 : l0.length + l1.length ≤ 1048576
    · have hz1 : szAns (1048576 - l0.length) l1.length = 1048576 - l0.length - l1.length := by unfold szAns; rw [if_neg (by omega)]
      have q1' : (l0.length : Int) + l1.length ≤ 1048576 := by omega
      have hmx : Try.prog.follows .mixedOrders = true := by kernel_rfl
      obtain ⟨r0, hr0⟩ : ∃ r, r = (ansFindIsomorphism a0 l0 a1 l1).1 := ⟨_, rfl⟩
      have HRr0 := Aside0.mk hr0
      clear hr0
      obtain ⟨r1, hr1⟩ : ∃ r, r = (ansFindIsomorphism a0 l0 a1 l1).2 := ⟨_, rfl⟩
      have HRr1 := Aside0.mk hr1
      clear hr1
      have lenR : r0.length ≤ 1073741824 := by rw [HRr0.out]; exact lenFindIsomorphism a0 l0 a1 l1
      go_enter Try.func4, Try.ntmps4
      go_wp2_with (first | (replace st := stg_next 0 1 st; rw [← hw1]; clear hw1; go_at_call 9; refine (szComplex _ _ l0 _ _ (ReadI.below H0.out HB.out) (by omega) (by omega)).mono ?_; rintro e w2 ⟨rfl, hb⟩; rw [hz0]; have z2 := Aside0.mk hb.size; replace HB := Aside0.belowC HB hb; replace c0a := pw_cell_below hb c0a; replace c0b := pw_cell_below hb c0b; replace c1a := pw_cell_below hb c1a; replace c1b := pw_cell_below hb c1b; clear hb) | (replace st := stg_next 1 2 st; go_at_call 9; refine (szComplex _ _ l1 _ _ (ReadI.below H1.out HB.out) (by omega) (by omega)).mono ?_; rintro e w3 ⟨rfl, hb⟩; rw [hz1]; have z3 := Aside0.mk hb.size; replace HB := Aside0.belowC HB hb; replace c0a := pw_cell_below hb c0a; replace c0b := pw_cell_below hb c0b; replace c1a := pw_cell_below hb c1a; replace c1b := pw_cell_below hb c1b; clear hb))
      refine wp_region_phi (fun i => match i with | 0 => fun v _ => v = .agg #[.int .i64 a0, .slice A0 l0.length d0] | 1 => fun v W => ∃ u, v = .agg #[.int .i64 a0, u] ∧ OwnI w3.heap.size W u l0 | 2 => fun v _ => v = .agg #[.int .i64 a1, .slice A1 l1.length d1] | 3 => fun v W => ∃ u, v = .agg #[.int .i64 a1, u] ∧ OwnI w3.heap.size W u l1 | 4 => fun v W => ∃ u, v = .tuple #[u, .int .i64 r1] ∧ OwnI w3.heap.size W u r0 | 5 => fun v W => ∃ u, v = .tuple #[u, .int .i64 r1] ∧ OwnI w3.heap.size W u r0 | 6 => fun v W => OwnI w3.heap.size W v r0 | 7 => fun v _ => v = .int .i64 r1 | 8 => fun v W => OwnI w3.heap.size W v r0 | 9 => fun v _ => v = .int .i64 r1 | _ => fun _ _ => True)
        [0, 1, 0, 7, 15, 31, 63, 63, 127, 511] hmx (by kernel_rfl) ?st ?steps ?rest
      case st =>
        intro i v w1_ w2_ hb
        match i with
        | 0 | 2 | 7 | 9 => exact id
        | 1 | 3 | 4 | 5 => exact fun ⟨u, e, ho⟩ => ⟨u, e, ho.below hb⟩
        | 6 | 8 => exact fun ho => OwnI.below ho hb
        | n + 10 => exact id
      case steps =>
        refine ⟨?_, ?_, ?_, ?_, ?_, ?_, ?_, ?_, ?_, ?_, trivial⟩
        · intro s w_ hb hd R hR
          generalize hA : putAll _ 0 s _ = A
          have c0a := pw_cell_below hb c0a
          have c0b := pw_cell_below hb c0b
          have hR' := hR (.agg #[.int .i64 a0, .slice A0 l0.length d0]) _ (Below.refl _ _) (rfl)
          clear hR hd
          refine opGives_value ?_ hR'
          subst hA
          simp only [dsOf, List.map_cons, List.map_nil, Option.getD_some, putAll, Act.put, List.setIfInBounds_toArray, List.set_cons_zero, List.set_cons_succ]
          go_simp
        · intro s w_ hb hd R hR
          generalize hA : putAll _ 0 s _ = A
          have e0 : s 0 = _ := hd 0 (by kernel_rfl)
          have hs := hb.size
          refine opGives_call (f := 11) (args := #[.agg #[.int .i64 a0, .slice A0 l0.length d0]]) ?_ ?_
          · subst hA
            clear hR hd
            simp only [dsOf, List.map_cons, List.map_nil, Option.getD_some, putAll, Act.put, List.setIfInBounds_toArray, List.set_cons_zero, List.set_cons_succ]
            go_simp
          clear hA A
          refine (toComplex _ _ l0 w_ (ReadI.below H0.out (HB.out.trans (hb.mono HB.out.size))) (by omega)).mono ?_
          rintro e w__ ⟨u, rfl, ho, hb5⟩
          exact ⟨_, rfl, hR _ _ hb5 ⟨u, rfl, ho.lower hs⟩⟩
        · intro s w_ hb hd R hR
          generalize hA : putAll _ 0 s _ = A
          have c1a := pw_cell_below hb c1a
          have c1b := pw_cell_below hb c1b
          have hR' := hR (.agg #[.int .i64 a1, .slice A1 l1.length d1]) _ (Below.refl _ _) (rfl)
          clear hR hd
          refine opGives_value ?_ hR'
          subst hA
          simp only [dsOf, List.map_cons, List.map_nil, Option.getD_some, putAll, Act.put, List.setIfInBounds_toArray, List.set_cons_zero, List.set_cons_succ]
          go_simp
        · intro s w_ hb hd R hR
          generalize hA : putAll _ 0 s _ = A
          have e2 : s 2 = _ := hd 2 (by kernel_rfl)
          have hs := hb.size
          refine opGives_call (f := 11) (args := #[.agg #[.int .i64 a1, .slice A1 l1.length d1]]) ?_ ?_
          · subst hA
            clear hR hd
            simp only [dsOf, List.map_cons, List.map_nil, Option.getD_some, putAll, Act.put, List.setIfInBounds_toArray, List.set_cons_zero, List.set_cons_succ]
            go_simp
          clear hA A
          refine (toComplex _ _ l1 w_ (ReadI.below H1.out (HB.out.trans (hb.mono HB.out.size))) (by omega)).mono ?_
          rintro e w__ ⟨u, rfl, ho, hb5⟩
          exact ⟨_, rfl, hR _ _ hb5 ⟨u, rfl, ho.lower hs⟩⟩
        · intro s w_ hb hd R hR
          generalize hA : putAll _ 0 s _ = A
          obtain ⟨u1, e1, o1⟩ : ∃ u, s 1 = _ ∧ OwnI _ _ u l0 := hd 1 (by kernel_rfl)
          obtain ⟨u3, e3, o3⟩ : ∃ u, s 3 = _ ∧ OwnI _ _ u l1 := hd 3 (by kernel_rfl)
          have hs := hb.size
          refine opGives_call (f := 14) (args := #[.agg #[.int .i64 a0, u1], .agg #[.int .i64 a1, u3]]) ?_ ?_
          · subst hA
            clear hR hd
            simp only [dsOf, List.map_cons, List.map_nil, Option.getD_some, putAll, Act.put, List.setIfInBounds_toArray, List.set_cons_zero, List.set_cons_succ]
            go_simp
          clear hA A
          refine (specFindIsomorphism a0 _ l0 a1 _ l1 w_ o1.read o3.read).mono ?_
          rw [← HRr0.out, ← HRr1.out]
          rintro e w__ ⟨u, rfl, ho, hb5⟩
          exact ⟨_, rfl, hR _ _ hb5 ⟨u, rfl, ho.lower hs⟩⟩
        · intro s w_ hb hd R hR
          generalize hA : putAll _ 0 s _ = A
          obtain ⟨u4, e4, o4⟩ : ∃ u, s 4 = _ ∧ OwnI _ _ u r0 := hd 4 (by kernel_rfl)
          have hR' := hR (.tuple #[u4, .int .i64 r1]) _ (Below.refl _ _) (⟨u4, rfl, o4⟩)
          clear hR hd
          refine opGives_value ?_ hR'
          subst hA
          simp only [dsOf, List.map_cons, List.map_nil, Option.getD_some, putAll, Act.put, List.setIfInBounds_toArray, List.set_cons_zero, List.set_cons_succ]
          go_simp
        · intro s w_ hb hd R hR
          generalize hA : putAll _ 0 s _ = A
          obtain ⟨u5, e5, o5⟩ : ∃ u, s 5 = _ ∧ OwnI _ _ u r0 := hd 5 (by kernel_rfl)
          have hR' := hR (u5) _ (Below.refl _ _) (o5)
          clear hR hd
          refine opGives_value ?_ hR'
          subst hA
          simp only [dsOf, List.map_cons, List.map_nil, Option.getD_some, putAll, Act.put, List.setIfInBounds_toArray, List.set_cons_zero, List.set_cons_succ]
          go_simp
        · intro s w_ hb hd R hR
          generalize hA : putAll _ 0 s _ = A
          obtain ⟨u5, e5, o5⟩ : ∃ u, s 5 = _ ∧ OwnI _ _ u r0 := hd 5 (by kernel_rfl)
          have hR' := hR (.int .i64 r1) _ (Below.refl _ _) (rfl)
          clear hR hd
          refine opGives_value ?_ hR'
          subst hA
          simp only [dsOf, List.map_cons, List.map_nil, Option.getD_some, putAll, Act.put, List.setIfInBounds_toArray, List.set_cons_zero, List.set_cons_succ]
          go_simp
        · intro s w_ hb hd R hR
          generalize hA : putAll _ 0 s _ = A
          have o6 : OwnI _ _ (s 6) r0 := hd 6 (by kernel_rfl)
          have hR' := hR (s 6) _ (Below.refl _ _) (o6)
          clear hR hd
          refine opGives_value ?_ hR'
          subst hA
          simp only [dsOf, List.map_cons, List.map_nil, Option.getD_some, putAll, Act.put, List.setIfInBounds_toArray, List.set_cons_zero, List.set_cons_succ]
          go_simp
        · intro s w_ hb hd R hR
          generalize hA : putAll _ 0 s _ = A
          have e7 : s 7 = _ := hd 7 (by kernel_rfl)
          have hR' := hR (.int .i64 r1) _ (Below.refl _ _) (rfl)
          clear hR hd
          refine opGives_value ?_ hR'
          subst hA
          simp only [dsOf, List.map_cons, List.map_nil, Option.getD_some, putAll, Act.put, List.setIfInBounds_toArray, List.set_cons_zero, List.set_cons_succ]
          go_simp
      case rest =>
        intro s4 w4 hb hv
        have ho : OwnI _ _ (s4 8) r0 := hv 8 (by decide)
        obtain ⟨A_4, d_4, e8_, -⟩ := ho.read
        rw [e8_] at ho
        have RG4 := Aside0.mk (fun k hk => And.intro (ho.base k hk) (ho.lt k hk))
        have e9_ : s4 9 = _ := hv 9 (by decide)
        simp only [dsOf, List.map_cons, List.map_nil, Option.getD_some, putAll, Act.put, List.setIfInBounds_toArray, List.set_cons_zero, List.set_cons_succ]
        rw [e8_, e9_]
        clear hv e8_ e9_
        have z4 := Aside0.mk hb.size
        replace HB := Aside0.belowC HB hb
        replace c0a := pw_cell_below hb c0a
        replace c0b := pw_cell_below hb c0b
        replace c1a := pw_cell_below hb c1a
        replace c1b := pw_cell_below hb c1b
        clear hb
        have HO4 := Aside0.mk ho
        clear ho
        go_wp2_with (first | (replace st := stg_next 2 3 st; go_at_call 11; refine (toComplex _ _ l0 _ (ReadI.below H0.out HB.out) (by omega)).mono ?_; rintro e w5 ⟨u, rfl, ho, hb⟩; obtain ⟨A_5, d_5, rfl, -⟩ := ho.read; have RG5 := Aside0.mk (fun k hk => And.intro (ho.base k hk) (ho.lt k hk)); have z5 := Aside0.mk hb.size; replace HB := Aside0.belowC HB hb; replace c0a := pw_cell_below hb c0a; replace c0b := pw_cell_below hb c0b; replace c1a := pw_cell_below hb c1a; replace c1b := pw_cell_below hb c1b; replace HO4 := Aside0.own HO4 hb; clear hb; have HO5 := Aside0.mk ho; clear ho; have ec0a := cell_ahead c0a; have ec0b := cell_ahead c0b; have ec1a := cell_ahead c1a; have ec1b := cell_ahead c1b) | (replace st := stg_next 3 4 st; go_at_call 11; refine (toComplex _ _ l1 _ (ReadI.below H1.out (HB.out.trans (Below.alloc (Below.refl _ _) HB.out.size _))) (by omega)).mono ?_; rintro e w6 ⟨u, rfl, ho, hb⟩; obtain ⟨A_6, d_6, rfl, -⟩ := ho.read; have RG6 := Aside0.mk (fun k hk => And.intro (ho.base k hk) (ho.lt k hk)); clear ec0a; clear ec0b; clear ec1a; clear ec1b; have c100 : w6.cell? ⟨w5.heap.size, 0, none⟩ = some (.int .i64 a0) := pw_cell_below hb (new_cell _ _ _ 0 _ rfl); have c101 : w6.cell? ⟨w5.heap.size, 1, none⟩ = some (.slice A_5 l0.length d_5) := pw_cell_below hb (new_cell _ _ _ 1 _ rfl); have z6 := Aside0.mk (alloc_size hb); replace hb := below_unalloc hb; replace HB := Aside0.belowC HB hb; replace c0a := pw_cell_below hb c0a; replace c0b := pw_cell_below hb c0b; replace c1a := pw_cell_below hb c1a; replace c1b := pw_cell_below hb c1b; replace HO4 := Aside0.own HO4 hb; replace HO5 := Aside0.own HO5 hb; clear hb; have HO6 := Aside0.mk ho; clear ho; have ec0a := cell_ahead c0a; have ec0b := cell_ahead c0b; have ec1a := cell_ahead c1a; have ec1b := cell_ahead c1b; have ec100 := cell_ahead c100; have ec101 := cell_ahead c101) | (replace st := stg_next 4 5 st; go_at_call 15; refine (implFindIsomorphism a0 _ l0 a1 _ l1 _ (ReadI.below HO5.out.read (Below.alloc (Below.refl _ _) (Nat.le_refl _) _)) (ReadI.below HO6.out.read (Below.alloc (Below.refl _ _) (Nat.le_refl _) _))).mono ?_; rw [← HRr0.out, ← HRr1.out]; rintro e w7 ⟨u, rfl, ho, hb⟩; obtain ⟨A_7, d_7, rfl, -⟩ := ho.read; have RG7 := Aside0.mk (fun k hk => And.intro (ho.base k hk) (ho.lt k hk)); clear ec0a; clear ec0b; clear ec1a; clear ec1b; clear ec100; clear ec101; have c102 : w7.cell? ⟨w6.heap.size, 0, none⟩ = some (.int .i64 a1) := pw_cell_below hb (new_cell _ _ _ 0 _ rfl); have c103 : w7.cell? ⟨w6.heap.size, 1, none⟩ = some (.slice A_6 l1.length d_6) := pw_cell_below hb (new_cell _ _ _ 1 _ rfl); have z7 := Aside0.mk (alloc_size hb); replace hb := below_unalloc hb; replace HB := Aside0.belowC HB hb; replace c0a := pw_cell_below hb c0a; replace c0b := pw_cell_below hb c0b; replace c1a := pw_cell_below hb c1a; replace c1b := pw_cell_below hb c1b; replace c100 := pw_cell_below hb c100; replace c101 := pw_cell_below hb c101; replace HO4 := Aside0.own HO4 hb; replace HO5 := Aside0.own HO5 hb; replace HO6 := Aside0.own HO6 hb; clear hb; have HO7 := Aside0.mk ho; clear ho) | (replace st := stg_next 5 6 st; go_at_call 16; refine (eqInt64S _ _ r0 r0 _ HO7.out.read HO4.out.read).mono ?_; rintro e w8 ⟨rfl, hb⟩; rw [beq_self_eq_true]; have z8 := Aside0.mk hb.size; replace HB := Aside0.belowC HB hb; replace c0a := pw_cell_below hb c0a; replace c0b := pw_cell_below hb c0b; replace c1a := pw_cell_below hb c1a; replace c1b := pw_cell_below hb c1b; replace c100 := pw_cell_below hb c100; replace c101 := pw_cell_below hb c101; replace c102 := pw_cell_below hb c102; replace c103 := pw_cell_below hb c103; replace HO4 := Aside0.own HO4 hb; replace HO5 := Aside0.own HO5 hb; replace HO6 := Aside0.own HO6 hb; replace HO7 := Aside0.own HO7 hb; clear hb))
        refine wp_region_phi (fun i => match i with | 0 => fun v _ => v = .agg #[.int .i64 a0, .slice A_5 l0.length d_5] | 1 => fun v _ => v = .agg #[.int .i64 a0, .slice A0 l0.length d0] | 2 => fun v W => ∃ u, v = .agg #[.int .i64 a0, u] ∧ OwnI w8.heap.size W u l0 | 3 => fun v _ => v = .bool true | 4 => fun v _ => v = .bool false | _ => fun _ _ => True)
          [0, 0, 2, 7, 15] hmx (by kernel_rfl) ?st ?steps ?rest
        case st =>
          intro i v w1_ w2_ hb
          match i with
          | 0 | 1 | 3 | 4 => exact id
          | 2 => exact fun ⟨u, e, ho⟩ => ⟨u, e, ho.below hb⟩
          | n + 5 => exact id
        case steps =>
          refine ⟨?_, ?_, ?_, ?_, ?_, trivial⟩
          · intro s w_ hb hd R hR
            generalize hA : putAll _ 0 s _ = A
            have c100 := pw_cell_below hb c100
            have c101 := pw_cell_below hb c101
            have hR' := hR (.agg #[.int .i64 a0, .slice A_5 l0.length d_5]) _ (Below.refl _ _) (rfl)
            clear hR hd
            refine opGives_value ?_ hR'
            subst hA
            simp only [dsOf, List.map_cons, List.map_nil, Option.getD_some, putAll, Act.put, List.setIfInBounds_toArray, List.set_cons_zero, List.set_cons_succ]
            go_simp
          · intro s w_ hb hd R hR
            generalize hA : putAll _ 0 s _ = A
            have c0a := pw_cell_below hb c0a
            have c0b := pw_cell_below hb c0b
            have hR' := hR (.agg #[.int .i64 a0, .slice A0 l0.length d0]) _ (Below.refl _ _) (rfl)
            clear hR hd
            refine opGives_value ?_ hR'
            subst hA
            simp only [dsOf, List.map_cons, List.map_nil, Option.getD_some, putAll, Act.put, List.setIfInBounds_toArray, List.set_cons_zero, List.set_cons_succ]
            go_simp
          · intro s w_ hb hd R hR
            generalize hA : putAll _ 0 s _ = A
            have e1 : s 1 = _ := hd 1 (by kernel_rfl)
            have hs := hb.size
            refine opGives_call (f := 11) (args := #[.agg #[.int .i64 a0, .slice A0 l0.length d0]]) ?_ ?_
            · subst hA
              clear hR hd
              simp only [dsOf, List.map_cons, List.map_nil, Option.getD_some, putAll, Act.put, List.setIfInBounds_toArray, List.set_cons_zero, List.set_cons_succ]
              go_simp
            clear hA A
            refine (toComplex _ _ l0 w_ (ReadI.below H0.out (HB.out.trans (hb.mono HB.out.size))) (by omega)).mono ?_
            rintro e w__ ⟨u, rfl, ho, hb5⟩
            exact ⟨_, rfl, hR _ _ hb5 ⟨u, rfl, ho.lower hs⟩⟩
          · intro s w_ hb hd R hR
            generalize hA : putAll _ 0 s _ = A
            have e0 : s 0 = _ := hd 0 (by kernel_rfl)
            obtain ⟨u2, e2, o2⟩ : ∃ u, s 2 = _ ∧ OwnI _ _ u l0 := hd 2 (by kernel_rfl)
            have hs := hb.size
            refine opGives_call (f := 13) (args := #[.agg #[.int .i64 a0, .slice A_5 l0.length d_5], .agg #[.int .i64 a0, u2]]) ?_ ?_
            · subst hA
              clear hR hd
              simp only [dsOf, List.map_cons, List.map_nil, Option.getD_some, putAll, Act.put, List.setIfInBounds_toArray, List.set_cons_zero, List.set_cons_succ]
              go_simp
            clear hA A
            refine (eqComplex _ _ _ _ l0 l0 w_ (ReadI.below HO5.out.read hb) o2.read).mono ?_
            rintro e w__ ⟨rfl, hb5⟩
            rw [decide_eq_true rfl, beq_self_eq_true]
            exact ⟨_, rfl, hR _ _ hb5 rfl⟩
          · intro s w_ hb hd R hR
            generalize hA : putAll _ 0 s _ = A
            have e3 : s 3 = _ := hd 3 (by kernel_rfl)
            have hR' := hR (.bool false) _ (Below.refl _ _) (rfl)
            clear hR hd
            refine opGives_value ?_ hR'
            subst hA
            simp only [dsOf, List.map_cons, List.map_nil, Option.getD_some, putAll, Act.put, List.setIfInBounds_toArray, List.set_cons_zero, List.set_cons_succ]
            go_simp
        case rest =>
          intro s9 w9 hb hv
          have e4_ : s9 4 = _ := hv 4 (by decide)
          simp only [dsOf, List.map_cons, List.map_nil, Option.getD_some, putAll, Act.put, List.setIfInBounds_toArray, List.set_cons_zero, List.set_cons_succ]
          rw [e4_]
          clear hv e4_
          have z9 := Aside0.mk hb.size
          replace HB := Aside0.belowC HB hb
          replace c0a := pw_cell_below hb c0a
          replace c0b := pw_cell_below hb c0b
          replace c1a := pw_cell_below hb c1a
          replace c1b := pw_cell_below hb c1b
          replace c100 := pw_cell_below hb c100
          replace c101 := pw_cell_below hb c101
          replace c102 := pw_cell_below hb c102
          replace c103 := pw_cell_below hb c103
          replace HO4 := Aside0.own HO4 hb
          replace HO5 := Aside0.own HO5 hb
          replace HO6 := Aside0.own HO6 hb
          replace HO7 := Aside0.own HO7 hb
          clear hb
          go_wp2
          refine wp_region_phi (fun i => match i with | 0 => fun v _ => v = .agg #[.int .i64 a1, .slice A_6 l1.length d_6] | 1 => fun v _ => v = .agg #[.int .i64 a1, .slice A1 l1.length d1] | 2 => fun v W => ∃ u, v = .agg #[.int .i64 a1, u] ∧ OwnI w9.heap.size W u l1 | 3 => fun v _ => v = .bool true | 4 => fun v _ => v = .bool false | _ => fun _ _ => True)
            [0, 0, 2, 7, 15] hmx (by kernel_rfl) ?st ?steps ?rest
          case st =>
            intro i v w1_ w2_ hb
            match i with
            | 0 | 1 | 3 | 4 => exact id
            | 2 => exact fun ⟨u, e, ho⟩ => ⟨u, e, ho.below hb⟩
            | n + 5 => exact id
          case steps =>
            refine ⟨?_, ?_, ?_, ?_, ?_, trivial⟩
            · intro s w_ hb hd R hR
              generalize hA : putAll _ 0 s _ = A
              have c102 := pw_cell_below hb c102
              have c103 := pw_cell_below hb c103
              have hR' := hR (.agg #[.int .i64 a1, .slice A_6 l1.length d_6]) _ (Below.refl _ _) (rfl)
              clear hR hd
              refine opGives_value ?_ hR'
              subst hA
              simp only [dsOf, List.map_cons, List.map_nil, Option.getD_some, putAll, Act.put, List.setIfInBounds_toArray, List.set_cons_zero, List.set_cons_succ]
              go_simp
            · intro s w_ hb hd R hR
              generalize hA : putAll _ 0 s _ = A
              have c1a := pw_cell_below hb c1a
              have c1b := pw_cell_below hb c1b
              have hR' := hR (.agg #[.int .i64 a1, .slice A1 l1.length d1]) _ (Below.refl _ _) (rfl)
              clear hR hd
              refine opGives_value ?_ hR'
              subst hA
              simp only [dsOf, List.map_cons, List.map_nil, Option.getD_some, putAll, Act.put, List.setIfInBounds_toArray, List.set_cons_zero, List.set_cons_succ]
              go_simp
            · intro s w_ hb hd R hR
              generalize hA : putAll _ 0 s _ = A
              have e1 : s 1 = _ := hd 1 (by kernel_rfl)
              have hs := hb.size
              refine opGives_call (f := 11) (args := #[.agg #[.int .i64 a1, .slice A1 l1.length d1]]) ?_ ?_
              · subst hA
                clear hR hd
                simp only [dsOf, List.map_cons, List.map_nil, Option.getD_some, putAll, Act.put, List.setIfInBounds_toArray, List.set_cons_zero, List.set_cons_succ]
                go_simp
              clear hA A
              refine (toComplex _ _ l1 w_ (ReadI.below H1.out (HB.out.trans (hb.mono HB.out.size))) (by omega)).mono ?_
              rintro e w__ ⟨u, rfl, ho, hb5⟩
              exact ⟨_, rfl, hR _ _ hb5 ⟨u, rfl, ho.lower hs⟩⟩
            · intro s w_ hb hd R hR
              generalize hA : putAll _ 0 s _ = A
              have e0 : s 0 = _ := hd 0 (by kernel_rfl)
              obtain ⟨u2, e2, o2⟩ : ∃ u, s 2 = _ ∧ OwnI _ _ u l1 := hd 2 (by kernel_rfl)
              have hs := hb.size
              refine opGives_call (f := 13) (args := #[.agg #[.int .i64 a1, .slice A_6 l1.length d_6], .agg #[.int .i64 a1, u2]]) ?_ ?_
              · subst hA
                clear hR hd
                simp only [dsOf, List.map_cons, List.map_nil, Option.getD_some, putAll, Act.put, List.setIfInBounds_toArray, List.set_cons_zero, List.set_cons_succ]
                go_simp
              clear hA A
              refine (eqComplex _ _ _ _ l1 l1 w_ (ReadI.below HO6.out.read hb) o2.read).mono ?_
              rintro e w__ ⟨rfl, hb5⟩
              rw [decide_eq_true rfl, beq_self_eq_true]
              exact ⟨_, rfl, hR _ _ hb5 rfl⟩
            · intro s w_ hb hd R hR
              generalize hA : putAll _ 0 s _ = A
              have e3 : s 3 = _ := hd 3 (by kernel_rfl)
              have hR' := hR (.bool false) _ (Below.refl _ _) (rfl)
              clear hR hd
              refine opGives_value ?_ hR'
              subst hA
              simp only [dsOf, List.map_cons, List.map_nil, Option.getD_some, putAll, Act.put, List.setIfInBounds_toArray, List.set_cons_zero, List.set_cons_succ]
              go_simp
          case rest =>
            intro s10 w10 hb hv
            have e4_ : s10 4 = _ := hv 4 (by decide)
            simp only [dsOf, List.map_cons, List.map_nil, Option.getD_some, putAll, Act.put, List.setIfInBounds_toArray, List.set_cons_zero, List.set_cons_succ]
            rw [e4_]
            clear hv e4_
            have z10 := Aside0.mk hb.size
            replace HB := Aside0.belowC HB hb
            replace c0a := pw_cell_below hb c0a
            replace c0b := pw_cell_below hb c0b
            replace c1a := pw_cell_below hb c1a
            replace c1b := pw_cell_below hb c1b
            replace c100 := pw_cell_below hb c100
            replace c101 := pw_cell_below hb c101
            replace c102 := pw_cell_below hb c102
            replace c103 := pw_cell_below hb c103
            replace HO4 := Aside0.own HO4 hb
            replace HO5 := Aside0.own HO5 hb
            replace HO6 := Aside0.own HO6 hb
            replace HO7 := Aside0.own HO7 hb
            clear hb
            go_wp2_with (first | (replace st := stg_next 6 7 st; go_at_call 17; have hl_ : l0.length ≤ 1073741824 := (by omega); refine (markComplex _ _ _ l0 (1) _ HO5.out (by omega) hl_ (by have hbs_ := HBS.out; have z2_ := z2.out; have z3_ := z3.out; have z4_ := z4.out; have z5_ := z5.out; have z6_ := z6.out; have z7_ := z7.out; have z8_ := z8.out; have z9_ := z9.out; have z10_ := z10.out; (try simp only [World.size_alloc]); omega)).mono ?_; rintro e w11 ⟨rfl, ho, hg, hb⟩; clear hl_; have z11 := Aside0.mk hg.size; replace HB := Aside0.mk (HB.out.trans (hb.mono (by have hbs_ := HBS.out; have z2_ := z2.out; have z3_ := z3.out; have z4_ := z4.out; have z5_ := z5.out; have z6_ := z6.out; have z7_ := z7.out; have z8_ := z8.out; have z9_ := z9.out; have z10_ := z10.out; (try simp only [World.size_alloc]); omega))); replace c0a := cell_grown hg RG5.out (by have hbs_ := HBS.out; have z2_ := z2.out; have z3_ := z3.out; have z4_ := z4.out; have z5_ := z5.out; have z6_ := z6.out; have z7_ := z7.out; have z8_ := z8.out; have z9_ := z9.out; have z10_ := z10.out; (try dsimp only); (try simp only [World.size_alloc]); omega) c0a; replace c0b := cell_grown hg RG5.out (by have hbs_ := HBS.out; have z2_ := z2.out; have z3_ := z3.out; have z4_ := z4.out; have z5_ := z5.out; have z6_ := z6.out; have z7_ := z7.out; have z8_ := z8.out; have z9_ := z9.out; have z10_ := z10.out; (try dsimp only); (try simp only [World.size_alloc]); omega) c0b; replace c1a := cell_grown hg RG5.out (by have hbs_ := HBS.out; have z2_ := z2.out; have z3_ := z3.out; have z4_ := z4.out; have z5_ := z5.out; have z6_ := z6.out; have z7_ := z7.out; have z8_ := z8.out; have z9_ := z9.out; have z10_ := z10.out; (try dsimp only); (try simp only [World.size_alloc]); omega) c1a; replace c1b := cell_grown hg RG5.out (by have hbs_ := HBS.out; have z2_ := z2.out; have z3_ := z3.out; have z4_ := z4.out; have z5_ := z5.out; have z6_ := z6.out; have z7_ := z7.out; have z8_ := z8.out; have z9_ := z9.out; have z10_ := z10.out; (try dsimp only); (try simp only [World.size_alloc]); omega) c1b; replace c100 := cell_grown hg RG5.out (by have hbs_ := HBS.out; have z2_ := z2.out; have z3_ := z3.out; have z4_ := z4.out; have z5_ := z5.out; have z6_ := z6.out; have z7_ := z7.out; have z8_ := z8.out; have z9_ := z9.out; have z10_ := z10.out; (try dsimp only); (try simp only [World.size_alloc]); omega) c100; replace c101 := cell_grown hg RG5.out (by have hbs_ := HBS.out; have z2_ := z2.out; have z3_ := z3.out; have z4_ := z4.out; have z5_ := z5.out; have z6_ := z6.out; have z7_ := z7.out; have z8_ := z8.out; have z9_ := z9.out; have z10_ := z10.out; (try dsimp only); (try simp only [World.size_alloc]); omega) c101; replace c102 := cell_grown hg RG5.out (by have hbs_ := HBS.out; have z2_ := z2.out; have z3_ := z3.out; have z4_ := z4.out; have z5_ := z5.out; have z6_ := z6.out; have z7_ := z7.out; have z8_ := z8.out; have z9_ := z9.out; have z10_ := z10.out; (try dsimp only); (try simp only [World.size_alloc]); omega) c102; replace c103 := cell_grown hg RG5.out (by have hbs_ := HBS.out; have z2_ := z2.out; have z3_ := z3.out; have z4_ := z4.out; have z5_ := z5.out; have z6_ := z6.out; have z7_ := z7.out; have z8_ := z8.out; have z9_ := z9.out; have z10_ := z10.out; (try dsimp only); (try simp only [World.size_alloc]); omega) c103; replace HO4 := Aside0.mk (own_grown hg RG5.out RG4.out (by have hbs_ := HBS.out; have z2_ := z2.out; have z3_ := z3.out; have z4_ := z4.out; have z5_ := z5.out; have z6_ := z6.out; have z7_ := z7.out; have z8_ := z8.out; have z9_ := z9.out; have z10_ := z10.out; (try simp only [World.size_alloc]); omega) HO4.out); replace HO6 := Aside0.mk (own_grown hg RG5.out RG6.out (by have hbs_ := HBS.out; have z2_ := z2.out; have z3_ := z3.out; have z4_ := z4.out; have z5_ := z5.out; have z6_ := z6.out; have z7_ := z7.out; have z8_ := z8.out; have z9_ := z9.out; have z10_ := z10.out; (try simp only [World.size_alloc]); omega) HO6.out); replace HO7 := Aside0.mk (own_grown hg RG5.out RG7.out (by have hbs_ := HBS.out; have z2_ := z2.out; have z3_ := z3.out; have z4_ := z4.out; have z5_ := z5.out; have z6_ := z6.out; have z7_ := z7.out; have z8_ := z8.out; have z9_ := z9.out; have z10_ := z10.out; (try simp only [World.size_alloc]); omega) HO7.out); replace HO5 := Aside0.mk ho; clear ho hg hb) | (replace st := stg_next 7 8 st; go_at_call 17; have hl_ : l1.length ≤ 1073741824 := (by omega); refine (markComplex _ _ _ l1 ((1 + l0.length)) _ HO6.out (by omega) hl_ (by have hbs_ := HBS.out; have z2_ := z2.out; have z3_ := z3.out; have z4_ := z4.out; have z5_ := z5.out; have z6_ := z6.out; have z7_ := z7.out; have z8_ := z8.out; have z9_ := z9.out; have z10_ := z10.out; have z11_ := z11.out; (try simp only [World.size_alloc]); omega)).mono ?_; rintro e w12 ⟨rfl, ho, hg, hb⟩; clear hl_; have z12 := Aside0.mk hg.size; replace HB := Aside0.mk (HB.out.trans (hb.mono (by have hbs_ := HBS.out; have z2_ := z2.out; have z3_ := z3.out; have z4_ := z4.out; have z5_ := z5.out; have z6_ := z6.out; have z7_ := z7.out; have z8_ := z8.out; have z9_ := z9.out; have z10_ := z10.out; have z11_ := z11.out; (try simp only [World.size_alloc]); omega))); replace c0a := cell_grown hg RG6.out (by have hbs_ := HBS.out; have z2_ := z2.out; have z3_ := z3.out; have z4_ := z4.out; have z5_ := z5.out; have z6_ := z6.out; have z7_ := z7.out; have z8_ := z8.out; have z9_ := z9.out; have z10_ := z10.out; have z11_ := z11.out; (try dsimp only); (try simp only [World.size_alloc]); omega) c0a; replace c0b := cell_grown hg RG6.out (by have hbs_ := HBS.out; have z2_ := z2.out; have z3_ := z3.out; have z4_ := z4.out; have z5_ := z5.out; have z6_ := z6.out; have z7_ := z7.out; have z8_ := z8.out; have z9_ := z9.out; have z10_ := z10.out; have z11_ := z11.out; (try dsimp only); (try simp only [World.size_alloc]); omega) c0b; replace c1a := cell_grown hg RG6.out (by have hbs_ := HBS.out; have z2_ := z2.out; have z3_ := z3.out; have z4_ := z4.out; have z5_ := z5.out; have z6_ := z6.out; have z7_ := z7.out; have z8_ := z8.out; have z9_ := z9.out; have z10_ := z10.out; have z11_ := z11.out; (try dsimp only); (try simp only [World.size_alloc]); omega) c1a; replace c1b := cell_grown hg RG6.out (by have hbs_ := HBS.out; have z2_ := z2.out; have z3_ := z3.out; have z4_ := z4.out; have z5_ := z5.out; have z6_ := z6.out; have z7_ := z7.out; have z8_ := z8.out; have z9_ := z9.out; have z10_ := z10.out; have z11_ := z11.out; (try dsimp only); (try simp only [World.size_alloc]); omega) c1b; replace c100 := cell_grown hg RG6.out (by have hbs_ := HBS.out; have z2_ := z2.out; have z3_ := z3.out; have z4_ := z4.out; have z5_ := z5.out; have z6_ := z6.out; have z7_ := z7.out; have z8_ := z8.out; have z9_ := z9.out; have z10_ := z10.out; have z11_ := z11.out; (try dsimp only); (try simp only [World.size_alloc]); omega) c100; replace c101 := cell_grown hg RG6.out (by have hbs_ := HBS.out; have z2_ := z2.out; have z3_ := z3.out; have z4_ := z4.out; have z5_ := z5.out; have z6_ := z6.out; have z7_ := z7.out; have z8_ := z8.out; have z9_ := z9.out; have z10_ := z10.out; have z11_ := z11.out; (try dsimp only); (try simp only [World.size_alloc]); omega) c101; replace c102 := cell_grown hg RG6.out (by have hbs_ := HBS.out; have z2_ := z2.out; have z3_ := z3.out; have z4_ := z4.out; have z5_ := z5.out; have z6_ := z6.out; have z7_ := z7.out; have z8_ := z8.out; have z9_ := z9.out; have z10_ := z10.out; have z11_ := z11.out; (try dsimp only); (try simp only [World.size_alloc]); omega) c102; replace c103 := cell_grown hg RG6.out (by have hbs_ := HBS.out; have z2_ := z2.out; have z3_ := z3.out; have z4_ := z4.out; have z5_ := z5.out; have z6_ := z6.out; have z7_ := z7.out; have z8_ := z8.out; have z9_ := z9.out; have z10_ := z10.out; have z11_ := z11.out; (try dsimp only); (try simp only [World.size_alloc]); omega) c103; replace HO4 := Aside0.mk (own_grown hg RG6.out RG4.out (by have hbs_ := HBS.out; have z2_ := z2.out; have z3_ := z3.out; have z4_ := z4.out; have z5_ := z5.out; have z6_ := z6.out; have z7_ := z7.out; have z8_ := z8.out; have z9_ := z9.out; have z10_ := z10.out; have z11_ := z11.out; (try simp only [World.size_alloc]); omega) HO4.out); replace HO5 := Aside0.mk (own_grown hg RG6.out RG5.out (by have hbs_ := HBS.out; have z2_ := z2.out; have z3_ := z3.out; have z4_ := z4.out; have z5_ := z5.out; have z6_ := z6.out; have z7_ := z7.out; have z8_ := z8.out; have z9_ := z9.out; have z10_ := z10.out; have z11_ := z11.out; (try simp only [World.size_alloc]); omega) HO5.out); replace HO7 := Aside0.mk (own_grown hg RG6.out RG7.out (by have hbs_ := HBS.out; have z2_ := z2.out; have z3_ := z3.out; have z4_ := z4.out; have z5_ := z5.out; have z6_ := z6.out; have z7_ := z7.out; have z8_ := z8.out; have z9_ := z9.out; have z10_ := z10.out; have z11_ := z11.out; (try simp only [World.size_alloc]); omega) HO7.out); replace HO6 := Aside0.mk ho; clear ho hg hb) | (replace st := stg_next 8 9 st; go_at_call 16; refine (eqInt64S _ _ r0 r0 _ HO7.out.read HO4.out.read).mono ?_; rintro e w13 ⟨rfl, hb⟩; rw [beq_self_eq_true]; have z13 := Aside0.mk hb.size; replace HB := Aside0.belowC HB hb; replace c0a := pw_cell_below hb c0a; replace c0b := pw_cell_below hb c0b; replace c1a := pw_cell_below hb c1a; replace c1b := pw_cell_below hb c1b; replace c100 := pw_cell_below hb c100; replace c101 := pw_cell_below hb c101; replace c102 := pw_cell_below hb c102; replace c103 := pw_cell_below hb c103; replace HO4 := Aside0.own HO4 hb; replace HO5 := Aside0.own HO5 hb; replace HO6 := Aside0.own HO6 hb; replace HO7 := Aside0.own HO7 hb; clear hb) | (replace st := stg_next 9 10 st; go_at_call 18; have hl_ : r0.length ≤ 1073741824 := lenR; refine (markInt64S _ _ r0 (1) _ HO7.out (by omega) hl_).mono ?_; rintro e w14 ⟨rfl, ho, hg, hb⟩; clear hl_; have z14 := Aside0.mk hg.size; replace HB := Aside0.mk (HB.out.trans (hb.mono (by have hbs_ := HBS.out; have z2_ := z2.out; have z3_ := z3.out; have z4_ := z4.out; have z5_ := z5.out; have z6_ := z6.out; have z7_ := z7.out; have z8_ := z8.out; have z9_ := z9.out; have z10_ := z10.out; have z11_ := z11.out; have z12_ := z12.out; have z13_ := z13.out; (try simp only [World.size_alloc]); omega))); replace c0a := cell_grown hg RG7.out (by have hbs_ := HBS.out; have z2_ := z2.out; have z3_ := z3.out; have z4_ := z4.out; have z5_ := z5.out; have z6_ := z6.out; have z7_ := z7.out; have z8_ := z8.out; have z9_ := z9.out; have z10_ := z10.out; have z11_ := z11.out; have z12_ := z12.out; have z13_ := z13.out; (try dsimp only); (try simp only [World.size_alloc]); omega) c0a; replace c0b := cell_grown hg RG7.out (by have hbs_ := HBS.out; have z2_ := z2.out; have z3_ := z3.out; have z4_ := z4.out; have z5_ := z5.out; have z6_ := z6.out; have z7_ := z7.out; have z8_ := z8.out; have z9_ := z9.out; have z10_ := z10.out; have z11_ := z11.out; have z12_ := z12.out; have z13_ := z13.out; (try dsimp only); (try simp only [World.size_alloc]); omega) c0b; replace c1a := cell_grown hg RG7.out (by have hbs_ := HBS.out; have z2_ := z2.out; have z3_ := z3.out; have z4_ := z4.out; have z5_ := z5.out; have z6_ := z6.out; have z7_ := z7.out; have z8_ := z8.out; have z9_ := z9.out; have z10_ := z10.out; have z11_ := z11.out; have z12_ := z12.out; have z13_ := z13.out; (try dsimp only); (try simp only [World.size_alloc]); omega) c1a; replace c1b := cell_grown hg RG7.out (by have hbs_ := HBS.out; have z2_ := z2.out; have z3_ := z3.out; have z4_ := z4.out; have z5_ := z5.out; have z6_ := z6.out; have z7_ := z7.out; have z8_ := z8.out; have z9_ := z9.out; have z10_ := z10.out; have z11_ := z11.out; have z12_ := z12.out; have z13_ := z13.out; (try dsimp only); (try simp only [World.size_alloc]); omega) c1b; replace c100 := cell_grown hg RG7.out (by have hbs_ := HBS.out; have z2_ := z2.out; have z3_ := z3.out; have z4_ := z4.out; have z5_ := z5.out; have z6_ := z6.out; have z7_ := z7.out; have z8_ := z8.out; have z9_ := z9.out; have z10_ := z10.out; have z11_ := z11.out; have z12_ := z12.out; have z13_ := z13.out; (try dsimp only); (try simp only [World.size_alloc]); omega) c100; replace c101 := cell_grown hg RG7.out (by have hbs_ := HBS.out; have z2_ := z2.out; have z3_ := z3.out; have z4_ := z4.out; have z5_ := z5.out; have z6_ := z6.out; have z7_ := z7.out; have z8_ := z8.out; have z9_ := z9.out; have z10_ := z10.out; have z11_ := z11.out; have z12_ := z12.out; have z13_ := z13.out; (try dsimp only); (try simp only [World.size_alloc]); omega) c101; replace c102 := cell_grown hg RG7.out (by have hbs_ := HBS.out; have z2_ := z2.out; have z3_ := z3.out; have z4_ := z4.out; have z5_ := z5.out; have z6_ := z6.out; have z7_ := z7.out; have z8_ := z8.out; have z9_ := z9.out; have z10_ := z10.out; have z11_ := z11.out; have z12_ := z12.out; have z13_ := z13.out; (try dsimp only); (try simp only [World.size_alloc]); omega) c102; replace c103 := cell_grown hg RG7.out (by have hbs_ := HBS.out; have z2_ := z2.out; have z3_ := z3.out; have z4_ := z4.out; have z5_ := z5.out; have z6_ := z6.out; have z7_ := z7.out; have z8_ := z8.out; have z9_ := z9.out; have z10_ := z10.out; have z11_ := z11.out; have z12_ := z12.out; have z13_ := z13.out; (try dsimp only); (try simp only [World.size_alloc]); omega) c103; replace HO4 := Aside0.mk (own_grown hg RG7.out RG4.out (by have hbs_ := HBS.out; have z2_ := z2.out; have z3_ := z3.out; have z4_ := z4.out; have z5_ := z5.out; have z6_ := z6.out; have z7_ := z7.out; have z8_ := z8.out; have z9_ := z9.out; have z10_ := z10.out; have z11_ := z11.out; have z12_ := z12.out; have z13_ := z13.out; (try simp only [World.size_alloc]); omega) HO4.out); replace HO5 := Aside0.mk (own_grown hg RG7.out RG5.out (by have hbs_ := HBS.out; have z2_ := z2.out; have z3_ := z3.out; have z4_ := z4.out; have z5_ := z5.out; have z6_ := z6.out; have z7_ := z7.out; have z8_ := z8.out; have z9_ := z9.out; have z10_ := z10.out; have z11_ := z11.out; have z12_ := z12.out; have z13_ := z13.out; (try simp only [World.size_alloc]); omega) HO5.out); replace HO6 := Aside0.mk (own_grown hg RG7.out RG6.out (by have hbs_ := HBS.out; have z2_ := z2.out; have z3_ := z3.out; have z4_ := z4.out; have z5_ := z5.out; have z6_ := z6.out; have z7_ := z7.out; have z8_ := z8.out; have z9_ := z9.out; have z10_ := z10.out; have z11_ := z11.out; have z12_ := z12.out; have z13_ := z13.out; (try simp only [World.size_alloc]); omega) HO6.out); replace HO7 := Aside0.mk ho; clear ho hg hb) | (replace st := stg_next 10 11 st; go_at_call 19; have hl_ : r0.length ≤ 1073741824 := lenR; refine (heldInt64S _ (1) r0.length _ HO7.out.read (by omega) hl_).mono ?_; rintro e w15 ⟨rfl, hb⟩; clear hl_; have z15 := Aside0.mk hb.size; replace HB := Aside0.belowC HB hb; replace c0a := pw_cell_below hb c0a; replace c0b := pw_cell_below hb c0b; replace c1a := pw_cell_below hb c1a; replace c1b := pw_cell_below hb c1b; replace c100 := pw_cell_below hb c100; replace c101 := pw_cell_below hb c101; replace c102 := pw_cell_below hb c102; replace c103 := pw_cell_below hb c103; replace HO4 := Aside0.own HO4 hb; replace HO5 := Aside0.own HO5 hb; replace HO6 := Aside0.own HO6 hb; replace HO7 := Aside0.own HO7 hb; clear hb))
            refine wp_region_phi (fun i => match i with | 0 => fun v _ => v = .agg #[.int .i64 a0, .slice A0 l0.length d0] | 1 => fun v W => ∃ u, v = .agg #[.int .i64 a0, u] ∧ OwnI w15.heap.size W u l0 | 2 => fun v _ => v = .agg #[.int .i64 a1, .slice A1 l1.length d1] | 3 => fun v W => ∃ u, v = .agg #[.int .i64 a1, u] ∧ OwnI w15.heap.size W u l1 | 4 => fun v W => ∃ u, v = .tuple #[u, .int .i64 r1] ∧ OwnI w15.heap.size W u r0 | 5 => fun v W => ∃ u, v = .tuple #[u, .int .i64 r1] ∧ OwnI w15.heap.size W u r0 | 6 => fun v W => OwnI w15.heap.size W v r0 | 7 => fun v _ => v = .int .i64 r1 | 8 => fun v W => OwnI w15.heap.size W v r0 | 9 => fun v _ => v = .int .i64 r1 | _ => fun _ _ => True)
              [0, 1, 0, 7, 15, 31, 63, 63, 127, 511] hmx (by kernel_rfl) ?st ?steps ?rest
            case st =>
              intro i v w1_ w2_ hb
              match i with
              | 0 | 2 | 7 | 9 => exact id
              | 1 | 3 | 4 | 5 => exact fun ⟨u, e, ho⟩ => ⟨u, e, ho.below hb⟩
              | 6 | 8 => exact fun ho => OwnI.below ho hb
              | n + 10 => exact id
            case steps =>
              refine ⟨?_, ?_, ?_, ?_, ?_, ?_, ?_, ?_, ?_, ?_, trivial⟩
              · intro s w_ hb hd R hR
                generalize hA : putAll _ 0 s _ = A
                have c0a := pw_cell_below hb c0a
                have c0b := pw_cell_below hb c0b
                have hR' := hR (.agg #[.int .i64 a0, .slice A0 l0.length d0]) _ (Below.refl _ _) (rfl)
                clear hR hd
                refine opGives_value ?_ hR'
                subst hA
                simp only [dsOf, List.map_cons, List.map_nil, Option.getD_some, putAll, Act.put, List.setIfInBounds_toArray, List.set_cons_zero, List.set_cons_succ]
                go_simp
              · intro s w_ hb hd R hR
                generalize hA : putAll _ 0 s _ = A
                have e0 : s 0 = _ := hd 0 (by kernel_rfl)
                have hs := hb.size
                refine opGives_call (f := 11) (args := #[.agg #[.int .i64 a0, .slice A0 l0.length d0]]) ?_ ?_
                · subst hA
                  clear hR hd
                  simp only [dsOf, List.map_cons, List.map_nil, Option.getD_some, putAll, Act.put, List.setIfInBounds_toArray, List.set_cons_zero, List.set_cons_succ]
                  go_simp
                clear hA A
                refine (toComplex _ _ l0 w_ (ReadI.below H0.out (HB.out.trans (hb.mono HB.out.size))) (by omega)).mono ?_
                rintro e w__ ⟨u, rfl, ho, hb5⟩
                exact ⟨_, rfl, hR _ _ hb5 ⟨u, rfl, ho.lower hs⟩⟩
              · intro s w_ hb hd R hR
                generalize hA : putAll _ 0 s _ = A
                have c1a := pw_cell_below hb c1a
                have c1b := pw_cell_below hb c1b
                have hR' := hR (.agg #[.int .i64 a1, .slice A1 l1.length d1]) _ (Below.refl _ _) (rfl)
                clear hR hd
                refine opGives_value ?_ hR'
                subst hA
                simp only [dsOf, List.map_cons, List.map_nil, Option.getD_some, putAll, Act.put, List.setIfInBounds_toArray, List.set_cons_zero, List.set_cons_succ]
                go_simp
              · intro s w_ hb hd R hR
                generalize hA : putAll _ 0 s _ = A
                have e2 : s 2 = _ := hd 2 (by kernel_rfl)
                have hs := hb.size
                refine opGives_call (f := 11) (args := #[.agg #[.int .i64 a1, .slice A1 l1.length d1]]) ?_ ?_
                · subst hA
                  clear hR hd
                  simp only [dsOf, List.map_cons, List.map_nil, Option.getD_some, putAll, Act.put, List.setIfInBounds_toArray, List.set_cons_zero, List.set_cons_succ]
                  go_simp
                clear hA A
                refine (toComplex _ _ l1 w_ (ReadI.below H1.out (HB.out.trans (hb.mono HB.out.size))) (by omega)).mono ?_
                rintro e w__ ⟨u, rfl, ho, hb5⟩
                exact ⟨_, rfl, hR _ _ hb5 ⟨u, rfl, ho.lower hs⟩⟩
              · intro s w_ hb hd R hR
                generalize hA : putAll _ 0 s _ = A
                obtain ⟨u1, e1, o1⟩ : ∃ u, s 1 = _ ∧ OwnI _ _ u l0 := hd 1 (by kernel_rfl)
                obtain ⟨u3, e3, o3⟩ : ∃ u, s 3 = _ ∧ OwnI _ _ u l1 := hd 3 (by kernel_rfl)
                have hs := hb.size
                refine opGives_call (f := 15) (args := #[.agg #[.int .i64 a0, u1], .agg #[.int .i64 a1, u3]]) ?_ ?_
                · subst hA
                  clear hR hd
                  simp only [dsOf, List.map_cons, List.map_nil, Option.getD_some, putAll, Act.put, List.setIfInBounds_toArray, List.set_cons_zero, List.set_cons_succ]
                  go_simp
                clear hA A
                refine (implFindIsomorphism a0 _ l0 a1 _ l1 w_ o1.read o3.read).mono ?_
                rw [← HRr0.out, ← HRr1.out]
                rintro e w__ ⟨u, rfl, ho, hb5⟩
                exact ⟨_, rfl, hR _ _ hb5 ⟨u, rfl, ho.lower hs⟩⟩
              · intro s w_ hb hd R hR
                generalize hA : putAll _ 0 s _ = A
                obtain ⟨u4, e4, o4⟩ : ∃ u, s 4 = _ ∧ OwnI _ _ u r0 := hd 4 (by kernel_rfl)
                have hR' := hR (.tuple #[u4, .int .i64 r1]) _ (Below.refl _ _) (⟨u4, rfl, o4⟩)
                clear hR hd
                refine opGives_value ?_ hR'
                subst hA
                simp only [dsOf, List.map_cons, List.map_nil, Option.getD_some, putAll, Act.put, List.setIfInBounds_toArray, List.set_cons_zero, List.set_cons_succ]
                go_simp
              · intro s w_ hb hd R hR
                generalize hA : putAll _ 0 s _ = A
                obtain ⟨u5, e5, o5⟩ : ∃ u, s 5 = _ ∧ OwnI _ _ u r0 := hd 5 (by kernel_rfl)
                have hR' := hR (u5) _ (Below.refl _ _) (o5)
                clear hR hd
                refine opGives_value ?_ hR'
                subst hA
                simp only [dsOf, List.map_cons, List.map_nil, Option.getD_some, putAll, Act.put, List.setIfInBounds_toArray, List.set_cons_zero, List.set_cons_succ]
                go_simp
              · intro s w_ hb hd R hR
                generalize hA : putAll _ 0 s _ = A
                obtain ⟨u5, e5, o5⟩ : ∃ u, s 5 = _ ∧ OwnI _ _ u r0 := hd 5 (by kernel_rfl)
                have hR' := hR (.int .i64 r1) _ (Below.refl _ _) (rfl)
                clear hR hd
                refine opGives_value ?_ hR'
                subst hA
                simp only [dsOf, List.map_cons, List.map_nil, Option.getD_some, putAll, Act.put, List.setIfInBounds_toArray, List.set_cons_zero, List.set_cons_succ]
                go_simp
              · intro s w_ hb hd R hR
                generalize hA : putAll _ 0 s _ = A
                have o6 : OwnI _ _ (s 6) r0 := hd 6 (by kernel_rfl)
                have hR' := hR (s 6) _ (Below.refl _ _) (o6)
                clear hR hd
                refine opGives_value ?_ hR'
                subst hA
                simp only [dsOf, List.map_cons, List.map_nil, Option.getD_some, putAll, Act.put, List.setIfInBounds_toArray, List.set_cons_zero, List.set_cons_succ]
                go_simp
              · intro s w_ hb hd R hR
                generalize hA : putAll _ 0 s _ = A
                have e7 : s 7 = _ := hd 7 (by kernel_rfl)
                have hR' := hR (.int .i64 r1) _ (Below.refl _ _) (rfl)
                clear hR hd
                refine opGives_value ?_ hR'
                subst hA
                simp only [dsOf, List.map_cons, List.map_nil, Option.getD_some, putAll, Act.put, List.setIfInBounds_toArray, List.set_cons_zero, List.set_cons_succ]
                go_simp
            case rest =>
              intro s16 w16 hb hv
              have ho : OwnI _ _ (s16 8) r0 := hv 8 (by decide)
              obtain ⟨A_16, d_16, e8_, -⟩ := ho.read
              rw [e8_] at ho
              have RG16 := Aside0.mk (fun k hk => And.intro (ho.base k hk) (ho.lt k hk))
              have e9_ : s16 9 = _ := hv 9 (by decide)
              simp only [dsOf, List.map_cons, List.map_nil, Option.getD_some, putAll, Act.put, List.setIfInBounds_toArray, List.set_cons_zero, List.set_cons_succ]
              rw [e8_, e9_]
              clear hv e8_ e9_
              have z16 := Aside0.mk hb.size
              replace HB := Aside0.belowC HB hb
              replace c0a := pw_cell_below hb c0a
              replace c0b := pw_cell_below hb c0b
              replace c1a := pw_cell_below hb c1a
              replace c1b := pw_cell_below hb c1b
              replace c100 := pw_cell_below hb c100
              replace c101 := pw_cell_below hb c101
              replace c102 := pw_cell_below hb c102
              replace c103 := pw_cell_below hb c103
              replace HO4 := Aside0.own HO4 hb
              replace HO5 := Aside0.own HO5 hb
              replace HO6 := Aside0.own HO6 hb
              replace HO7 := Aside0.own HO7 hb
              clear hb
              have HO16 := Aside0.mk ho
              clear ho
              go_wp2_with (first | (replace st := stg_next 11 12 st; go_at_call 16; refine (eqInt64S _ _ r0 r0 _ HO16.out.read HO4.out.read).mono ?_; rintro e w17 ⟨rfl, hb⟩; rw [beq_self_eq_true]; have z17 := Aside0.mk hb.size; replace HB := Aside0.belowC HB hb; replace c0a := pw_cell_below hb c0a; replace c0b := pw_cell_below hb c0b; replace c1a := pw_cell_below hb c1a; replace c1b := pw_cell_below hb c1b; replace c100 := pw_cell_below hb c100; replace c101 := pw_cell_below hb c101; replace c102 := pw_cell_below hb c102; replace c103 := pw_cell_below hb c103; replace HO4 := Aside0.own HO4 hb; replace HO5 := Aside0.own HO5 hb; replace HO6 := Aside0.own HO6 hb; replace HO7 := Aside0.own HO7 hb; replace HO16 := Aside0.own HO16 hb; clear hb) | (replace st := stg_next 12 13 st; go_at_call 19; have hl_ : r0.length ≤ 1073741824 := lenR; refine (heldInt64S _ (1) r0.length _ HO7.out.read (by omega) hl_).mono ?_; rintro e w18 ⟨rfl, hb⟩; clear hl_; have z18 := Aside0.mk hb.size; replace HB := Aside0.belowC HB hb; replace c0a := pw_cell_below hb c0a; replace c0b := pw_cell_below hb c0b; replace c1a := pw_cell_below hb c1a; replace c1b := pw_cell_below hb c1b; replace c100 := pw_cell_below hb c100; replace c101 := pw_cell_below hb c101; replace c102 := pw_cell_below hb c102; replace c103 := pw_cell_below hb c103; replace HO4 := Aside0.own HO4 hb; replace HO5 := Aside0.own HO5 hb; replace HO6 := Aside0.own HO6 hb; replace HO7 := Aside0.own HO7 hb; replace HO16 := Aside0.own HO16 hb; clear hb))
              go_ret
              exact ⟨rfl, HB0.out.trans (HB.out.mono HB0.out.size)⟩
    · have hz1 : szAns (1048576 - l0.length) l1.length = -1 := by unfold szAns; rw [if_pos (by omega)]
      go_enter Try.func4, Try.ntmps4
      go_wp2_with (first | (replace st := stg_next 0 1 st; rw [← hw1]; clear hw1; go_at_call 9; refine (szComplex _ _ l0 _ _ (ReadI.below H0.out HB.out) (by omega) (by omega)).mono ?_; rintro e w2 ⟨rfl, hb⟩; rw [hz0]; have z2 := Aside0.mk hb.size; replace HB := Aside0.belowC HB hb; replace c0a := pw_cell_below hb c0a; replace c0b := pw_cell_below hb c0b; replace c1a := pw_cell_below hb c1a; replace c1b := pw_cell_below hb c1b; clear hb) | (replace st := stg_next 1 2 st; go_at_call 9; refine (szComplex _ _ l1 _ _ (ReadI.below H1.out HB.out) (by omega) (by omega)).mono ?_; rintro e w3 ⟨rfl, hb⟩; rw [hz1]; have z3 := Aside0.mk hb.size; replace HB := Aside0.belowC HB hb; replace c0a := pw_cell_below hb c0a; replace c0b := pw_cell_below hb c0b; replace c1a := pw_cell_below hb c1a; replace c1b := pw_cell_below hb c1b; clear hb))
      go_ret
      exact ⟨rfl, HB0.out.trans (HB.out.mono HB0.out.size)⟩
  · have hz0 : szAns (1048576) l0.length = -1 := by unfold szAns; rw [if_pos (by omega)]
    go_enter Try.func4, Try.ntmps4
    go_wp2_with (first | (replace st := stg_next 0 1 st; rw [← hw1]; clear hw1; go_at_call 9; refine (szComplex _ _ l0 _ _ (ReadI.below H0.out HB.out) (by omega) (by omega)).mono ?_; rintro e w2 ⟨rfl, hb⟩; rw [hz0]; have z2 := Aside0.mk hb.size; replace HB := Aside0.belowC HB hb; replace c0a := pw_cell_below hb c0a; replace c0b := pw_cell_below hb c0b; replace c1a := pw_cell_below hb c1a; replace c1b := pw_cell_below hb c1b; clear hb))
    go_ret
    exact ⟨rfl, HB0.out.trans (HB.out.mono HB0.out.size)⟩
end Go.Proofs.Ythbkboigbkadjaa.H
