/- The law of CountSimplicial (printed by lawgen.py). -/
import Derived.Test.YteeanddkkmelnaaCountS
import Derived.Test.YteeanddkkmelnaaLawB
import Derived.Test.YteeanddkkmelnaaLawC
import Derived.Test.YteeanddkkmelnaaOpen
namespace Go.Proofs.Yteeanddkkmelnaa.H
open Go.RowKit Go.Proofs.YteeanddkkmelnaaW.PrintWords Go.Proofs.YteeanddkkmelnaaW.PrintLast Go.Proofs.YteeanddkkmelnaaW.PrintMore
set_option linter.unusedVariables false
set_option linter.unusedSimpArgs false

set_option maxHeartbeats 8000000 in
theorem lawFnExactCountSimplicial (w : World) (a0 : Int) (ga0 : W64 a0) (u0 : Value) (l0 : List Int) (h0 : ReadI w u0 l0) (g0 : ∀ x ∈ l0, W64 x) (a1 : Int) (ga1 : W64 a1) (u1 : Value) (l1 : List Int) (h1 : ReadI w u1 l1) (g1 : ∀ x ∈ l1, W64 x) :
    Calls Try.prog 7 #[.agg #[.int .i64 a0, u0], .agg #[.int .i64 a1, u1]] w fun e w' => e = .returned (.bool true) ∧ Below w.heap.size w w' := by
  obtain ⟨w1, hw1⟩ : ∃ w1, w1 = ((w.alloc (.cells #[.int .i64 a0, u0] 32)).alloc (.cells #[.int .i64 a1, u1] 32)) := ⟨_, rfl⟩
  have hB : Below w.heap.size w w1 := by rw [hw1]; exact (((Below.refl _ w).alloc (by simp) _).alloc (by simp) _)
  have c0a : w1.cell? ⟨w.heap.size, 0, none⟩ = some (.int .i64 a0) := by rw [hw1]; simp
  have c0b : w1.cell? ⟨w.heap.size, 1, none⟩ = some u0 := by rw [hw1]; simp
  have c1a : w1.cell? ⟨w.heap.size + 1, 0, none⟩ = some (.int .i64 a1) := by rw [hw1]; simp
  have c1b : w1.cell? ⟨w.heap.size + 1, 1, none⟩ = some u1 := by rw [hw1]; simp
  have hbs : w1.heap.size = w.heap.size + 1 + 1 := by rw [hw1]; simp
  have HBS := Aside0.mk hbs
  clear hbs
  have H0 := Aside0.mk (h0.below hB)
  have H1 := Aside0.mk (h1.below hB)
  obtain ⟨A0, d0, rfl, -⟩ := id h0
  obtain ⟨A1, d1, rfl, -⟩ := id h1
  have HB0 := Aside0.mk hB
  have HB := Aside0.mk (Below.refl w1.heap.size w1)
  have GA0 := Aside0.mk ga0
  have G0 := Aside0.mk g0
  have GA1 := Aside0.mk ga1
  have G1 := Aside0.mk g1
  clear hB h0 ga0 g0 h1 ga1 g1
  have st : Stg 0 := ⟨⟩
  by_cases q0 : l0.length ≤ 1048576
  · have hz0 : szAns (1048576) l0.length = 1048576 - l0.length := by unfold szAns; rw [if_neg (by omega)]
    have q0' : (l0.length : Int) ≤ 1048576 := by omega
    by_cases q1 : l0.length + l1.length ≤ 1048576
    · have hz1 : szAns (1048576 - l0.length) l1.length = 1048576 - l0.length - l1.length := by unfold szAns; rw [if_neg (by omega)]
      have q1' : (l0.length : Int) + l1.length ≤ 1048576 := by omega
      have hmx : Try.prog.follows .mixedOrders = true := by kernel_rfl
      obtain ⟨r0, hr0⟩ : ∃ r, r = (ansCountSimplicial a0 l0 a1 l1).1 := ⟨_, rfl⟩
      have HRr0 := Aside0.mk hr0
      clear hr0
      obtain ⟨r1, hr1⟩ : ∃ r, r = (ansCountSimplicial a0 l0 a1 l1).2 := ⟨_, rfl⟩
      have HRr1 := Aside0.mk hr1
      clear hr1
      go_enter Try.func7, Try.ntmps7
      go_wp2_with (first | (replace st := stg_next 0 1 st; rw [← hw1]; clear hw1; go_at_call 16; refine (szComplex _ _ l0 _ _ (ReadI.below H0.out HB.out) (by omega) (by omega)).mono ?_; rintro e w2 ⟨rfl, hb⟩; rw [hz0]; have z2 := Aside0.mk hb.size; replace HB := Aside0.belowC HB hb; replace c0a := pw_cell_below hb c0a; replace c0b := pw_cell_below hb c0b; replace c1a := pw_cell_below hb c1a; replace c1b := pw_cell_below hb c1b; clear hb) | (replace st := stg_next 1 2 st; go_at_call 16; refine (szComplex _ _ l1 _ _ (ReadI.below H1.out HB.out) (by omega) (by omega)).mono ?_; rintro e w3 ⟨rfl, hb⟩; rw [hz1]; have z3 := Aside0.mk hb.size; replace HB := Aside0.belowC HB hb; replace c0a := pw_cell_below hb c0a; replace c0b := pw_cell_below hb c0b; replace c1a := pw_cell_below hb c1a; replace c1b := pw_cell_below hb c1b; clear hb))
      refine wp_region_phi (fun i => match i with | 0 => fun v _ => v = .agg #[.int .i64 a0, .slice A0 l0.length d0] | 1 => fun v W => ∃ u, v = .agg #[.int .i64 a0, u] ∧ OwnI w3.heap.size W u l0 | 2 => fun v _ => v = .agg #[.int .i64 a1, .slice A1 l1.length d1] | 3 => fun v W => ∃ u, v = .agg #[.int .i64 a1, u] ∧ OwnI w3.heap.size W u l1 | 4 => fun v _ => v = .tuple #[.int .i64 r0, .int .i64 r1] | 5 => fun v _ => v = .tuple #[.int .i64 r0, .int .i64 r1] | 6 => fun v _ => v = .int .i64 r0 | 7 => fun v _ => v = .int .i64 r1 | 8 => fun v _ => v = .int .i64 r0 | 9 => fun v _ => v = .int .i64 r1 | _ => fun _ _ => True)
        [0, 1, 0, 7, 15, 31, 63, 63, 127, 511] hmx (by kernel_rfl) ?st ?steps ?rest
      case st =>
        intro i v w1_ w2_ hb
        match i with
        | 0 | 2 | 4 | 5 | 6 | 7 | 8 | 9 => exact id
        | 1 | 3 => exact fun ⟨u, e, ho⟩ => ⟨u, e, ho.below hb⟩
        | n + 10 => exact id
      case steps =>
        refine ⟨?_, ?_, ?_, ?_, ?_, ?_, ?_, ?_, ?_, ?_, trivial⟩
        · intro s w_ hb hd R hR
          have c0a := pw_cell_below hb c0a
          have c0b := pw_cell_below hb c0b
          have hR' := hR (.agg #[.int .i64 a0, .slice A0 l0.length d0]) _ (Below.refl _ _) (rfl)
          clear hR hd
          generalize hA : putAll _ 0 s _ = A
          refine opGives_value ?_ hR'
          subst hA
          simp only [dsOf, List.map_cons, List.map_nil, Option.getD_some, putAll, Act.put, List.setIfInBounds_toArray, List.set_cons_zero, List.set_cons_succ]
          go_simp
        · intro s w_ hb hd R hR
          have e0 : s 0 = _ := hd 0 (by kernel_rfl)
          have hs := hb.size
          generalize hA : putAll _ 0 s _ = A
          refine opGives_call (f := 18) (args := #[.agg #[.int .i64 a0, .slice A0 l0.length d0]]) ?_ ?_
          · subst hA
            clear hR hd
            simp only [dsOf, List.map_cons, List.map_nil, Option.getD_some, putAll, Act.put, List.setIfInBounds_toArray, List.set_cons_zero, List.set_cons_succ]
            go_simp
          clear hA A
          refine (toComplex _ _ l0 w_ (ReadI.below H0.out (HB.out.trans (hb.mono HB.out.size))) (by omega)).mono ?_
          rintro e w__ ⟨u, rfl, ho, hb5⟩
          exact ⟨_, rfl, hR _ _ hb5 ⟨u, rfl, ho.lower hs⟩⟩
        · intro s w_ hb hd R hR
          have c1a := pw_cell_below hb c1a
          have c1b := pw_cell_below hb c1b
          have hR' := hR (.agg #[.int .i64 a1, .slice A1 l1.length d1]) _ (Below.refl _ _) (rfl)
          clear hR hd
          generalize hA : putAll _ 0 s _ = A
          refine opGives_value ?_ hR'
          subst hA
          simp only [dsOf, List.map_cons, List.map_nil, Option.getD_some, putAll, Act.put, List.setIfInBounds_toArray, List.set_cons_zero, List.set_cons_succ]
          go_simp
        · intro s w_ hb hd R hR
          have e2 : s 2 = _ := hd 2 (by kernel_rfl)
          have hs := hb.size
          generalize hA : putAll _ 0 s _ = A
          refine opGives_call (f := 18) (args := #[.agg #[.int .i64 a1, .slice A1 l1.length d1]]) ?_ ?_
          · subst hA
            clear hR hd
            simp only [dsOf, List.map_cons, List.map_nil, Option.getD_some, putAll, Act.put, List.setIfInBounds_toArray, List.set_cons_zero, List.set_cons_succ]
            go_simp
          clear hA A
          refine (toComplex _ _ l1 w_ (ReadI.below H1.out (HB.out.trans (hb.mono HB.out.size))) (by omega)).mono ?_
          rintro e w__ ⟨u, rfl, ho, hb5⟩
          exact ⟨_, rfl, hR _ _ hb5 ⟨u, rfl, ho.lower hs⟩⟩
        · intro s w_ hb hd R hR
          obtain ⟨u1, e1, o1⟩ : ∃ u, s 1 = _ ∧ OwnI _ _ u l0 := hd 1 (by kernel_rfl)
          obtain ⟨u3, e3, o3⟩ : ∃ u, s 3 = _ ∧ OwnI _ _ u l1 := hd 3 (by kernel_rfl)
          have hs := hb.size
          generalize hA : putAll _ 0 s _ = A
          refine opGives_call (f := 23) (args := #[.agg #[.int .i64 a0, u1], .agg #[.int .i64 a1, u3]]) ?_ ?_
          · subst hA
            clear hR hd
            simp only [dsOf, List.map_cons, List.map_nil, Option.getD_some, putAll, Act.put, List.setIfInBounds_toArray, List.set_cons_zero, List.set_cons_succ]
            go_simp
          clear hA A
          refine (specCountSimplicial a0 _ l0 a1 _ l1 w_ o1.read o3.read).mono ?_
          rw [← HRr0.out, ← HRr1.out]
          rintro e w__ ⟨rfl, hb5⟩
          exact ⟨_, rfl, hR _ _ hb5 rfl⟩
        · intro s w_ hb hd R hR
          have e4 : s 4 = _ := hd 4 (by kernel_rfl)
          have hR' := hR (.tuple #[.int .i64 r0, .int .i64 r1]) _ (Below.refl _ _) (rfl)
          clear hR hd
          generalize hA : putAll _ 0 s _ = A
          refine opGives_value ?_ hR'
          subst hA
          simp only [dsOf, List.map_cons, List.map_nil, Option.getD_some, putAll, Act.put, List.setIfInBounds_toArray, List.set_cons_zero, List.set_cons_succ]
          go_simp
        · intro s w_ hb hd R hR
          have e5 : s 5 = _ := hd 5 (by kernel_rfl)
          have hR' := hR (.int .i64 r0) _ (Below.refl _ _) (rfl)
          clear hR hd
          generalize hA : putAll _ 0 s _ = A
          refine opGives_value ?_ hR'
          subst hA
          simp only [dsOf, List.map_cons, List.map_nil, Option.getD_some, putAll, Act.put, List.setIfInBounds_toArray, List.set_cons_zero, List.set_cons_succ]
          go_simp
        · intro s w_ hb hd R hR
          have e5 : s 5 = _ := hd 5 (by kernel_rfl)
          have hR' := hR (.int .i64 r1) _ (Below.refl _ _) (rfl)
          clear hR hd
          generalize hA : putAll _ 0 s _ = A
          refine opGives_value ?_ hR'
          subst hA
          simp only [dsOf, List.map_cons, List.map_nil, Option.getD_some, putAll, Act.put, List.setIfInBounds_toArray, List.set_cons_zero, List.set_cons_succ]
          go_simp
        · intro s w_ hb hd R hR
          have e6 : s 6 = _ := hd 6 (by kernel_rfl)
          have hR' := hR (.int .i64 r0) _ (Below.refl _ _) (rfl)
          clear hR hd
          generalize hA : putAll _ 0 s _ = A
          refine opGives_value ?_ hR'
          subst hA
          simp only [dsOf, List.map_cons, List.map_nil, Option.getD_some, putAll, Act.put, List.setIfInBounds_toArray, List.set_cons_zero, List.set_cons_succ]
          go_simp
        · intro s w_ hb hd R hR
          have e7 : s 7 = _ := hd 7 (by kernel_rfl)
          have hR' := hR (.int .i64 r1) _ (Below.refl _ _) (rfl)
          clear hR hd
          generalize hA : putAll _ 0 s _ = A
          refine opGives_value ?_ hR'
          subst hA
          simp only [dsOf, List.map_cons, List.map_nil, Option.getD_some, putAll, Act.put, List.setIfInBounds_toArray, List.set_cons_zero, List.set_cons_succ]
          go_simp
      case rest =>
        intro s4 w4 hb hv
        have e8_ : s4 8 = _ := hv 8 (by decide)
        have e9_ : s4 9 = _ := hv 9 (by decide)
        simp only [dsOf, List.map_cons, List.map_nil, Option.getD_some, putAll, Act.put, List.setIfInBounds_toArray, List.set_cons_zero, List.set_cons_succ]
        rw [e8_, e9_]
        clear hv e8_ e9_
        have z4 := Aside0.mk hb.size
        replace HB := Aside0.belowC HB hb
        replace c0a := pw_cell_below hb c0a
        replace c0b := pw_cell_below hb c0b
        replace c1a := pw_cell_below hb c1a
        replace c1b := pw_cell_below hb c1b
        clear hb
        go_wp2_with (first | (replace st := stg_next 2 3 st; go_at_call 18; refine (toComplex _ _ l0 _ (ReadI.below H0.out HB.out) (by omega)).mono ?_; rintro e w5 ⟨u, rfl, ho, hb⟩; obtain ⟨A_5, d_5, rfl, -⟩ := ho.read; have RG5 := Aside0.mk (fun k hk => And.intro (ho.base k hk) (ho.lt k hk)); have z5 := Aside0.mk hb.size; replace HB := Aside0.belowC HB hb; replace c0a := pw_cell_below hb c0a; replace c0b := pw_cell_below hb c0b; replace c1a := pw_cell_below hb c1a; replace c1b := pw_cell_below hb c1b; clear hb; have HO5 := Aside0.mk ho; clear ho; have ec0a := cell_ahead c0a; have ec0b := cell_ahead c0b; have ec1a := cell_ahead c1a; have ec1b := cell_ahead c1b) | (replace st := stg_next 3 4 st; go_at_call 18; refine (toComplex _ _ l1 _ (ReadI.below H1.out (HB.out.trans (Below.alloc (Below.refl _ _) HB.out.size _))) (by omega)).mono ?_; rintro e w6 ⟨u, rfl, ho, hb⟩; obtain ⟨A_6, d_6, rfl, -⟩ := ho.read; have RG6 := Aside0.mk (fun k hk => And.intro (ho.base k hk) (ho.lt k hk)); clear ec0a; clear ec0b; clear ec1a; clear ec1b; have c100 : w6.cell? ⟨w5.heap.size, 0, none⟩ = some (.int .i64 a0) := pw_cell_below hb (new_cell _ _ _ 0 _ rfl); have c101 : w6.cell? ⟨w5.heap.size, 1, none⟩ = some (.slice A_5 l0.length d_5) := pw_cell_below hb (new_cell _ _ _ 1 _ rfl); replace hb := below_unalloc hb; have z6 := Aside0.mk hb.size; replace HB := Aside0.belowC HB hb; replace c0a := pw_cell_below hb c0a; replace c0b := pw_cell_below hb c0b; replace c1a := pw_cell_below hb c1a; replace c1b := pw_cell_below hb c1b; replace HO5 := Aside0.own HO5 hb; clear hb; have HO6 := Aside0.mk ho; clear ho; have ec0a := cell_ahead c0a; have ec0b := cell_ahead c0b; have ec1a := cell_ahead c1a; have ec1b := cell_ahead c1b; have ec100 := cell_ahead c100; have ec101 := cell_ahead c101) | (replace st := stg_next 4 5 st; go_at_call 24; refine (implCountSimplicial a0 _ l0 a1 _ l1 _ (ReadI.below HO5.out.read (Below.alloc (Below.refl _ _) (Nat.le_refl _) _)) (ReadI.below HO6.out.read (Below.alloc (Below.refl _ _) (Nat.le_refl _) _))).mono ?_; rw [← HRr0.out, ← HRr1.out]; rintro e w7 ⟨rfl, hb⟩; clear ec0a; clear ec0b; clear ec1a; clear ec1b; clear ec100; clear ec101; have c102 : w7.cell? ⟨w6.heap.size, 0, none⟩ = some (.int .i64 a1) := pw_cell_below hb (new_cell _ _ _ 0 _ rfl); have c103 : w7.cell? ⟨w6.heap.size, 1, none⟩ = some (.slice A_6 l1.length d_6) := pw_cell_below hb (new_cell _ _ _ 1 _ rfl); replace hb := below_unalloc hb; have z7 := Aside0.mk hb.size; replace HB := Aside0.belowC HB hb; replace c0a := pw_cell_below hb c0a; replace c0b := pw_cell_below hb c0b; replace c1a := pw_cell_below hb c1a; replace c1b := pw_cell_below hb c1b; replace c100 := pw_cell_below hb c100; replace c101 := pw_cell_below hb c101; replace HO5 := Aside0.own HO5 hb; replace HO6 := Aside0.own HO6 hb; clear hb))
        refine wp_region_phi (fun i => match i with | 0 => fun v _ => v = .agg #[.int .i64 a0, .slice A_5 l0.length d_5] | 1 => fun v _ => v = .agg #[.int .i64 a0, .slice A0 l0.length d0] | 2 => fun v W => ∃ u, v = .agg #[.int .i64 a0, u] ∧ OwnI w7.heap.size W u l0 | 3 => fun v _ => v = .bool true | 4 => fun v _ => v = .bool false | _ => fun _ _ => True)
          [0, 0, 2, 7, 15] hmx (by kernel_rfl) ?st ?steps ?rest
        case st =>
          intro i v w1_ w2_ hb
          match i with
          | 0 | 1 | 3 | 4 => exact id
          | 2 => exact fun ⟨u, e, ho⟩ => ⟨u, e, ho.below hb⟩
          | n + 5 => exact id
        case steps =>
          refine ⟨?_, ?_, ?_, ?_, ?_, trivial⟩
          · intro s w_ hb hd R hR
            have c100 := pw_cell_below hb c100
            have c101 := pw_cell_below hb c101
            have hR' := hR (.agg #[.int .i64 a0, .slice A_5 l0.length d_5]) _ (Below.refl _ _) (rfl)
            clear hR hd
            generalize hA : putAll _ 0 s _ = A
            refine opGives_value ?_ hR'
            subst hA
            simp only [dsOf, List.map_cons, List.map_nil, Option.getD_some, putAll, Act.put, List.setIfInBounds_toArray, List.set_cons_zero, List.set_cons_succ]
            go_simp
          · intro s w_ hb hd R hR
            have c0a := pw_cell_below hb c0a
            have c0b := pw_cell_below hb c0b
            have hR' := hR (.agg #[.int .i64 a0, .slice A0 l0.length d0]) _ (Below.refl _ _) (rfl)
            clear hR hd
            generalize hA : putAll _ 0 s _ = A
            refine opGives_value ?_ hR'
            subst hA
            simp only [dsOf, List.map_cons, List.map_nil, Option.getD_some, putAll, Act.put, List.setIfInBounds_toArray, List.set_cons_zero, List.set_cons_succ]
            go_simp
          · intro s w_ hb hd R hR
            have e1 : s 1 = _ := hd 1 (by kernel_rfl)
            have hs := hb.size
            generalize hA : putAll _ 0 s _ = A
            refine opGives_call (f := 18) (args := #[.agg #[.int .i64 a0, .slice A0 l0.length d0]]) ?_ ?_
            · subst hA
              clear hR hd
              simp only [dsOf, List.map_cons, List.map_nil, Option.getD_some, putAll, Act.put, List.setIfInBounds_toArray, List.set_cons_zero, List.set_cons_succ]
              go_simp
            clear hA A
            refine (toComplex _ _ l0 w_ (ReadI.below H0.out (HB.out.trans (hb.mono HB.out.size))) (by omega)).mono ?_
            rintro e w__ ⟨u, rfl, ho, hb5⟩
            exact ⟨_, rfl, hR _ _ hb5 ⟨u, rfl, ho.lower hs⟩⟩
          · intro s w_ hb hd R hR
            have e0 : s 0 = _ := hd 0 (by kernel_rfl)
            obtain ⟨u2, e2, o2⟩ : ∃ u, s 2 = _ ∧ OwnI _ _ u l0 := hd 2 (by kernel_rfl)
            have hs := hb.size
            generalize hA : putAll _ 0 s _ = A
            refine opGives_call (f := 20) (args := #[.agg #[.int .i64 a0, .slice A_5 l0.length d_5], .agg #[.int .i64 a0, u2]]) ?_ ?_
            · subst hA
              clear hR hd
              simp only [dsOf, List.map_cons, List.map_nil, Option.getD_some, putAll, Act.put, List.setIfInBounds_toArray, List.set_cons_zero, List.set_cons_succ]
              go_simp
            clear hA A
            refine (eqComplex _ _ _ _ l0 l0 w_ (ReadI.below HO5.out.read hb) o2.read).mono ?_
            rintro e w__ ⟨rfl, hb5⟩
            rw [decide_eq_true rfl, beq_self_eq_true]
            exact ⟨_, rfl, hR _ _ hb5 rfl⟩
          · intro s w_ hb hd R hR
            have e3 : s 3 = _ := hd 3 (by kernel_rfl)
            have hR' := hR (.bool false) _ (Below.refl _ _) (rfl)
            clear hR hd
            generalize hA : putAll _ 0 s _ = A
            refine opGives_value ?_ hR'
            subst hA
            simp only [dsOf, List.map_cons, List.map_nil, Option.getD_some, putAll, Act.put, List.setIfInBounds_toArray, List.set_cons_zero, List.set_cons_succ]
            go_simp
        case rest =>
          intro s8 w8 hb hv
          have e4_ : s8 4 = _ := hv 4 (by decide)
          simp only [dsOf, List.map_cons, List.map_nil, Option.getD_some, putAll, Act.put, List.setIfInBounds_toArray, List.set_cons_zero, List.set_cons_succ]
          rw [e4_]
          clear hv e4_
          have z8 := Aside0.mk hb.size
          replace HB := Aside0.belowC HB hb
          replace c0a := pw_cell_below hb c0a
          replace c0b := pw_cell_below hb c0b
          replace c1a := pw_cell_below hb c1a
          replace c1b := pw_cell_below hb c1b
          replace c100 := pw_cell_below hb c100
          replace c101 := pw_cell_below hb c101
          replace c102 := pw_cell_below hb c102
          replace c103 := pw_cell_below hb c103
          replace HO5 := Aside0.own HO5 hb
          replace HO6 := Aside0.own HO6 hb
          clear hb
          go_wp2
          refine wp_region_phi (fun i => match i with | 0 => fun v _ => v = .agg #[.int .i64 a1, .slice A_6 l1.length d_6] | 1 => fun v _ => v = .agg #[.int .i64 a1, .slice A1 l1.length d1] | 2 => fun v W => ∃ u, v = .agg #[.int .i64 a1, u] ∧ OwnI w8.heap.size W u l1 | 3 => fun v _ => v = .bool true | 4 => fun v _ => v = .bool false | _ => fun _ _ => True)
            [0, 0, 2, 7, 15] hmx (by kernel_rfl) ?st ?steps ?rest
          case st =>
            intro i v w1_ w2_ hb
            match i with
            | 0 | 1 | 3 | 4 => exact id
            | 2 => exact fun ⟨u, e, ho⟩ => ⟨u, e, ho.below hb⟩
            | n + 5 => exact id
          case steps =>
            refine ⟨?_, ?_, ?_, ?_, ?_, trivial⟩
            · intro s w_ hb hd R hR
              have c102 := pw_cell_below hb c102
              have c103 := pw_cell_below hb c103
              have hR' := hR (.agg #[.int .i64 a1, .slice A_6 l1.length d_6]) _ (Below.refl _ _) (rfl)
              clear hR hd
              generalize hA : putAll _ 0 s _ = A
              refine opGives_value ?_ hR'
              subst hA
              simp only [dsOf, List.map_cons, List.map_nil, Option.getD_some, putAll, Act.put, List.setIfInBounds_toArray, List.set_cons_zero, List.set_cons_succ]
              go_simp
            · intro s w_ hb hd R hR
              have c1a := pw_cell_below hb c1a
              have c1b := pw_cell_below hb c1b
              have hR' := hR (.agg #[.int .i64 a1, .slice A1 l1.length d1]) _ (Below.refl _ _) (rfl)
              clear hR hd
              generalize hA : putAll _ 0 s _ = A
              refine opGives_value ?_ hR'
              subst hA
              simp only [dsOf, List.map_cons, List.map_nil, Option.getD_some, putAll, Act.put, List.setIfInBounds_toArray, List.set_cons_zero, List.set_cons_succ]
              go_simp
            · intro s w_ hb hd R hR
              have e1 : s 1 = _ := hd 1 (by kernel_rfl)
              have hs := hb.size
              generalize hA : putAll _ 0 s _ = A
              refine opGives_call (f := 18) (args := #[.agg #[.int .i64 a1, .slice A1 l1.length d1]]) ?_ ?_
              · subst hA
                clear hR hd
                simp only [dsOf, List.map_cons, List.map_nil, Option.getD_some, putAll, Act.put, List.setIfInBounds_toArray, List.set_cons_zero, List.set_cons_succ]
                go_simp
              clear hA A
              refine (toComplex _ _ l1 w_ (ReadI.below H1.out (HB.out.trans (hb.mono HB.out.size))) (by omega)).mono ?_
              rintro e w__ ⟨u, rfl, ho, hb5⟩
              exact ⟨_, rfl, hR _ _ hb5 ⟨u, rfl, ho.lower hs⟩⟩
            · intro s w_ hb hd R hR
              have e0 : s 0 = _ := hd 0 (by kernel_rfl)
              obtain ⟨u2, e2, o2⟩ : ∃ u, s 2 = _ ∧ OwnI _ _ u l1 := hd 2 (by kernel_rfl)
              have hs := hb.size
              generalize hA : putAll _ 0 s _ = A
              refine opGives_call (f := 20) (args := #[.agg #[.int .i64 a1, .slice A_6 l1.length d_6], .agg #[.int .i64 a1, u2]]) ?_ ?_
              · subst hA
                clear hR hd
                simp only [dsOf, List.map_cons, List.map_nil, Option.getD_some, putAll, Act.put, List.setIfInBounds_toArray, List.set_cons_zero, List.set_cons_succ]
                go_simp
              clear hA A
              refine (eqComplex _ _ _ _ l1 l1 w_ (ReadI.below HO6.out.read hb) o2.read).mono ?_
              rintro e w__ ⟨rfl, hb5⟩
              rw [decide_eq_true rfl, beq_self_eq_true]
              exact ⟨_, rfl, hR _ _ hb5 rfl⟩
            · intro s w_ hb hd R hR
              have e3 : s 3 = _ := hd 3 (by kernel_rfl)
              have hR' := hR (.bool false) _ (Below.refl _ _) (rfl)
              clear hR hd
              generalize hA : putAll _ 0 s _ = A
              refine opGives_value ?_ hR'
              subst hA
              simp only [dsOf, List.map_cons, List.map_nil, Option.getD_some, putAll, Act.put, List.setIfInBounds_toArray, List.set_cons_zero, List.set_cons_succ]
              go_simp
          case rest =>
            intro s9 w9 hb hv
            have e4_ : s9 4 = _ := hv 4 (by decide)
            simp only [dsOf, List.map_cons, List.map_nil, Option.getD_some, putAll, Act.put, List.setIfInBounds_toArray, List.set_cons_zero, List.set_cons_succ]
            rw [e4_]
            clear hv e4_
            have z9 := Aside0.mk hb.size
            replace HB := Aside0.belowC HB hb
            replace c0a := pw_cell_below hb c0a
            replace c0b := pw_cell_below hb c0b
            replace c1a := pw_cell_below hb c1a
            replace c1b := pw_cell_below hb c1b
            replace c100 := pw_cell_below hb c100
            replace c101 := pw_cell_below hb c101
            replace c102 := pw_cell_below hb c102
            replace c103 := pw_cell_below hb c103
            replace HO5 := Aside0.own HO5 hb
            replace HO6 := Aside0.own HO6 hb
            clear hb
            go_wp2
            go_ret
            exact ⟨rfl, HB0.out.trans (HB.out.mono HB0.out.size)⟩
    · have hz1 : szAns (1048576 - l0.length) l1.length = -1 := by unfold szAns; rw [if_pos (by omega)]
      go_enter Try.func7, Try.ntmps7
      go_wp2_with (first | (replace st := stg_next 0 1 st; rw [← hw1]; clear hw1; go_at_call 16; refine (szComplex _ _ l0 _ _ (ReadI.below H0.out HB.out) (by omega) (by omega)).mono ?_; rintro e w2 ⟨rfl, hb⟩; rw [hz0]; have z2 := Aside0.mk hb.size; replace HB := Aside0.belowC HB hb; replace c0a := pw_cell_below hb c0a; replace c0b := pw_cell_below hb c0b; replace c1a := pw_cell_below hb c1a; replace c1b := pw_cell_below hb c1b; clear hb) | (replace st := stg_next 1 2 st; go_at_call 16; refine (szComplex _ _ l1 _ _ (ReadI.below H1.out HB.out) (by omega) (by omega)).mono ?_; rintro e w3 ⟨rfl, hb⟩; rw [hz1]; have z3 := Aside0.mk hb.size; replace HB := Aside0.belowC HB hb; replace c0a := pw_cell_below hb c0a; replace c0b := pw_cell_below hb c0b; replace c1a := pw_cell_below hb c1a; replace c1b := pw_cell_below hb c1b; clear hb))
      go_ret
      exact ⟨rfl, HB0.out.trans (HB.out.mono HB0.out.size)⟩
  · have hz0 : szAns (1048576) l0.length = -1 := by unfold szAns; rw [if_pos (by omega)]
    go_enter Try.func7, Try.ntmps7
    go_wp2_with (first | (replace st := stg_next 0 1 st; rw [← hw1]; clear hw1; go_at_call 16; refine (szComplex _ _ l0 _ _ (ReadI.below H0.out HB.out) (by omega) (by omega)).mono ?_; rintro e w2 ⟨rfl, hb⟩; rw [hz0]; have z2 := Aside0.mk hb.size; replace HB := Aside0.belowC HB hb; replace c0a := pw_cell_below hb c0a; replace c0b := pw_cell_below hb c0b; replace c1a := pw_cell_below hb c1a; replace c1b := pw_cell_below hb c1b; clear hb))
    go_ret
    exact ⟨rfl, HB0.out.trans (HB.out.mono HB0.out.size)⟩
end Go.Proofs.Yteeanddkkmelnaa.H

