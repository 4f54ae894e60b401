/- The law of PairingByFibres (printed by lawgen.py). -/
import Derived.Test.YtcbkchnfjeegmaaKFnExactPairingByFibres1
import Derived.Test.YtcbkchnfjeegmaaKFnExactPairingByFibres2
import Derived.Test.YtcbkchnfjeegmaaKFnExactPairingByFibres3
import Derived.Test.YtcbkchnfjeegmaaKFnExactPairingByFibres4
import Derived.Test.YtcbkchnfjeegmaaKFnExactPairingByFibres5
import Derived.Test.YtcbkchnfjeegmaaKFnExactPairingByFibres6
import Derived.Test.YtcbkchnfjeegmaaKFnExactPairingByFibres7
import Derived.Test.YtcbkchnfjeegmaaKFnExactPairingByFibres8

namespace Go.Proofs.Ytcbkchnfjeegmaa.H
open Go.RowKit Go.Proofs.YtcbkchnfjeegmaaW.PrintWords Go.Proofs.YtcbkchnfjeegmaaW.PrintLast Go.Proofs.YtcbkchnfjeegmaaW.PrintMore
set_option linter.unusedVariables false
set_option linter.unusedSimpArgs false

set_option maxRecDepth 1000000 in
set_option maxHeartbeats 8000000 in
theorem lawFnExactPairingByFibres (w : World) (a0 : Int) (ga0 : W64 a0) (u0 : Value) (l0 : List Int) (h0 : ReadI w u0 l0) (g0 : ∀ x ∈ l0, W64 x) (a1 : Int) (ga1 : W64 a1) (u1 : Value) (l1 : List Int) (h1 : ReadI w u1 l1) (g1 : ∀ x ∈ l1, W64 x) (v2 : Value) (l2 : List Int) (h2 : ReadI w v2 l2) (g2 : ∀ x ∈ l2, W64 x) :
    Calls Try.prog 11 #[.agg #[.int .i64 a0, u0], .agg #[.int .i64 a1, u1], v2] w fun e w' => e = .returned (.bool true) ∧ Below w.heap.size w w' := by
  obtain ⟨w1, hw1⟩ : ∃ w1, w1 = ((w.alloc (.cells #[.int .i64 a0, u0] 24)).alloc (.cells #[.int .i64 a1, u1] 24)) := ⟨_, rfl⟩
  have hB : Below w.heap.size w w1 := by rw [hw1]; exact (((Below.refl _ w).alloc (by simp) _).alloc (by simp) _)
  have c0a : w1.cell? ⟨w.heap.size, 0, none⟩ = some (.int .i64 a0) := by rw [hw1]; simp
  have c0b : w1.cell? ⟨w.heap.size, 1, none⟩ = some u0 := by rw [hw1]; simp
  have c1a : w1.cell? ⟨w.heap.size + 1, 0, none⟩ = some (.int .i64 a1) := by rw [hw1]; simp
  have c1b : w1.cell? ⟨w.heap.size + 1, 1, none⟩ = some u1 := by rw [hw1]; simp
  have hbs : w1.heap.size = w.heap.size + 1 + 1 := by rw [hw1]; simp
  have HBS := Aside0.mk hbs
  clear hbs
  have H0 := Aside0.mk (h0.below hB)
  have H1 := Aside0.mk (h1.below hB)
  have H2 := Aside0.mk (h2.below hB)
  obtain ⟨A0, d0, rfl, -⟩ := id h0
  obtain ⟨A1, d1, rfl, -⟩ := id h1
  obtain ⟨A2, d2, rfl, -⟩ := id h2
  have HB0 := Aside0.mk hB
  have HB := Aside0.mk (Below.refl w1.heap.size w1)
  have GA0 := Aside0.mk ga0
  have G0 := Aside0.mk g0
  have GA1 := Aside0.mk ga1
  have G1 := Aside0.mk g1
  have G2 := Aside0.mk g2
  clear hB h0 ga0 g0 h1 ga1 g1 h2 g2
  have st : Stg 0 := ⟨⟩
  by_cases q0 : l2.length ≤ 1048576
  · have q0' : (l2.length : Int) ≤ 1048576 := by omega
    by_cases q1 : l0.length ≤ 1048576
    · have hz0 : szAns (1048576) l0.length = 1048576 - l0.length := by unfold szAns; rw [if_neg (by omega)]
      have q1' : (l0.length : Int) ≤ 1048576 := by omega
      by_cases q2 : l0.length + l1.length ≤ 1048576
      · have hz1 : szAns (1048576 - l0.length) l1.length = 1048576 - l0.length - l1.length := by unfold szAns; rw [if_neg (by omega)]
        have q2' : (l0.length : Int) + l1.length ≤ 1048576 := by omega
        have hmx : Try.prog.follows .mixedOrders = true := by kernel_rfl
        obtain ⟨r0, hr0⟩ : ∃ r, r = (ansPairingByFibres a0 l0 a1 l1 l2).1 := ⟨_, rfl⟩
        have HRr0 := Aside0.mk hr0
        clear hr0
        obtain ⟨r1, hr1⟩ : ∃ r, r = (ansPairingByFibres a0 l0 a1 l1 l2).2 := ⟨_, rfl⟩
        have HRr1 := Aside0.mk hr1
        clear hr1
        have lenR : r0.length ≤ 1073741824 := by rw [HRr0.out]; exact lenPairingByFibres a0 l0 a1 l1 l2
        go_enter Try.func11, Try.ntmps11
        go_wp2_with (first | (replace st := stg_next 0 1 st; rw [← hw1]; clear hw1; go_at_call 13; refine (szComplex _ _ l0 _ _ (ReadI.below H0.out HB.out) (by omega) (by omega)).mono ?_; rintro e w2 ⟨rfl, hb⟩; rw [hz0]; have z2 := Aside0.mk hb.size; replace HB := Aside0.belowC HB hb; replace c0a := pw_cell_below hb c0a; replace c0b := pw_cell_below hb c0b; replace c1a := pw_cell_below hb c1a; replace c1b := pw_cell_below hb c1b; clear hb) | (replace st := stg_next 1 2 st; go_at_call 13; refine (szComplex _ _ l1 _ _ (ReadI.below H1.out HB.out) (by omega) (by omega)).mono ?_; rintro e w3 ⟨rfl, hb⟩; rw [hz1]; have z3 := Aside0.mk hb.size; replace HB := Aside0.belowC HB hb; replace c0a := pw_cell_below hb c0a; replace c0b := pw_cell_below hb c0b; replace c1a := pw_cell_below hb c1a; replace c1b := pw_cell_below hb c1b; clear hb))
        refine wp_region_phi (fun i => match i with | 0 => fun v _ => v = .agg #[.int .i64 a0, .slice A0 l0.length d0] | 1 => fun v W => ∃ u, v = .agg #[.int .i64 a0, u] ∧ OwnI w3.heap.size W u l0 | 2 => fun v _ => v = .agg #[.int .i64 a1, .slice A1 l1.length d1] | 3 => fun v W => ∃ u, v = .agg #[.int .i64 a1, u] ∧ OwnI w3.heap.size W u l1 | 4 => fun v _ => v = .slice A2 l2.length d2 | 5 => fun v W => OwnI w3.heap.size W v l2 | 6 => fun v W => ∃ u, v = .tuple #[u, .int .i64 r1] ∧ OwnP w3.heap.size W u r0 | 7 => fun v W => ∃ u, v = .tuple #[u, .int .i64 r1] ∧ OwnP w3.heap.size W u r0 | 8 => fun v W => ∃ u, v = u ∧ OwnP w3.heap.size W u r0 | 9 => fun v _ => v = .int .i64 r1 | 10 => fun v W => ∃ u, v = u ∧ OwnP w3.heap.size W u r0 | 11 => fun v _ => v = .int .i64 r1 | _ => fun _ _ => True)
          [0, 1, 0, 7, 0, 31, 63, 127, 255, 255, 511, 2047] hmx (by kernel_rfl) ?st ?steps ?rest
        case st =>
          intro i v w1_ w2_ hb
          match i with
          | 0 | 2 | 4 | 9 | 11 => exact id
          | 1 | 3 | 6 | 7 | 8 | 10 => exact fun ⟨u, e, ho⟩ => ⟨u, e, ho.below hb⟩
          | 5 => exact fun ho => OwnI.below ho hb
          | n + 12 => exact id
        case steps =>
          refine ⟨?_, ?_, ?_, ?_, ?_, ?_, ?_, ?_, ?_, ?_, ?_, ?_, trivial⟩
          · intro s w_ hb hd R hR
            generalize hA : putAll _ 0 s _ = A
            have c0a := pw_cell_below hb c0a
            have c0b := pw_cell_below hb c0b
            have hR' := hR (.agg #[.int .i64 a0, .slice A0 l0.length d0]) _ (Below.refl _ _) (rfl)
            clear hR hd
            refine opGives_value ?_ hR'
            subst hA
            simp only [dsOf, List.map_cons, List.map_nil, Option.getD_some, putAll, Act.put, List.setIfInBounds_toArray, List.set_cons_zero, List.set_cons_succ]
            go_simp
          · intro s w_ hb hd R hR
            generalize hA : putAll _ 0 s _ = A
            have e0 : s 0 = _ := hd 0 (by kernel_rfl)
            have hs := hb.size
            refine opGives_call (f := 15) (args := #[.agg #[.int .i64 a0, .slice A0 l0.length d0]]) ?_ ?_
            · subst hA
              clear hR hd
              simp only [dsOf, List.map_cons, List.map_nil, Option.getD_some, putAll, Act.put, List.setIfInBounds_toArray, List.set_cons_zero, List.set_cons_succ]
              go_simp
            clear hA A
            refine (toComplex _ _ l0 w_ (ReadI.below H0.out (HB.out.trans (hb.mono HB.out.size))) (by omega)).mono ?_
            rintro e w__ ⟨u, rfl, ho, hb5⟩
            exact ⟨_, rfl, hR _ _ hb5 ⟨u, rfl, ho.lower hs⟩⟩
          · intro s w_ hb hd R hR
            generalize hA : putAll _ 0 s _ = A
            have c1a := pw_cell_below hb c1a
            have c1b := pw_cell_below hb c1b
            have hR' := hR (.agg #[.int .i64 a1, .slice A1 l1.length d1]) _ (Below.refl _ _) (rfl)
            clear hR hd
            refine opGives_value ?_ hR'
            subst hA
            simp only [dsOf, List.map_cons, List.map_nil, Option.getD_some, putAll, Act.put, List.setIfInBounds_toArray, List.set_cons_zero, List.set_cons_succ]
            go_simp
          · intro s w_ hb hd R hR
            generalize hA : putAll _ 0 s _ = A
            have e2 : s 2 = _ := hd 2 (by kernel_rfl)
            have hs := hb.size
            refine opGives_call (f := 15) (args := #[.agg #[.int .i64 a1, .slice A1 l1.length d1]]) ?_ ?_
            · subst hA
              clear hR hd
              simp only [dsOf, List.map_cons, List.map_nil, Option.getD_some, putAll, Act.put, List.setIfInBounds_toArray, List.set_cons_zero, List.set_cons_succ]
              go_simp
            clear hA A
            refine (toComplex _ _ l1 w_ (ReadI.below H1.out (HB.out.trans (hb.mono HB.out.size))) (by omega)).mono ?_
            rintro e w__ ⟨u, rfl, ho, hb5⟩
            exact ⟨_, rfl, hR _ _ hb5 ⟨u, rfl, ho.lower hs⟩⟩
          · intro s w_ hb hd R hR
            generalize hA : putAll _ 0 s _ = A
            have hR' := hR (.slice A2 l2.length d2) _ (Below.refl _ _) (rfl)
            clear hR hd
            refine opGives_value ?_ hR'
            subst hA
            simp only [dsOf, List.map_cons, List.map_nil, Option.getD_some, putAll, Act.put, List.setIfInBounds_toArray, List.set_cons_zero, List.set_cons_succ]
            go_simp
          · intro s w_ hb hd R hR
            generalize hA : putAll _ 0 s _ = A
            have e4 : s 4 = _ := hd 4 (by kernel_rfl)
            have hs := hb.size
            refine opGives_call (f := 16) (args := #[.slice A2 l2.length d2]) ?_ ?_
            · subst hA
              clear hR hd
              simp only [dsOf, List.map_cons, List.map_nil, Option.getD_some, putAll, Act.put, List.setIfInBounds_toArray, List.set_cons_zero, List.set_cons_succ]
              go_simp
            clear hA A
            refine (toInt64S _ l2 w_ (ReadI.below H2.out (HB.out.trans (hb.mono HB.out.size))) (by omega)).mono ?_
            rintro e w__ ⟨u, rfl, ho, hb5⟩
            exact ⟨_, rfl, hR _ _ hb5 (ho.lower hs)⟩
          · intro s w_ hb hd R hR
            generalize hA : putAll _ 0 s _ = A
            obtain ⟨u1, e1, o1⟩ : ∃ u, s 1 = _ ∧ OwnI _ _ u l0 := hd 1 (by kernel_rfl)
            obtain ⟨u3, e3, o3⟩ : ∃ u, s 3 = _ ∧ OwnI _ _ u l1 := hd 3 (by kernel_rfl)
            have o5 : OwnI _ _ (s 5) l2 := hd 5 (by kernel_rfl)
            have hs := hb.size
            refine opGives_call (f := 44) (args := #[.agg #[.int .i64 a0, u1], .agg #[.int .i64 a1, u3], s 5]) ?_ ?_
            · subst hA
              clear hR hd
              simp only [dsOf, List.map_cons, List.map_nil, Option.getD_some, putAll, Act.put, List.setIfInBounds_toArray, List.set_cons_zero, List.set_cons_succ]
              go_simp
            clear hA A
            refine (specPairingByFibres a0 _ l0 a1 _ l1 _ l2 w_ o1.read o3.read o5.read).mono ?_
            rw [← HRr0.out, ← HRr1.out]
            rintro e w__ ⟨u, rfl, ho, hb5⟩
            exact ⟨_, rfl, hR _ _ hb5 ⟨u, rfl, ho.lower hs⟩⟩
          · intro s w_ hb hd R hR
            generalize hA : putAll _ 0 s _ = A
            obtain ⟨u6, e6, o6⟩ : ∃ u, s 6 = _ ∧ OwnP _ _ u r0 := hd 6 (by kernel_rfl)
            have hR' := hR (.tuple #[u6, .int .i64 r1]) _ (Below.refl _ _) (⟨u6, rfl, o6⟩)
            clear hR hd
            refine opGives_value ?_ hR'
            subst hA
            simp only [dsOf, List.map_cons, List.map_nil, Option.getD_some, putAll, Act.put, List.setIfInBounds_toArray, List.set_cons_zero, List.set_cons_succ]
            go_simp
          · intro s w_ hb hd R hR
            generalize hA : putAll _ 0 s _ = A
            obtain ⟨u7, e7, o7⟩ : ∃ u, s 7 = _ ∧ OwnP _ _ u r0 := hd 7 (by kernel_rfl)
            have hR' := hR (u7) _ (Below.refl _ _) (⟨u7, rfl, o7⟩)
            clear hR hd
            refine opGives_value ?_ hR'
            subst hA
            simp only [dsOf, List.map_cons, List.map_nil, Option.getD_some, putAll, Act.put, List.setIfInBounds_toArray, List.set_cons_zero, List.set_cons_succ]
            go_simp
          · intro s w_ hb hd R hR
            generalize hA : putAll _ 0 s _ = A
            obtain ⟨u7, e7, o7⟩ : ∃ u, s 7 = _ ∧ OwnP _ _ u r0 := hd 7 (by kernel_rfl)
            have hR' := hR (.int .i64 r1) _ (Below.refl _ _) (rfl)
            clear hR hd
            refine opGives_value ?_ hR'
            subst hA
            simp only [dsOf, List.map_cons, List.map_nil, Option.getD_some, putAll, Act.put, List.setIfInBounds_toArray, List.set_cons_zero, List.set_cons_succ]
            go_simp
          · intro s w_ hb hd R hR
            generalize hA : putAll _ 0 s _ = A
            obtain ⟨u8, e8, o8⟩ : ∃ u, s 8 = _ ∧ OwnP _ _ u r0 := hd 8 (by kernel_rfl)
            have hR' := hR (u8) _ (Below.refl _ _) (⟨u8, rfl, o8⟩)
            clear hR hd
            refine opGives_value ?_ hR'
            subst hA
            simp only [dsOf, List.map_cons, List.map_nil, Option.getD_some, putAll, Act.put, List.setIfInBounds_toArray, List.set_cons_zero, List.set_cons_succ]
            go_simp
          · intro s w_ hb hd R hR
            generalize hA : putAll _ 0 s _ = A
            have e9 : s 9 = _ := hd 9 (by kernel_rfl)
            have hR' := hR (.int .i64 r1) _ (Below.refl _ _) (rfl)
            clear hR hd
            refine opGives_value ?_ hR'
            subst hA
            simp only [dsOf, List.map_cons, List.map_nil, Option.getD_some, putAll, Act.put, List.setIfInBounds_toArray, List.set_cons_zero, List.set_cons_succ]
            go_simp
        case rest =>
          intro s4 w4 hb hv
          obtain ⟨u_, e10_, ho⟩ : ∃ u, s4 10 = _ ∧ OwnP _ _ u r0 := hv 10 (by decide)
          obtain ⟨A_4, d_4, rfl, -⟩ := ho.read
          have RG4 := Aside0.mk (fun k hk => And.intro (ho.base k hk) (ho.lt k hk))
          have e11_ : s4 11 = _ := hv 11 (by decide)
          simp only [dsOf, List.map_cons, List.map_nil, Option.getD_some, putAll, Act.put, List.setIfInBounds_toArray, List.set_cons_zero, List.set_cons_succ]
          rw [e10_, e11_]
          clear hv e10_ e11_
          have z4 := Aside0.mk hb.size
          replace HB := Aside0.belowC HB hb
          replace c0a := pw_cell_below hb c0a
          replace c0b := pw_cell_below hb c0b
          replace c1a := pw_cell_below hb c1a
          replace c1b := pw_cell_below hb c1b
          clear hb
          have HO4 := Aside0.mk ho
          clear ho
          go_wp2_with (first | (replace st := stg_next 2 3 st; go_at_call 15; refine (toComplex _ _ l0 _ (ReadI.below H0.out HB.out) (by omega)).mono ?_; rintro e w5 ⟨u, rfl, ho, hb⟩; obtain ⟨A_5, d_5, rfl, -⟩ := ho.read; have RG5 := Aside0.mk (fun k hk => And.intro (ho.base k hk) (ho.lt k hk)); have z5 := Aside0.mk hb.size; replace HB := Aside0.belowC HB hb; replace c0a := pw_cell_below hb c0a; replace c0b := pw_cell_below hb c0b; replace c1a := pw_cell_below hb c1a; replace c1b := pw_cell_below hb c1b; replace HO4 := Aside0.ownP HO4 hb; clear hb; have HO5 := Aside0.mk ho; clear ho; have ec0a := cell_ahead c0a; have ec0b := cell_ahead c0b; have ec1a := cell_ahead c1a; have ec1b := cell_ahead c1b) | (replace st := stg_next 3 4 st; go_at_call 15; refine (toComplex _ _ l1 _ (ReadI.below H1.out (HB.out.trans (Below.alloc (Below.refl _ _) HB.out.size _))) (by omega)).mono ?_; rintro e w6 ⟨u, rfl, ho, hb⟩; obtain ⟨A_6, d_6, rfl, -⟩ := ho.read; have RG6 := Aside0.mk (fun k hk => And.intro (ho.base k hk) (ho.lt k hk)); clear ec0a; clear ec0b; clear ec1a; clear ec1b; have c100 : w6.cell? ⟨w5.heap.size, 0, none⟩ = some (.int .i64 a0) := pw_cell_below hb (new_cell _ _ _ 0 _ rfl); have c101 : w6.cell? ⟨w5.heap.size, 1, none⟩ = some (.slice A_5 l0.length d_5) := pw_cell_below hb (new_cell _ _ _ 1 _ rfl); have z6 := Aside0.mk (alloc_size hb); replace hb := below_unalloc hb; replace HB := Aside0.belowC HB hb; replace c0a := pw_cell_below hb c0a; replace c0b := pw_cell_below hb c0b; replace c1a := pw_cell_below hb c1a; replace c1b := pw_cell_below hb c1b; replace HO4 := Aside0.ownP HO4 hb; replace HO5 := Aside0.own HO5 hb; clear hb; have HO6 := Aside0.mk ho; clear ho; have ec0a := cell_ahead c0a; have ec0b := cell_ahead c0b; have ec1a := cell_ahead c1a; have ec1b := cell_ahead c1b; have ec100 := cell_ahead c100; have ec101 := cell_ahead c101) | (replace st := stg_next 4 5 st; go_at_call 16; refine (toInt64S _ l2 _ (ReadI.below H2.out (HB.out.trans (Below.alloc (Below.refl _ _) HB.out.size _))) (by omega)).mono ?_; rintro e w7 ⟨u, rfl, ho, hb⟩; obtain ⟨A_7, d_7, rfl, -⟩ := ho.read; have RG7 := Aside0.mk (fun k hk => And.intro (ho.base k hk) (ho.lt k hk)); clear ec0a; clear ec0b; clear ec1a; clear ec1b; clear ec100; clear ec101; have c102 : w7.cell? ⟨w6.heap.size, 0, none⟩ = some (.int .i64 a1) := pw_cell_below hb (new_cell _ _ _ 0 _ rfl); have c103 : w7.cell? ⟨w6.heap.size, 1, none⟩ = some (.slice A_6 l1.length d_6) := pw_cell_below hb (new_cell _ _ _ 1 _ rfl); have z7 := Aside0.mk (alloc_size hb); replace hb := below_unalloc hb; replace HB := Aside0.belowC HB hb; replace c0a := pw_cell_below hb c0a; replace c0b := pw_cell_below hb c0b; replace c1a := pw_cell_below hb c1a; replace c1b := pw_cell_below hb c1b; replace c100 := pw_cell_below hb c100; replace c101 := pw_cell_below hb c101; replace HO4 := Aside0.ownP HO4 hb; replace HO5 := Aside0.own HO5 hb; replace HO6 := Aside0.own HO6 hb; clear hb; have HO7 := Aside0.mk ho; clear ho) | (replace st := stg_next 5 6 st; go_at_call 45; refine (implPairingByFibres a0 _ l0 a1 _ l1 _ l2 _ HO5.out.read HO6.out.read HO7.out.read).mono ?_; rw [← HRr0.out, ← HRr1.out]; rintro e w8 ⟨u, rfl, ho, hb⟩; obtain ⟨A_8, d_8, rfl, -⟩ := ho.read; have RG8 := Aside0.mk (fun k hk => And.intro (ho.base k hk) (ho.lt k hk)); have z8 := Aside0.mk hb.size; replace HB := Aside0.belowC HB hb; replace c0a := pw_cell_below hb c0a; replace c0b := pw_cell_below hb c0b; replace c1a := pw_cell_below hb c1a; replace c1b := pw_cell_below hb c1b; replace c100 := pw_cell_below hb c100; replace c101 := pw_cell_below hb c101; replace c102 := pw_cell_below hb c102; replace c103 := pw_cell_below hb c103; replace HO4 := Aside0.ownP HO4 hb; replace HO5 := Aside0.own HO5 hb; replace HO6 := Aside0.own HO6 hb; replace HO7 := Aside0.own HO7 hb; clear hb; have HO8 := Aside0.mk ho; clear ho) | (replace st := stg_next 6 7 st; go_at_call 34; refine (eqPairS _ _ r0 _ HO8.out.read HO4.out.read).mono ?_; rintro e w9 ⟨rfl, hb⟩; have z9 := Aside0.mk hb.size; replace HB := Aside0.belowC HB hb; replace c0a := pw_cell_below hb c0a; replace c0b := pw_cell_below hb c0b; replace c1a := pw_cell_below hb c1a; replace c1b := pw_cell_below hb c1b; replace c100 := pw_cell_below hb c100; replace c101 := pw_cell_below hb c101; replace c102 := pw_cell_below hb c102; replace c103 := pw_cell_below hb c103; replace HO4 := Aside0.ownP HO4 hb; replace HO5 := Aside0.own HO5 hb; replace HO6 := Aside0.own HO6 hb; replace HO7 := Aside0.own HO7 hb; replace HO8 := Aside0.ownP HO8 hb; clear hb))
          refine wp_region_phi (fun i => match i with | 0 => fun v _ => v = .agg #[.int .i64 a0, .slice A_5 l0.length d_5] | 1 => fun v _ => v = .agg #[.int .i64 a0, .slice A0 l0.length d0] | 2 => fun v W => ∃ u, v = .agg #[.int .i64 a0, u] ∧ OwnI w9.heap.size W u l0 | 3 => fun v _ => v = .bool true | 4 => fun v _ => v = .bool false | _ => fun _ _ => True)
            [0, 0, 2, 7, 15] hmx (by kernel_rfl) ?st ?steps ?rest
          case st =>
            intro i v w1_ w2_ hb
            match i with
            | 0 | 1 | 3 | 4 => exact id
            | 2 => exact fun ⟨u, e, ho⟩ => ⟨u, e, ho.below hb⟩
            | n + 5 => exact id
          case steps =>
            refine ⟨?_, ?_, ?_, ?_, ?_, trivial⟩
            · intro s w_ hb hd R hR
              generalize hA : putAll _ 0 s _ = A
              have c100 := pw_cell_below hb c100
              have c101 := pw_cell_below hb c101
              have hR' := hR (.agg #[.int .i64 a0, .slice A_5 l0.length d_5]) _ (Below.refl _ _) (rfl)
              clear hR hd
              refine opGives_value ?_ hR'
              subst hA
              simp only [dsOf, List.map_cons, List.map_nil, Option.getD_some, putAll, Act.put, List.setIfInBounds_toArray, List.set_cons_zero, List.set_cons_succ]
              go_simp
            · intro s w_ hb hd R hR
              generalize hA : putAll _ 0 s _ = A
              have c0a := pw_cell_below hb c0a
              have c0b := pw_cell_below hb c0b
              have hR' := hR (.agg #[.int .i64 a0, .slice A0 l0.length d0]) _ (Below.refl _ _) (rfl)
              clear hR hd
              refine opGives_value ?_ hR'
              subst hA
              simp only [dsOf, List.map_cons, List.map_nil, Option.getD_some, putAll, Act.put, List.setIfInBounds_toArray, List.set_cons_zero, List.set_cons_succ]
              go_simp
            · intro s w_ hb hd R hR
              generalize hA : putAll _ 0 s _ = A
              have e1 : s 1 = _ := hd 1 (by kernel_rfl)
              have hs := hb.size
              refine opGives_call (f := 15) (args := #[.agg #[.int .i64 a0, .slice A0 l0.length d0]]) ?_ ?_
              · subst hA
                clear hR hd
                simp only [dsOf, List.map_cons, List.map_nil, Option.getD_some, putAll, Act.put, List.setIfInBounds_toArray, List.set_cons_zero, List.set_cons_succ]
                go_simp
              clear hA A
              refine (toComplex _ _ l0 w_ (ReadI.below H0.out (HB.out.trans (hb.mono HB.out.size))) (by omega)).mono ?_
              rintro e w__ ⟨u, rfl, ho, hb5⟩
              exact ⟨_, rfl, hR _ _ hb5 ⟨u, rfl, ho.lower hs⟩⟩
            · intro s w_ hb hd R hR
              generalize hA : putAll _ 0 s _ = A
              have e0 : s 0 = _ := hd 0 (by kernel_rfl)
              obtain ⟨u2, e2, o2⟩ : ∃ u, s 2 = _ ∧ OwnI _ _ u l0 := hd 2 (by kernel_rfl)
              have hs := hb.size
              refine opGives_call (f := 19) (args := #[.agg #[.int .i64 a0, .slice A_5 l0.length d_5], .agg #[.int .i64 a0, u2]]) ?_ ?_
              · subst hA
                clear hR hd
                simp only [dsOf, List.map_cons, List.map_nil, Option.getD_some, putAll, Act.put, List.setIfInBounds_toArray, List.set_cons_zero, List.set_cons_succ]
                go_simp
              clear hA A
              refine (eqComplex _ _ _ _ l0 l0 w_ (ReadI.below HO5.out.read hb) o2.read).mono ?_
              rintro e w__ ⟨rfl, hb5⟩
              rw [decide_eq_true rfl, beq_self_eq_true]
              exact ⟨_, rfl, hR _ _ hb5 rfl⟩
            · intro s w_ hb hd R hR
              generalize hA : putAll _ 0 s _ = A
              have e3 : s 3 = _ := hd 3 (by kernel_rfl)
              have hR' := hR (.bool false) _ (Below.refl _ _) (rfl)
              clear hR hd
              refine opGives_value ?_ hR'
              subst hA
              simp only [dsOf, List.map_cons, List.map_nil, Option.getD_some, putAll, Act.put, List.setIfInBounds_toArray, List.set_cons_zero, List.set_cons_succ]
              go_simp
          case rest =>
            intro s10 w10 hb hv
            have e4_ : s10 4 = _ := hv 4 (by decide)
            simp only [dsOf, List.map_cons, List.map_nil, Option.getD_some, putAll, Act.put, List.setIfInBounds_toArray, List.set_cons_zero, List.set_cons_succ]
            rw [e4_]
            clear hv e4_
            have z10 := Aside0.mk hb.size
            replace HB := Aside0.belowC HB hb
            replace c0a := pw_cell_below hb c0a
            replace c0b := pw_cell_below hb c0b
            replace c1a := pw_cell_below hb c1a
            replace c1b := pw_cell_below hb c1b
            replace c100 := pw_cell_below hb c100
            replace c101 := pw_cell_below hb c101
            replace c102 := pw_cell_below hb c102
            replace c103 := pw_cell_below hb c103
            replace HO4 := Aside0.ownP HO4 hb
            replace HO5 := Aside0.own HO5 hb
            replace HO6 := Aside0.own HO6 hb
            replace HO7 := Aside0.own HO7 hb
            replace HO8 := Aside0.ownP HO8 hb
            clear hb
            go_wp2
            refine wp_region_phi (fun i => match i with | 0 => fun v _ => v = .agg #[.int .i64 a1, .slice A_6 l1.length d_6] | 1 => fun v _ => v = .agg #[.int .i64 a1, .slice A1 l1.length d1] | 2 => fun v W => ∃ u, v = .agg #[.int .i64 a1, u] ∧ OwnI w10.heap.size W u l1 | 3 => fun v _ => v = .bool true | 4 => fun v _ => v = .bool false | _ => fun _ _ => True)
              [0, 0, 2, 7, 15] hmx (by kernel_rfl) ?st ?steps ?rest
            case st =>
              intro i v w1_ w2_ hb
              match i with
              | 0 | 1 | 3 | 4 => exact id
              | 2 => exact fun ⟨u, e, ho⟩ => ⟨u, e, ho.below hb⟩
              | n + 5 => exact id
            case steps =>
              refine ⟨?_, ?_, ?_, ?_, ?_, trivial⟩
              · intro s w_ hb hd R hR
                generalize hA : putAll _ 0 s _ = A
                have c102 := pw_cell_below hb c102
                have c103 := pw_cell_below hb c103
                have hR' := hR (.agg #[.int .i64 a1, .slice A_6 l1.length d_6]) _ (Below.refl _ _) (rfl)
                clear hR hd
                refine opGives_value ?_ hR'
                subst hA
                simp only [dsOf, List.map_cons, List.map_nil, Option.getD_some, putAll, Act.put, List.setIfInBounds_toArray, List.set_cons_zero, List.set_cons_succ]
                go_simp
              · intro s w_ hb hd R hR
                generalize hA : putAll _ 0 s _ = A
                have c1a := pw_cell_below hb c1a
                have c1b := pw_cell_below hb c1b
                have hR' := hR (.agg #[.int .i64 a1, .slice A1 l1.length d1]) _ (Below.refl _ _) (rfl)
                clear hR hd
                refine opGives_value ?_ hR'
                subst hA
                simp only [dsOf, List.map_cons, List.map_nil, Option.getD_some, putAll, Act.put, List.setIfInBounds_toArray, List.set_cons_zero, List.set_cons_succ]
                go_simp
              · intro s w_ hb hd R hR
                generalize hA : putAll _ 0 s _ = A
                have e1 : s 1 = _ := hd 1 (by kernel_rfl)
                have hs := hb.size
                refine opGives_call (f := 15) (args := #[.agg #[.int .i64 a1, .slice A1 l1.length d1]]) ?_ ?_
                · subst hA
                  clear hR hd
                  simp only [dsOf, List.map_cons, List.map_nil, Option.getD_some, putAll, Act.put, List.setIfInBounds_toArray, List.set_cons_zero, List.set_cons_succ]
                  go_simp
                clear hA A
                refine (toComplex _ _ l1 w_ (ReadI.below H1.out (HB.out.trans (hb.mono HB.out.size))) (by omega)).mono ?_
                rintro e w__ ⟨u, rfl, ho, hb5⟩
                exact ⟨_, rfl, hR _ _ hb5 ⟨u, rfl, ho.lower hs⟩⟩
              · intro s w_ hb hd R hR
                generalize hA : putAll _ 0 s _ = A
                have e0 : s 0 = _ := hd 0 (by kernel_rfl)
                obtain ⟨u2, e2, o2⟩ : ∃ u, s 2 = _ ∧ OwnI _ _ u l1 := hd 2 (by kernel_rfl)
                have hs := hb.size
                refine opGives_call (f := 19) (args := #[.agg #[.int .i64 a1, .slice A_6 l1.length d_6], .agg #[.int .i64 a1, u2]]) ?_ ?_
                · subst hA
                  clear hR hd
                  simp only [dsOf, List.map_cons, List.map_nil, Option.getD_some, putAll, Act.put, List.setIfInBounds_toArray, List.set_cons_zero, List.set_cons_succ]
                  go_simp
                clear hA A
                refine (eqComplex _ _ _ _ l1 l1 w_ (ReadI.below HO6.out.read hb) o2.read).mono ?_
                rintro e w__ ⟨rfl, hb5⟩
                rw [decide_eq_true rfl, beq_self_eq_true]
                exact ⟨_, rfl, hR _ _ hb5 rfl⟩
              · intro s w_ hb hd R hR
                generalize hA : putAll _ 0 s _ = A
                have e3 : s 3 = _ := hd 3 (by kernel_rfl)
                have hR' := hR (.bool false) _ (Below.refl _ _) (rfl)
                clear hR hd
                refine opGives_value ?_ hR'
                subst hA
                simp only [dsOf, List.map_cons, List.map_nil, Option.getD_some, putAll, Act.put, List.setIfInBounds_toArray, List.set_cons_zero, List.set_cons_succ]
                go_simp
            case rest =>
              intro s11 w11 hb hv
              have e4_ : s11 4 = _ := hv 4 (by decide)
              simp only [dsOf, List.map_cons, List.map_nil, Option.getD_some, putAll, Act.put, List.setIfInBounds_toArray, List.set_cons_zero, List.set_cons_succ]
              rw [e4_]
              clear hv e4_
              have z11 := Aside0.mk hb.size
              replace HB := Aside0.belowC HB hb
              replace c0a := pw_cell_below hb c0a
              replace c0b := pw_cell_below hb c0b
              replace c1a := pw_cell_below hb c1a
              replace c1b := pw_cell_below hb c1b
              replace c100 := pw_cell_below hb c100
              replace c101 := pw_cell_below hb c101
              replace c102 := pw_cell_below hb c102
              replace c103 := pw_cell_below hb c103
              replace HO4 := Aside0.ownP HO4 hb
              replace HO5 := Aside0.own HO5 hb
              replace HO6 := Aside0.own HO6 hb
              replace HO7 := Aside0.own HO7 hb
              replace HO8 := Aside0.ownP HO8 hb
              clear hb
              go_wp2_with (first | (replace st := stg_next 7 8 st; go_at_call 16; refine (toInt64S _ l2 _ (ReadI.below H2.out HB.out) (by omega)).mono ?_; rintro e w12 ⟨u, rfl, ho, hb⟩; obtain ⟨A_12, d_12, rfl, -⟩ := ho.read; have RG12 := Aside0.mk (fun k hk => And.intro (ho.base k hk) (ho.lt k hk)); have z12 := Aside0.mk hb.size; replace HB := Aside0.belowC HB hb; replace c0a := pw_cell_below hb c0a; replace c0b := pw_cell_below hb c0b; replace c1a := pw_cell_below hb c1a; replace c1b := pw_cell_below hb c1b; replace c100 := pw_cell_below hb c100; replace c101 := pw_cell_below hb c101; replace c102 := pw_cell_below hb c102; replace c103 := pw_cell_below hb c103; replace HO4 := Aside0.ownP HO4 hb; replace HO5 := Aside0.own HO5 hb; replace HO6 := Aside0.own HO6 hb; replace HO7 := Aside0.own HO7 hb; replace HO8 := Aside0.ownP HO8 hb; clear hb; have HO12 := Aside0.mk ho; clear ho) | (replace st := stg_next 8 9 st; go_at_call 18; refine (eqInt64S _ _ l2 l2 _ HO7.out.read HO12.out.read).mono ?_; rintro e w13 ⟨rfl, hb⟩; rw [beq_self_eq_true]; have z13 := Aside0.mk hb.size; replace HB := Aside0.belowC HB hb; replace c0a := pw_cell_below hb c0a; replace c0b := pw_cell_below hb c0b; replace c1a := pw_cell_below hb c1a; replace c1b := pw_cell_below hb c1b; replace c100 := pw_cell_below hb c100; replace c101 := pw_cell_below hb c101; replace c102 := pw_cell_below hb c102; replace c103 := pw_cell_below hb c103; replace HO4 := Aside0.ownP HO4 hb; replace HO5 := Aside0.own HO5 hb; replace HO6 := Aside0.own HO6 hb; replace HO7 := Aside0.own HO7 hb; replace HO8 := Aside0.ownP HO8 hb; replace HO12 := Aside0.own HO12 hb; clear hb) | (replace st := stg_next 9 10 st; go_at_call 20; have hl_ : l0.length ≤ 1073741824 := (by omega); refine (markComplex _ _ _ l0 (1) _ HO5.out (by omega) hl_ (by have hbs_ := HBS.out; have z2_ := z2.out; have z3_ := z3.out; have z4_ := z4.out; have z5_ := z5.out; have z6_ := z6.out; have z7_ := z7.out; have z8_ := z8.out; have z9_ := z9.out; have z10_ := z10.out; have z11_ := z11.out; have z12_ := z12.out; have z13_ := z13.out; (try simp only [World.size_alloc]); omega)).mono ?_; rintro e w14 ⟨rfl, ho, hg, hb⟩; clear hl_; have z14 := Aside0.mk hg.size; replace HB := Aside0.mk (HB.out.trans (hb.mono (by have hbs_ := HBS.out; have z2_ := z2.out; have z3_ := z3.out; have z4_ := z4.out; have z5_ := z5.out; have z6_ := z6.out; have z7_ := z7.out; have z8_ := z8.out; have z9_ := z9.out; have z10_ := z10.out; have z11_ := z11.out; have z12_ := z12.out; have z13_ := z13.out; (try simp only [World.size_alloc]); omega))); replace c0a := cell_grown hg RG5.out (by have hbs_ := HBS.out; have z2_ := z2.out; have z3_ := z3.out; have z4_ := z4.out; have z5_ := z5.out; have z6_ := z6.out; have z7_ := z7.out; have z8_ := z8.out; have z9_ := z9.out; have z10_ := z10.out; have z11_ := z11.out; have z12_ := z12.out; have z13_ := z13.out; (try dsimp only); (try simp only [World.size_alloc]); omega) c0a; replace c0b := cell_grown hg RG5.out (by have hbs_ := HBS.out; have z2_ := z2.out; have z3_ := z3.out; have z4_ := z4.out; have z5_ := z5.out; have z6_ := z6.out; have z7_ := z7.out; have z8_ := z8.out; have z9_ := z9.out; have z10_ := z10.out; have z11_ := z11.out; have z12_ := z12.out; have z13_ := z13.out; (try dsimp only); (try simp only [World.size_alloc]); omega) c0b; replace c1a := cell_grown hg RG5.out (by have hbs_ := HBS.out; have z2_ := z2.out; have z3_ := z3.out; have z4_ := z4.out; have z5_ := z5.out; have z6_ := z6.out; have z7_ := z7.out; have z8_ := z8.out; have z9_ := z9.out; have z10_ := z10.out; have z11_ := z11.out; have z12_ := z12.out; have z13_ := z13.out; (try dsimp only); (try simp only [World.size_alloc]); omega) c1a; replace c1b := cell_grown hg RG5.out (by have hbs_ := HBS.out; have z2_ := z2.out; have z3_ := z3.out; have z4_ := z4.out; have z5_ := z5.out; have z6_ := z6.out; have z7_ := z7.out; have z8_ := z8.out; have z9_ := z9.out; have z10_ := z10.out; have z11_ := z11.out; have z12_ := z12.out; have z13_ := z13.out; (try dsimp only); (try simp only [World.size_alloc]); omega) c1b; replace c100 := cell_grown hg RG5.out (by have hbs_ := HBS.out; have z2_ := z2.out; have z3_ := z3.out; have z4_ := z4.out; have z5_ := z5.out; have z6_ := z6.out; have z7_ := z7.out; have z8_ := z8.out; have z9_ := z9.out; have z10_ := z10.out; have z11_ := z11.out; have z12_ := z12.out; have z13_ := z13.out; (try dsimp only); (try simp only [World.size_alloc]); omega) c100; replace c101 := cell_grown hg RG5.out (by have hbs_ := HBS.out; have z2_ := z2.out; have z3_ := z3.out; have z4_ := z4.out; have z5_ := z5.out; have z6_ := z6.out; have z7_ := z7.out; have z8_ := z8.out; have z9_ := z9.out; have z10_ := z10.out; have z11_ := z11.out; have z12_ := z12.out; have z13_ := z13.out; (try dsimp only); (try simp only [World.size_alloc]); omega) c101; replace c102 := cell_grown hg RG5.out (by have hbs_ := HBS.out; have z2_ := z2.out; have z3_ := z3.out; have z4_ := z4.out; have z5_ := z5.out; have z6_ := z6.out; have z7_ := z7.out; have z8_ := z8.out; have z9_ := z9.out; have z10_ := z10.out; have z11_ := z11.out; have z12_ := z12.out; have z13_ := z13.out; (try dsimp only); (try simp only [World.size_alloc]); omega) c102; replace c103 := cell_grown hg RG5.out (by have hbs_ := HBS.out; have z2_ := z2.out; have z3_ := z3.out; have z4_ := z4.out; have z5_ := z5.out; have z6_ := z6.out; have z7_ := z7.out; have z8_ := z8.out; have z9_ := z9.out; have z10_ := z10.out; have z11_ := z11.out; have z12_ := z12.out; have z13_ := z13.out; (try dsimp only); (try simp only [World.size_alloc]); omega) c103; replace HO4 := Aside0.mk (own_grownP hg RG5.out RG4.out (by have hbs_ := HBS.out; have z2_ := z2.out; have z3_ := z3.out; have z4_ := z4.out; have z5_ := z5.out; have z6_ := z6.out; have z7_ := z7.out; have z8_ := z8.out; have z9_ := z9.out; have z10_ := z10.out; have z11_ := z11.out; have z12_ := z12.out; have z13_ := z13.out; (try simp only [World.size_alloc]); omega) HO4.out); replace HO6 := Aside0.mk (own_grown hg RG5.out RG6.out (by have hbs_ := HBS.out; have z2_ := z2.out; have z3_ := z3.out; have z4_ := z4.out; have z5_ := z5.out; have z6_ := z6.out; have z7_ := z7.out; have z8_ := z8.out; have z9_ := z9.out; have z10_ := z10.out; have z11_ := z11.out; have z12_ := z12.out; have z13_ := z13.out; (try simp only [World.size_alloc]); omega) HO6.out); replace HO7 := Aside0.mk (own_grown hg RG5.out RG7.out (by have hbs_ := HBS.out; have z2_ := z2.out; have z3_ := z3.out; have z4_ := z4.out; have z5_ := z5.out; have z6_ := z6.out; have z7_ := z7.out; have z8_ := z8.out; have z9_ := z9.out; have z10_ := z10.out; have z11_ := z11.out; have z12_ := z12.out; have z13_ := z13.out; (try simp only [World.size_alloc]); omega) HO7.out); replace HO8 := Aside0.mk (own_grownP hg RG5.out RG8.out (by have hbs_ := HBS.out; have z2_ := z2.out; have z3_ := z3.out; have z4_ := z4.out; have z5_ := z5.out; have z6_ := z6.out; have z7_ := z7.out; have z8_ := z8.out; have z9_ := z9.out; have z10_ := z10.out; have z11_ := z11.out; have z12_ := z12.out; have z13_ := z13.out; (try simp only [World.size_alloc]); omega) HO8.out); replace HO12 := Aside0.mk (own_grown hg RG5.out RG12.out (by have hbs_ := HBS.out; have z2_ := z2.out; have z3_ := z3.out; have z4_ := z4.out; have z5_ := z5.out; have z6_ := z6.out; have z7_ := z7.out; have z8_ := z8.out; have z9_ := z9.out; have z10_ := z10.out; have z11_ := z11.out; have z12_ := z12.out; have z13_ := z13.out; (try simp only [World.size_alloc]); omega) HO12.out); replace HO5 := Aside0.mk ho; clear ho hg hb) | (replace st := stg_next 10 11 st; go_at_call 20; have hl_ : l1.length ≤ 1073741824 := (by omega); refine (markComplex _ _ _ l1 ((1 + l0.length)) _ HO6.out (by omega) hl_ (by have hbs_ := HBS.out; have z2_ := z2.out; have z3_ := z3.out; have z4_ := z4.out; have z5_ := z5.out; have z6_ := z6.out; have z7_ := z7.out; have z8_ := z8.out; have z9_ := z9.out; have z10_ := z10.out; have z11_ := z11.out; have z12_ := z12.out; have z13_ := z13.out; have z14_ := z14.out; (try simp only [World.size_alloc]); omega)).mono ?_; rintro e w15 ⟨rfl, ho, hg, hb⟩; clear hl_; have z15 := Aside0.mk hg.size; replace HB := Aside0.mk (HB.out.trans (hb.mono (by have hbs_ := HBS.out; have z2_ := z2.out; have z3_ := z3.out; have z4_ := z4.out; have z5_ := z5.out; have z6_ := z6.out; have z7_ := z7.out; have z8_ := z8.out; have z9_ := z9.out; have z10_ := z10.out; have z11_ := z11.out; have z12_ := z12.out; have z13_ := z13.out; have z14_ := z14.out; (try simp only [World.size_alloc]); omega))); replace c0a := cell_grown hg RG6.out (by have hbs_ := HBS.out; have z2_ := z2.out; have z3_ := z3.out; have z4_ := z4.out; have z5_ := z5.out; have z6_ := z6.out; have z7_ := z7.out; have z8_ := z8.out; have z9_ := z9.out; have z10_ := z10.out; have z11_ := z11.out; have z12_ := z12.out; have z13_ := z13.out; have z14_ := z14.out; (try dsimp only); (try simp only [World.size_alloc]); omega) c0a; replace c0b := cell_grown hg RG6.out (by have hbs_ := HBS.out; have z2_ := z2.out; have z3_ := z3.out; have z4_ := z4.out; have z5_ := z5.out; have z6_ := z6.out; have z7_ := z7.out; have z8_ := z8.out; have z9_ := z9.out; have z10_ := z10.out; have z11_ := z11.out; have z12_ := z12.out; have z13_ := z13.out; have z14_ := z14.out; (try dsimp only); (try simp only [World.size_alloc]); omega) c0b; replace c1a := cell_grown hg RG6.out (by have hbs_ := HBS.out; have z2_ := z2.out; have z3_ := z3.out; have z4_ := z4.out; have z5_ := z5.out; have z6_ := z6.out; have z7_ := z7.out; have z8_ := z8.out; have z9_ := z9.out; have z10_ := z10.out; have z11_ := z11.out; have z12_ := z12.out; have z13_ := z13.out; have z14_ := z14.out; (try dsimp only); (try simp only [World.size_alloc]); omega) c1a; replace c1b := cell_grown hg RG6.out (by have hbs_ := HBS.out; have z2_ := z2.out; have z3_ := z3.out; have z4_ := z4.out; have z5_ := z5.out; have z6_ := z6.out; have z7_ := z7.out; have z8_ := z8.out; have z9_ := z9.out; have z10_ := z10.out; have z11_ := z11.out; have z12_ := z12.out; have z13_ := z13.out; have z14_ := z14.out; (try dsimp only); (try simp only [World.size_alloc]); omega) c1b; replace c100 := cell_grown hg RG6.out (by have hbs_ := HBS.out; have z2_ := z2.out; have z3_ := z3.out; have z4_ := z4.out; have z5_ := z5.out; have z6_ := z6.out; have z7_ := z7.out; have z8_ := z8.out; have z9_ := z9.out; have z10_ := z10.out; have z11_ := z11.out; have z12_ := z12.out; have z13_ := z13.out; have z14_ := z14.out; (try dsimp only); (try simp only [World.size_alloc]); omega) c100; replace c101 := cell_grown hg RG6.out (by have hbs_ := HBS.out; have z2_ := z2.out; have z3_ := z3.out; have z4_ := z4.out; have z5_ := z5.out; have z6_ := z6.out; have z7_ := z7.out; have z8_ := z8.out; have z9_ := z9.out; have z10_ := z10.out; have z11_ := z11.out; have z12_ := z12.out; have z13_ := z13.out; have z14_ := z14.out; (try dsimp only); (try simp only [World.size_alloc]); omega) c101; replace c102 := cell_grown hg RG6.out (by have hbs_ := HBS.out; have z2_ := z2.out; have z3_ := z3.out; have z4_ := z4.out; have z5_ := z5.out; have z6_ := z6.out; have z7_ := z7.out; have z8_ := z8.out; have z9_ := z9.out; have z10_ := z10.out; have z11_ := z11.out; have z12_ := z12.out; have z13_ := z13.out; have z14_ := z14.out; (try dsimp only); (try simp only [World.size_alloc]); omega) c102; replace c103 := cell_grown hg RG6.out (by have hbs_ := HBS.out; have z2_ := z2.out; have z3_ := z3.out; have z4_ := z4.out; have z5_ := z5.out; have z6_ := z6.out; have z7_ := z7.out; have z8_ := z8.out; have z9_ := z9.out; have z10_ := z10.out; have z11_ := z11.out; have z12_ := z12.out; have z13_ := z13.out; have z14_ := z14.out; (try dsimp only); (try simp only [World.size_alloc]); omega) c103; replace HO4 := Aside0.mk (own_grownP hg RG6.out RG4.out (by have hbs_ := HBS.out; have z2_ := z2.out; have z3_ := z3.out; have z4_ := z4.out; have z5_ := z5.out; have z6_ := z6.out; have z7_ := z7.out; have z8_ := z8.out; have z9_ := z9.out; have z10_ := z10.out; have z11_ := z11.out; have z12_ := z12.out; have z13_ := z13.out; have z14_ := z14.out; (try simp only [World.size_alloc]); omega) HO4.out); replace HO5 := Aside0.mk (own_grown hg RG6.out RG5.out (by have hbs_ := HBS.out; have z2_ := z2.out; have z3_ := z3.out; have z4_ := z4.out; have z5_ := z5.out; have z6_ := z6.out; have z7_ := z7.out; have z8_ := z8.out; have z9_ := z9.out; have z10_ := z10.out; have z11_ := z11.out; have z12_ := z12.out; have z13_ := z13.out; have z14_ := z14.out; (try simp only [World.size_alloc]); omega) HO5.out); replace HO7 := Aside0.mk (own_grown hg RG6.out RG7.out (by have hbs_ := HBS.out; have z2_ := z2.out; have z3_ := z3.out; have z4_ := z4.out; have z5_ := z5.out; have z6_ := z6.out; have z7_ := z7.out; have z8_ := z8.out; have z9_ := z9.out; have z10_ := z10.out; have z11_ := z11.out; have z12_ := z12.out; have z13_ := z13.out; have z14_ := z14.out; (try simp only [World.size_alloc]); omega) HO7.out); replace HO8 := Aside0.mk (own_grownP hg RG6.out RG8.out (by have hbs_ := HBS.out; have z2_ := z2.out; have z3_ := z3.out; have z4_ := z4.out; have z5_ := z5.out; have z6_ := z6.out; have z7_ := z7.out; have z8_ := z8.out; have z9_ := z9.out; have z10_ := z10.out; have z11_ := z11.out; have z12_ := z12.out; have z13_ := z13.out; have z14_ := z14.out; (try simp only [World.size_alloc]); omega) HO8.out); replace HO12 := Aside0.mk (own_grown hg RG6.out RG12.out (by have hbs_ := HBS.out; have z2_ := z2.out; have z3_ := z3.out; have z4_ := z4.out; have z5_ := z5.out; have z6_ := z6.out; have z7_ := z7.out; have z8_ := z8.out; have z9_ := z9.out; have z10_ := z10.out; have z11_ := z11.out; have z12_ := z12.out; have z13_ := z13.out; have z14_ := z14.out; (try simp only [World.size_alloc]); omega) HO12.out); replace HO6 := Aside0.mk ho; clear ho hg hb) | (replace st := stg_next 11 12 st; go_at_call 21; have hl_ : l2.length ≤ 1073741824 := (by omega); refine (markInt64S _ _ l2 (((1 + l0.length) + l1.length)) _ HO7.out (by omega) hl_).mono ?_; rintro e w16 ⟨rfl, ho, hg, hb⟩; clear hl_; have z16 := Aside0.mk hg.size; replace HB := Aside0.mk (HB.out.trans (hb.mono (by have hbs_ := HBS.out; have z2_ := z2.out; have z3_ := z3.out; have z4_ := z4.out; have z5_ := z5.out; have z6_ := z6.out; have z7_ := z7.out; have z8_ := z8.out; have z9_ := z9.out; have z10_ := z10.out; have z11_ := z11.out; have z12_ := z12.out; have z13_ := z13.out; have z14_ := z14.out; have z15_ := z15.out; (try simp only [World.size_alloc]); omega))); replace c0a := cell_grown hg RG7.out (by have hbs_ := HBS.out; have z2_ := z2.out; have z3_ := z3.out; have z4_ := z4.out; have z5_ := z5.out; have z6_ := z6.out; have z7_ := z7.out; have z8_ := z8.out; have z9_ := z9.out; have z10_ := z10.out; have z11_ := z11.out; have z12_ := z12.out; have z13_ := z13.out; have z14_ := z14.out; have z15_ := z15.out; (try dsimp only); (try simp only [World.size_alloc]); omega) c0a; replace c0b := cell_grown hg RG7.out (by have hbs_ := HBS.out; have z2_ := z2.out; have z3_ := z3.out; have z4_ := z4.out; have z5_ := z5.out; have z6_ := z6.out; have z7_ := z7.out; have z8_ := z8.out; have z9_ := z9.out; have z10_ := z10.out; have z11_ := z11.out; have z12_ := z12.out; have z13_ := z13.out; have z14_ := z14.out; have z15_ := z15.out; (try dsimp only); (try simp only [World.size_alloc]); omega) c0b; replace c1a := cell_grown hg RG7.out (by have hbs_ := HBS.out; have z2_ := z2.out; have z3_ := z3.out; have z4_ := z4.out; have z5_ := z5.out; have z6_ := z6.out; have z7_ := z7.out; have z8_ := z8.out; have z9_ := z9.out; have z10_ := z10.out; have z11_ := z11.out; have z12_ := z12.out; have z13_ := z13.out; have z14_ := z14.out; have z15_ := z15.out; (try dsimp only); (try simp only [World.size_alloc]); omega) c1a; replace c1b := cell_grown hg RG7.out (by have hbs_ := HBS.out; have z2_ := z2.out; have z3_ := z3.out; have z4_ := z4.out; have z5_ := z5.out; have z6_ := z6.out; have z7_ := z7.out; have z8_ := z8.out; have z9_ := z9.out; have z10_ := z10.out; have z11_ := z11.out; have z12_ := z12.out; have z13_ := z13.out; have z14_ := z14.out; have z15_ := z15.out; (try dsimp only); (try simp only [World.size_alloc]); omega) c1b; replace c100 := cell_grown hg RG7.out (by have hbs_ := HBS.out; have z2_ := z2.out; have z3_ := z3.out; have z4_ := z4.out; have z5_ := z5.out; have z6_ := z6.out; have z7_ := z7.out; have z8_ := z8.out; have z9_ := z9.out; have z10_ := z10.out; have z11_ := z11.out; have z12_ := z12.out; have z13_ := z13.out; have z14_ := z14.out; have z15_ := z15.out; (try dsimp only); (try simp only [World.size_alloc]); omega) c100; replace c101 := cell_grown hg RG7.out (by have hbs_ := HBS.out; have z2_ := z2.out; have z3_ := z3.out; have z4_ := z4.out; have z5_ := z5.out; have z6_ := z6.out; have z7_ := z7.out; have z8_ := z8.out; have z9_ := z9.out; have z10_ := z10.out; have z11_ := z11.out; have z12_ := z12.out; have z13_ := z13.out; have z14_ := z14.out; have z15_ := z15.out; (try dsimp only); (try simp only [World.size_alloc]); omega) c101; replace c102 := cell_grown hg RG7.out (by have hbs_ := HBS.out; have z2_ := z2.out; have z3_ := z3.out; have z4_ := z4.out; have z5_ := z5.out; have z6_ := z6.out; have z7_ := z7.out; have z8_ := z8.out; have z9_ := z9.out; have z10_ := z10.out; have z11_ := z11.out; have z12_ := z12.out; have z13_ := z13.out; have z14_ := z14.out; have z15_ := z15.out; (try dsimp only); (try simp only [World.size_alloc]); omega) c102; replace c103 := cell_grown hg RG7.out (by have hbs_ := HBS.out; have z2_ := z2.out; have z3_ := z3.out; have z4_ := z4.out; have z5_ := z5.out; have z6_ := z6.out; have z7_ := z7.out; have z8_ := z8.out; have z9_ := z9.out; have z10_ := z10.out; have z11_ := z11.out; have z12_ := z12.out; have z13_ := z13.out; have z14_ := z14.out; have z15_ := z15.out; (try dsimp only); (try simp only [World.size_alloc]); omega) c103; replace HO4 := Aside0.mk (own_grownP hg RG7.out RG4.out (by have hbs_ := HBS.out; have z2_ := z2.out; have z3_ := z3.out; have z4_ := z4.out; have z5_ := z5.out; have z6_ := z6.out; have z7_ := z7.out; have z8_ := z8.out; have z9_ := z9.out; have z10_ := z10.out; have z11_ := z11.out; have z12_ := z12.out; have z13_ := z13.out; have z14_ := z14.out; have z15_ := z15.out; (try simp only [World.size_alloc]); omega) HO4.out); replace HO5 := Aside0.mk (own_grown hg RG7.out RG5.out (by have hbs_ := HBS.out; have z2_ := z2.out; have z3_ := z3.out; have z4_ := z4.out; have z5_ := z5.out; have z6_ := z6.out; have z7_ := z7.out; have z8_ := z8.out; have z9_ := z9.out; have z10_ := z10.out; have z11_ := z11.out; have z12_ := z12.out; have z13_ := z13.out; have z14_ := z14.out; have z15_ := z15.out; (try simp only [World.size_alloc]); omega) HO5.out); replace HO6 := Aside0.mk (own_grown hg RG7.out RG6.out (by have hbs_ := HBS.out; have z2_ := z2.out; have z3_ := z3.out; have z4_ := z4.out; have z5_ := z5.out; have z6_ := z6.out; have z7_ := z7.out; have z8_ := z8.out; have z9_ := z9.out; have z10_ := z10.out; have z11_ := z11.out; have z12_ := z12.out; have z13_ := z13.out; have z14_ := z14.out; have z15_ := z15.out; (try simp only [World.size_alloc]); omega) HO6.out); replace HO8 := Aside0.mk (own_grownP hg RG7.out RG8.out (by have hbs_ := HBS.out; have z2_ := z2.out; have z3_ := z3.out; have z4_ := z4.out; have z5_ := z5.out; have z6_ := z6.out; have z7_ := z7.out; have z8_ := z8.out; have z9_ := z9.out; have z10_ := z10.out; have z11_ := z11.out; have z12_ := z12.out; have z13_ := z13.out; have z14_ := z14.out; have z15_ := z15.out; (try simp only [World.size_alloc]); omega) HO8.out); replace HO12 := Aside0.mk (own_grown hg RG7.out RG12.out (by have hbs_ := HBS.out; have z2_ := z2.out; have z3_ := z3.out; have z4_ := z4.out; have z5_ := z5.out; have z6_ := z6.out; have z7_ := z7.out; have z8_ := z8.out; have z9_ := z9.out; have z10_ := z10.out; have z11_ := z11.out; have z12_ := z12.out; have z13_ := z13.out; have z14_ := z14.out; have z15_ := z15.out; (try simp only [World.size_alloc]); omega) HO12.out); replace HO7 := Aside0.mk ho; clear ho hg hb) | (replace st := stg_next 12 13 st; go_at_call 34; refine (eqPairS _ _ r0 _ HO8.out.read HO4.out.read).mono ?_; rintro e w17 ⟨rfl, hb⟩; have z17 := Aside0.mk hb.size; replace HB := Aside0.belowC HB hb; replace c0a := pw_cell_below hb c0a; replace c0b := pw_cell_below hb c0b; replace c1a := pw_cell_below hb c1a; replace c1b := pw_cell_below hb c1b; replace c100 := pw_cell_below hb c100; replace c101 := pw_cell_below hb c101; replace c102 := pw_cell_below hb c102; replace c103 := pw_cell_below hb c103; replace HO4 := Aside0.ownP HO4 hb; replace HO5 := Aside0.own HO5 hb; replace HO6 := Aside0.own HO6 hb; replace HO7 := Aside0.own HO7 hb; replace HO8 := Aside0.ownP HO8 hb; replace HO12 := Aside0.own HO12 hb; clear hb) | (replace st := stg_next 13 14 st; go_at_call 35; have hl_ : r0.length ≤ 1073741824 := lenR; refine (markPairS _ _ r0 (1) _ HO8.out (by omega) hl_).mono ?_; rintro e w18 ⟨rfl, ho, hg, hb⟩; clear hl_; have z18 := Aside0.mk hg.size; replace HB := Aside0.mk (HB.out.trans (hb.mono (by have hbs_ := HBS.out; have z2_ := z2.out; have z3_ := z3.out; have z4_ := z4.out; have z5_ := z5.out; have z6_ := z6.out; have z7_ := z7.out; have z8_ := z8.out; have z9_ := z9.out; have z10_ := z10.out; have z11_ := z11.out; have z12_ := z12.out; have z13_ := z13.out; have z14_ := z14.out; have z15_ := z15.out; have z16_ := z16.out; have z17_ := z17.out; (try simp only [World.size_alloc]); omega))); replace c0a := cell_grown hg RG8.out (by have hbs_ := HBS.out; have z2_ := z2.out; have z3_ := z3.out; have z4_ := z4.out; have z5_ := z5.out; have z6_ := z6.out; have z7_ := z7.out; have z8_ := z8.out; have z9_ := z9.out; have z10_ := z10.out; have z11_ := z11.out; have z12_ := z12.out; have z13_ := z13.out; have z14_ := z14.out; have z15_ := z15.out; have z16_ := z16.out; have z17_ := z17.out; (try dsimp only); (try simp only [World.size_alloc]); omega) c0a; replace c0b := cell_grown hg RG8.out (by have hbs_ := HBS.out; have z2_ := z2.out; have z3_ := z3.out; have z4_ := z4.out; have z5_ := z5.out; have z6_ := z6.out; have z7_ := z7.out; have z8_ := z8.out; have z9_ := z9.out; have z10_ := z10.out; have z11_ := z11.out; have z12_ := z12.out; have z13_ := z13.out; have z14_ := z14.out; have z15_ := z15.out; have z16_ := z16.out; have z17_ := z17.out; (try dsimp only); (try simp only [World.size_alloc]); omega) c0b; replace c1a := cell_grown hg RG8.out (by have hbs_ := HBS.out; have z2_ := z2.out; have z3_ := z3.out; have z4_ := z4.out; have z5_ := z5.out; have z6_ := z6.out; have z7_ := z7.out; have z8_ := z8.out; have z9_ := z9.out; have z10_ := z10.out; have z11_ := z11.out; have z12_ := z12.out; have z13_ := z13.out; have z14_ := z14.out; have z15_ := z15.out; have z16_ := z16.out; have z17_ := z17.out; (try dsimp only); (try simp only [World.size_alloc]); omega) c1a; replace c1b := cell_grown hg RG8.out (by have hbs_ := HBS.out; have z2_ := z2.out; have z3_ := z3.out; have z4_ := z4.out; have z5_ := z5.out; have z6_ := z6.out; have z7_ := z7.out; have z8_ := z8.out; have z9_ := z9.out; have z10_ := z10.out; have z11_ := z11.out; have z12_ := z12.out; have z13_ := z13.out; have z14_ := z14.out; have z15_ := z15.out; have z16_ := z16.out; have z17_ := z17.out; (try dsimp only); (try simp only [World.size_alloc]); omega) c1b; replace c100 := cell_grown hg RG8.out (by have hbs_ := HBS.out; have z2_ := z2.out; have z3_ := z3.out; have z4_ := z4.out; have z5_ := z5.out; have z6_ := z6.out; have z7_ := z7.out; have z8_ := z8.out; have z9_ := z9.out; have z10_ := z10.out; have z11_ := z11.out; have z12_ := z12.out; have z13_ := z13.out; have z14_ := z14.out; have z15_ := z15.out; have z16_ := z16.out; have z17_ := z17.out; (try dsimp only); (try simp only [World.size_alloc]); omega) c100; replace c101 := cell_grown hg RG8.out (by have hbs_ := HBS.out; have z2_ := z2.out; have z3_ := z3.out; have z4_ := z4.out; have z5_ := z5.out; have z6_ := z6.out; have z7_ := z7.out; have z8_ := z8.out; have z9_ := z9.out; have z10_ := z10.out; have z11_ := z11.out; have z12_ := z12.out; have z13_ := z13.out; have z14_ := z14.out; have z15_ := z15.out; have z16_ := z16.out; have z17_ := z17.out; (try dsimp only); (try simp only [World.size_alloc]); omega) c101; replace c102 := cell_grown hg RG8.out (by have hbs_ := HBS.out; have z2_ := z2.out; have z3_ := z3.out; have z4_ := z4.out; have z5_ := z5.out; have z6_ := z6.out; have z7_ := z7.out; have z8_ := z8.out; have z9_ := z9.out; have z10_ := z10.out; have z11_ := z11.out; have z12_ := z12.out; have z13_ := z13.out; have z14_ := z14.out; have z15_ := z15.out; have z16_ := z16.out; have z17_ := z17.out; (try dsimp only); (try simp only [World.size_alloc]); omega) c102; replace c103 := cell_grown hg RG8.out (by have hbs_ := HBS.out; have z2_ := z2.out; have z3_ := z3.out; have z4_ := z4.out; have z5_ := z5.out; have z6_ := z6.out; have z7_ := z7.out; have z8_ := z8.out; have z9_ := z9.out; have z10_ := z10.out; have z11_ := z11.out; have z12_ := z12.out; have z13_ := z13.out; have z14_ := z14.out; have z15_ := z15.out; have z16_ := z16.out; have z17_ := z17.out; (try dsimp only); (try simp only [World.size_alloc]); omega) c103; replace HO4 := Aside0.mk (own_grownP hg RG8.out RG4.out (by have hbs_ := HBS.out; have z2_ := z2.out; have z3_ := z3.out; have z4_ := z4.out; have z5_ := z5.out; have z6_ := z6.out; have z7_ := z7.out; have z8_ := z8.out; have z9_ := z9.out; have z10_ := z10.out; have z11_ := z11.out; have z12_ := z12.out; have z13_ := z13.out; have z14_ := z14.out; have z15_ := z15.out; have z16_ := z16.out; have z17_ := z17.out; (try simp only [World.size_alloc]); omega) HO4.out); replace HO5 := Aside0.mk (own_grown hg RG8.out RG5.out (by have hbs_ := HBS.out; have z2_ := z2.out; have z3_ := z3.out; have z4_ := z4.out; have z5_ := z5.out; have z6_ := z6.out; have z7_ := z7.out; have z8_ := z8.out; have z9_ := z9.out; have z10_ := z10.out; have z11_ := z11.out; have z12_ := z12.out; have z13_ := z13.out; have z14_ := z14.out; have z15_ := z15.out; have z16_ := z16.out; have z17_ := z17.out; (try simp only [World.size_alloc]); omega) HO5.out); replace HO6 := Aside0.mk (own_grown hg RG8.out RG6.out (by have hbs_ := HBS.out; have z2_ := z2.out; have z3_ := z3.out; have z4_ := z4.out; have z5_ := z5.out; have z6_ := z6.out; have z7_ := z7.out; have z8_ := z8.out; have z9_ := z9.out; have z10_ := z10.out; have z11_ := z11.out; have z12_ := z12.out; have z13_ := z13.out; have z14_ := z14.out; have z15_ := z15.out; have z16_ := z16.out; have z17_ := z17.out; (try simp only [World.size_alloc]); omega) HO6.out); replace HO7 := Aside0.mk (own_grown hg RG8.out RG7.out (by have hbs_ := HBS.out; have z2_ := z2.out; have z3_ := z3.out; have z4_ := z4.out; have z5_ := z5.out; have z6_ := z6.out; have z7_ := z7.out; have z8_ := z8.out; have z9_ := z9.out; have z10_ := z10.out; have z11_ := z11.out; have z12_ := z12.out; have z13_ := z13.out; have z14_ := z14.out; have z15_ := z15.out; have z16_ := z16.out; have z17_ := z17.out; (try simp only [World.size_alloc]); omega) HO7.out); replace HO12 := Aside0.mk (own_grown hg RG8.out RG12.out (by have hbs_ := HBS.out; have z2_ := z2.out; have z3_ := z3.out; have z4_ := z4.out; have z5_ := z5.out; have z6_ := z6.out; have z7_ := z7.out; have z8_ := z8.out; have z9_ := z9.out; have z10_ := z10.out; have z11_ := z11.out; have z12_ := z12.out; have z13_ := z13.out; have z14_ := z14.out; have z15_ := z15.out; have z16_ := z16.out; have z17_ := z17.out; (try simp only [World.size_alloc]); omega) HO12.out); replace HO8 := Aside0.mk ho; clear ho hg hb) | (replace st := stg_next 14 15 st; go_at_call 46; have hl_ : r0.length ≤ 1073741824 := lenR; refine (heldPairS _ _ (1) r0.length _ HO8.out (by omega) hl_).mono ?_; rintro e w19 ⟨rfl, hb⟩; clear hl_; have z19 := Aside0.mk hb.size; replace HB := Aside0.belowC HB hb; replace c0a := pw_cell_below hb c0a; replace c0b := pw_cell_below hb c0b; replace c1a := pw_cell_below hb c1a; replace c1b := pw_cell_below hb c1b; replace c100 := pw_cell_below hb c100; replace c101 := pw_cell_below hb c101; replace c102 := pw_cell_below hb c102; replace c103 := pw_cell_below hb c103; replace HO4 := Aside0.ownP HO4 hb; replace HO5 := Aside0.own HO5 hb; replace HO6 := Aside0.own HO6 hb; replace HO7 := Aside0.own HO7 hb; replace HO8 := Aside0.rowP HO8 hb; replace HO12 := Aside0.own HO12 hb; clear hb))
              refine wp_region_phi (fun i => match i with | 0 => fun v _ => v = .agg #[.int .i64 a0, .slice A0 l0.length d0] | 1 => fun v W => ∃ u, v = .agg #[.int .i64 a0, u] ∧ OwnI w19.heap.size W u l0 | 2 => fun v _ => v = .agg #[.int .i64 a1, .slice A1 l1.length d1] | 3 => fun v W => ∃ u, v = .agg #[.int .i64 a1, u] ∧ OwnI w19.heap.size W u l1 | 4 => fun v _ => v = .slice A2 l2.length d2 | 5 => fun v W => OwnI w19.heap.size W v l2 | 6 => fun v W => ∃ u, v = .tuple #[u, .int .i64 r1] ∧ OwnP w19.heap.size W u r0 | 7 => fun v W => ∃ u, v = .tuple #[u, .int .i64 r1] ∧ OwnP w19.heap.size W u r0 | 8 => fun v W => ∃ u, v = u ∧ OwnP w19.heap.size W u r0 | 9 => fun v _ => v = .int .i64 r1 | 10 => fun v W => ∃ u, v = u ∧ OwnP w19.heap.size W u r0 | 11 => fun v _ => v = .int .i64 r1 | _ => fun _ _ => True)
                [0, 1, 0, 7, 0, 31, 63, 127, 255, 255, 511, 2047] hmx (by kernel_rfl) ?st ?steps ?rest
              case st =>
                intro i v w1_ w2_ hb
                match i with
                | 0 | 2 | 4 | 9 | 11 => exact id
                | 1 | 3 | 6 | 7 | 8 | 10 => exact fun ⟨u, e, ho⟩ => ⟨u, e, ho.below hb⟩
                | 5 => exact fun ho => OwnI.below ho hb
                | n + 12 => exact id
              case steps =>
                refine ⟨?_, ?_, ?_, ?_, ?_, ?_, ?_, ?_, ?_, ?_, ?_, ?_, trivial⟩
                · intro s w_ hb hd R hR
                  generalize hA : putAll _ 0 s _ = A
                  have c0a := pw_cell_below hb c0a
                  have c0b := pw_cell_below hb c0b
                  have hR' := hR (.agg #[.int .i64 a0, .slice A0 l0.length d0]) _ (Below.refl _ _) (rfl)
                  clear hR hd
                  refine opGives_value ?_ hR'
                  subst hA
                  simp only [dsOf, List.map_cons, List.map_nil, Option.getD_some, putAll, Act.put, List.setIfInBounds_toArray, List.set_cons_zero, List.set_cons_succ]
                  go_simp
                · intro s w_ hb hd R hR
                  generalize hA : putAll _ 0 s _ = A
                  have e0 : s 0 = _ := hd 0 (by kernel_rfl)
                  have hs := hb.size
                  refine opGives_call (f := 15) (args := #[.agg #[.int .i64 a0, .slice A0 l0.length d0]]) ?_ ?_
                  · subst hA
                    clear hR hd
                    simp only [dsOf, List.map_cons, List.map_nil, Option.getD_some, putAll, Act.put, List.setIfInBounds_toArray, List.set_cons_zero, List.set_cons_succ]
                    go_simp
                  clear hA A
                  refine (toComplex _ _ l0 w_ (ReadI.below H0.out (HB.out.trans (hb.mono HB.out.size))) (by omega)).mono ?_
                  rintro e w__ ⟨u, rfl, ho, hb5⟩
                  exact ⟨_, rfl, hR _ _ hb5 ⟨u, rfl, ho.lower hs⟩⟩
                · intro s w_ hb hd R hR
                  generalize hA : putAll _ 0 s _ = A
                  have c1a := pw_cell_below hb c1a
                  have c1b := pw_cell_below hb c1b
                  have hR' := hR (.agg #[.int .i64 a1, .slice A1 l1.length d1]) _ (Below.refl _ _) (rfl)
                  clear hR hd
                  refine opGives_value ?_ hR'
                  subst hA
                  simp only [dsOf, List.map_cons, List.map_nil, Option.getD_some, putAll, Act.put, List.setIfInBounds_toArray, List.set_cons_zero, List.set_cons_succ]
                  go_simp
                · intro s w_ hb hd R hR
                  generalize hA : putAll _ 0 s _ = A
                  have e2 : s 2 = _ := hd 2 (by kernel_rfl)
                  have hs := hb.size
                  refine opGives_call (f := 15) (args := #[.agg #[.int .i64 a1, .slice A1 l1.length d1]]) ?_ ?_
                  · subst hA
                    clear hR hd
                    simp only [dsOf, List.map_cons, List.map_nil, Option.getD_some, putAll, Act.put, List.setIfInBounds_toArray, List.set_cons_zero, List.set_cons_succ]
                    go_simp
                  clear hA A
                  refine (toComplex _ _ l1 w_ (ReadI.below H1.out (HB.out.trans (hb.mono HB.out.size))) (by omega)).mono ?_
                  rintro e w__ ⟨u, rfl, ho, hb5⟩
                  exact ⟨_, rfl, hR _ _ hb5 ⟨u, rfl, ho.lower hs⟩⟩
                · intro s w_ hb hd R hR
                  generalize hA : putAll _ 0 s _ = A
                  have hR' := hR (.slice A2 l2.length d2) _ (Below.refl _ _) (rfl)
                  clear hR hd
                  refine opGives_value ?_ hR'
                  subst hA
                  simp only [dsOf, List.map_cons, List.map_nil, Option.getD_some, putAll, Act.put, List.setIfInBounds_toArray, List.set_cons_zero, List.set_cons_succ]
                  go_simp
                · intro s w_ hb hd R hR
                  generalize hA : putAll _ 0 s _ = A
                  have e4 : s 4 = _ := hd 4 (by kernel_rfl)
                  have hs := hb.size
                  refine opGives_call (f := 16) (args := #[.slice A2 l2.length d2]) ?_ ?_
                  · subst hA
                    clear hR hd
                    simp only [dsOf, List.map_cons, List.map_nil, Option.getD_some, putAll, Act.put, List.setIfInBounds_toArray, List.set_cons_zero, List.set_cons_succ]
                    go_simp
                  clear hA A
                  refine (toInt64S _ l2 w_ (ReadI.below H2.out (HB.out.trans (hb.mono HB.out.size))) (by omega)).mono ?_
                  rintro e w__ ⟨u, rfl, ho, hb5⟩
                  exact ⟨_, rfl, hR _ _ hb5 (ho.lower hs)⟩
                · intro s w_ hb hd R hR
                  generalize hA : putAll _ 0 s _ = A
                  obtain ⟨u1, e1, o1⟩ : ∃ u, s 1 = _ ∧ OwnI _ _ u l0 := hd 1 (by kernel_rfl)
                  obtain ⟨u3, e3, o3⟩ : ∃ u, s 3 = _ ∧ OwnI _ _ u l1 := hd 3 (by kernel_rfl)
                  have o5 : OwnI _ _ (s 5) l2 := hd 5 (by kernel_rfl)
                  have hs := hb.size
                  refine opGives_call (f := 45) (args := #[.agg #[.int .i64 a0, u1], .agg #[.int .i64 a1, u3], s 5]) ?_ ?_
                  · subst hA
                    clear hR hd
                    simp only [dsOf, List.map_cons, List.map_nil, Option.getD_some, putAll, Act.put, List.setIfInBounds_toArray, List.set_cons_zero, List.set_cons_succ]
                    go_simp
                  clear hA A
                  refine (implPairingByFibres a0 _ l0 a1 _ l1 _ l2 w_ o1.read o3.read o5.read).mono ?_
                  rw [← HRr0.out, ← HRr1.out]
                  rintro e w__ ⟨u, rfl, ho, hb5⟩
                  exact ⟨_, rfl, hR _ _ hb5 ⟨u, rfl, ho.lower hs⟩⟩
                · intro s w_ hb hd R hR
                  generalize hA : putAll _ 0 s _ = A
                  obtain ⟨u6, e6, o6⟩ : ∃ u, s 6 = _ ∧ OwnP _ _ u r0 := hd 6 (by kernel_rfl)
                  have hR' := hR (.tuple #[u6, .int .i64 r1]) _ (Below.refl _ _) (⟨u6, rfl, o6⟩)
                  clear hR hd
                  refine opGives_value ?_ hR'
                  subst hA
                  simp only [dsOf, List.map_cons, List.map_nil, Option.getD_some, putAll, Act.put, List.setIfInBounds_toArray, List.set_cons_zero, List.set_cons_succ]
                  go_simp
                · intro s w_ hb hd R hR
                  generalize hA : putAll _ 0 s _ = A
                  obtain ⟨u7, e7, o7⟩ : ∃ u, s 7 = _ ∧ OwnP _ _ u r0 := hd 7 (by kernel_rfl)
                  have hR' := hR (u7) _ (Below.refl _ _) (⟨u7, rfl, o7⟩)
                  clear hR hd
                  refine opGives_value ?_ hR'
                  subst hA
                  simp only [dsOf, List.map_cons, List.map_nil, Option.getD_some, putAll, Act.put, List.setIfInBounds_toArray, List.set_cons_zero, List.set_cons_succ]
                  go_simp
                · intro s w_ hb hd R hR
                  generalize hA : putAll _ 0 s _ = A
                  obtain ⟨u7, e7, o7⟩ : ∃ u, s 7 = _ ∧ OwnP _ _ u r0 := hd 7 (by kernel_rfl)
                  have hR' := hR (.int .i64 r1) _ (Below.refl _ _) (rfl)
                  clear hR hd
                  refine opGives_value ?_ hR'
                  subst hA
                  simp only [dsOf, List.map_cons, List.map_nil, Option.getD_some, putAll, Act.put, List.setIfInBounds_toArray, List.set_cons_zero, List.set_cons_succ]
                  go_simp
                · intro s w_ hb hd R hR
                  generalize hA : putAll _ 0 s _ = A
                  obtain ⟨u8, e8, o8⟩ : ∃ u, s 8 = _ ∧ OwnP _ _ u r0 := hd 8 (by kernel_rfl)
                  have hR' := hR (u8) _ (Below.refl _ _) (⟨u8, rfl, o8⟩)
                  clear hR hd
                  refine opGives_value ?_ hR'
                  subst hA
                  simp only [dsOf, List.map_cons, List.map_nil, Option.getD_some, putAll, Act.put, List.setIfInBounds_toArray, List.set_cons_zero, List.set_cons_succ]
                  go_simp
                · intro s w_ hb hd R hR
                  generalize hA : putAll _ 0 s _ = A
                  have e9 : s 9 = _ := hd 9 (by kernel_rfl)
                  have hR' := hR (.int .i64 r1) _ (Below.refl _ _) (rfl)
                  clear hR hd
                  refine opGives_value ?_ hR'
                  subst hA
                  simp only [dsOf, List.map_cons, List.map_nil, Option.getD_some, putAll, Act.put, List.setIfInBounds_toArray, List.set_cons_zero, List.set_cons_succ]
                  go_simp
              case rest =>
                intro s20 w20 hb hv
                obtain ⟨u_, e10_, ho⟩ : ∃ u, s20 10 = _ ∧ OwnP _ _ u r0 := hv 10 (by decide)
                obtain ⟨A_20, d_20, rfl, -⟩ := ho.read
                have RG20 := Aside0.mk (fun k hk => And.intro (ho.base k hk) (ho.lt k hk))
                have e11_ : s20 11 = _ := hv 11 (by decide)
                simp only [dsOf, List.map_cons, List.map_nil, Option.getD_some, putAll, Act.put, List.setIfInBounds_toArray, List.set_cons_zero, List.set_cons_succ]
                rw [e10_, e11_]
                clear hv e10_ e11_
                have z20 := Aside0.mk hb.size
                replace HB := Aside0.belowC HB hb
                replace c0a := pw_cell_below hb c0a
                replace c0b := pw_cell_below hb c0b
                replace c1a := pw_cell_below hb c1a
                replace c1b := pw_cell_below hb c1b
                replace c100 := pw_cell_below hb c100
                replace c101 := pw_cell_below hb c101
                replace c102 := pw_cell_below hb c102
                replace c103 := pw_cell_below hb c103
                replace HO4 := Aside0.ownP HO4 hb
                replace HO5 := Aside0.own HO5 hb
                replace HO6 := Aside0.own HO6 hb
                replace HO7 := Aside0.own HO7 hb
                replace HO8 := Aside0.rowP HO8 hb
                replace HO12 := Aside0.own HO12 hb
                clear hb
                have HO20 := Aside0.mk ho
                clear ho
                go_wp2_with (first | (replace st := stg_next 15 16 st; go_at_call 34; refine (eqPairS _ _ r0 _ HO20.out.read HO4.out.read).mono ?_; rintro e w21 ⟨rfl, hb⟩; have z21 := Aside0.mk hb.size; replace HB := Aside0.belowC HB hb; replace c0a := pw_cell_below hb c0a; replace c0b := pw_cell_below hb c0b; replace c1a := pw_cell_below hb c1a; replace c1b := pw_cell_below hb c1b; replace c100 := pw_cell_below hb c100; replace c101 := pw_cell_below hb c101; replace c102 := pw_cell_below hb c102; replace c103 := pw_cell_below hb c103; replace HO4 := Aside0.ownP HO4 hb; replace HO5 := Aside0.own HO5 hb; replace HO6 := Aside0.own HO6 hb; replace HO7 := Aside0.own HO7 hb; replace HO8 := Aside0.rowP HO8 hb; replace HO12 := Aside0.own HO12 hb; replace HO20 := Aside0.ownP HO20 hb; clear hb) | (replace st := stg_next 16 17 st; go_at_call 46; have hl_ : r0.length ≤ 1073741824 := lenR; refine (heldPairS _ _ (1) r0.length _ HO8.out (by omega) hl_).mono ?_; rintro e w22 ⟨rfl, hb⟩; clear hl_; have z22 := Aside0.mk hb.size; replace HB := Aside0.belowC HB hb; replace c0a := pw_cell_below hb c0a; replace c0b := pw_cell_below hb c0b; replace c1a := pw_cell_below hb c1a; replace c1b := pw_cell_below hb c1b; replace c100 := pw_cell_below hb c100; replace c101 := pw_cell_below hb c101; replace c102 := pw_cell_below hb c102; replace c103 := pw_cell_below hb c103; replace HO4 := Aside0.ownP HO4 hb; replace HO5 := Aside0.own HO5 hb; replace HO6 := Aside0.own HO6 hb; replace HO7 := Aside0.own HO7 hb; replace HO8 := Aside0.rowP HO8 hb; replace HO12 := Aside0.own HO12 hb; replace HO20 := Aside0.ownP HO20 hb; clear hb))
                go_ret
                exact ⟨rfl, HB0.out.trans (HB.out.mono HB0.out.size)⟩
      · have hz1 : szAns (1048576 - l0.length) l1.length = -1 := by unfold szAns; rw [if_pos (by omega)]
        go_enter Try.func11, Try.ntmps11
        go_wp2_with (first | (replace st := stg_next 0 1 st; rw [← hw1]; clear hw1; go_at_call 13; refine (szComplex _ _ l0 _ _ (ReadI.below H0.out HB.out) (by omega) (by omega)).mono ?_; rintro e w2 ⟨rfl, hb⟩; rw [hz0]; have z2 := Aside0.mk hb.size; replace HB := Aside0.belowC HB hb; replace c0a := pw_cell_below hb c0a; replace c0b := pw_cell_below hb c0b; replace c1a := pw_cell_below hb c1a; replace c1b := pw_cell_below hb c1b; clear hb) | (replace st := stg_next 1 2 st; go_at_call 13; refine (szComplex _ _ l1 _ _ (ReadI.below H1.out HB.out) (by omega) (by omega)).mono ?_; rintro e w3 ⟨rfl, hb⟩; rw [hz1]; have z3 := Aside0.mk hb.size; replace HB := Aside0.belowC HB hb; replace c0a := pw_cell_below hb c0a; replace c0b := pw_cell_below hb c0b; replace c1a := pw_cell_below hb c1a; replace c1b := pw_cell_below hb c1b; clear hb))
        go_ret
        exact ⟨rfl, HB0.out.trans (HB.out.mono HB0.out.size)⟩
    · have hz0 : szAns (1048576) l0.length = -1 := by unfold szAns; rw [if_pos (by omega)]
      go_enter Try.func11, Try.ntmps11
      go_wp2_with (first | (replace st := stg_next 0 1 st; rw [← hw1]; clear hw1; go_at_call 13; refine (szComplex _ _ l0 _ _ (ReadI.below H0.out HB.out) (by omega) (by omega)).mono ?_; rintro e w2 ⟨rfl, hb⟩; rw [hz0]; have z2 := Aside0.mk hb.size; replace HB := Aside0.belowC HB hb; replace c0a := pw_cell_below hb c0a; replace c0b := pw_cell_below hb c0b; replace c1a := pw_cell_below hb c1a; replace c1b := pw_cell_below hb c1b; clear hb))
      go_ret
      exact ⟨rfl, HB0.out.trans (HB.out.mono HB0.out.size)⟩
  · have q0' : (1048576 : Int) < l2.length := by omega
    go_enter Try.func11, Try.ntmps11
    go_wp2
    rw [← hw1]
    go_ret
    exact ⟨rfl, HB0.out.trans (HB.out.mono HB0.out.size)⟩
end Go.Proofs.Ytcbkchnfjeegmaa.H
