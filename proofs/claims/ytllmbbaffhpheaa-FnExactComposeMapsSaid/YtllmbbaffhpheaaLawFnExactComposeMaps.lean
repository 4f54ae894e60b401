/- The law of ComposeMaps (printed by lawgen.py). -/
import Derived.Test.YtllmbbaffhpheaaComp
import Derived.Test.YtllmbbaffhpheaaLawM
import Derived.Test.YtllmbbaffhpheaaLawB
import Derived.Test.YtllmbbaffhpheaaLawC
import Derived.Test.YtllmbbaffhpheaaOpen
namespace Go.Proofs.Ytllmbbaffhpheaa.H
open Go.RowKit Go.Proofs.YtllmbbaffhpheaaW.PrintWords Go.Proofs.YtllmbbaffhpheaaW.PrintLast Go.Proofs.YtllmbbaffhpheaaW.PrintMore
set_option linter.unusedVariables false
set_option linter.unusedSimpArgs false

set_option maxRecDepth 1000000 in
set_option maxHeartbeats 8000000 in
theorem lawFnExactComposeMaps (w : World) (a0 : Int) (ga0 : W64 a0) (u0 : Value) (l0 : List Int) (h0 : ReadI w u0 l0) (g0 : ∀ x ∈ l0, W64 x) (a1 : Int) (ga1 : W64 a1) (u1 : Value) (l1 : List Int) (h1 : ReadI w u1 l1) (g1 : ∀ x ∈ l1, W64 x) (a2 : Int) (ga2 : W64 a2) (u2 : Value) (l2 : List Int) (h2 : ReadI w u2 l2) (g2 : ∀ x ∈ l2, W64 x) (v3 : Value) (l3 : List Int) (h3 : ReadI w v3 l3) (g3 : ∀ x ∈ l3, W64 x) (v4 : Value) (l4 : List Int) (h4 : ReadI w v4 l4) (g4 : ∀ x ∈ l4, W64 x) :
    Calls Try.prog 4 #[.agg #[.int .i64 a0, u0], .agg #[.int .i64 a1, u1], .agg #[.int .i64 a2, u2], v3, v4] w fun e w' => e = .returned (.bool true) ∧ Below w.heap.size w w' := by
  obtain ⟨w0, hw0⟩ : ∃ w0, w0 = (w.alloc (.cells #[.int .i64 a0, u0] 24)).alloc (.cells #[.int .i64 a1, u1] 24) := ⟨_, rfl⟩
  obtain ⟨w1, hw1⟩ : ∃ w1, w1 = w0.alloc (.cells #[.int .i64 a2, u2] 24) := ⟨_, rfl⟩
  have hs0 : w0.heap.size = w.heap.size + 1 + 1 := by rw [hw0]; simp
  have hB0_ : Below w.heap.size w w0 := by rw [hw0]; exact ((Below.refl _ w).alloc (Nat.le_refl _) _).alloc (by simp) _
  have hB1_ : Below w0.heap.size w0 w1 := by rw [hw1]; exact Below.alloc (Below.refl _ _) (Nat.le_refl _) _
  have hB : Below w.heap.size w w1 := hB0_.trans (hB1_.mono hB0_.size)
  have c0a : w1.cell? ⟨w.heap.size, 0, none⟩ = some (.int .i64 a0) := pw_cell_below hB1_ (by rw [hw0]; simp)
  have y0a : w0.cell? ⟨w.heap.size, 0, none⟩ = some (.int .i64 a0) := by rw [hw0]; simp
  have c0b : w1.cell? ⟨w.heap.size, 1, none⟩ = some (u0) := pw_cell_below hB1_ (by rw [hw0]; simp)
  have y0b : w0.cell? ⟨w.heap.size, 1, none⟩ = some (u0) := by rw [hw0]; simp
  have c1a : w1.cell? ⟨w.heap.size + 1, 0, none⟩ = some (.int .i64 a1) := pw_cell_below hB1_ (by rw [hw0]; simp)
  have c1b : w1.cell? ⟨w.heap.size + 1, 1, none⟩ = some (u1) := pw_cell_below hB1_ (by rw [hw0]; simp)
  have c2a : w1.cell? ⟨w.heap.size + 1 + 1, 0, none⟩ = some (.int .i64 a2) := by rw [hw1, ← hs0]; simp
  have c2b : w1.cell? ⟨w.heap.size + 1 + 1, 1, none⟩ = some (u2) := by rw [hw1, ← hs0]; simp
  have hbs : w1.heap.size = w.heap.size + 1 + 1 + 1 := by rw [hw1]; simp [hs0]
  have HBS := Aside0.mk hbs
  clear hbs hB0_ hB1_ hs0
  subst hw0
  have H0 := Aside0.mk (h0.below hB)
  have H1 := Aside0.mk (h1.below hB)
  have H2 := Aside0.mk (h2.below hB)
  have H3 := Aside0.mk (h3.below hB)
  have H4 := Aside0.mk (h4.below hB)
  obtain ⟨A0, d0, rfl, -⟩ := id h0
  obtain ⟨A1, d1, rfl, -⟩ := id h1
  obtain ⟨A2, d2, rfl, -⟩ := id h2
  obtain ⟨A3, d3, rfl, -⟩ := id h3
  obtain ⟨A4, d4, rfl, -⟩ := id h4
  have HB0 := Aside0.mk hB
  have HB := Aside0.mk (Below.refl w1.heap.size w1)
  have GA0 := Aside0.mk ga0
  have G0 := Aside0.mk g0
  have GA1 := Aside0.mk ga1
  have G1 := Aside0.mk g1
  have GA2 := Aside0.mk ga2
  have G2 := Aside0.mk g2
  have G3 := Aside0.mk g3
  have G4 := Aside0.mk g4
  clear hB h0 ga0 g0 h1 ga1 g1 h2 ga2 g2 h3 g3 h4 g4
  have st : Stg 0 := ⟨⟩
  by_cases q0 : l3.length ≤ 1048576
  · have q0' : (l3.length : Int) ≤ 1048576 := by omega
    by_cases q1 : l4.length ≤ 1048576
    · have q1' : (l4.length : Int) ≤ 1048576 := by omega
      by_cases q2 : l0.length ≤ 1048576
      · have hz0 : szAns (1048576) l0.length = 1048576 - l0.length := by unfold szAns; rw [if_neg (by omega)]
        have q2' : (l0.length : Int) ≤ 1048576 := by omega
        by_cases q3 : l0.length + l1.length ≤ 1048576
        · have hz1 : szAns (1048576 - l0.length) l1.length = 1048576 - l0.length - l1.length := by unfold szAns; rw [if_neg (by omega)]
          have q3' : (l0.length : Int) + l1.length ≤ 1048576 := by omega
          by_cases q4 : l0.length + l1.length + l2.length ≤ 1048576
          · have hz2 : szAns (1048576 - l0.length - l1.length) l2.length = 1048576 - l0.length - l1.length - l2.length := by unfold szAns; rw [if_neg (by omega)]
            have q4' : (l0.length : Int) + l1.length + l2.length ≤ 1048576 := by omega
            have hmx : Try.prog.follows .mixedOrders = true := by kernel_rfl
            obtain ⟨r0, hr0⟩ : ∃ r, r = (ansComposeMaps a0 l0 a1 l1 a2 l2 l3 l4).1 := ⟨_, rfl⟩
            have HRr0 := Aside0.mk hr0
            clear hr0
            obtain ⟨r1, hr1⟩ : ∃ r, r = (ansComposeMaps a0 l0 a1 l1 a2 l2 l3 l4).2 := ⟨_, rfl⟩
            have HRr1 := Aside0.mk hr1
            clear hr1
            have lenR : r0.length ≤ 1073741824 := by rw [HRr0.out]; exact lenComposeMaps a0 l0 a1 l1 a2 l2 l3 l4
            go_enter Try.func4, Try.ntmps4
            go_wp2_with (first | (replace st := stg_next 0 1 st; rw [← hw1]; clear hw1 y0a y0b; go_at_call 15; refine (szComplex _ _ l0 _ _ (ReadI.below H0.out HB.out) (by omega) (by omega)).mono ?_; rintro e w2 ⟨rfl, hb⟩; rw [hz0]; have z2 := Aside0.mk hb.size; replace HB := Aside0.belowC HB hb; replace c0a := pw_cell_below hb c0a; replace c0b := pw_cell_below hb c0b; replace c1a := pw_cell_below hb c1a; replace c1b := pw_cell_below hb c1b; replace c2a := pw_cell_below hb c2a; replace c2b := pw_cell_below hb c2b; clear hb) | (replace st := stg_next 1 2 st; go_at_call 15; refine (szComplex _ _ l1 _ _ (ReadI.below H1.out HB.out) (by omega) (by omega)).mono ?_; rintro e w3 ⟨rfl, hb⟩; rw [hz1]; have z3 := Aside0.mk hb.size; replace HB := Aside0.belowC HB hb; replace c0a := pw_cell_below hb c0a; replace c0b := pw_cell_below hb c0b; replace c1a := pw_cell_below hb c1a; replace c1b := pw_cell_below hb c1b; replace c2a := pw_cell_below hb c2a; replace c2b := pw_cell_below hb c2b; clear hb) | (replace st := stg_next 2 3 st; go_at_call 15; refine (szComplex _ _ l2 _ _ (ReadI.below H2.out HB.out) (by omega) (by omega)).mono ?_; rintro e w4 ⟨rfl, hb⟩; rw [hz2]; have z4 := Aside0.mk hb.size; replace HB := Aside0.belowC HB hb; replace c0a := pw_cell_below hb c0a; replace c0b := pw_cell_below hb c0b; replace c1a := pw_cell_below hb c1a; replace c1b := pw_cell_below hb c1b; replace c2a := pw_cell_below hb c2a; replace c2b := pw_cell_below hb c2b; clear hb))
            refine wp_region_phi (fun i => match i with | 0 => fun v _ => v = .agg #[.int .i64 a0, .slice A0 l0.length d0] | 1 => fun v W => ∃ u, v = .agg #[.int .i64 a0, u] ∧ OwnI w4.heap.size W u l0 | 2 => fun v _ => v = .agg #[.int .i64 a1, .slice A1 l1.length d1] | 3 => fun v W => ∃ u, v = .agg #[.int .i64 a1, u] ∧ OwnI w4.heap.size W u l1 | 4 => fun v _ => v = .agg #[.int .i64 a2, .slice A2 l2.length d2] | 5 => fun v W => ∃ u, v = .agg #[.int .i64 a2, u] ∧ OwnI w4.heap.size W u l2 | 6 => fun v _ => v = .slice A3 l3.length d3 | 7 => fun v W => OwnI w4.heap.size W v l3 | 8 => fun v _ => v = .slice A4 l4.length d4 | 9 => fun v W => OwnI w4.heap.size W v l4 | 10 => fun v W => ∃ u, v = .tuple #[u, .int .i64 r1] ∧ OwnI w4.heap.size W u r0 | 11 => fun v W => ∃ u, v = .tuple #[u, .int .i64 r1] ∧ OwnI w4.heap.size W u r0 | 12 => fun v W => OwnI w4.heap.size W v r0 | 13 => fun v _ => v = .int .i64 r1 | 14 => fun v W => OwnI w4.heap.size W v r0 | 15 => fun v _ => v = .int .i64 r1 | _ => fun _ _ => True)
              [0, 1, 0, 7, 0, 31, 0, 127, 0, 511, 1023, 2047, 4095, 4095, 8191, 32767] hmx (by kernel_rfl) ?st ?steps ?rest
            case st =>
              intro i v w1_ w2_ hb
              match i with
              | 0 | 2 | 4 | 6 | 8 | 13 | 15 => exact id
              | 1 | 3 | 5 | 10 | 11 => exact fun ⟨u, e, ho⟩ => ⟨u, e, ho.below hb⟩
              | 7 | 9 | 12 | 14 => exact fun ho => OwnI.below ho hb
              | n + 16 => exact id
            case steps =>
              refine ⟨?_, ?_, ?_, ?_, ?_, ?_, ?_, ?_, ?_, ?_, ?_, ?_, ?_, ?_, ?_, ?_, trivial⟩
              · intro s w_ hb hd R hR
                generalize hA : putAll _ 0 s _ = A
                have c0a := pw_cell_below hb c0a
                have c0b := pw_cell_below hb c0b
                have hR' := hR (.agg #[.int .i64 a0, .slice A0 l0.length d0]) _ (Below.refl _ _) (rfl)
                clear hR hd
                refine opGives_value ?_ hR'
                subst hA
                simp only [dsOf, List.map_cons, List.map_nil, Option.getD_some, putAll, Act.put, List.setIfInBounds_toArray, List.set_cons_zero, List.set_cons_succ]
                go_simp
              · intro s w_ hb hd R hR
                generalize hA : putAll _ 0 s _ = A
                have e0 : s 0 = _ := hd 0 (by kernel_rfl)
                have hs := hb.size
                refine opGives_call (f := 17) (args := #[.agg #[.int .i64 a0, .slice A0 l0.length d0]]) ?_ ?_
                · subst hA
                  clear hR hd
                  simp only [dsOf, List.map_cons, List.map_nil, Option.getD_some, putAll, Act.put, List.setIfInBounds_toArray, List.set_cons_zero, List.set_cons_succ]
                  go_simp
                clear hA A
                refine (toComplex _ _ l0 w_ (ReadI.below H0.out (HB.out.trans (hb.mono HB.out.size))) (by omega)).mono ?_
                rintro e w__ ⟨u, rfl, ho, hb5⟩
                exact ⟨_, rfl, hR _ _ hb5 ⟨u, rfl, ho.lower hs⟩⟩
              · intro s w_ hb hd R hR
                generalize hA : putAll _ 0 s _ = A
                have c1a := pw_cell_below hb c1a
                have c1b := pw_cell_below hb c1b
                have hR' := hR (.agg #[.int .i64 a1, .slice A1 l1.length d1]) _ (Below.refl _ _) (rfl)
                clear hR hd
                refine opGives_value ?_ hR'
                subst hA
                simp only [dsOf, List.map_cons, List.map_nil, Option.getD_some, putAll, Act.put, List.setIfInBounds_toArray, List.set_cons_zero, List.set_cons_succ]
                go_simp
              · intro s w_ hb hd R hR
                generalize hA : putAll _ 0 s _ = A
                have e2 : s 2 = _ := hd 2 (by kernel_rfl)
                have hs := hb.size
                refine opGives_call (f := 17) (args := #[.agg #[.int .i64 a1, .slice A1 l1.length d1]]) ?_ ?_
                · subst hA
                  clear hR hd
                  simp only [dsOf, List.map_cons, List.map_nil, Option.getD_some, putAll, Act.put, List.setIfInBounds_toArray, List.set_cons_zero, List.set_cons_succ]
                  go_simp
                clear hA A
                refine (toComplex _ _ l1 w_ (ReadI.below H1.out (HB.out.trans (hb.mono HB.out.size))) (by omega)).mono ?_
                rintro e w__ ⟨u, rfl, ho, hb5⟩
                exact ⟨_, rfl, hR _ _ hb5 ⟨u, rfl, ho.lower hs⟩⟩
              · intro s w_ hb hd R hR
                generalize hA : putAll _ 0 s _ = A
                have c2a := pw_cell_below hb c2a
                have c2b := pw_cell_below hb c2b
                have hR' := hR (.agg #[.int .i64 a2, .slice A2 l2.length d2]) _ (Below.refl _ _) (rfl)
                clear hR hd
                refine opGives_value ?_ hR'
                subst hA
                simp only [dsOf, List.map_cons, List.map_nil, Option.getD_some, putAll, Act.put, List.setIfInBounds_toArray, List.set_cons_zero, List.set_cons_succ]
                go_simp
              · intro s w_ hb hd R hR
                generalize hA : putAll _ 0 s _ = A
                have e4 : s 4 = _ := hd 4 (by kernel_rfl)
                have hs := hb.size
                refine opGives_call (f := 17) (args := #[.agg #[.int .i64 a2, .slice A2 l2.length d2]]) ?_ ?_
                · subst hA
                  clear hR hd
                  simp only [dsOf, List.map_cons, List.map_nil, Option.getD_some, putAll, Act.put, List.setIfInBounds_toArray, List.set_cons_zero, List.set_cons_succ]
                  go_simp
                clear hA A
                refine (toComplex _ _ l2 w_ (ReadI.below H2.out (HB.out.trans (hb.mono HB.out.size))) (by omega)).mono ?_
                rintro e w__ ⟨u, rfl, ho, hb5⟩
                exact ⟨_, rfl, hR _ _ hb5 ⟨u, rfl, ho.lower hs⟩⟩
              · intro s w_ hb hd R hR
                generalize hA : putAll _ 0 s _ = A
                have hR' := hR (.slice A3 l3.length d3) _ (Below.refl _ _) (rfl)
                clear hR hd
                refine opGives_value ?_ hR'
                subst hA
                simp only [dsOf, List.map_cons, List.map_nil, Option.getD_some, putAll, Act.put, List.setIfInBounds_toArray, List.set_cons_zero, List.set_cons_succ]
                go_simp
              · intro s w_ hb hd R hR
                generalize hA : putAll _ 0 s _ = A
                have e6 : s 6 = _ := hd 6 (by kernel_rfl)
                have hs := hb.size
                refine opGives_call (f := 18) (args := #[.slice A3 l3.length d3]) ?_ ?_
                · subst hA
                  clear hR hd
                  simp only [dsOf, List.map_cons, List.map_nil, Option.getD_some, putAll, Act.put, List.setIfInBounds_toArray, List.set_cons_zero, List.set_cons_succ]
                  go_simp
                clear hA A
                refine (toInt64S _ l3 w_ (ReadI.below H3.out (HB.out.trans (hb.mono HB.out.size))) (by omega)).mono ?_
                rintro e w__ ⟨u, rfl, ho, hb5⟩
                exact ⟨_, rfl, hR _ _ hb5 (ho.lower hs)⟩
              · intro s w_ hb hd R hR
                generalize hA : putAll _ 0 s _ = A
                have hR' := hR (.slice A4 l4.length d4) _ (Below.refl _ _) (rfl)
                clear hR hd
                refine opGives_value ?_ hR'
                subst hA
                simp only [dsOf, List.map_cons, List.map_nil, Option.getD_some, putAll, Act.put, List.setIfInBounds_toArray, List.set_cons_zero, List.set_cons_succ]
                go_simp
              · intro s w_ hb hd R hR
                generalize hA : putAll _ 0 s _ = A
                have e8 : s 8 = _ := hd 8 (by kernel_rfl)
                have hs := hb.size
                refine opGives_call (f := 18) (args := #[.slice A4 l4.length d4]) ?_ ?_
                · subst hA
                  clear hR hd
                  simp only [dsOf, List.map_cons, List.map_nil, Option.getD_some, putAll, Act.put, List.setIfInBounds_toArray, List.set_cons_zero, List.set_cons_succ]
                  go_simp
                clear hA A
                refine (toInt64S _ l4 w_ (ReadI.below H4.out (HB.out.trans (hb.mono HB.out.size))) (by omega)).mono ?_
                rintro e w__ ⟨u, rfl, ho, hb5⟩
                exact ⟨_, rfl, hR _ _ hb5 (ho.lower hs)⟩
              · intro s w_ hb hd R hR
                generalize hA : putAll _ 0 s _ = A
                obtain ⟨u1, e1, o1⟩ : ∃ u, s 1 = _ ∧ OwnI _ _ u l0 := hd 1 (by kernel_rfl)
                obtain ⟨u3, e3, o3⟩ : ∃ u, s 3 = _ ∧ OwnI _ _ u l1 := hd 3 (by kernel_rfl)
                obtain ⟨u5, e5, o5⟩ : ∃ u, s 5 = _ ∧ OwnI _ _ u l2 := hd 5 (by kernel_rfl)
                have o7 : OwnI _ _ (s 7) l3 := hd 7 (by kernel_rfl)
                have o9 : OwnI _ _ (s 9) l4 := hd 9 (by kernel_rfl)
                have hs := hb.size
                refine opGives_call (f := 22) (args := #[.agg #[.int .i64 a0, u1], .agg #[.int .i64 a1, u3], .agg #[.int .i64 a2, u5], s 7, s 9]) ?_ ?_
                · subst hA
                  clear hR hd
                  simp only [dsOf, List.map_cons, List.map_nil, Option.getD_some, putAll, Act.put, List.setIfInBounds_toArray, List.set_cons_zero, List.set_cons_succ]
                  go_simp
                clear hA A
                refine (specComposeMaps a0 _ l0 a1 _ l1 a2 _ l2 _ l3 _ l4 w_ o1.read o3.read o5.read o7.read o9.read).mono ?_
                rw [← HRr0.out, ← HRr1.out]
                rintro e w__ ⟨u, rfl, ho, hb5⟩
                exact ⟨_, rfl, hR _ _ hb5 ⟨u, rfl, ho.lower hs⟩⟩
              · intro s w_ hb hd R hR
                generalize hA : putAll _ 0 s _ = A
                obtain ⟨u10, e10, o10⟩ : ∃ u, s 10 = _ ∧ OwnI _ _ u r0 := hd 10 (by kernel_rfl)
                have hR' := hR (.tuple #[u10, .int .i64 r1]) _ (Below.refl _ _) (⟨u10, rfl, o10⟩)
                clear hR hd
                refine opGives_value ?_ hR'
                subst hA
                simp only [dsOf, List.map_cons, List.map_nil, Option.getD_some, putAll, Act.put, List.setIfInBounds_toArray, List.set_cons_zero, List.set_cons_succ]
                go_simp
              · intro s w_ hb hd R hR
                generalize hA : putAll _ 0 s _ = A
                obtain ⟨u11, e11, o11⟩ : ∃ u, s 11 = _ ∧ OwnI _ _ u r0 := hd 11 (by kernel_rfl)
                have hR' := hR (u11) _ (Below.refl _ _) (o11)
                clear hR hd
                refine opGives_value ?_ hR'
                subst hA
                simp only [dsOf, List.map_cons, List.map_nil, Option.getD_some, putAll, Act.put, List.setIfInBounds_toArray, List.set_cons_zero, List.set_cons_succ]
                go_simp
              · intro s w_ hb hd R hR
                generalize hA : putAll _ 0 s _ = A
                obtain ⟨u11, e11, o11⟩ : ∃ u, s 11 = _ ∧ OwnI _ _ u r0 := hd 11 (by kernel_rfl)
                have hR' := hR (.int .i64 r1) _ (Below.refl _ _) (rfl)
                clear hR hd
                refine opGives_value ?_ hR'
                subst hA
                simp only [dsOf, List.map_cons, List.map_nil, Option.getD_some, putAll, Act.put, List.setIfInBounds_toArray, List.set_cons_zero, List.set_cons_succ]
                go_simp
              · intro s w_ hb hd R hR
                generalize hA : putAll _ 0 s _ = A
                have o12 : OwnI _ _ (s 12) r0 := hd 12 (by kernel_rfl)
                have hR' := hR (s 12) _ (Below.refl _ _) (o12)
                clear hR hd
                refine opGives_value ?_ hR'
                subst hA
                simp only [dsOf, List.map_cons, List.map_nil, Option.getD_some, putAll, Act.put, List.setIfInBounds_toArray, List.set_cons_zero, List.set_cons_succ]
                go_simp
              · intro s w_ hb hd R hR
                generalize hA : putAll _ 0 s _ = A
                have e13 : s 13 = _ := hd 13 (by kernel_rfl)
                have hR' := hR (.int .i64 r1) _ (Below.refl _ _) (rfl)
                clear hR hd
                refine opGives_value ?_ hR'
                subst hA
                simp only [dsOf, List.map_cons, List.map_nil, Option.getD_some, putAll, Act.put, List.setIfInBounds_toArray, List.set_cons_zero, List.set_cons_succ]
                go_simp
            case rest =>
              intro s5 w5 hb hv
              have ho : OwnI _ _ (s5 14) r0 := hv 14 (by decide)
              obtain ⟨A_5, d_5, e14_, -⟩ := ho.read
              rw [e14_] at ho
              have RG5 := Aside0.mk (fun k hk => And.intro (ho.base k hk) (ho.lt k hk))
              have e15_ : s5 15 = _ := hv 15 (by decide)
              simp only [dsOf, List.map_cons, List.map_nil, Option.getD_some, putAll, Act.put, List.setIfInBounds_toArray, List.set_cons_zero, List.set_cons_succ]
              rw [e14_, e15_]
              clear hv e14_ e15_
              have z5 := Aside0.mk hb.size
              replace HB := Aside0.belowC HB hb
              replace c0a := pw_cell_below hb c0a
              replace c0b := pw_cell_below hb c0b
              replace c1a := pw_cell_below hb c1a
              replace c1b := pw_cell_below hb c1b
              replace c2a := pw_cell_below hb c2a
              replace c2b := pw_cell_below hb c2b
              clear hb
              have HO5 := Aside0.mk ho
              clear ho
              go_wp2_with (first | (replace st := stg_next 3 4 st; go_at_call 17; refine (toComplex _ _ l0 _ (ReadI.below H0.out HB.out) (by omega)).mono ?_; rintro e w6 ⟨u, rfl, ho, hb⟩; obtain ⟨A_6, d_6, rfl, -⟩ := ho.read; have RG6 := Aside0.mk (fun k hk => And.intro (ho.base k hk) (ho.lt k hk)); have z6 := Aside0.mk hb.size; replace HB := Aside0.belowC HB hb; replace c0a := pw_cell_below hb c0a; replace c0b := pw_cell_below hb c0b; replace c1a := pw_cell_below hb c1a; replace c1b := pw_cell_below hb c1b; replace c2a := pw_cell_below hb c2a; replace c2b := pw_cell_below hb c2b; replace HO5 := Aside0.own HO5 hb; clear hb; have HO6 := Aside0.mk ho; clear ho; have ec0a := cell_ahead c0a; have ec0b := cell_ahead c0b; have ec1a := cell_ahead c1a; have ec1b := cell_ahead c1b; have ec2a := cell_ahead c2a; have ec2b := cell_ahead c2b) | (replace st := stg_next 4 5 st; go_at_call 17; refine (toComplex _ _ l1 _ (ReadI.below H1.out (HB.out.trans (Below.alloc (Below.refl _ _) HB.out.size _))) (by omega)).mono ?_; rintro e w7 ⟨u, rfl, ho, hb⟩; obtain ⟨A_7, d_7, rfl, -⟩ := ho.read; have RG7 := Aside0.mk (fun k hk => And.intro (ho.base k hk) (ho.lt k hk)); clear ec0a; clear ec0b; clear ec1a; clear ec1b; clear ec2a; clear ec2b; have c100 : w7.cell? ⟨w6.heap.size, 0, none⟩ = some (.int .i64 a0) := pw_cell_below hb (new_cell _ _ _ 0 _ rfl); have c101 : w7.cell? ⟨w6.heap.size, 1, none⟩ = some (.slice A_6 l0.length d_6) := pw_cell_below hb (new_cell _ _ _ 1 _ rfl); have z7 := Aside0.mk (alloc_size hb); replace hb := below_unalloc hb; replace HB := Aside0.belowC HB hb; replace c0a := pw_cell_below hb c0a; replace c0b := pw_cell_below hb c0b; replace c1a := pw_cell_below hb c1a; replace c1b := pw_cell_below hb c1b; replace c2a := pw_cell_below hb c2a; replace c2b := pw_cell_below hb c2b; replace HO5 := Aside0.own HO5 hb; replace HO6 := Aside0.own HO6 hb; clear hb; have HO7 := Aside0.mk ho; clear ho; have ec0a := cell_ahead c0a; have ec0b := cell_ahead c0b; have ec1a := cell_ahead c1a; have ec1b := cell_ahead c1b; have ec2a := cell_ahead c2a; have ec2b := cell_ahead c2b; have ec100 := cell_ahead c100; have ec101 := cell_ahead c101) | (replace st := stg_next 5 6 st; go_at_call 17; refine (toComplex _ _ l2 _ (ReadI.below H2.out (HB.out.trans (Below.alloc (Below.refl _ _) HB.out.size _))) (by omega)).mono ?_; rintro e w8 ⟨u, rfl, ho, hb⟩; obtain ⟨A_8, d_8, rfl, -⟩ := ho.read; have RG8 := Aside0.mk (fun k hk => And.intro (ho.base k hk) (ho.lt k hk)); clear ec0a; clear ec0b; clear ec1a; clear ec1b; clear ec2a; clear ec2b; clear ec100; clear ec101; have c102 : w8.cell? ⟨w7.heap.size, 0, none⟩ = some (.int .i64 a1) := pw_cell_below hb (new_cell _ _ _ 0 _ rfl); have c103 : w8.cell? ⟨w7.heap.size, 1, none⟩ = some (.slice A_7 l1.length d_7) := pw_cell_below hb (new_cell _ _ _ 1 _ rfl); have z8 := Aside0.mk (alloc_size hb); replace hb := below_unalloc hb; replace HB := Aside0.belowC HB hb; replace c0a := pw_cell_below hb c0a; replace c0b := pw_cell_below hb c0b; replace c1a := pw_cell_below hb c1a; replace c1b := pw_cell_below hb c1b; replace c2a := pw_cell_below hb c2a; replace c2b := pw_cell_below hb c2b; replace c100 := pw_cell_below hb c100; replace c101 := pw_cell_below hb c101; replace HO5 := Aside0.own HO5 hb; replace HO6 := Aside0.own HO6 hb; replace HO7 := Aside0.own HO7 hb; clear hb; have HO8 := Aside0.mk ho; clear ho; have ec0a := cell_ahead c0a; have ec0b := cell_ahead c0b; have ec1a := cell_ahead c1a; have ec1b := cell_ahead c1b; have ec2a := cell_ahead c2a; have ec2b := cell_ahead c2b; have ec100 := cell_ahead c100; have ec101 := cell_ahead c101; have ec102 := cell_ahead c102; have ec103 := cell_ahead c103) | (replace st := stg_next 6 7 st; go_at_call 18; refine (toInt64S _ l3 _ (ReadI.below H3.out (HB.out.trans (Below.alloc (Below.refl _ _) HB.out.size _))) (by omega)).mono ?_; rintro e w9 ⟨u, rfl, ho, hb⟩; obtain ⟨A_9, d_9, rfl, -⟩ := ho.read; have RG9 := Aside0.mk (fun k hk => And.intro (ho.base k hk) (ho.lt k hk)); clear ec0a; clear ec0b; clear ec1a; clear ec1b; clear ec2a; clear ec2b; clear ec100; clear ec101; clear ec102; clear ec103; have c104 : w9.cell? ⟨w8.heap.size, 0, none⟩ = some (.int .i64 a2) := pw_cell_below hb (new_cell _ _ _ 0 _ rfl); have c105 : w9.cell? ⟨w8.heap.size, 1, none⟩ = some (.slice A_8 l2.length d_8) := pw_cell_below hb (new_cell _ _ _ 1 _ rfl); have z9 := Aside0.mk (alloc_size hb); replace hb := below_unalloc hb; replace HB := Aside0.belowC HB hb; replace c0a := pw_cell_below hb c0a; replace c0b := pw_cell_below hb c0b; replace c1a := pw_cell_below hb c1a; replace c1b := pw_cell_below hb c1b; replace c2a := pw_cell_below hb c2a; replace c2b := pw_cell_below hb c2b; replace c100 := pw_cell_below hb c100; replace c101 := pw_cell_below hb c101; replace c102 := pw_cell_below hb c102; replace c103 := pw_cell_below hb c103; replace HO5 := Aside0.own HO5 hb; replace HO6 := Aside0.own HO6 hb; replace HO7 := Aside0.own HO7 hb; replace HO8 := Aside0.own HO8 hb; clear hb; have HO9 := Aside0.mk ho; clear ho) | (replace st := stg_next 7 8 st; go_at_call 18; refine (toInt64S _ l4 _ (ReadI.below H4.out HB.out) (by omega)).mono ?_; rintro e w10 ⟨u, rfl, ho, hb⟩; obtain ⟨A_10, d_10, rfl, -⟩ := ho.read; have RG10 := Aside0.mk (fun k hk => And.intro (ho.base k hk) (ho.lt k hk)); have z10 := Aside0.mk hb.size; replace HB := Aside0.belowC HB hb; replace c0a := pw_cell_below hb c0a; replace c0b := pw_cell_below hb c0b; replace c1a := pw_cell_below hb c1a; replace c1b := pw_cell_below hb c1b; replace c2a := pw_cell_below hb c2a; replace c2b := pw_cell_below hb c2b; replace c100 := pw_cell_below hb c100; replace c101 := pw_cell_below hb c101; replace c102 := pw_cell_below hb c102; replace c103 := pw_cell_below hb c103; replace c104 := pw_cell_below hb c104; replace c105 := pw_cell_below hb c105; replace HO5 := Aside0.own HO5 hb; replace HO6 := Aside0.own HO6 hb; replace HO7 := Aside0.own HO7 hb; replace HO8 := Aside0.own HO8 hb; replace HO9 := Aside0.own HO9 hb; clear hb; have HO10 := Aside0.mk ho; clear ho) | (replace st := stg_next 8 9 st; go_at_call 23; refine (implComposeMaps a0 _ l0 a1 _ l1 a2 _ l2 _ l3 _ l4 _ HO6.out.read HO7.out.read HO8.out.read HO9.out.read HO10.out.read).mono ?_; rw [← HRr0.out, ← HRr1.out]; rintro e w11 ⟨u, rfl, ho, hb⟩; obtain ⟨A_11, d_11, rfl, -⟩ := ho.read; have RG11 := Aside0.mk (fun k hk => And.intro (ho.base k hk) (ho.lt k hk)); have z11 := Aside0.mk hb.size; replace HB := Aside0.belowC HB hb; replace c0a := pw_cell_below hb c0a; replace c0b := pw_cell_below hb c0b; replace c1a := pw_cell_below hb c1a; replace c1b := pw_cell_below hb c1b; replace c2a := pw_cell_below hb c2a; replace c2b := pw_cell_below hb c2b; replace c100 := pw_cell_below hb c100; replace c101 := pw_cell_below hb c101; replace c102 := pw_cell_below hb c102; replace c103 := pw_cell_below hb c103; replace c104 := pw_cell_below hb c104; replace c105 := pw_cell_below hb c105; replace HO5 := Aside0.own HO5 hb; replace HO6 := Aside0.own HO6 hb; replace HO7 := Aside0.own HO7 hb; replace HO8 := Aside0.own HO8 hb; replace HO9 := Aside0.own HO9 hb; replace HO10 := Aside0.own HO10 hb; clear hb; have HO11 := Aside0.mk ho; clear ho) | (replace st := stg_next 9 10 st; go_at_call 21; refine (eqInt64S _ _ r0 r0 _ HO11.out.read HO5.out.read).mono ?_; rintro e w12 ⟨rfl, hb⟩; rw [beq_self_eq_true]; have z12 := Aside0.mk hb.size; replace HB := Aside0.belowC HB hb; replace c0a := pw_cell_below hb c0a; replace c0b := pw_cell_below hb c0b; replace c1a := pw_cell_below hb c1a; replace c1b := pw_cell_below hb c1b; replace c2a := pw_cell_below hb c2a; replace c2b := pw_cell_below hb c2b; replace c100 := pw_cell_below hb c100; replace c101 := pw_cell_below hb c101; replace c102 := pw_cell_below hb c102; replace c103 := pw_cell_below hb c103; replace c104 := pw_cell_below hb c104; replace c105 := pw_cell_below hb c105; replace HO5 := Aside0.own HO5 hb; replace HO6 := Aside0.own HO6 hb; replace HO7 := Aside0.own HO7 hb; replace HO8 := Aside0.own HO8 hb; replace HO9 := Aside0.own HO9 hb; replace HO10 := Aside0.own HO10 hb; replace HO11 := Aside0.own HO11 hb; clear hb))
              refine wp_region_phi (fun i => match i with | 0 => fun v _ => v = .agg #[.int .i64 a0, .slice A_6 l0.length d_6] | 1 => fun v _ => v = .agg #[.int .i64 a0, .slice A0 l0.length d0] | 2 => fun v W => ∃ u, v = .agg #[.int .i64 a0, u] ∧ OwnI w12.heap.size W u l0 | 3 => fun v _ => v = .bool true | 4 => fun v _ => v = .bool false | _ => fun _ _ => True)
                [0, 0, 2, 7, 15] hmx (by kernel_rfl) ?st ?steps ?rest
              case st =>
                intro i v w1_ w2_ hb
                match i with
                | 0 | 1 | 3 | 4 => exact id
                | 2 => exact fun ⟨u, e, ho⟩ => ⟨u, e, ho.below hb⟩
                | n + 5 => exact id
              case steps =>
                refine ⟨?_, ?_, ?_, ?_, ?_, trivial⟩
                · intro s w_ hb hd R hR
                  generalize hA : putAll _ 0 s _ = A
                  have c100 := pw_cell_below hb c100
                  have c101 := pw_cell_below hb c101
                  have hR' := hR (.agg #[.int .i64 a0, .slice A_6 l0.length d_6]) _ (Below.refl _ _) (rfl)
                  clear hR hd
                  refine opGives_value ?_ hR'
                  subst hA
                  simp only [dsOf, List.map_cons, List.map_nil, Option.getD_some, putAll, Act.put, List.setIfInBounds_toArray, List.set_cons_zero, List.set_cons_succ]
                  go_simp
                · intro s w_ hb hd R hR
                  generalize hA : putAll _ 0 s _ = A
                  have c0a := pw_cell_below hb c0a
                  have c0b := pw_cell_below hb c0b
                  have hR' := hR (.agg #[.int .i64 a0, .slice A0 l0.length d0]) _ (Below.refl _ _) (rfl)
                  clear hR hd
                  refine opGives_value ?_ hR'
                  subst hA
                  simp only [dsOf, List.map_cons, List.map_nil, Option.getD_some, putAll, Act.put, List.setIfInBounds_toArray, List.set_cons_zero, List.set_cons_succ]
                  go_simp
                · intro s w_ hb hd R hR
                  generalize hA : putAll _ 0 s _ = A
                  have e1 : s 1 = _ := hd 1 (by kernel_rfl)
                  have hs := hb.size
                  refine opGives_call (f := 17) (args := #[.agg #[.int .i64 a0, .slice A0 l0.length d0]]) ?_ ?_
                  · subst hA
                    clear hR hd
                    simp only [dsOf, List.map_cons, List.map_nil, Option.getD_some, putAll, Act.put, List.setIfInBounds_toArray, List.set_cons_zero, List.set_cons_succ]
                    go_simp
                  clear hA A
                  refine (toComplex _ _ l0 w_ (ReadI.below H0.out (HB.out.trans (hb.mono HB.out.size))) (by omega)).mono ?_
                  rintro e w__ ⟨u, rfl, ho, hb5⟩
                  exact ⟨_, rfl, hR _ _ hb5 ⟨u, rfl, ho.lower hs⟩⟩
                · intro s w_ hb hd R hR
                  generalize hA : putAll _ 0 s _ = A
                  have e0 : s 0 = _ := hd 0 (by kernel_rfl)
                  obtain ⟨u2, e2, o2⟩ : ∃ u, s 2 = _ ∧ OwnI _ _ u l0 := hd 2 (by kernel_rfl)
                  have hs := hb.size
                  refine opGives_call (f := 20) (args := #[.agg #[.int .i64 a0, .slice A_6 l0.length d_6], .agg #[.int .i64 a0, u2]]) ?_ ?_
                  · subst hA
                    clear hR hd
                    simp only [dsOf, List.map_cons, List.map_nil, Option.getD_some, putAll, Act.put, List.setIfInBounds_toArray, List.set_cons_zero, List.set_cons_succ]
                    go_simp
                  clear hA A
                  refine (eqComplex _ _ _ _ l0 l0 w_ (ReadI.below HO6.out.read hb) o2.read).mono ?_
                  rintro e w__ ⟨rfl, hb5⟩
                  rw [decide_eq_true rfl, beq_self_eq_true]
                  exact ⟨_, rfl, hR _ _ hb5 rfl⟩
                · intro s w_ hb hd R hR
                  generalize hA : putAll _ 0 s _ = A
                  have e3 : s 3 = _ := hd 3 (by kernel_rfl)
                  have hR' := hR (.bool false) _ (Below.refl _ _) (rfl)
                  clear hR hd
                  refine opGives_value ?_ hR'
                  subst hA
                  simp only [dsOf, List.map_cons, List.map_nil, Option.getD_some, putAll, Act.put, List.setIfInBounds_toArray, List.set_cons_zero, List.set_cons_succ]
                  go_simp
              case rest =>
                intro s13 w13 hb hv
                have e4_ : s13 4 = _ := hv 4 (by decide)
                simp only [dsOf, List.map_cons, List.map_nil, Option.getD_some, putAll, Act.put, List.setIfInBounds_toArray, List.set_cons_zero, List.set_cons_succ]
                rw [e4_]
                clear hv e4_
                have z13 := Aside0.mk hb.size
                replace HB := Aside0.belowC HB hb
                replace c0a := pw_cell_below hb c0a
                replace c0b := pw_cell_below hb c0b
                replace c1a := pw_cell_below hb c1a
                replace c1b := pw_cell_below hb c1b
                replace c2a := pw_cell_below hb c2a
                replace c2b := pw_cell_below hb c2b
                replace c100 := pw_cell_below hb c100
                replace c101 := pw_cell_below hb c101
                replace c102 := pw_cell_below hb c102
                replace c103 := pw_cell_below hb c103
                replace c104 := pw_cell_below hb c104
                replace c105 := pw_cell_below hb c105
                replace HO5 := Aside0.own HO5 hb
                replace HO6 := Aside0.own HO6 hb
                replace HO7 := Aside0.own HO7 hb
                replace HO8 := Aside0.own HO8 hb
                replace HO9 := Aside0.own HO9 hb
                replace HO10 := Aside0.own HO10 hb
                replace HO11 := Aside0.own HO11 hb
                clear hb
                go_wp2
                refine wp_region_phi (fun i => match i with | 0 => fun v _ => v = .agg #[.int .i64 a1, .slice A_7 l1.length d_7] | 1 => fun v _ => v = .agg #[.int .i64 a1, .slice A1 l1.length d1] | 2 => fun v W => ∃ u, v = .agg #[.int .i64 a1, u] ∧ OwnI w13.heap.size W u l1 | 3 => fun v _ => v = .bool true | 4 => fun v _ => v = .bool false | _ => fun _ _ => True)
                  [0, 0, 2, 7, 15] hmx (by kernel_rfl) ?st ?steps ?rest
                case st =>
                  intro i v w1_ w2_ hb
                  match i with
                  | 0 | 1 | 3 | 4 => exact id
                  | 2 => exact fun ⟨u, e, ho⟩ => ⟨u, e, ho.below hb⟩
                  | n + 5 => exact id
                case steps =>
                  refine ⟨?_, ?_, ?_, ?_, ?_, trivial⟩
                  · intro s w_ hb hd R hR
                    generalize hA : putAll _ 0 s _ = A
                    have c102 := pw_cell_below hb c102
                    have c103 := pw_cell_below hb c103
                    have hR' := hR (.agg #[.int .i64 a1, .slice A_7 l1.length d_7]) _ (Below.refl _ _) (rfl)
                    clear hR hd
                    refine opGives_value ?_ hR'
                    subst hA
                    simp only [dsOf, List.map_cons, List.map_nil, Option.getD_some, putAll, Act.put, List.setIfInBounds_toArray, List.set_cons_zero, List.set_cons_succ]
                    go_simp
                  · intro s w_ hb hd R hR
                    generalize hA : putAll _ 0 s _ = A
                    have c1a := pw_cell_below hb c1a
                    have c1b := pw_cell_below hb c1b
                    have hR' := hR (.agg #[.int .i64 a1, .slice A1 l1.length d1]) _ (Below.refl _ _) (rfl)
                    clear hR hd
                    refine opGives_value ?_ hR'
                    subst hA
                    simp only [dsOf, List.map_cons, List.map_nil, Option.getD_some, putAll, Act.put, List.setIfInBounds_toArray, List.set_cons_zero, List.set_cons_succ]
                    go_simp
                  · intro s w_ hb hd R hR
                    generalize hA : putAll _ 0 s _ = A
                    have e1 : s 1 = _ := hd 1 (by kernel_rfl)
                    have hs := hb.size
                    refine opGives_call (f := 17) (args := #[.agg #[.int .i64 a1, .slice A1 l1.length d1]]) ?_ ?_
                    · subst hA
                      clear hR hd
                      simp only [dsOf, List.map_cons, List.map_nil, Option.getD_some, putAll, Act.put, List.setIfInBounds_toArray, List.set_cons_zero, List.set_cons_succ]
                      go_simp
                    clear hA A
                    refine (toComplex _ _ l1 w_ (ReadI.below H1.out (HB.out.trans (hb.mono HB.out.size))) (by omega)).mono ?_
                    rintro e w__ ⟨u, rfl, ho, hb5⟩
                    exact ⟨_, rfl, hR _ _ hb5 ⟨u, rfl, ho.lower hs⟩⟩
                  · intro s w_ hb hd R hR
                    generalize hA : putAll _ 0 s _ = A
                    have e0 : s 0 = _ := hd 0 (by kernel_rfl)
                    obtain ⟨u2, e2, o2⟩ : ∃ u, s 2 = _ ∧ OwnI _ _ u l1 := hd 2 (by kernel_rfl)
                    have hs := hb.size
                    refine opGives_call (f := 20) (args := #[.agg #[.int .i64 a1, .slice A_7 l1.length d_7], .agg #[.int .i64 a1, u2]]) ?_ ?_
                    · subst hA
                      clear hR hd
                      simp only [dsOf, List.map_cons, List.map_nil, Option.getD_some, putAll, Act.put, List.setIfInBounds_toArray, List.set_cons_zero, List.set_cons_succ]
                      go_simp
                    clear hA A
                    refine (eqComplex _ _ _ _ l1 l1 w_ (ReadI.below HO7.out.read hb) o2.read).mono ?_
                    rintro e w__ ⟨rfl, hb5⟩
                    rw [decide_eq_true rfl, beq_self_eq_true]
                    exact ⟨_, rfl, hR _ _ hb5 rfl⟩
                  · intro s w_ hb hd R hR
                    generalize hA : putAll _ 0 s _ = A
                    have e3 : s 3 = _ := hd 3 (by kernel_rfl)
                    have hR' := hR (.bool false) _ (Below.refl _ _) (rfl)
                    clear hR hd
                    refine opGives_value ?_ hR'
                    subst hA
                    simp only [dsOf, List.map_cons, List.map_nil, Option.getD_some, putAll, Act.put, List.setIfInBounds_toArray, List.set_cons_zero, List.set_cons_succ]
                    go_simp
                case rest =>
                  intro s14 w14 hb hv
                  have e4_ : s14 4 = _ := hv 4 (by decide)
                  simp only [dsOf, List.map_cons, List.map_nil, Option.getD_some, putAll, Act.put, List.setIfInBounds_toArray, List.set_cons_zero, List.set_cons_succ]
                  rw [e4_]
                  clear hv e4_
                  have z14 := Aside0.mk hb.size
                  replace HB := Aside0.belowC HB hb
                  replace c0a := pw_cell_below hb c0a
                  replace c0b := pw_cell_below hb c0b
                  replace c1a := pw_cell_below hb c1a
                  replace c1b := pw_cell_below hb c1b
                  replace c2a := pw_cell_below hb c2a
                  replace c2b := pw_cell_below hb c2b
                  replace c100 := pw_cell_below hb c100
                  replace c101 := pw_cell_below hb c101
                  replace c102 := pw_cell_below hb c102
                  replace c103 := pw_cell_below hb c103
                  replace c104 := pw_cell_below hb c104
                  replace c105 := pw_cell_below hb c105
                  replace HO5 := Aside0.own HO5 hb
                  replace HO6 := Aside0.own HO6 hb
                  replace HO7 := Aside0.own HO7 hb
                  replace HO8 := Aside0.own HO8 hb
                  replace HO9 := Aside0.own HO9 hb
                  replace HO10 := Aside0.own HO10 hb
                  replace HO11 := Aside0.own HO11 hb
                  clear hb
                  go_wp2
                  refine wp_region_phi (fun i => match i with | 0 => fun v _ => v = .agg #[.int .i64 a2, .slice A_8 l2.length d_8] | 1 => fun v _ => v = .agg #[.int .i64 a2, .slice A2 l2.length d2] | 2 => fun v W => ∃ u, v = .agg #[.int .i64 a2, u] ∧ OwnI w14.heap.size W u l2 | 3 => fun v _ => v = .bool true | 4 => fun v _ => v = .bool false | _ => fun _ _ => True)
                    [0, 0, 2, 7, 15] hmx (by kernel_rfl) ?st ?steps ?rest
                  case st =>
                    intro i v w1_ w2_ hb
                    match i with
                    | 0 | 1 | 3 | 4 => exact id
                    | 2 => exact fun ⟨u, e, ho⟩ => ⟨u, e, ho.below hb⟩
                    | n + 5 => exact id
                  case steps =>
                    refine ⟨?_, ?_, ?_, ?_, ?_, trivial⟩
                    · intro s w_ hb hd R hR
                      generalize hA : putAll _ 0 s _ = A
                      have c104 := pw_cell_below hb c104
                      have c105 := pw_cell_below hb c105
                      have hR' := hR (.agg #[.int .i64 a2, .slice A_8 l2.length d_8]) _ (Below.refl _ _) (rfl)
                      clear hR hd
                      refine opGives_value ?_ hR'
                      subst hA
                      simp only [dsOf, List.map_cons, List.map_nil, Option.getD_some, putAll, Act.put, List.setIfInBounds_toArray, List.set_cons_zero, List.set_cons_succ]
                      go_simp
                    · intro s w_ hb hd R hR
                      generalize hA : putAll _ 0 s _ = A
                      have c2a := pw_cell_below hb c2a
                      have c2b := pw_cell_below hb c2b
                      have hR' := hR (.agg #[.int .i64 a2, .slice A2 l2.length d2]) _ (Below.refl _ _) (rfl)
                      clear hR hd
                      refine opGives_value ?_ hR'
                      subst hA
                      simp only [dsOf, List.map_cons, List.map_nil, Option.getD_some, putAll, Act.put, List.setIfInBounds_toArray, List.set_cons_zero, List.set_cons_succ]
                      go_simp
                    · intro s w_ hb hd R hR
                      generalize hA : putAll _ 0 s _ = A
                      have e1 : s 1 = _ := hd 1 (by kernel_rfl)
                      have hs := hb.size
                      refine opGives_call (f := 17) (args := #[.agg #[.int .i64 a2, .slice A2 l2.length d2]]) ?_ ?_
                      · subst hA
                        clear hR hd
                        simp only [dsOf, List.map_cons, List.map_nil, Option.getD_some, putAll, Act.put, List.setIfInBounds_toArray, List.set_cons_zero, List.set_cons_succ]
                        go_simp
                      clear hA A
                      refine (toComplex _ _ l2 w_ (ReadI.below H2.out (HB.out.trans (hb.mono HB.out.size))) (by omega)).mono ?_
                      rintro e w__ ⟨u, rfl, ho, hb5⟩
                      exact ⟨_, rfl, hR _ _ hb5 ⟨u, rfl, ho.lower hs⟩⟩
                    · intro s w_ hb hd R hR
                      generalize hA : putAll _ 0 s _ = A
                      have e0 : s 0 = _ := hd 0 (by kernel_rfl)
                      obtain ⟨u2, e2, o2⟩ : ∃ u, s 2 = _ ∧ OwnI _ _ u l2 := hd 2 (by kernel_rfl)
                      have hs := hb.size
                      refine opGives_call (f := 20) (args := #[.agg #[.int .i64 a2, .slice A_8 l2.length d_8], .agg #[.int .i64 a2, u2]]) ?_ ?_
                      · subst hA
                        clear hR hd
                        simp only [dsOf, List.map_cons, List.map_nil, Option.getD_some, putAll, Act.put, List.setIfInBounds_toArray, List.set_cons_zero, List.set_cons_succ]
                        go_simp
                      clear hA A
                      refine (eqComplex _ _ _ _ l2 l2 w_ (ReadI.below HO8.out.read hb) o2.read).mono ?_
                      rintro e w__ ⟨rfl, hb5⟩
                      rw [decide_eq_true rfl, beq_self_eq_true]
                      exact ⟨_, rfl, hR _ _ hb5 rfl⟩
                    · intro s w_ hb hd R hR
                      generalize hA : putAll _ 0 s _ = A
                      have e3 : s 3 = _ := hd 3 (by kernel_rfl)
                      have hR' := hR (.bool false) _ (Below.refl _ _) (rfl)
                      clear hR hd
                      refine opGives_value ?_ hR'
                      subst hA
                      simp only [dsOf, List.map_cons, List.map_nil, Option.getD_some, putAll, Act.put, List.setIfInBounds_toArray, List.set_cons_zero, List.set_cons_succ]
                      go_simp
                  case rest =>
                    intro s15 w15 hb hv
                    have e4_ : s15 4 = _ := hv 4 (by decide)
                    simp only [dsOf, List.map_cons, List.map_nil, Option.getD_some, putAll, Act.put, List.setIfInBounds_toArray, List.set_cons_zero, List.set_cons_succ]
                    rw [e4_]
                    clear hv e4_
                    have z15 := Aside0.mk hb.size
                    replace HB := Aside0.belowC HB hb
                    replace c0a := pw_cell_below hb c0a
                    replace c0b := pw_cell_below hb c0b
                    replace c1a := pw_cell_below hb c1a
                    replace c1b := pw_cell_below hb c1b
                    replace c2a := pw_cell_below hb c2a
                    replace c2b := pw_cell_below hb c2b
                    replace c100 := pw_cell_below hb c100
                    replace c101 := pw_cell_below hb c101
                    replace c102 := pw_cell_below hb c102
                    replace c103 := pw_cell_below hb c103
                    replace c104 := pw_cell_below hb c104
                    replace c105 := pw_cell_below hb c105
                    replace HO5 := Aside0.own HO5 hb
                    replace HO6 := Aside0.own HO6 hb
                    replace HO7 := Aside0.own HO7 hb
                    replace HO8 := Aside0.own HO8 hb
                    replace HO9 := Aside0.own HO9 hb
                    replace HO10 := Aside0.own HO10 hb
                    replace HO11 := Aside0.own HO11 hb
                    clear hb
                    go_wp2_with (first | (replace st := stg_next 10 11 st; go_at_call 18; refine (toInt64S _ l3 _ (ReadI.below H3.out HB.out) (by omega)).mono ?_; rintro e w16 ⟨u, rfl, ho, hb⟩; obtain ⟨A_16, d_16, rfl, -⟩ := ho.read; have RG16 := Aside0.mk (fun k hk => And.intro (ho.base k hk) (ho.lt k hk)); have z16 := Aside0.mk hb.size; replace HB := Aside0.belowC HB hb; replace c0a := pw_cell_below hb c0a; replace c0b := pw_cell_below hb c0b; replace c1a := pw_cell_below hb c1a; replace c1b := pw_cell_below hb c1b; replace c2a := pw_cell_below hb c2a; replace c2b := pw_cell_below hb c2b; replace c100 := pw_cell_below hb c100; replace c101 := pw_cell_below hb c101; replace c102 := pw_cell_below hb c102; replace c103 := pw_cell_below hb c103; replace c104 := pw_cell_below hb c104; replace c105 := pw_cell_below hb c105; replace HO5 := Aside0.own HO5 hb; replace HO6 := Aside0.own HO6 hb; replace HO7 := Aside0.own HO7 hb; replace HO8 := Aside0.own HO8 hb; replace HO9 := Aside0.own HO9 hb; replace HO10 := Aside0.own HO10 hb; replace HO11 := Aside0.own HO11 hb; clear hb; have HO16 := Aside0.mk ho; clear ho) | (replace st := stg_next 11 12 st; go_at_call 21; refine (eqInt64S _ _ l3 l3 _ HO9.out.read HO16.out.read).mono ?_; rintro e w17 ⟨rfl, hb⟩; rw [beq_self_eq_true]; have z17 := Aside0.mk hb.size; replace HB := Aside0.belowC HB hb; replace c0a := pw_cell_below hb c0a; replace c0b := pw_cell_below hb c0b; replace c1a := pw_cell_below hb c1a; replace c1b := pw_cell_below hb c1b; replace c2a := pw_cell_below hb c2a; replace c2b := pw_cell_below hb c2b; replace c100 := pw_cell_below hb c100; replace c101 := pw_cell_below hb c101; replace c102 := pw_cell_below hb c102; replace c103 := pw_cell_below hb c103; replace c104 := pw_cell_below hb c104; replace c105 := pw_cell_below hb c105; replace HO5 := Aside0.own HO5 hb; replace HO6 := Aside0.own HO6 hb; replace HO7 := Aside0.own HO7 hb; replace HO8 := Aside0.own HO8 hb; replace HO9 := Aside0.own HO9 hb; replace HO10 := Aside0.own HO10 hb; replace HO11 := Aside0.own HO11 hb; replace HO16 := Aside0.own HO16 hb; clear hb) | (replace st := stg_next 12 13 st; go_at_call 18; refine (toInt64S _ l4 _ (ReadI.below H4.out HB.out) (by omega)).mono ?_; rintro e w18 ⟨u, rfl, ho, hb⟩; obtain ⟨A_18, d_18, rfl, -⟩ := ho.read; have RG18 := Aside0.mk (fun k hk => And.intro (ho.base k hk) (ho.lt k hk)); have z18 := Aside0.mk hb.size; replace HB := Aside0.belowC HB hb; replace c0a := pw_cell_below hb c0a; replace c0b := pw_cell_below hb c0b; replace c1a := pw_cell_below hb c1a; replace c1b := pw_cell_below hb c1b; replace c2a := pw_cell_below hb c2a; replace c2b := pw_cell_below hb c2b; replace c100 := pw_cell_below hb c100; replace c101 := pw_cell_below hb c101; replace c102 := pw_cell_below hb c102; replace c103 := pw_cell_below hb c103; replace c104 := pw_cell_below hb c104; replace c105 := pw_cell_below hb c105; replace HO5 := Aside0.own HO5 hb; replace HO6 := Aside0.own HO6 hb; replace HO7 := Aside0.own HO7 hb; replace HO8 := Aside0.own HO8 hb; replace HO9 := Aside0.own HO9 hb; replace HO10 := Aside0.own HO10 hb; replace HO11 := Aside0.own HO11 hb; replace HO16 := Aside0.own HO16 hb; clear hb; have HO18 := Aside0.mk ho; clear ho) | (replace st := stg_next 13 14 st; go_at_call 21; refine (eqInt64S _ _ l4 l4 _ HO10.out.read HO18.out.read).mono ?_; rintro e w19 ⟨rfl, hb⟩; rw [beq_self_eq_true]; have z19 := Aside0.mk hb.size; replace HB := Aside0.belowC HB hb; replace c0a := pw_cell_below hb c0a; replace c0b := pw_cell_below hb c0b; replace c1a := pw_cell_below hb c1a; replace c1b := pw_cell_below hb c1b; replace c2a := pw_cell_below hb c2a; replace c2b := pw_cell_below hb c2b; replace c100 := pw_cell_below hb c100; replace c101 := pw_cell_below hb c101; replace c102 := pw_cell_below hb c102; replace c103 := pw_cell_below hb c103; replace c104 := pw_cell_below hb c104; replace c105 := pw_cell_below hb c105; replace HO5 := Aside0.own HO5 hb; replace HO6 := Aside0.own HO6 hb; replace HO7 := Aside0.own HO7 hb; replace HO8 := Aside0.own HO8 hb; replace HO9 := Aside0.own HO9 hb; replace HO10 := Aside0.own HO10 hb; replace HO11 := Aside0.own HO11 hb; replace HO16 := Aside0.own HO16 hb; replace HO18 := Aside0.own HO18 hb; clear hb) | (replace st := stg_next 14 15 st; go_at_call 24; have hl_ : l0.length ≤ 1073741824 := (by omega); refine (markComplex _ _ _ l0 (1) _ HO6.out (by omega) hl_ (by have hbs_ := HBS.out; have z2_ := z2.out; have z3_ := z3.out; have z4_ := z4.out; have z5_ := z5.out; have z6_ := z6.out; have z7_ := z7.out; have z8_ := z8.out; have z9_ := z9.out; have z10_ := z10.out; have z11_ := z11.out; have z12_ := z12.out; have z13_ := z13.out; have z14_ := z14.out; have z15_ := z15.out; have z16_ := z16.out; have z17_ := z17.out; have z18_ := z18.out; have z19_ := z19.out; (try simp only [World.size_alloc]); omega)).mono ?_; rintro e w20 ⟨rfl, ho, hg, hb⟩; clear hl_; have z20 := Aside0.mk hg.size; replace HB := Aside0.mk (HB.out.trans (hb.mono (by have hbs_ := HBS.out; have z2_ := z2.out; have z3_ := z3.out; have z4_ := z4.out; have z5_ := z5.out; have z6_ := z6.out; have z7_ := z7.out; have z8_ := z8.out; have z9_ := z9.out; have z10_ := z10.out; have z11_ := z11.out; have z12_ := z12.out; have z13_ := z13.out; have z14_ := z14.out; have z15_ := z15.out; have z16_ := z16.out; have z17_ := z17.out; have z18_ := z18.out; have z19_ := z19.out; (try simp only [World.size_alloc]); omega))); replace c0a := cell_grown hg RG6.out (by have hbs_ := HBS.out; have z2_ := z2.out; have z3_ := z3.out; have z4_ := z4.out; have z5_ := z5.out; have z6_ := z6.out; have z7_ := z7.out; have z8_ := z8.out; have z9_ := z9.out; have z10_ := z10.out; have z11_ := z11.out; have z12_ := z12.out; have z13_ := z13.out; have z14_ := z14.out; have z15_ := z15.out; have z16_ := z16.out; have z17_ := z17.out; have z18_ := z18.out; have z19_ := z19.out; (try dsimp only); (try simp only [World.size_alloc]); omega) c0a; replace c0b := cell_grown hg RG6.out (by have hbs_ := HBS.out; have z2_ := z2.out; have z3_ := z3.out; have z4_ := z4.out; have z5_ := z5.out; have z6_ := z6.out; have z7_ := z7.out; have z8_ := z8.out; have z9_ := z9.out; have z10_ := z10.out; have z11_ := z11.out; have z12_ := z12.out; have z13_ := z13.out; have z14_ := z14.out; have z15_ := z15.out; have z16_ := z16.out; have z17_ := z17.out; have z18_ := z18.out; have z19_ := z19.out; (try dsimp only); (try simp only [World.size_alloc]); omega) c0b; replace c1a := cell_grown hg RG6.out (by have hbs_ := HBS.out; have z2_ := z2.out; have z3_ := z3.out; have z4_ := z4.out; have z5_ := z5.out; have z6_ := z6.out; have z7_ := z7.out; have z8_ := z8.out; have z9_ := z9.out; have z10_ := z10.out; have z11_ := z11.out; have z12_ := z12.out; have z13_ := z13.out; have z14_ := z14.out; have z15_ := z15.out; have z16_ := z16.out; have z17_ := z17.out; have z18_ := z18.out; have z19_ := z19.out; (try dsimp only); (try simp only [World.size_alloc]); omega) c1a; replace c1b := cell_grown hg RG6.out (by have hbs_ := HBS.out; have z2_ := z2.out; have z3_ := z3.out; have z4_ := z4.out; have z5_ := z5.out; have z6_ := z6.out; have z7_ := z7.out; have z8_ := z8.out; have z9_ := z9.out; have z10_ := z10.out; have z11_ := z11.out; have z12_ := z12.out; have z13_ := z13.out; have z14_ := z14.out; have z15_ := z15.out; have z16_ := z16.out; have z17_ := z17.out; have z18_ := z18.out; have z19_ := z19.out; (try dsimp only); (try simp only [World.size_alloc]); omega) c1b; replace c2a := cell_grown hg RG6.out (by have hbs_ := HBS.out; have z2_ := z2.out; have z3_ := z3.out; have z4_ := z4.out; have z5_ := z5.out; have z6_ := z6.out; have z7_ := z7.out; have z8_ := z8.out; have z9_ := z9.out; have z10_ := z10.out; have z11_ := z11.out; have z12_ := z12.out; have z13_ := z13.out; have z14_ := z14.out; have z15_ := z15.out; have z16_ := z16.out; have z17_ := z17.out; have z18_ := z18.out; have z19_ := z19.out; (try dsimp only); (try simp only [World.size_alloc]); omega) c2a; replace c2b := cell_grown hg RG6.out (by have hbs_ := HBS.out; have z2_ := z2.out; have z3_ := z3.out; have z4_ := z4.out; have z5_ := z5.out; have z6_ := z6.out; have z7_ := z7.out; have z8_ := z8.out; have z9_ := z9.out; have z10_ := z10.out; have z11_ := z11.out; have z12_ := z12.out; have z13_ := z13.out; have z14_ := z14.out; have z15_ := z15.out; have z16_ := z16.out; have z17_ := z17.out; have z18_ := z18.out; have z19_ := z19.out; (try dsimp only); (try simp only [World.size_alloc]); omega) c2b; replace c100 := cell_grown hg RG6.out (by have hbs_ := HBS.out; have z2_ := z2.out; have z3_ := z3.out; have z4_ := z4.out; have z5_ := z5.out; have z6_ := z6.out; have z7_ := z7.out; have z8_ := z8.out; have z9_ := z9.out; have z10_ := z10.out; have z11_ := z11.out; have z12_ := z12.out; have z13_ := z13.out; have z14_ := z14.out; have z15_ := z15.out; have z16_ := z16.out; have z17_ := z17.out; have z18_ := z18.out; have z19_ := z19.out; (try dsimp only); (try simp only [World.size_alloc]); omega) c100; replace c101 := cell_grown hg RG6.out (by have hbs_ := HBS.out; have z2_ := z2.out; have z3_ := z3.out; have z4_ := z4.out; have z5_ := z5.out; have z6_ := z6.out; have z7_ := z7.out; have z8_ := z8.out; have z9_ := z9.out; have z10_ := z10.out; have z11_ := z11.out; have z12_ := z12.out; have z13_ := z13.out; have z14_ := z14.out; have z15_ := z15.out; have z16_ := z16.out; have z17_ := z17.out; have z18_ := z18.out; have z19_ := z19.out; (try dsimp only); (try simp only [World.size_alloc]); omega) c101; replace c102 := cell_grown hg RG6.out (by have hbs_ := HBS.out; have z2_ := z2.out; have z3_ := z3.out; have z4_ := z4.out; have z5_ := z5.out; have z6_ := z6.out; have z7_ := z7.out; have z8_ := z8.out; have z9_ := z9.out; have z10_ := z10.out; have z11_ := z11.out; have z12_ := z12.out; have z13_ := z13.out; have z14_ := z14.out; have z15_ := z15.out; have z16_ := z16.out; have z17_ := z17.out; have z18_ := z18.out; have z19_ := z19.out; (try dsimp only); (try simp only [World.size_alloc]); omega) c102; replace c103 := cell_grown hg RG6.out (by have hbs_ := HBS.out; have z2_ := z2.out; have z3_ := z3.out; have z4_ := z4.out; have z5_ := z5.out; have z6_ := z6.out; have z7_ := z7.out; have z8_ := z8.out; have z9_ := z9.out; have z10_ := z10.out; have z11_ := z11.out; have z12_ := z12.out; have z13_ := z13.out; have z14_ := z14.out; have z15_ := z15.out; have z16_ := z16.out; have z17_ := z17.out; have z18_ := z18.out; have z19_ := z19.out; (try dsimp only); (try simp only [World.size_alloc]); omega) c103; replace c104 := cell_grown hg RG6.out (by have hbs_ := HBS.out; have z2_ := z2.out; have z3_ := z3.out; have z4_ := z4.out; have z5_ := z5.out; have z6_ := z6.out; have z7_ := z7.out; have z8_ := z8.out; have z9_ := z9.out; have z10_ := z10.out; have z11_ := z11.out; have z12_ := z12.out; have z13_ := z13.out; have z14_ := z14.out; have z15_ := z15.out; have z16_ := z16.out; have z17_ := z17.out; have z18_ := z18.out; have z19_ := z19.out; (try dsimp only); (try simp only [World.size_alloc]); omega) c104; replace c105 := cell_grown hg RG6.out (by have hbs_ := HBS.out; have z2_ := z2.out; have z3_ := z3.out; have z4_ := z4.out; have z5_ := z5.out; have z6_ := z6.out; have z7_ := z7.out; have z8_ := z8.out; have z9_ := z9.out; have z10_ := z10.out; have z11_ := z11.out; have z12_ := z12.out; have z13_ := z13.out; have z14_ := z14.out; have z15_ := z15.out; have z16_ := z16.out; have z17_ := z17.out; have z18_ := z18.out; have z19_ := z19.out; (try dsimp only); (try simp only [World.size_alloc]); omega) c105; replace HO5 := Aside0.mk (own_grown hg RG6.out RG5.out (by have hbs_ := HBS.out; have z2_ := z2.out; have z3_ := z3.out; have z4_ := z4.out; have z5_ := z5.out; have z6_ := z6.out; have z7_ := z7.out; have z8_ := z8.out; have z9_ := z9.out; have z10_ := z10.out; have z11_ := z11.out; have z12_ := z12.out; have z13_ := z13.out; have z14_ := z14.out; have z15_ := z15.out; have z16_ := z16.out; have z17_ := z17.out; have z18_ := z18.out; have z19_ := z19.out; (try simp only [World.size_alloc]); omega) HO5.out); replace HO7 := Aside0.mk (own_grown hg RG6.out RG7.out (by have hbs_ := HBS.out; have z2_ := z2.out; have z3_ := z3.out; have z4_ := z4.out; have z5_ := z5.out; have z6_ := z6.out; have z7_ := z7.out; have z8_ := z8.out; have z9_ := z9.out; have z10_ := z10.out; have z11_ := z11.out; have z12_ := z12.out; have z13_ := z13.out; have z14_ := z14.out; have z15_ := z15.out; have z16_ := z16.out; have z17_ := z17.out; have z18_ := z18.out; have z19_ := z19.out; (try simp only [World.size_alloc]); omega) HO7.out); replace HO8 := Aside0.mk (own_grown hg RG6.out RG8.out (by have hbs_ := HBS.out; have z2_ := z2.out; have z3_ := z3.out; have z4_ := z4.out; have z5_ := z5.out; have z6_ := z6.out; have z7_ := z7.out; have z8_ := z8.out; have z9_ := z9.out; have z10_ := z10.out; have z11_ := z11.out; have z12_ := z12.out; have z13_ := z13.out; have z14_ := z14.out; have z15_ := z15.out; have z16_ := z16.out; have z17_ := z17.out; have z18_ := z18.out; have z19_ := z19.out; (try simp only [World.size_alloc]); omega) HO8.out); replace HO9 := Aside0.mk (own_grown hg RG6.out RG9.out (by have hbs_ := HBS.out; have z2_ := z2.out; have z3_ := z3.out; have z4_ := z4.out; have z5_ := z5.out; have z6_ := z6.out; have z7_ := z7.out; have z8_ := z8.out; have z9_ := z9.out; have z10_ := z10.out; have z11_ := z11.out; have z12_ := z12.out; have z13_ := z13.out; have z14_ := z14.out; have z15_ := z15.out; have z16_ := z16.out; have z17_ := z17.out; have z18_ := z18.out; have z19_ := z19.out; (try simp only [World.size_alloc]); omega) HO9.out); replace HO10 := Aside0.mk (own_grown hg RG6.out RG10.out (by have hbs_ := HBS.out; have z2_ := z2.out; have z3_ := z3.out; have z4_ := z4.out; have z5_ := z5.out; have z6_ := z6.out; have z7_ := z7.out; have z8_ := z8.out; have z9_ := z9.out; have z10_ := z10.out; have z11_ := z11.out; have z12_ := z12.out; have z13_ := z13.out; have z14_ := z14.out; have z15_ := z15.out; have z16_ := z16.out; have z17_ := z17.out; have z18_ := z18.out; have z19_ := z19.out; (try simp only [World.size_alloc]); omega) HO10.out); replace HO11 := Aside0.mk (own_grown hg RG6.out RG11.out (by have hbs_ := HBS.out; have z2_ := z2.out; have z3_ := z3.out; have z4_ := z4.out; have z5_ := z5.out; have z6_ := z6.out; have z7_ := z7.out; have z8_ := z8.out; have z9_ := z9.out; have z10_ := z10.out; have z11_ := z11.out; have z12_ := z12.out; have z13_ := z13.out; have z14_ := z14.out; have z15_ := z15.out; have z16_ := z16.out; have z17_ := z17.out; have z18_ := z18.out; have z19_ := z19.out; (try simp only [World.size_alloc]); omega) HO11.out); replace HO16 := Aside0.mk (own_grown hg RG6.out RG16.out (by have hbs_ := HBS.out; have z2_ := z2.out; have z3_ := z3.out; have z4_ := z4.out; have z5_ := z5.out; have z6_ := z6.out; have z7_ := z7.out; have z8_ := z8.out; have z9_ := z9.out; have z10_ := z10.out; have z11_ := z11.out; have z12_ := z12.out; have z13_ := z13.out; have z14_ := z14.out; have z15_ := z15.out; have z16_ := z16.out; have z17_ := z17.out; have z18_ := z18.out; have z19_ := z19.out; (try simp only [World.size_alloc]); omega) HO16.out); replace HO18 := Aside0.mk (own_grown hg RG6.out RG18.out (by have hbs_ := HBS.out; have z2_ := z2.out; have z3_ := z3.out; have z4_ := z4.out; have z5_ := z5.out; have z6_ := z6.out; have z7_ := z7.out; have z8_ := z8.out; have z9_ := z9.out; have z10_ := z10.out; have z11_ := z11.out; have z12_ := z12.out; have z13_ := z13.out; have z14_ := z14.out; have z15_ := z15.out; have z16_ := z16.out; have z17_ := z17.out; have z18_ := z18.out; have z19_ := z19.out; (try simp only [World.size_alloc]); omega) HO18.out); replace HO6 := Aside0.mk ho; clear ho hg hb) | (replace st := stg_next 15 16 st; go_at_call 24; have hl_ : l1.length ≤ 1073741824 := (by omega); refine (markComplex _ _ _ l1 ((1 + l0.length)) _ HO7.out (by omega) hl_ (by have hbs_ := HBS.out; have z2_ := z2.out; have z3_ := z3.out; have z4_ := z4.out; have z5_ := z5.out; have z6_ := z6.out; have z7_ := z7.out; have z8_ := z8.out; have z9_ := z9.out; have z10_ := z10.out; have z11_ := z11.out; have z12_ := z12.out; have z13_ := z13.out; have z14_ := z14.out; have z15_ := z15.out; have z16_ := z16.out; have z17_ := z17.out; have z18_ := z18.out; have z19_ := z19.out; have z20_ := z20.out; (try simp only [World.size_alloc]); omega)).mono ?_; rintro e w21 ⟨rfl, ho, hg, hb⟩; clear hl_; have z21 := Aside0.mk hg.size; replace HB := Aside0.mk (HB.out.trans (hb.mono (by have hbs_ := HBS.out; have z2_ := z2.out; have z3_ := z3.out; have z4_ := z4.out; have z5_ := z5.out; have z6_ := z6.out; have z7_ := z7.out; have z8_ := z8.out; have z9_ := z9.out; have z10_ := z10.out; have z11_ := z11.out; have z12_ := z12.out; have z13_ := z13.out; have z14_ := z14.out; have z15_ := z15.out; have z16_ := z16.out; have z17_ := z17.out; have z18_ := z18.out; have z19_ := z19.out; have z20_ := z20.out; (try simp only [World.size_alloc]); omega))); replace c0a := cell_grown hg RG7.out (by have hbs_ := HBS.out; have z2_ := z2.out; have z3_ := z3.out; have z4_ := z4.out; have z5_ := z5.out; have z6_ := z6.out; have z7_ := z7.out; have z8_ := z8.out; have z9_ := z9.out; have z10_ := z10.out; have z11_ := z11.out; have z12_ := z12.out; have z13_ := z13.out; have z14_ := z14.out; have z15_ := z15.out; have z16_ := z16.out; have z17_ := z17.out; have z18_ := z18.out; have z19_ := z19.out; have z20_ := z20.out; (try dsimp only); (try simp only [World.size_alloc]); omega) c0a; replace c0b := cell_grown hg RG7.out (by have hbs_ := HBS.out; have z2_ := z2.out; have z3_ := z3.out; have z4_ := z4.out; have z5_ := z5.out; have z6_ := z6.out; have z7_ := z7.out; have z8_ := z8.out; have z9_ := z9.out; have z10_ := z10.out; have z11_ := z11.out; have z12_ := z12.out; have z13_ := z13.out; have z14_ := z14.out; have z15_ := z15.out; have z16_ := z16.out; have z17_ := z17.out; have z18_ := z18.out; have z19_ := z19.out; have z20_ := z20.out; (try dsimp only); (try simp only [World.size_alloc]); omega) c0b; replace c1a := cell_grown hg RG7.out (by have hbs_ := HBS.out; have z2_ := z2.out; have z3_ := z3.out; have z4_ := z4.out; have z5_ := z5.out; have z6_ := z6.out; have z7_ := z7.out; have z8_ := z8.out; have z9_ := z9.out; have z10_ := z10.out; have z11_ := z11.out; have z12_ := z12.out; have z13_ := z13.out; have z14_ := z14.out; have z15_ := z15.out; have z16_ := z16.out; have z17_ := z17.out; have z18_ := z18.out; have z19_ := z19.out; have z20_ := z20.out; (try dsimp only); (try simp only [World.size_alloc]); omega) c1a; replace c1b := cell_grown hg RG7.out (by have hbs_ := HBS.out; have z2_ := z2.out; have z3_ := z3.out; have z4_ := z4.out; have z5_ := z5.out; have z6_ := z6.out; have z7_ := z7.out; have z8_ := z8.out; have z9_ := z9.out; have z10_ := z10.out; have z11_ := z11.out; have z12_ := z12.out; have z13_ := z13.out; have z14_ := z14.out; have z15_ := z15.out; have z16_ := z16.out; have z17_ := z17.out; have z18_ := z18.out; have z19_ := z19.out; have z20_ := z20.out; (try dsimp only); (try simp only [World.size_alloc]); omega) c1b; replace c2a := cell_grown hg RG7.out (by have hbs_ := HBS.out; have z2_ := z2.out; have z3_ := z3.out; have z4_ := z4.out; have z5_ := z5.out; have z6_ := z6.out; have z7_ := z7.out; have z8_ := z8.out; have z9_ := z9.out; have z10_ := z10.out; have z11_ := z11.out; have z12_ := z12.out; have z13_ := z13.out; have z14_ := z14.out; have z15_ := z15.out; have z16_ := z16.out; have z17_ := z17.out; have z18_ := z18.out; have z19_ := z19.out; have z20_ := z20.out; (try dsimp only); (try simp only [World.size_alloc]); omega) c2a; replace c2b := cell_grown hg RG7.out (by have hbs_ := HBS.out; have z2_ := z2.out; have z3_ := z3.out; have z4_ := z4.out; have z5_ := z5.out; have z6_ := z6.out; have z7_ := z7.out; have z8_ := z8.out; have z9_ := z9.out; have z10_ := z10.out; have z11_ := z11.out; have z12_ := z12.out; have z13_ := z13.out; have z14_ := z14.out; have z15_ := z15.out; have z16_ := z16.out; have z17_ := z17.out; have z18_ := z18.out; have z19_ := z19.out; have z20_ := z20.out; (try dsimp only); (try simp only [World.size_alloc]); omega) c2b; replace c100 := cell_grown hg RG7.out (by have hbs_ := HBS.out; have z2_ := z2.out; have z3_ := z3.out; have z4_ := z4.out; have z5_ := z5.out; have z6_ := z6.out; have z7_ := z7.out; have z8_ := z8.out; have z9_ := z9.out; have z10_ := z10.out; have z11_ := z11.out; have z12_ := z12.out; have z13_ := z13.out; have z14_ := z14.out; have z15_ := z15.out; have z16_ := z16.out; have z17_ := z17.out; have z18_ := z18.out; have z19_ := z19.out; have z20_ := z20.out; (try dsimp only); (try simp only [World.size_alloc]); omega) c100; replace c101 := cell_grown hg RG7.out (by have hbs_ := HBS.out; have z2_ := z2.out; have z3_ := z3.out; have z4_ := z4.out; have z5_ := z5.out; have z6_ := z6.out; have z7_ := z7.out; have z8_ := z8.out; have z9_ := z9.out; have z10_ := z10.out; have z11_ := z11.out; have z12_ := z12.out; have z13_ := z13.out; have z14_ := z14.out; have z15_ := z15.out; have z16_ := z16.out; have z17_ := z17.out; have z18_ := z18.out; have z19_ := z19.out; have z20_ := z20.out; (try dsimp only); (try simp only [World.size_alloc]); omega) c101; replace c102 := cell_grown hg RG7.out (by have hbs_ := HBS.out; have z2_ := z2.out; have z3_ := z3.out; have z4_ := z4.out; have z5_ := z5.out; have z6_ := z6.out; have z7_ := z7.out; have z8_ := z8.out; have z9_ := z9.out; have z10_ := z10.out; have z11_ := z11.out; have z12_ := z12.out; have z13_ := z13.out; have z14_ := z14.out; have z15_ := z15.out; have z16_ := z16.out; have z17_ := z17.out; have z18_ := z18.out; have z19_ := z19.out; have z20_ := z20.out; (try dsimp only); (try simp only [World.size_alloc]); omega) c102; replace c103 := cell_grown hg RG7.out (by have hbs_ := HBS.out; have z2_ := z2.out; have z3_ := z3.out; have z4_ := z4.out; have z5_ := z5.out; have z6_ := z6.out; have z7_ := z7.out; have z8_ := z8.out; have z9_ := z9.out; have z10_ := z10.out; have z11_ := z11.out; have z12_ := z12.out; have z13_ := z13.out; have z14_ := z14.out; have z15_ := z15.out; have z16_ := z16.out; have z17_ := z17.out; have z18_ := z18.out; have z19_ := z19.out; have z20_ := z20.out; (try dsimp only); (try simp only [World.size_alloc]); omega) c103; replace c104 := cell_grown hg RG7.out (by have hbs_ := HBS.out; have z2_ := z2.out; have z3_ := z3.out; have z4_ := z4.out; have z5_ := z5.out; have z6_ := z6.out; have z7_ := z7.out; have z8_ := z8.out; have z9_ := z9.out; have z10_ := z10.out; have z11_ := z11.out; have z12_ := z12.out; have z13_ := z13.out; have z14_ := z14.out; have z15_ := z15.out; have z16_ := z16.out; have z17_ := z17.out; have z18_ := z18.out; have z19_ := z19.out; have z20_ := z20.out; (try dsimp only); (try simp only [World.size_alloc]); omega) c104; replace c105 := cell_grown hg RG7.out (by have hbs_ := HBS.out; have z2_ := z2.out; have z3_ := z3.out; have z4_ := z4.out; have z5_ := z5.out; have z6_ := z6.out; have z7_ := z7.out; have z8_ := z8.out; have z9_ := z9.out; have z10_ := z10.out; have z11_ := z11.out; have z12_ := z12.out; have z13_ := z13.out; have z14_ := z14.out; have z15_ := z15.out; have z16_ := z16.out; have z17_ := z17.out; have z18_ := z18.out; have z19_ := z19.out; have z20_ := z20.out; (try dsimp only); (try simp only [World.size_alloc]); omega) c105; replace HO5 := Aside0.mk (own_grown hg RG7.out RG5.out (by have hbs_ := HBS.out; have z2_ := z2.out; have z3_ := z3.out; have z4_ := z4.out; have z5_ := z5.out; have z6_ := z6.out; have z7_ := z7.out; have z8_ := z8.out; have z9_ := z9.out; have z10_ := z10.out; have z11_ := z11.out; have z12_ := z12.out; have z13_ := z13.out; have z14_ := z14.out; have z15_ := z15.out; have z16_ := z16.out; have z17_ := z17.out; have z18_ := z18.out; have z19_ := z19.out; have z20_ := z20.out; (try simp only [World.size_alloc]); omega) HO5.out); replace HO6 := Aside0.mk (own_grown hg RG7.out RG6.out (by have hbs_ := HBS.out; have z2_ := z2.out; have z3_ := z3.out; have z4_ := z4.out; have z5_ := z5.out; have z6_ := z6.out; have z7_ := z7.out; have z8_ := z8.out; have z9_ := z9.out; have z10_ := z10.out; have z11_ := z11.out; have z12_ := z12.out; have z13_ := z13.out; have z14_ := z14.out; have z15_ := z15.out; have z16_ := z16.out; have z17_ := z17.out; have z18_ := z18.out; have z19_ := z19.out; have z20_ := z20.out; (try simp only [World.size_alloc]); omega) HO6.out); replace HO8 := Aside0.mk (own_grown hg RG7.out RG8.out (by have hbs_ := HBS.out; have z2_ := z2.out; have z3_ := z3.out; have z4_ := z4.out; have z5_ := z5.out; have z6_ := z6.out; have z7_ := z7.out; have z8_ := z8.out; have z9_ := z9.out; have z10_ := z10.out; have z11_ := z11.out; have z12_ := z12.out; have z13_ := z13.out; have z14_ := z14.out; have z15_ := z15.out; have z16_ := z16.out; have z17_ := z17.out; have z18_ := z18.out; have z19_ := z19.out; have z20_ := z20.out; (try simp only [World.size_alloc]); omega) HO8.out); replace HO9 := Aside0.mk (own_grown hg RG7.out RG9.out (by have hbs_ := HBS.out; have z2_ := z2.out; have z3_ := z3.out; have z4_ := z4.out; have z5_ := z5.out; have z6_ := z6.out; have z7_ := z7.out; have z8_ := z8.out; have z9_ := z9.out; have z10_ := z10.out; have z11_ := z11.out; have z12_ := z12.out; have z13_ := z13.out; have z14_ := z14.out; have z15_ := z15.out; have z16_ := z16.out; have z17_ := z17.out; have z18_ := z18.out; have z19_ := z19.out; have z20_ := z20.out; (try simp only [World.size_alloc]); omega) HO9.out); replace HO10 := Aside0.mk (own_grown hg RG7.out RG10.out (by have hbs_ := HBS.out; have z2_ := z2.out; have z3_ := z3.out; have z4_ := z4.out; have z5_ := z5.out; have z6_ := z6.out; have z7_ := z7.out; have z8_ := z8.out; have z9_ := z9.out; have z10_ := z10.out; have z11_ := z11.out; have z12_ := z12.out; have z13_ := z13.out; have z14_ := z14.out; have z15_ := z15.out; have z16_ := z16.out; have z17_ := z17.out; have z18_ := z18.out; have z19_ := z19.out; have z20_ := z20.out; (try simp only [World.size_alloc]); omega) HO10.out); replace HO11 := Aside0.mk (own_grown hg RG7.out RG11.out (by have hbs_ := HBS.out; have z2_ := z2.out; have z3_ := z3.out; have z4_ := z4.out; have z5_ := z5.out; have z6_ := z6.out; have z7_ := z7.out; have z8_ := z8.out; have z9_ := z9.out; have z10_ := z10.out; have z11_ := z11.out; have z12_ := z12.out; have z13_ := z13.out; have z14_ := z14.out; have z15_ := z15.out; have z16_ := z16.out; have z17_ := z17.out; have z18_ := z18.out; have z19_ := z19.out; have z20_ := z20.out; (try simp only [World.size_alloc]); omega) HO11.out); replace HO16 := Aside0.mk (own_grown hg RG7.out RG16.out (by have hbs_ := HBS.out; have z2_ := z2.out; have z3_ := z3.out; have z4_ := z4.out; have z5_ := z5.out; have z6_ := z6.out; have z7_ := z7.out; have z8_ := z8.out; have z9_ := z9.out; have z10_ := z10.out; have z11_ := z11.out; have z12_ := z12.out; have z13_ := z13.out; have z14_ := z14.out; have z15_ := z15.out; have z16_ := z16.out; have z17_ := z17.out; have z18_ := z18.out; have z19_ := z19.out; have z20_ := z20.out; (try simp only [World.size_alloc]); omega) HO16.out); replace HO18 := Aside0.mk (own_grown hg RG7.out RG18.out (by have hbs_ := HBS.out; have z2_ := z2.out; have z3_ := z3.out; have z4_ := z4.out; have z5_ := z5.out; have z6_ := z6.out; have z7_ := z7.out; have z8_ := z8.out; have z9_ := z9.out; have z10_ := z10.out; have z11_ := z11.out; have z12_ := z12.out; have z13_ := z13.out; have z14_ := z14.out; have z15_ := z15.out; have z16_ := z16.out; have z17_ := z17.out; have z18_ := z18.out; have z19_ := z19.out; have z20_ := z20.out; (try simp only [World.size_alloc]); omega) HO18.out); replace HO7 := Aside0.mk ho; clear ho hg hb) | (replace st := stg_next 16 17 st; go_at_call 24; have hl_ : l2.length ≤ 1073741824 := (by omega); refine (markComplex _ _ _ l2 (((1 + l0.length) + l1.length)) _ HO8.out (by omega) hl_ (by have hbs_ := HBS.out; have z2_ := z2.out; have z3_ := z3.out; have z4_ := z4.out; have z5_ := z5.out; have z6_ := z6.out; have z7_ := z7.out; have z8_ := z8.out; have z9_ := z9.out; have z10_ := z10.out; have z11_ := z11.out; have z12_ := z12.out; have z13_ := z13.out; have z14_ := z14.out; have z15_ := z15.out; have z16_ := z16.out; have z17_ := z17.out; have z18_ := z18.out; have z19_ := z19.out; have z20_ := z20.out; have z21_ := z21.out; (try simp only [World.size_alloc]); omega)).mono ?_; rintro e w22 ⟨rfl, ho, hg, hb⟩; clear hl_; have z22 := Aside0.mk hg.size; replace HB := Aside0.mk (HB.out.trans (hb.mono (by have hbs_ := HBS.out; have z2_ := z2.out; have z3_ := z3.out; have z4_ := z4.out; have z5_ := z5.out; have z6_ := z6.out; have z7_ := z7.out; have z8_ := z8.out; have z9_ := z9.out; have z10_ := z10.out; have z11_ := z11.out; have z12_ := z12.out; have z13_ := z13.out; have z14_ := z14.out; have z15_ := z15.out; have z16_ := z16.out; have z17_ := z17.out; have z18_ := z18.out; have z19_ := z19.out; have z20_ := z20.out; have z21_ := z21.out; (try simp only [World.size_alloc]); omega))); replace c0a := cell_grown hg RG8.out (by have hbs_ := HBS.out; have z2_ := z2.out; have z3_ := z3.out; have z4_ := z4.out; have z5_ := z5.out; have z6_ := z6.out; have z7_ := z7.out; have z8_ := z8.out; have z9_ := z9.out; have z10_ := z10.out; have z11_ := z11.out; have z12_ := z12.out; have z13_ := z13.out; have z14_ := z14.out; have z15_ := z15.out; have z16_ := z16.out; have z17_ := z17.out; have z18_ := z18.out; have z19_ := z19.out; have z20_ := z20.out; have z21_ := z21.out; (try dsimp only); (try simp only [World.size_alloc]); omega) c0a; replace c0b := cell_grown hg RG8.out (by have hbs_ := HBS.out; have z2_ := z2.out; have z3_ := z3.out; have z4_ := z4.out; have z5_ := z5.out; have z6_ := z6.out; have z7_ := z7.out; have z8_ := z8.out; have z9_ := z9.out; have z10_ := z10.out; have z11_ := z11.out; have z12_ := z12.out; have z13_ := z13.out; have z14_ := z14.out; have z15_ := z15.out; have z16_ := z16.out; have z17_ := z17.out; have z18_ := z18.out; have z19_ := z19.out; have z20_ := z20.out; have z21_ := z21.out; (try dsimp only); (try simp only [World.size_alloc]); omega) c0b; replace c1a := cell_grown hg RG8.out (by have hbs_ := HBS.out; have z2_ := z2.out; have z3_ := z3.out; have z4_ := z4.out; have z5_ := z5.out; have z6_ := z6.out; have z7_ := z7.out; have z8_ := z8.out; have z9_ := z9.out; have z10_ := z10.out; have z11_ := z11.out; have z12_ := z12.out; have z13_ := z13.out; have z14_ := z14.out; have z15_ := z15.out; have z16_ := z16.out; have z17_ := z17.out; have z18_ := z18.out; have z19_ := z19.out; have z20_ := z20.out; have z21_ := z21.out; (try dsimp only); (try simp only [World.size_alloc]); omega) c1a; replace c1b := cell_grown hg RG8.out (by have hbs_ := HBS.out; have z2_ := z2.out; have z3_ := z3.out; have z4_ := z4.out; have z5_ := z5.out; have z6_ := z6.out; have z7_ := z7.out; have z8_ := z8.out; have z9_ := z9.out; have z10_ := z10.out; have z11_ := z11.out; have z12_ := z12.out; have z13_ := z13.out; have z14_ := z14.out; have z15_ := z15.out; have z16_ := z16.out; have z17_ := z17.out; have z18_ := z18.out; have z19_ := z19.out; have z20_ := z20.out; have z21_ := z21.out; (try dsimp only); (try simp only [World.size_alloc]); omega) c1b; replace c2a := cell_grown hg RG8.out (by have hbs_ := HBS.out; have z2_ := z2.out; have z3_ := z3.out; have z4_ := z4.out; have z5_ := z5.out; have z6_ := z6.out; have z7_ := z7.out; have z8_ := z8.out; have z9_ := z9.out; have z10_ := z10.out; have z11_ := z11.out; have z12_ := z12.out; have z13_ := z13.out; have z14_ := z14.out; have z15_ := z15.out; have z16_ := z16.out; have z17_ := z17.out; have z18_ := z18.out; have z19_ := z19.out; have z20_ := z20.out; have z21_ := z21.out; (try dsimp only); (try simp only [World.size_alloc]); omega) c2a; replace c2b := cell_grown hg RG8.out (by have hbs_ := HBS.out; have z2_ := z2.out; have z3_ := z3.out; have z4_ := z4.out; have z5_ := z5.out; have z6_ := z6.out; have z7_ := z7.out; have z8_ := z8.out; have z9_ := z9.out; have z10_ := z10.out; have z11_ := z11.out; have z12_ := z12.out; have z13_ := z13.out; have z14_ := z14.out; have z15_ := z15.out; have z16_ := z16.out; have z17_ := z17.out; have z18_ := z18.out; have z19_ := z19.out; have z20_ := z20.out; have z21_ := z21.out; (try dsimp only); (try simp only [World.size_alloc]); omega) c2b; replace c100 := cell_grown hg RG8.out (by have hbs_ := HBS.out; have z2_ := z2.out; have z3_ := z3.out; have z4_ := z4.out; have z5_ := z5.out; have z6_ := z6.out; have z7_ := z7.out; have z8_ := z8.out; have z9_ := z9.out; have z10_ := z10.out; have z11_ := z11.out; have z12_ := z12.out; have z13_ := z13.out; have z14_ := z14.out; have z15_ := z15.out; have z16_ := z16.out; have z17_ := z17.out; have z18_ := z18.out; have z19_ := z19.out; have z20_ := z20.out; have z21_ := z21.out; (try dsimp only); (try simp only [World.size_alloc]); omega) c100; replace c101 := cell_grown hg RG8.out (by have hbs_ := HBS.out; have z2_ := z2.out; have z3_ := z3.out; have z4_ := z4.out; have z5_ := z5.out; have z6_ := z6.out; have z7_ := z7.out; have z8_ := z8.out; have z9_ := z9.out; have z10_ := z10.out; have z11_ := z11.out; have z12_ := z12.out; have z13_ := z13.out; have z14_ := z14.out; have z15_ := z15.out; have z16_ := z16.out; have z17_ := z17.out; have z18_ := z18.out; have z19_ := z19.out; have z20_ := z20.out; have z21_ := z21.out; (try dsimp only); (try simp only [World.size_alloc]); omega) c101; replace c102 := cell_grown hg RG8.out (by have hbs_ := HBS.out; have z2_ := z2.out; have z3_ := z3.out; have z4_ := z4.out; have z5_ := z5.out; have z6_ := z6.out; have z7_ := z7.out; have z8_ := z8.out; have z9_ := z9.out; have z10_ := z10.out; have z11_ := z11.out; have z12_ := z12.out; have z13_ := z13.out; have z14_ := z14.out; have z15_ := z15.out; have z16_ := z16.out; have z17_ := z17.out; have z18_ := z18.out; have z19_ := z19.out; have z20_ := z20.out; have z21_ := z21.out; (try dsimp only); (try simp only [World.size_alloc]); omega) c102; replace c103 := cell_grown hg RG8.out (by have hbs_ := HBS.out; have z2_ := z2.out; have z3_ := z3.out; have z4_ := z4.out; have z5_ := z5.out; have z6_ := z6.out; have z7_ := z7.out; have z8_ := z8.out; have z9_ := z9.out; have z10_ := z10.out; have z11_ := z11.out; have z12_ := z12.out; have z13_ := z13.out; have z14_ := z14.out; have z15_ := z15.out; have z16_ := z16.out; have z17_ := z17.out; have z18_ := z18.out; have z19_ := z19.out; have z20_ := z20.out; have z21_ := z21.out; (try dsimp only); (try simp only [World.size_alloc]); omega) c103; replace c104 := cell_grown hg RG8.out (by have hbs_ := HBS.out; have z2_ := z2.out; have z3_ := z3.out; have z4_ := z4.out; have z5_ := z5.out; have z6_ := z6.out; have z7_ := z7.out; have z8_ := z8.out; have z9_ := z9.out; have z10_ := z10.out; have z11_ := z11.out; have z12_ := z12.out; have z13_ := z13.out; have z14_ := z14.out; have z15_ := z15.out; have z16_ := z16.out; have z17_ := z17.out; have z18_ := z18.out; have z19_ := z19.out; have z20_ := z20.out; have z21_ := z21.out; (try dsimp only); (try simp only [World.size_alloc]); omega) c104; replace c105 := cell_grown hg RG8.out (by have hbs_ := HBS.out; have z2_ := z2.out; have z3_ := z3.out; have z4_ := z4.out; have z5_ := z5.out; have z6_ := z6.out; have z7_ := z7.out; have z8_ := z8.out; have z9_ := z9.out; have z10_ := z10.out; have z11_ := z11.out; have z12_ := z12.out; have z13_ := z13.out; have z14_ := z14.out; have z15_ := z15.out; have z16_ := z16.out; have z17_ := z17.out; have z18_ := z18.out; have z19_ := z19.out; have z20_ := z20.out; have z21_ := z21.out; (try dsimp only); (try simp only [World.size_alloc]); omega) c105; replace HO5 := Aside0.mk (own_grown hg RG8.out RG5.out (by have hbs_ := HBS.out; have z2_ := z2.out; have z3_ := z3.out; have z4_ := z4.out; have z5_ := z5.out; have z6_ := z6.out; have z7_ := z7.out; have z8_ := z8.out; have z9_ := z9.out; have z10_ := z10.out; have z11_ := z11.out; have z12_ := z12.out; have z13_ := z13.out; have z14_ := z14.out; have z15_ := z15.out; have z16_ := z16.out; have z17_ := z17.out; have z18_ := z18.out; have z19_ := z19.out; have z20_ := z20.out; have z21_ := z21.out; (try simp only [World.size_alloc]); omega) HO5.out); replace HO6 := Aside0.mk (own_grown hg RG8.out RG6.out (by have hbs_ := HBS.out; have z2_ := z2.out; have z3_ := z3.out; have z4_ := z4.out; have z5_ := z5.out; have z6_ := z6.out; have z7_ := z7.out; have z8_ := z8.out; have z9_ := z9.out; have z10_ := z10.out; have z11_ := z11.out; have z12_ := z12.out; have z13_ := z13.out; have z14_ := z14.out; have z15_ := z15.out; have z16_ := z16.out; have z17_ := z17.out; have z18_ := z18.out; have z19_ := z19.out; have z20_ := z20.out; have z21_ := z21.out; (try simp only [World.size_alloc]); omega) HO6.out); replace HO7 := Aside0.mk (own_grown hg RG8.out RG7.out (by have hbs_ := HBS.out; have z2_ := z2.out; have z3_ := z3.out; have z4_ := z4.out; have z5_ := z5.out; have z6_ := z6.out; have z7_ := z7.out; have z8_ := z8.out; have z9_ := z9.out; have z10_ := z10.out; have z11_ := z11.out; have z12_ := z12.out; have z13_ := z13.out; have z14_ := z14.out; have z15_ := z15.out; have z16_ := z16.out; have z17_ := z17.out; have z18_ := z18.out; have z19_ := z19.out; have z20_ := z20.out; have z21_ := z21.out; (try simp only [World.size_alloc]); omega) HO7.out); replace HO9 := Aside0.mk (own_grown hg RG8.out RG9.out (by have hbs_ := HBS.out; have z2_ := z2.out; have z3_ := z3.out; have z4_ := z4.out; have z5_ := z5.out; have z6_ := z6.out; have z7_ := z7.out; have z8_ := z8.out; have z9_ := z9.out; have z10_ := z10.out; have z11_ := z11.out; have z12_ := z12.out; have z13_ := z13.out; have z14_ := z14.out; have z15_ := z15.out; have z16_ := z16.out; have z17_ := z17.out; have z18_ := z18.out; have z19_ := z19.out; have z20_ := z20.out; have z21_ := z21.out; (try simp only [World.size_alloc]); omega) HO9.out); replace HO10 := Aside0.mk (own_grown hg RG8.out RG10.out (by have hbs_ := HBS.out; have z2_ := z2.out; have z3_ := z3.out; have z4_ := z4.out; have z5_ := z5.out; have z6_ := z6.out; have z7_ := z7.out; have z8_ := z8.out; have z9_ := z9.out; have z10_ := z10.out; have z11_ := z11.out; have z12_ := z12.out; have z13_ := z13.out; have z14_ := z14.out; have z15_ := z15.out; have z16_ := z16.out; have z17_ := z17.out; have z18_ := z18.out; have z19_ := z19.out; have z20_ := z20.out; have z21_ := z21.out; (try simp only [World.size_alloc]); omega) HO10.out); replace HO11 := Aside0.mk (own_grown hg RG8.out RG11.out (by have hbs_ := HBS.out; have z2_ := z2.out; have z3_ := z3.out; have z4_ := z4.out; have z5_ := z5.out; have z6_ := z6.out; have z7_ := z7.out; have z8_ := z8.out; have z9_ := z9.out; have z10_ := z10.out; have z11_ := z11.out; have z12_ := z12.out; have z13_ := z13.out; have z14_ := z14.out; have z15_ := z15.out; have z16_ := z16.out; have z17_ := z17.out; have z18_ := z18.out; have z19_ := z19.out; have z20_ := z20.out; have z21_ := z21.out; (try simp only [World.size_alloc]); omega) HO11.out); replace HO16 := Aside0.mk (own_grown hg RG8.out RG16.out (by have hbs_ := HBS.out; have z2_ := z2.out; have z3_ := z3.out; have z4_ := z4.out; have z5_ := z5.out; have z6_ := z6.out; have z7_ := z7.out; have z8_ := z8.out; have z9_ := z9.out; have z10_ := z10.out; have z11_ := z11.out; have z12_ := z12.out; have z13_ := z13.out; have z14_ := z14.out; have z15_ := z15.out; have z16_ := z16.out; have z17_ := z17.out; have z18_ := z18.out; have z19_ := z19.out; have z20_ := z20.out; have z21_ := z21.out; (try simp only [World.size_alloc]); omega) HO16.out); replace HO18 := Aside0.mk (own_grown hg RG8.out RG18.out (by have hbs_ := HBS.out; have z2_ := z2.out; have z3_ := z3.out; have z4_ := z4.out; have z5_ := z5.out; have z6_ := z6.out; have z7_ := z7.out; have z8_ := z8.out; have z9_ := z9.out; have z10_ := z10.out; have z11_ := z11.out; have z12_ := z12.out; have z13_ := z13.out; have z14_ := z14.out; have z15_ := z15.out; have z16_ := z16.out; have z17_ := z17.out; have z18_ := z18.out; have z19_ := z19.out; have z20_ := z20.out; have z21_ := z21.out; (try simp only [World.size_alloc]); omega) HO18.out); replace HO8 := Aside0.mk ho; clear ho hg hb) | (replace st := stg_next 17 18 st; go_at_call 25; have hl_ : l3.length ≤ 1073741824 := (by omega); refine (markInt64S _ _ l3 ((((1 + l0.length) + l1.length) + l2.length)) _ HO9.out (by omega) hl_).mono ?_; rintro e w23 ⟨rfl, ho, hg, hb⟩; clear hl_; have z23 := Aside0.mk hg.size; replace HB := Aside0.mk (HB.out.trans (hb.mono (by have hbs_ := HBS.out; have z2_ := z2.out; have z3_ := z3.out; have z4_ := z4.out; have z5_ := z5.out; have z6_ := z6.out; have z7_ := z7.out; have z8_ := z8.out; have z9_ := z9.out; have z10_ := z10.out; have z11_ := z11.out; have z12_ := z12.out; have z13_ := z13.out; have z14_ := z14.out; have z15_ := z15.out; have z16_ := z16.out; have z17_ := z17.out; have z18_ := z18.out; have z19_ := z19.out; have z20_ := z20.out; have z21_ := z21.out; have z22_ := z22.out; (try simp only [World.size_alloc]); omega))); replace c0a := cell_grown hg RG9.out (by have hbs_ := HBS.out; have z2_ := z2.out; have z3_ := z3.out; have z4_ := z4.out; have z5_ := z5.out; have z6_ := z6.out; have z7_ := z7.out; have z8_ := z8.out; have z9_ := z9.out; have z10_ := z10.out; have z11_ := z11.out; have z12_ := z12.out; have z13_ := z13.out; have z14_ := z14.out; have z15_ := z15.out; have z16_ := z16.out; have z17_ := z17.out; have z18_ := z18.out; have z19_ := z19.out; have z20_ := z20.out; have z21_ := z21.out; have z22_ := z22.out; (try dsimp only); (try simp only [World.size_alloc]); omega) c0a; replace c0b := cell_grown hg RG9.out (by have hbs_ := HBS.out; have z2_ := z2.out; have z3_ := z3.out; have z4_ := z4.out; have z5_ := z5.out; have z6_ := z6.out; have z7_ := z7.out; have z8_ := z8.out; have z9_ := z9.out; have z10_ := z10.out; have z11_ := z11.out; have z12_ := z12.out; have z13_ := z13.out; have z14_ := z14.out; have z15_ := z15.out; have z16_ := z16.out; have z17_ := z17.out; have z18_ := z18.out; have z19_ := z19.out; have z20_ := z20.out; have z21_ := z21.out; have z22_ := z22.out; (try dsimp only); (try simp only [World.size_alloc]); omega) c0b; replace c1a := cell_grown hg RG9.out (by have hbs_ := HBS.out; have z2_ := z2.out; have z3_ := z3.out; have z4_ := z4.out; have z5_ := z5.out; have z6_ := z6.out; have z7_ := z7.out; have z8_ := z8.out; have z9_ := z9.out; have z10_ := z10.out; have z11_ := z11.out; have z12_ := z12.out; have z13_ := z13.out; have z14_ := z14.out; have z15_ := z15.out; have z16_ := z16.out; have z17_ := z17.out; have z18_ := z18.out; have z19_ := z19.out; have z20_ := z20.out; have z21_ := z21.out; have z22_ := z22.out; (try dsimp only); (try simp only [World.size_alloc]); omega) c1a; replace c1b := cell_grown hg RG9.out (by have hbs_ := HBS.out; have z2_ := z2.out; have z3_ := z3.out; have z4_ := z4.out; have z5_ := z5.out; have z6_ := z6.out; have z7_ := z7.out; have z8_ := z8.out; have z9_ := z9.out; have z10_ := z10.out; have z11_ := z11.out; have z12_ := z12.out; have z13_ := z13.out; have z14_ := z14.out; have z15_ := z15.out; have z16_ := z16.out; have z17_ := z17.out; have z18_ := z18.out; have z19_ := z19.out; have z20_ := z20.out; have z21_ := z21.out; have z22_ := z22.out; (try dsimp only); (try simp only [World.size_alloc]); omega) c1b; replace c2a := cell_grown hg RG9.out (by have hbs_ := HBS.out; have z2_ := z2.out; have z3_ := z3.out; have z4_ := z4.out; have z5_ := z5.out; have z6_ := z6.out; have z7_ := z7.out; have z8_ := z8.out; have z9_ := z9.out; have z10_ := z10.out; have z11_ := z11.out; have z12_ := z12.out; have z13_ := z13.out; have z14_ := z14.out; have z15_ := z15.out; have z16_ := z16.out; have z17_ := z17.out; have z18_ := z18.out; have z19_ := z19.out; have z20_ := z20.out; have z21_ := z21.out; have z22_ := z22.out; (try dsimp only); (try simp only [World.size_alloc]); omega) c2a; replace c2b := cell_grown hg RG9.out (by have hbs_ := HBS.out; have z2_ := z2.out; have z3_ := z3.out; have z4_ := z4.out; have z5_ := z5.out; have z6_ := z6.out; have z7_ := z7.out; have z8_ := z8.out; have z9_ := z9.out; have z10_ := z10.out; have z11_ := z11.out; have z12_ := z12.out; have z13_ := z13.out; have z14_ := z14.out; have z15_ := z15.out; have z16_ := z16.out; have z17_ := z17.out; have z18_ := z18.out; have z19_ := z19.out; have z20_ := z20.out; have z21_ := z21.out; have z22_ := z22.out; (try dsimp only); (try simp only [World.size_alloc]); omega) c2b; replace c100 := cell_grown hg RG9.out (by have hbs_ := HBS.out; have z2_ := z2.out; have z3_ := z3.out; have z4_ := z4.out; have z5_ := z5.out; have z6_ := z6.out; have z7_ := z7.out; have z8_ := z8.out; have z9_ := z9.out; have z10_ := z10.out; have z11_ := z11.out; have z12_ := z12.out; have z13_ := z13.out; have z14_ := z14.out; have z15_ := z15.out; have z16_ := z16.out; have z17_ := z17.out; have z18_ := z18.out; have z19_ := z19.out; have z20_ := z20.out; have z21_ := z21.out; have z22_ := z22.out; (try dsimp only); (try simp only [World.size_alloc]); omega) c100; replace c101 := cell_grown hg RG9.out (by have hbs_ := HBS.out; have z2_ := z2.out; have z3_ := z3.out; have z4_ := z4.out; have z5_ := z5.out; have z6_ := z6.out; have z7_ := z7.out; have z8_ := z8.out; have z9_ := z9.out; have z10_ := z10.out; have z11_ := z11.out; have z12_ := z12.out; have z13_ := z13.out; have z14_ := z14.out; have z15_ := z15.out; have z16_ := z16.out; have z17_ := z17.out; have z18_ := z18.out; have z19_ := z19.out; have z20_ := z20.out; have z21_ := z21.out; have z22_ := z22.out; (try dsimp only); (try simp only [World.size_alloc]); omega) c101; replace c102 := cell_grown hg RG9.out (by have hbs_ := HBS.out; have z2_ := z2.out; have z3_ := z3.out; have z4_ := z4.out; have z5_ := z5.out; have z6_ := z6.out; have z7_ := z7.out; have z8_ := z8.out; have z9_ := z9.out; have z10_ := z10.out; have z11_ := z11.out; have z12_ := z12.out; have z13_ := z13.out; have z14_ := z14.out; have z15_ := z15.out; have z16_ := z16.out; have z17_ := z17.out; have z18_ := z18.out; have z19_ := z19.out; have z20_ := z20.out; have z21_ := z21.out; have z22_ := z22.out; (try dsimp only); (try simp only [World.size_alloc]); omega) c102; replace c103 := cell_grown hg RG9.out (by have hbs_ := HBS.out; have z2_ := z2.out; have z3_ := z3.out; have z4_ := z4.out; have z5_ := z5.out; have z6_ := z6.out; have z7_ := z7.out; have z8_ := z8.out; have z9_ := z9.out; have z10_ := z10.out; have z11_ := z11.out; have z12_ := z12.out; have z13_ := z13.out; have z14_ := z14.out; have z15_ := z15.out; have z16_ := z16.out; have z17_ := z17.out; have z18_ := z18.out; have z19_ := z19.out; have z20_ := z20.out; have z21_ := z21.out; have z22_ := z22.out; (try dsimp only); (try simp only [World.size_alloc]); omega) c103; replace c104 := cell_grown hg RG9.out (by have hbs_ := HBS.out; have z2_ := z2.out; have z3_ := z3.out; have z4_ := z4.out; have z5_ := z5.out; have z6_ := z6.out; have z7_ := z7.out; have z8_ := z8.out; have z9_ := z9.out; have z10_ := z10.out; have z11_ := z11.out; have z12_ := z12.out; have z13_ := z13.out; have z14_ := z14.out; have z15_ := z15.out; have z16_ := z16.out; have z17_ := z17.out; have z18_ := z18.out; have z19_ := z19.out; have z20_ := z20.out; have z21_ := z21.out; have z22_ := z22.out; (try dsimp only); (try simp only [World.size_alloc]); omega) c104; replace c105 := cell_grown hg RG9.out (by have hbs_ := HBS.out; have z2_ := z2.out; have z3_ := z3.out; have z4_ := z4.out; have z5_ := z5.out; have z6_ := z6.out; have z7_ := z7.out; have z8_ := z8.out; have z9_ := z9.out; have z10_ := z10.out; have z11_ := z11.out; have z12_ := z12.out; have z13_ := z13.out; have z14_ := z14.out; have z15_ := z15.out; have z16_ := z16.out; have z17_ := z17.out; have z18_ := z18.out; have z19_ := z19.out; have z20_ := z20.out; have z21_ := z21.out; have z22_ := z22.out; (try dsimp only); (try simp only [World.size_alloc]); omega) c105; replace HO5 := Aside0.mk (own_grown hg RG9.out RG5.out (by have hbs_ := HBS.out; have z2_ := z2.out; have z3_ := z3.out; have z4_ := z4.out; have z5_ := z5.out; have z6_ := z6.out; have z7_ := z7.out; have z8_ := z8.out; have z9_ := z9.out; have z10_ := z10.out; have z11_ := z11.out; have z12_ := z12.out; have z13_ := z13.out; have z14_ := z14.out; have z15_ := z15.out; have z16_ := z16.out; have z17_ := z17.out; have z18_ := z18.out; have z19_ := z19.out; have z20_ := z20.out; have z21_ := z21.out; have z22_ := z22.out; (try simp only [World.size_alloc]); omega) HO5.out); replace HO6 := Aside0.mk (own_grown hg RG9.out RG6.out (by have hbs_ := HBS.out; have z2_ := z2.out; have z3_ := z3.out; have z4_ := z4.out; have z5_ := z5.out; have z6_ := z6.out; have z7_ := z7.out; have z8_ := z8.out; have z9_ := z9.out; have z10_ := z10.out; have z11_ := z11.out; have z12_ := z12.out; have z13_ := z13.out; have z14_ := z14.out; have z15_ := z15.out; have z16_ := z16.out; have z17_ := z17.out; have z18_ := z18.out; have z19_ := z19.out; have z20_ := z20.out; have z21_ := z21.out; have z22_ := z22.out; (try simp only [World.size_alloc]); omega) HO6.out); replace HO7 := Aside0.mk (own_grown hg RG9.out RG7.out (by have hbs_ := HBS.out; have z2_ := z2.out; have z3_ := z3.out; have z4_ := z4.out; have z5_ := z5.out; have z6_ := z6.out; have z7_ := z7.out; have z8_ := z8.out; have z9_ := z9.out; have z10_ := z10.out; have z11_ := z11.out; have z12_ := z12.out; have z13_ := z13.out; have z14_ := z14.out; have z15_ := z15.out; have z16_ := z16.out; have z17_ := z17.out; have z18_ := z18.out; have z19_ := z19.out; have z20_ := z20.out; have z21_ := z21.out; have z22_ := z22.out; (try simp only [World.size_alloc]); omega) HO7.out); replace HO8 := Aside0.mk (own_grown hg RG9.out RG8.out (by have hbs_ := HBS.out; have z2_ := z2.out; have z3_ := z3.out; have z4_ := z4.out; have z5_ := z5.out; have z6_ := z6.out; have z7_ := z7.out; have z8_ := z8.out; have z9_ := z9.out; have z10_ := z10.out; have z11_ := z11.out; have z12_ := z12.out; have z13_ := z13.out; have z14_ := z14.out; have z15_ := z15.out; have z16_ := z16.out; have z17_ := z17.out; have z18_ := z18.out; have z19_ := z19.out; have z20_ := z20.out; have z21_ := z21.out; have z22_ := z22.out; (try simp only [World.size_alloc]); omega) HO8.out); replace HO10 := Aside0.mk (own_grown hg RG9.out RG10.out (by have hbs_ := HBS.out; have z2_ := z2.out; have z3_ := z3.out; have z4_ := z4.out; have z5_ := z5.out; have z6_ := z6.out; have z7_ := z7.out; have z8_ := z8.out; have z9_ := z9.out; have z10_ := z10.out; have z11_ := z11.out; have z12_ := z12.out; have z13_ := z13.out; have z14_ := z14.out; have z15_ := z15.out; have z16_ := z16.out; have z17_ := z17.out; have z18_ := z18.out; have z19_ := z19.out; have z20_ := z20.out; have z21_ := z21.out; have z22_ := z22.out; (try simp only [World.size_alloc]); omega) HO10.out); replace HO11 := Aside0.mk (own_grown hg RG9.out RG11.out (by have hbs_ := HBS.out; have z2_ := z2.out; have z3_ := z3.out; have z4_ := z4.out; have z5_ := z5.out; have z6_ := z6.out; have z7_ := z7.out; have z8_ := z8.out; have z9_ := z9.out; have z10_ := z10.out; have z11_ := z11.out; have z12_ := z12.out; have z13_ := z13.out; have z14_ := z14.out; have z15_ := z15.out; have z16_ := z16.out; have z17_ := z17.out; have z18_ := z18.out; have z19_ := z19.out; have z20_ := z20.out; have z21_ := z21.out; have z22_ := z22.out; (try simp only [World.size_alloc]); omega) HO11.out); replace HO16 := Aside0.mk (own_grown hg RG9.out RG16.out (by have hbs_ := HBS.out; have z2_ := z2.out; have z3_ := z3.out; have z4_ := z4.out; have z5_ := z5.out; have z6_ := z6.out; have z7_ := z7.out; have z8_ := z8.out; have z9_ := z9.out; have z10_ := z10.out; have z11_ := z11.out; have z12_ := z12.out; have z13_ := z13.out; have z14_ := z14.out; have z15_ := z15.out; have z16_ := z16.out; have z17_ := z17.out; have z18_ := z18.out; have z19_ := z19.out; have z20_ := z20.out; have z21_ := z21.out; have z22_ := z22.out; (try simp only [World.size_alloc]); omega) HO16.out); replace HO18 := Aside0.mk (own_grown hg RG9.out RG18.out (by have hbs_ := HBS.out; have z2_ := z2.out; have z3_ := z3.out; have z4_ := z4.out; have z5_ := z5.out; have z6_ := z6.out; have z7_ := z7.out; have z8_ := z8.out; have z9_ := z9.out; have z10_ := z10.out; have z11_ := z11.out; have z12_ := z12.out; have z13_ := z13.out; have z14_ := z14.out; have z15_ := z15.out; have z16_ := z16.out; have z17_ := z17.out; have z18_ := z18.out; have z19_ := z19.out; have z20_ := z20.out; have z21_ := z21.out; have z22_ := z22.out; (try simp only [World.size_alloc]); omega) HO18.out); replace HO9 := Aside0.mk ho; clear ho hg hb) | (replace st := stg_next 18 19 st; go_at_call 25; have hl_ : l4.length ≤ 1073741824 := (by omega); refine (markInt64S _ _ l4 (((((1 + l0.length) + l1.length) + l2.length) + l3.length)) _ HO10.out (by omega) hl_).mono ?_; rintro e w24 ⟨rfl, ho, hg, hb⟩; clear hl_; have z24 := Aside0.mk hg.size; replace HB := Aside0.mk (HB.out.trans (hb.mono (by have hbs_ := HBS.out; have z2_ := z2.out; have z3_ := z3.out; have z4_ := z4.out; have z5_ := z5.out; have z6_ := z6.out; have z7_ := z7.out; have z8_ := z8.out; have z9_ := z9.out; have z10_ := z10.out; have z11_ := z11.out; have z12_ := z12.out; have z13_ := z13.out; have z14_ := z14.out; have z15_ := z15.out; have z16_ := z16.out; have z17_ := z17.out; have z18_ := z18.out; have z19_ := z19.out; have z20_ := z20.out; have z21_ := z21.out; have z22_ := z22.out; have z23_ := z23.out; (try simp only [World.size_alloc]); omega))); replace c0a := cell_grown hg RG10.out (by have hbs_ := HBS.out; have z2_ := z2.out; have z3_ := z3.out; have z4_ := z4.out; have z5_ := z5.out; have z6_ := z6.out; have z7_ := z7.out; have z8_ := z8.out; have z9_ := z9.out; have z10_ := z10.out; have z11_ := z11.out; have z12_ := z12.out; have z13_ := z13.out; have z14_ := z14.out; have z15_ := z15.out; have z16_ := z16.out; have z17_ := z17.out; have z18_ := z18.out; have z19_ := z19.out; have z20_ := z20.out; have z21_ := z21.out; have z22_ := z22.out; have z23_ := z23.out; (try dsimp only); (try simp only [World.size_alloc]); omega) c0a; replace c0b := cell_grown hg RG10.out (by have hbs_ := HBS.out; have z2_ := z2.out; have z3_ := z3.out; have z4_ := z4.out; have z5_ := z5.out; have z6_ := z6.out; have z7_ := z7.out; have z8_ := z8.out; have z9_ := z9.out; have z10_ := z10.out; have z11_ := z11.out; have z12_ := z12.out; have z13_ := z13.out; have z14_ := z14.out; have z15_ := z15.out; have z16_ := z16.out; have z17_ := z17.out; have z18_ := z18.out; have z19_ := z19.out; have z20_ := z20.out; have z21_ := z21.out; have z22_ := z22.out; have z23_ := z23.out; (try dsimp only); (try simp only [World.size_alloc]); omega) c0b; replace c1a := cell_grown hg RG10.out (by have hbs_ := HBS.out; have z2_ := z2.out; have z3_ := z3.out; have z4_ := z4.out; have z5_ := z5.out; have z6_ := z6.out; have z7_ := z7.out; have z8_ := z8.out; have z9_ := z9.out; have z10_ := z10.out; have z11_ := z11.out; have z12_ := z12.out; have z13_ := z13.out; have z14_ := z14.out; have z15_ := z15.out; have z16_ := z16.out; have z17_ := z17.out; have z18_ := z18.out; have z19_ := z19.out; have z20_ := z20.out; have z21_ := z21.out; have z22_ := z22.out; have z23_ := z23.out; (try dsimp only); (try simp only [World.size_alloc]); omega) c1a; replace c1b := cell_grown hg RG10.out (by have hbs_ := HBS.out; have z2_ := z2.out; have z3_ := z3.out; have z4_ := z4.out; have z5_ := z5.out; have z6_ := z6.out; have z7_ := z7.out; have z8_ := z8.out; have z9_ := z9.out; have z10_ := z10.out; have z11_ := z11.out; have z12_ := z12.out; have z13_ := z13.out; have z14_ := z14.out; have z15_ := z15.out; have z16_ := z16.out; have z17_ := z17.out; have z18_ := z18.out; have z19_ := z19.out; have z20_ := z20.out; have z21_ := z21.out; have z22_ := z22.out; have z23_ := z23.out; (try dsimp only); (try simp only [World.size_alloc]); omega) c1b; replace c2a := cell_grown hg RG10.out (by have hbs_ := HBS.out; have z2_ := z2.out; have z3_ := z3.out; have z4_ := z4.out; have z5_ := z5.out; have z6_ := z6.out; have z7_ := z7.out; have z8_ := z8.out; have z9_ := z9.out; have z10_ := z10.out; have z11_ := z11.out; have z12_ := z12.out; have z13_ := z13.out; have z14_ := z14.out; have z15_ := z15.out; have z16_ := z16.out; have z17_ := z17.out; have z18_ := z18.out; have z19_ := z19.out; have z20_ := z20.out; have z21_ := z21.out; have z22_ := z22.out; have z23_ := z23.out; (try dsimp only); (try simp only [World.size_alloc]); omega) c2a; replace c2b := cell_grown hg RG10.out (by have hbs_ := HBS.out; have z2_ := z2.out; have z3_ := z3.out; have z4_ := z4.out; have z5_ := z5.out; have z6_ := z6.out; have z7_ := z7.out; have z8_ := z8.out; have z9_ := z9.out; have z10_ := z10.out; have z11_ := z11.out; have z12_ := z12.out; have z13_ := z13.out; have z14_ := z14.out; have z15_ := z15.out; have z16_ := z16.out; have z17_ := z17.out; have z18_ := z18.out; have z19_ := z19.out; have z20_ := z20.out; have z21_ := z21.out; have z22_ := z22.out; have z23_ := z23.out; (try dsimp only); (try simp only [World.size_alloc]); omega) c2b; replace c100 := cell_grown hg RG10.out (by have hbs_ := HBS.out; have z2_ := z2.out; have z3_ := z3.out; have z4_ := z4.out; have z5_ := z5.out; have z6_ := z6.out; have z7_ := z7.out; have z8_ := z8.out; have z9_ := z9.out; have z10_ := z10.out; have z11_ := z11.out; have z12_ := z12.out; have z13_ := z13.out; have z14_ := z14.out; have z15_ := z15.out; have z16_ := z16.out; have z17_ := z17.out; have z18_ := z18.out; have z19_ := z19.out; have z20_ := z20.out; have z21_ := z21.out; have z22_ := z22.out; have z23_ := z23.out; (try dsimp only); (try simp only [World.size_alloc]); omega) c100; replace c101 := cell_grown hg RG10.out (by have hbs_ := HBS.out; have z2_ := z2.out; have z3_ := z3.out; have z4_ := z4.out; have z5_ := z5.out; have z6_ := z6.out; have z7_ := z7.out; have z8_ := z8.out; have z9_ := z9.out; have z10_ := z10.out; have z11_ := z11.out; have z12_ := z12.out; have z13_ := z13.out; have z14_ := z14.out; have z15_ := z15.out; have z16_ := z16.out; have z17_ := z17.out; have z18_ := z18.out; have z19_ := z19.out; have z20_ := z20.out; have z21_ := z21.out; have z22_ := z22.out; have z23_ := z23.out; (try dsimp only); (try simp only [World.size_alloc]); omega) c101; replace c102 := cell_grown hg RG10.out (by have hbs_ := HBS.out; have z2_ := z2.out; have z3_ := z3.out; have z4_ := z4.out; have z5_ := z5.out; have z6_ := z6.out; have z7_ := z7.out; have z8_ := z8.out; have z9_ := z9.out; have z10_ := z10.out; have z11_ := z11.out; have z12_ := z12.out; have z13_ := z13.out; have z14_ := z14.out; have z15_ := z15.out; have z16_ := z16.out; have z17_ := z17.out; have z18_ := z18.out; have z19_ := z19.out; have z20_ := z20.out; have z21_ := z21.out; have z22_ := z22.out; have z23_ := z23.out; (try dsimp only); (try simp only [World.size_alloc]); omega) c102; replace c103 := cell_grown hg RG10.out (by have hbs_ := HBS.out; have z2_ := z2.out; have z3_ := z3.out; have z4_ := z4.out; have z5_ := z5.out; have z6_ := z6.out; have z7_ := z7.out; have z8_ := z8.out; have z9_ := z9.out; have z10_ := z10.out; have z11_ := z11.out; have z12_ := z12.out; have z13_ := z13.out; have z14_ := z14.out; have z15_ := z15.out; have z16_ := z16.out; have z17_ := z17.out; have z18_ := z18.out; have z19_ := z19.out; have z20_ := z20.out; have z21_ := z21.out; have z22_ := z22.out; have z23_ := z23.out; (try dsimp only); (try simp only [World.size_alloc]); omega) c103; replace c104 := cell_grown hg RG10.out (by have hbs_ := HBS.out; have z2_ := z2.out; have z3_ := z3.out; have z4_ := z4.out; have z5_ := z5.out; have z6_ := z6.out; have z7_ := z7.out; have z8_ := z8.out; have z9_ := z9.out; have z10_ := z10.out; have z11_ := z11.out; have z12_ := z12.out; have z13_ := z13.out; have z14_ := z14.out; have z15_ := z15.out; have z16_ := z16.out; have z17_ := z17.out; have z18_ := z18.out; have z19_ := z19.out; have z20_ := z20.out; have z21_ := z21.out; have z22_ := z22.out; have z23_ := z23.out; (try dsimp only); (try simp only [World.size_alloc]); omega) c104; replace c105 := cell_grown hg RG10.out (by have hbs_ := HBS.out; have z2_ := z2.out; have z3_ := z3.out; have z4_ := z4.out; have z5_ := z5.out; have z6_ := z6.out; have z7_ := z7.out; have z8_ := z8.out; have z9_ := z9.out; have z10_ := z10.out; have z11_ := z11.out; have z12_ := z12.out; have z13_ := z13.out; have z14_ := z14.out; have z15_ := z15.out; have z16_ := z16.out; have z17_ := z17.out; have z18_ := z18.out; have z19_ := z19.out; have z20_ := z20.out; have z21_ := z21.out; have z22_ := z22.out; have z23_ := z23.out; (try dsimp only); (try simp only [World.size_alloc]); omega) c105; replace HO5 := Aside0.mk (own_grown hg RG10.out RG5.out (by have hbs_ := HBS.out; have z2_ := z2.out; have z3_ := z3.out; have z4_ := z4.out; have z5_ := z5.out; have z6_ := z6.out; have z7_ := z7.out; have z8_ := z8.out; have z9_ := z9.out; have z10_ := z10.out; have z11_ := z11.out; have z12_ := z12.out; have z13_ := z13.out; have z14_ := z14.out; have z15_ := z15.out; have z16_ := z16.out; have z17_ := z17.out; have z18_ := z18.out; have z19_ := z19.out; have z20_ := z20.out; have z21_ := z21.out; have z22_ := z22.out; have z23_ := z23.out; (try simp only [World.size_alloc]); omega) HO5.out); replace HO6 := Aside0.mk (own_grown hg RG10.out RG6.out (by have hbs_ := HBS.out; have z2_ := z2.out; have z3_ := z3.out; have z4_ := z4.out; have z5_ := z5.out; have z6_ := z6.out; have z7_ := z7.out; have z8_ := z8.out; have z9_ := z9.out; have z10_ := z10.out; have z11_ := z11.out; have z12_ := z12.out; have z13_ := z13.out; have z14_ := z14.out; have z15_ := z15.out; have z16_ := z16.out; have z17_ := z17.out; have z18_ := z18.out; have z19_ := z19.out; have z20_ := z20.out; have z21_ := z21.out; have z22_ := z22.out; have z23_ := z23.out; (try simp only [World.size_alloc]); omega) HO6.out); replace HO7 := Aside0.mk (own_grown hg RG10.out RG7.out (by have hbs_ := HBS.out; have z2_ := z2.out; have z3_ := z3.out; have z4_ := z4.out; have z5_ := z5.out; have z6_ := z6.out; have z7_ := z7.out; have z8_ := z8.out; have z9_ := z9.out; have z10_ := z10.out; have z11_ := z11.out; have z12_ := z12.out; have z13_ := z13.out; have z14_ := z14.out; have z15_ := z15.out; have z16_ := z16.out; have z17_ := z17.out; have z18_ := z18.out; have z19_ := z19.out; have z20_ := z20.out; have z21_ := z21.out; have z22_ := z22.out; have z23_ := z23.out; (try simp only [World.size_alloc]); omega) HO7.out); replace HO8 := Aside0.mk (own_grown hg RG10.out RG8.out (by have hbs_ := HBS.out; have z2_ := z2.out; have z3_ := z3.out; have z4_ := z4.out; have z5_ := z5.out; have z6_ := z6.out; have z7_ := z7.out; have z8_ := z8.out; have z9_ := z9.out; have z10_ := z10.out; have z11_ := z11.out; have z12_ := z12.out; have z13_ := z13.out; have z14_ := z14.out; have z15_ := z15.out; have z16_ := z16.out; have z17_ := z17.out; have z18_ := z18.out; have z19_ := z19.out; have z20_ := z20.out; have z21_ := z21.out; have z22_ := z22.out; have z23_ := z23.out; (try simp only [World.size_alloc]); omega) HO8.out); replace HO9 := Aside0.mk (own_grown hg RG10.out RG9.out (by have hbs_ := HBS.out; have z2_ := z2.out; have z3_ := z3.out; have z4_ := z4.out; have z5_ := z5.out; have z6_ := z6.out; have z7_ := z7.out; have z8_ := z8.out; have z9_ := z9.out; have z10_ := z10.out; have z11_ := z11.out; have z12_ := z12.out; have z13_ := z13.out; have z14_ := z14.out; have z15_ := z15.out; have z16_ := z16.out; have z17_ := z17.out; have z18_ := z18.out; have z19_ := z19.out; have z20_ := z20.out; have z21_ := z21.out; have z22_ := z22.out; have z23_ := z23.out; (try simp only [World.size_alloc]); omega) HO9.out); replace HO11 := Aside0.mk (own_grown hg RG10.out RG11.out (by have hbs_ := HBS.out; have z2_ := z2.out; have z3_ := z3.out; have z4_ := z4.out; have z5_ := z5.out; have z6_ := z6.out; have z7_ := z7.out; have z8_ := z8.out; have z9_ := z9.out; have z10_ := z10.out; have z11_ := z11.out; have z12_ := z12.out; have z13_ := z13.out; have z14_ := z14.out; have z15_ := z15.out; have z16_ := z16.out; have z17_ := z17.out; have z18_ := z18.out; have z19_ := z19.out; have z20_ := z20.out; have z21_ := z21.out; have z22_ := z22.out; have z23_ := z23.out; (try simp only [World.size_alloc]); omega) HO11.out); replace HO16 := Aside0.mk (own_grown hg RG10.out RG16.out (by have hbs_ := HBS.out; have z2_ := z2.out; have z3_ := z3.out; have z4_ := z4.out; have z5_ := z5.out; have z6_ := z6.out; have z7_ := z7.out; have z8_ := z8.out; have z9_ := z9.out; have z10_ := z10.out; have z11_ := z11.out; have z12_ := z12.out; have z13_ := z13.out; have z14_ := z14.out; have z15_ := z15.out; have z16_ := z16.out; have z17_ := z17.out; have z18_ := z18.out; have z19_ := z19.out; have z20_ := z20.out; have z21_ := z21.out; have z22_ := z22.out; have z23_ := z23.out; (try simp only [World.size_alloc]); omega) HO16.out); replace HO18 := Aside0.mk (own_grown hg RG10.out RG18.out (by have hbs_ := HBS.out; have z2_ := z2.out; have z3_ := z3.out; have z4_ := z4.out; have z5_ := z5.out; have z6_ := z6.out; have z7_ := z7.out; have z8_ := z8.out; have z9_ := z9.out; have z10_ := z10.out; have z11_ := z11.out; have z12_ := z12.out; have z13_ := z13.out; have z14_ := z14.out; have z15_ := z15.out; have z16_ := z16.out; have z17_ := z17.out; have z18_ := z18.out; have z19_ := z19.out; have z20_ := z20.out; have z21_ := z21.out; have z22_ := z22.out; have z23_ := z23.out; (try simp only [World.size_alloc]); omega) HO18.out); replace HO10 := Aside0.mk ho; clear ho hg hb) | (replace st := stg_next 19 20 st; go_at_call 21; refine (eqInt64S _ _ r0 r0 _ HO11.out.read HO5.out.read).mono ?_; rintro e w25 ⟨rfl, hb⟩; rw [beq_self_eq_true]; have z25 := Aside0.mk hb.size; replace HB := Aside0.belowC HB hb; replace c0a := pw_cell_below hb c0a; replace c0b := pw_cell_below hb c0b; replace c1a := pw_cell_below hb c1a; replace c1b := pw_cell_below hb c1b; replace c2a := pw_cell_below hb c2a; replace c2b := pw_cell_below hb c2b; replace c100 := pw_cell_below hb c100; replace c101 := pw_cell_below hb c101; replace c102 := pw_cell_below hb c102; replace c103 := pw_cell_below hb c103; replace c104 := pw_cell_below hb c104; replace c105 := pw_cell_below hb c105; replace HO5 := Aside0.own HO5 hb; replace HO6 := Aside0.own HO6 hb; replace HO7 := Aside0.own HO7 hb; replace HO8 := Aside0.own HO8 hb; replace HO9 := Aside0.own HO9 hb; replace HO10 := Aside0.own HO10 hb; replace HO11 := Aside0.own HO11 hb; replace HO16 := Aside0.own HO16 hb; replace HO18 := Aside0.own HO18 hb; clear hb) | (replace st := stg_next 20 21 st; go_at_call 25; have hl_ : r0.length ≤ 1073741824 := lenR; refine (markInt64S _ _ r0 (1) _ HO11.out (by omega) hl_).mono ?_; rintro e w26 ⟨rfl, ho, hg, hb⟩; clear hl_; have z26 := Aside0.mk hg.size; replace HB := Aside0.mk (HB.out.trans (hb.mono (by have hbs_ := HBS.out; have z2_ := z2.out; have z3_ := z3.out; have z4_ := z4.out; have z5_ := z5.out; have z6_ := z6.out; have z7_ := z7.out; have z8_ := z8.out; have z9_ := z9.out; have z10_ := z10.out; have z11_ := z11.out; have z12_ := z12.out; have z13_ := z13.out; have z14_ := z14.out; have z15_ := z15.out; have z16_ := z16.out; have z17_ := z17.out; have z18_ := z18.out; have z19_ := z19.out; have z20_ := z20.out; have z21_ := z21.out; have z22_ := z22.out; have z23_ := z23.out; have z24_ := z24.out; have z25_ := z25.out; (try simp only [World.size_alloc]); omega))); replace c0a := cell_grown hg RG11.out (by have hbs_ := HBS.out; have z2_ := z2.out; have z3_ := z3.out; have z4_ := z4.out; have z5_ := z5.out; have z6_ := z6.out; have z7_ := z7.out; have z8_ := z8.out; have z9_ := z9.out; have z10_ := z10.out; have z11_ := z11.out; have z12_ := z12.out; have z13_ := z13.out; have z14_ := z14.out; have z15_ := z15.out; have z16_ := z16.out; have z17_ := z17.out; have z18_ := z18.out; have z19_ := z19.out; have z20_ := z20.out; have z21_ := z21.out; have z22_ := z22.out; have z23_ := z23.out; have z24_ := z24.out; have z25_ := z25.out; (try dsimp only); (try simp only [World.size_alloc]); omega) c0a; replace c0b := cell_grown hg RG11.out (by have hbs_ := HBS.out; have z2_ := z2.out; have z3_ := z3.out; have z4_ := z4.out; have z5_ := z5.out; have z6_ := z6.out; have z7_ := z7.out; have z8_ := z8.out; have z9_ := z9.out; have z10_ := z10.out; have z11_ := z11.out; have z12_ := z12.out; have z13_ := z13.out; have z14_ := z14.out; have z15_ := z15.out; have z16_ := z16.out; have z17_ := z17.out; have z18_ := z18.out; have z19_ := z19.out; have z20_ := z20.out; have z21_ := z21.out; have z22_ := z22.out; have z23_ := z23.out; have z24_ := z24.out; have z25_ := z25.out; (try dsimp only); (try simp only [World.size_alloc]); omega) c0b; replace c1a := cell_grown hg RG11.out (by have hbs_ := HBS.out; have z2_ := z2.out; have z3_ := z3.out; have z4_ := z4.out; have z5_ := z5.out; have z6_ := z6.out; have z7_ := z7.out; have z8_ := z8.out; have z9_ := z9.out; have z10_ := z10.out; have z11_ := z11.out; have z12_ := z12.out; have z13_ := z13.out; have z14_ := z14.out; have z15_ := z15.out; have z16_ := z16.out; have z17_ := z17.out; have z18_ := z18.out; have z19_ := z19.out; have z20_ := z20.out; have z21_ := z21.out; have z22_ := z22.out; have z23_ := z23.out; have z24_ := z24.out; have z25_ := z25.out; (try dsimp only); (try simp only [World.size_alloc]); omega) c1a; replace c1b := cell_grown hg RG11.out (by have hbs_ := HBS.out; have z2_ := z2.out; have z3_ := z3.out; have z4_ := z4.out; have z5_ := z5.out; have z6_ := z6.out; have z7_ := z7.out; have z8_ := z8.out; have z9_ := z9.out; have z10_ := z10.out; have z11_ := z11.out; have z12_ := z12.out; have z13_ := z13.out; have z14_ := z14.out; have z15_ := z15.out; have z16_ := z16.out; have z17_ := z17.out; have z18_ := z18.out; have z19_ := z19.out; have z20_ := z20.out; have z21_ := z21.out; have z22_ := z22.out; have z23_ := z23.out; have z24_ := z24.out; have z25_ := z25.out; (try dsimp only); (try simp only [World.size_alloc]); omega) c1b; replace c2a := cell_grown hg RG11.out (by have hbs_ := HBS.out; have z2_ := z2.out; have z3_ := z3.out; have z4_ := z4.out; have z5_ := z5.out; have z6_ := z6.out; have z7_ := z7.out; have z8_ := z8.out; have z9_ := z9.out; have z10_ := z10.out; have z11_ := z11.out; have z12_ := z12.out; have z13_ := z13.out; have z14_ := z14.out; have z15_ := z15.out; have z16_ := z16.out; have z17_ := z17.out; have z18_ := z18.out; have z19_ := z19.out; have z20_ := z20.out; have z21_ := z21.out; have z22_ := z22.out; have z23_ := z23.out; have z24_ := z24.out; have z25_ := z25.out; (try dsimp only); (try simp only [World.size_alloc]); omega) c2a; replace c2b := cell_grown hg RG11.out (by have hbs_ := HBS.out; have z2_ := z2.out; have z3_ := z3.out; have z4_ := z4.out; have z5_ := z5.out; have z6_ := z6.out; have z7_ := z7.out; have z8_ := z8.out; have z9_ := z9.out; have z10_ := z10.out; have z11_ := z11.out; have z12_ := z12.out; have z13_ := z13.out; have z14_ := z14.out; have z15_ := z15.out; have z16_ := z16.out; have z17_ := z17.out; have z18_ := z18.out; have z19_ := z19.out; have z20_ := z20.out; have z21_ := z21.out; have z22_ := z22.out; have z23_ := z23.out; have z24_ := z24.out; have z25_ := z25.out; (try dsimp only); (try simp only [World.size_alloc]); omega) c2b; replace c100 := cell_grown hg RG11.out (by have hbs_ := HBS.out; have z2_ := z2.out; have z3_ := z3.out; have z4_ := z4.out; have z5_ := z5.out; have z6_ := z6.out; have z7_ := z7.out; have z8_ := z8.out; have z9_ := z9.out; have z10_ := z10.out; have z11_ := z11.out; have z12_ := z12.out; have z13_ := z13.out; have z14_ := z14.out; have z15_ := z15.out; have z16_ := z16.out; have z17_ := z17.out; have z18_ := z18.out; have z19_ := z19.out; have z20_ := z20.out; have z21_ := z21.out; have z22_ := z22.out; have z23_ := z23.out; have z24_ := z24.out; have z25_ := z25.out; (try dsimp only); (try simp only [World.size_alloc]); omega) c100; replace c101 := cell_grown hg RG11.out (by have hbs_ := HBS.out; have z2_ := z2.out; have z3_ := z3.out; have z4_ := z4.out; have z5_ := z5.out; have z6_ := z6.out; have z7_ := z7.out; have z8_ := z8.out; have z9_ := z9.out; have z10_ := z10.out; have z11_ := z11.out; have z12_ := z12.out; have z13_ := z13.out; have z14_ := z14.out; have z15_ := z15.out; have z16_ := z16.out; have z17_ := z17.out; have z18_ := z18.out; have z19_ := z19.out; have z20_ := z20.out; have z21_ := z21.out; have z22_ := z22.out; have z23_ := z23.out; have z24_ := z24.out; have z25_ := z25.out; (try dsimp only); (try simp only [World.size_alloc]); omega) c101; replace c102 := cell_grown hg RG11.out (by have hbs_ := HBS.out; have z2_ := z2.out; have z3_ := z3.out; have z4_ := z4.out; have z5_ := z5.out; have z6_ := z6.out; have z7_ := z7.out; have z8_ := z8.out; have z9_ := z9.out; have z10_ := z10.out; have z11_ := z11.out; have z12_ := z12.out; have z13_ := z13.out; have z14_ := z14.out; have z15_ := z15.out; have z16_ := z16.out; have z17_ := z17.out; have z18_ := z18.out; have z19_ := z19.out; have z20_ := z20.out; have z21_ := z21.out; have z22_ := z22.out; have z23_ := z23.out; have z24_ := z24.out; have z25_ := z25.out; (try dsimp only); (try simp only [World.size_alloc]); omega) c102; replace c103 := cell_grown hg RG11.out (by have hbs_ := HBS.out; have z2_ := z2.out; have z3_ := z3.out; have z4_ := z4.out; have z5_ := z5.out; have z6_ := z6.out; have z7_ := z7.out; have z8_ := z8.out; have z9_ := z9.out; have z10_ := z10.out; have z11_ := z11.out; have z12_ := z12.out; have z13_ := z13.out; have z14_ := z14.out; have z15_ := z15.out; have z16_ := z16.out; have z17_ := z17.out; have z18_ := z18.out; have z19_ := z19.out; have z20_ := z20.out; have z21_ := z21.out; have z22_ := z22.out; have z23_ := z23.out; have z24_ := z24.out; have z25_ := z25.out; (try dsimp only); (try simp only [World.size_alloc]); omega) c103; replace c104 := cell_grown hg RG11.out (by have hbs_ := HBS.out; have z2_ := z2.out; have z3_ := z3.out; have z4_ := z4.out; have z5_ := z5.out; have z6_ := z6.out; have z7_ := z7.out; have z8_ := z8.out; have z9_ := z9.out; have z10_ := z10.out; have z11_ := z11.out; have z12_ := z12.out; have z13_ := z13.out; have z14_ := z14.out; have z15_ := z15.out; have z16_ := z16.out; have z17_ := z17.out; have z18_ := z18.out; have z19_ := z19.out; have z20_ := z20.out; have z21_ := z21.out; have z22_ := z22.out; have z23_ := z23.out; have z24_ := z24.out; have z25_ := z25.out; (try dsimp only); (try simp only [World.size_alloc]); omega) c104; replace c105 := cell_grown hg RG11.out (by have hbs_ := HBS.out; have z2_ := z2.out; have z3_ := z3.out; have z4_ := z4.out; have z5_ := z5.out; have z6_ := z6.out; have z7_ := z7.out; have z8_ := z8.out; have z9_ := z9.out; have z10_ := z10.out; have z11_ := z11.out; have z12_ := z12.out; have z13_ := z13.out; have z14_ := z14.out; have z15_ := z15.out; have z16_ := z16.out; have z17_ := z17.out; have z18_ := z18.out; have z19_ := z19.out; have z20_ := z20.out; have z21_ := z21.out; have z22_ := z22.out; have z23_ := z23.out; have z24_ := z24.out; have z25_ := z25.out; (try dsimp only); (try simp only [World.size_alloc]); omega) c105; replace HO5 := Aside0.mk (own_grown hg RG11.out RG5.out (by have hbs_ := HBS.out; have z2_ := z2.out; have z3_ := z3.out; have z4_ := z4.out; have z5_ := z5.out; have z6_ := z6.out; have z7_ := z7.out; have z8_ := z8.out; have z9_ := z9.out; have z10_ := z10.out; have z11_ := z11.out; have z12_ := z12.out; have z13_ := z13.out; have z14_ := z14.out; have z15_ := z15.out; have z16_ := z16.out; have z17_ := z17.out; have z18_ := z18.out; have z19_ := z19.out; have z20_ := z20.out; have z21_ := z21.out; have z22_ := z22.out; have z23_ := z23.out; have z24_ := z24.out; have z25_ := z25.out; (try simp only [World.size_alloc]); omega) HO5.out); replace HO6 := Aside0.mk (own_grown hg RG11.out RG6.out (by have hbs_ := HBS.out; have z2_ := z2.out; have z3_ := z3.out; have z4_ := z4.out; have z5_ := z5.out; have z6_ := z6.out; have z7_ := z7.out; have z8_ := z8.out; have z9_ := z9.out; have z10_ := z10.out; have z11_ := z11.out; have z12_ := z12.out; have z13_ := z13.out; have z14_ := z14.out; have z15_ := z15.out; have z16_ := z16.out; have z17_ := z17.out; have z18_ := z18.out; have z19_ := z19.out; have z20_ := z20.out; have z21_ := z21.out; have z22_ := z22.out; have z23_ := z23.out; have z24_ := z24.out; have z25_ := z25.out; (try simp only [World.size_alloc]); omega) HO6.out); replace HO7 := Aside0.mk (own_grown hg RG11.out RG7.out (by have hbs_ := HBS.out; have z2_ := z2.out; have z3_ := z3.out; have z4_ := z4.out; have z5_ := z5.out; have z6_ := z6.out; have z7_ := z7.out; have z8_ := z8.out; have z9_ := z9.out; have z10_ := z10.out; have z11_ := z11.out; have z12_ := z12.out; have z13_ := z13.out; have z14_ := z14.out; have z15_ := z15.out; have z16_ := z16.out; have z17_ := z17.out; have z18_ := z18.out; have z19_ := z19.out; have z20_ := z20.out; have z21_ := z21.out; have z22_ := z22.out; have z23_ := z23.out; have z24_ := z24.out; have z25_ := z25.out; (try simp only [World.size_alloc]); omega) HO7.out); replace HO8 := Aside0.mk (own_grown hg RG11.out RG8.out (by have hbs_ := HBS.out; have z2_ := z2.out; have z3_ := z3.out; have z4_ := z4.out; have z5_ := z5.out; have z6_ := z6.out; have z7_ := z7.out; have z8_ := z8.out; have z9_ := z9.out; have z10_ := z10.out; have z11_ := z11.out; have z12_ := z12.out; have z13_ := z13.out; have z14_ := z14.out; have z15_ := z15.out; have z16_ := z16.out; have z17_ := z17.out; have z18_ := z18.out; have z19_ := z19.out; have z20_ := z20.out; have z21_ := z21.out; have z22_ := z22.out; have z23_ := z23.out; have z24_ := z24.out; have z25_ := z25.out; (try simp only [World.size_alloc]); omega) HO8.out); replace HO9 := Aside0.mk (own_grown hg RG11.out RG9.out (by have hbs_ := HBS.out; have z2_ := z2.out; have z3_ := z3.out; have z4_ := z4.out; have z5_ := z5.out; have z6_ := z6.out; have z7_ := z7.out; have z8_ := z8.out; have z9_ := z9.out; have z10_ := z10.out; have z11_ := z11.out; have z12_ := z12.out; have z13_ := z13.out; have z14_ := z14.out; have z15_ := z15.out; have z16_ := z16.out; have z17_ := z17.out; have z18_ := z18.out; have z19_ := z19.out; have z20_ := z20.out; have z21_ := z21.out; have z22_ := z22.out; have z23_ := z23.out; have z24_ := z24.out; have z25_ := z25.out; (try simp only [World.size_alloc]); omega) HO9.out); replace HO10 := Aside0.mk (own_grown hg RG11.out RG10.out (by have hbs_ := HBS.out; have z2_ := z2.out; have z3_ := z3.out; have z4_ := z4.out; have z5_ := z5.out; have z6_ := z6.out; have z7_ := z7.out; have z8_ := z8.out; have z9_ := z9.out; have z10_ := z10.out; have z11_ := z11.out; have z12_ := z12.out; have z13_ := z13.out; have z14_ := z14.out; have z15_ := z15.out; have z16_ := z16.out; have z17_ := z17.out; have z18_ := z18.out; have z19_ := z19.out; have z20_ := z20.out; have z21_ := z21.out; have z22_ := z22.out; have z23_ := z23.out; have z24_ := z24.out; have z25_ := z25.out; (try simp only [World.size_alloc]); omega) HO10.out); replace HO16 := Aside0.mk (own_grown hg RG11.out RG16.out (by have hbs_ := HBS.out; have z2_ := z2.out; have z3_ := z3.out; have z4_ := z4.out; have z5_ := z5.out; have z6_ := z6.out; have z7_ := z7.out; have z8_ := z8.out; have z9_ := z9.out; have z10_ := z10.out; have z11_ := z11.out; have z12_ := z12.out; have z13_ := z13.out; have z14_ := z14.out; have z15_ := z15.out; have z16_ := z16.out; have z17_ := z17.out; have z18_ := z18.out; have z19_ := z19.out; have z20_ := z20.out; have z21_ := z21.out; have z22_ := z22.out; have z23_ := z23.out; have z24_ := z24.out; have z25_ := z25.out; (try simp only [World.size_alloc]); omega) HO16.out); replace HO18 := Aside0.mk (own_grown hg RG11.out RG18.out (by have hbs_ := HBS.out; have z2_ := z2.out; have z3_ := z3.out; have z4_ := z4.out; have z5_ := z5.out; have z6_ := z6.out; have z7_ := z7.out; have z8_ := z8.out; have z9_ := z9.out; have z10_ := z10.out; have z11_ := z11.out; have z12_ := z12.out; have z13_ := z13.out; have z14_ := z14.out; have z15_ := z15.out; have z16_ := z16.out; have z17_ := z17.out; have z18_ := z18.out; have z19_ := z19.out; have z20_ := z20.out; have z21_ := z21.out; have z22_ := z22.out; have z23_ := z23.out; have z24_ := z24.out; have z25_ := z25.out; (try simp only [World.size_alloc]); omega) HO18.out); replace HO11 := Aside0.mk ho; clear ho hg hb) | (replace st := stg_next 21 22 st; go_at_call 26; have hl_ : r0.length ≤ 1073741824 := lenR; refine (heldInt64S _ (1) r0.length _ HO11.out.read (by omega) hl_).mono ?_; rintro e w27 ⟨rfl, hb⟩; clear hl_; have z27 := Aside0.mk hb.size; replace HB := Aside0.belowC HB hb; replace c0a := pw_cell_below hb c0a; replace c0b := pw_cell_below hb c0b; replace c1a := pw_cell_below hb c1a; replace c1b := pw_cell_below hb c1b; replace c2a := pw_cell_below hb c2a; replace c2b := pw_cell_below hb c2b; replace c100 := pw_cell_below hb c100; replace c101 := pw_cell_below hb c101; replace c102 := pw_cell_below hb c102; replace c103 := pw_cell_below hb c103; replace c104 := pw_cell_below hb c104; replace c105 := pw_cell_below hb c105; replace HO5 := Aside0.own HO5 hb; replace HO6 := Aside0.own HO6 hb; replace HO7 := Aside0.own HO7 hb; replace HO8 := Aside0.own HO8 hb; replace HO9 := Aside0.own HO9 hb; replace HO10 := Aside0.own HO10 hb; replace HO11 := Aside0.own HO11 hb; replace HO16 := Aside0.own HO16 hb; replace HO18 := Aside0.own HO18 hb; clear hb))
                    refine wp_region_phi (fun i => match i with | 0 => fun v _ => v = .agg #[.int .i64 a0, .slice A0 l0.length d0] | 1 => fun v W => ∃ u, v = .agg #[.int .i64 a0, u] ∧ OwnI w27.heap.size W u l0 | 2 => fun v _ => v = .agg #[.int .i64 a1, .slice A1 l1.length d1] | 3 => fun v W => ∃ u, v = .agg #[.int .i64 a1, u] ∧ OwnI w27.heap.size W u l1 | 4 => fun v _ => v = .agg #[.int .i64 a2, .slice A2 l2.length d2] | 5 => fun v W => ∃ u, v = .agg #[.int .i64 a2, u] ∧ OwnI w27.heap.size W u l2 | 6 => fun v _ => v = .slice A3 l3.length d3 | 7 => fun v W => OwnI w27.heap.size W v l3 | 8 => fun v _ => v = .slice A4 l4.length d4 | 9 => fun v W => OwnI w27.heap.size W v l4 | 10 => fun v W => ∃ u, v = .tuple #[u, .int .i64 r1] ∧ OwnI w27.heap.size W u r0 | 11 => fun v W => ∃ u, v = .tuple #[u, .int .i64 r1] ∧ OwnI w27.heap.size W u r0 | 12 => fun v W => OwnI w27.heap.size W v r0 | 13 => fun v _ => v = .int .i64 r1 | 14 => fun v W => OwnI w27.heap.size W v r0 | 15 => fun v _ => v = .int .i64 r1 | _ => fun _ _ => True)
                      [0, 1, 0, 7, 0, 31, 0, 127, 0, 511, 1023, 2047, 4095, 4095, 8191, 32767] hmx (by kernel_rfl) ?st ?steps ?rest
                    case st =>
                      intro i v w1_ w2_ hb
                      match i with
                      | 0 | 2 | 4 | 6 | 8 | 13 | 15 => exact id
                      | 1 | 3 | 5 | 10 | 11 => exact fun ⟨u, e, ho⟩ => ⟨u, e, ho.below hb⟩
                      | 7 | 9 | 12 | 14 => exact fun ho => OwnI.below ho hb
                      | n + 16 => exact id
                    case steps =>
                      refine ⟨?_, ?_, ?_, ?_, ?_, ?_, ?_, ?_, ?_, ?_, ?_, ?_, ?_, ?_, ?_, ?_, trivial⟩
                      · intro s w_ hb hd R hR
                        generalize hA : putAll _ 0 s _ = A
                        have c0a := pw_cell_below hb c0a
                        have c0b := pw_cell_below hb c0b
                        have hR' := hR (.agg #[.int .i64 a0, .slice A0 l0.length d0]) _ (Below.refl _ _) (rfl)
                        clear hR hd
                        refine opGives_value ?_ hR'
                        subst hA
                        simp only [dsOf, List.map_cons, List.map_nil, Option.getD_some, putAll, Act.put, List.setIfInBounds_toArray, List.set_cons_zero, List.set_cons_succ]
                        go_simp
                      · intro s w_ hb hd R hR
                        generalize hA : putAll _ 0 s _ = A
                        have e0 : s 0 = _ := hd 0 (by kernel_rfl)
                        have hs := hb.size
                        refine opGives_call (f := 17) (args := #[.agg #[.int .i64 a0, .slice A0 l0.length d0]]) ?_ ?_
                        · subst hA
                          clear hR hd
                          simp only [dsOf, List.map_cons, List.map_nil, Option.getD_some, putAll, Act.put, List.setIfInBounds_toArray, List.set_cons_zero, List.set_cons_succ]
                          go_simp
                        clear hA A
                        refine (toComplex _ _ l0 w_ (ReadI.below H0.out (HB.out.trans (hb.mono HB.out.size))) (by omega)).mono ?_
                        rintro e w__ ⟨u, rfl, ho, hb5⟩
                        exact ⟨_, rfl, hR _ _ hb5 ⟨u, rfl, ho.lower hs⟩⟩
                      · intro s w_ hb hd R hR
                        generalize hA : putAll _ 0 s _ = A
                        have c1a := pw_cell_below hb c1a
                        have c1b := pw_cell_below hb c1b
                        have hR' := hR (.agg #[.int .i64 a1, .slice A1 l1.length d1]) _ (Below.refl _ _) (rfl)
                        clear hR hd
                        refine opGives_value ?_ hR'
                        subst hA
                        simp only [dsOf, List.map_cons, List.map_nil, Option.getD_some, putAll, Act.put, List.setIfInBounds_toArray, List.set_cons_zero, List.set_cons_succ]
                        go_simp
                      · intro s w_ hb hd R hR
                        generalize hA : putAll _ 0 s _ = A
                        have e2 : s 2 = _ := hd 2 (by kernel_rfl)
                        have hs := hb.size
                        refine opGives_call (f := 17) (args := #[.agg #[.int .i64 a1, .slice A1 l1.length d1]]) ?_ ?_
                        · subst hA
                          clear hR hd
                          simp only [dsOf, List.map_cons, List.map_nil, Option.getD_some, putAll, Act.put, List.setIfInBounds_toArray, List.set_cons_zero, List.set_cons_succ]
                          go_simp
                        clear hA A
                        refine (toComplex _ _ l1 w_ (ReadI.below H1.out (HB.out.trans (hb.mono HB.out.size))) (by omega)).mono ?_
                        rintro e w__ ⟨u, rfl, ho, hb5⟩
                        exact ⟨_, rfl, hR _ _ hb5 ⟨u, rfl, ho.lower hs⟩⟩
                      · intro s w_ hb hd R hR
                        generalize hA : putAll _ 0 s _ = A
                        have c2a := pw_cell_below hb c2a
                        have c2b := pw_cell_below hb c2b
                        have hR' := hR (.agg #[.int .i64 a2, .slice A2 l2.length d2]) _ (Below.refl _ _) (rfl)
                        clear hR hd
                        refine opGives_value ?_ hR'
                        subst hA
                        simp only [dsOf, List.map_cons, List.map_nil, Option.getD_some, putAll, Act.put, List.setIfInBounds_toArray, List.set_cons_zero, List.set_cons_succ]
                        go_simp
                      · intro s w_ hb hd R hR
                        generalize hA : putAll _ 0 s _ = A
                        have e4 : s 4 = _ := hd 4 (by kernel_rfl)
                        have hs := hb.size
                        refine opGives_call (f := 17) (args := #[.agg #[.int .i64 a2, .slice A2 l2.length d2]]) ?_ ?_
                        · subst hA
                          clear hR hd
                          simp only [dsOf, List.map_cons, List.map_nil, Option.getD_some, putAll, Act.put, List.setIfInBounds_toArray, List.set_cons_zero, List.set_cons_succ]
                          go_simp
                        clear hA A
                        refine (toComplex _ _ l2 w_ (ReadI.below H2.out (HB.out.trans (hb.mono HB.out.size))) (by omega)).mono ?_
                        rintro e w__ ⟨u, rfl, ho, hb5⟩
                        exact ⟨_, rfl, hR _ _ hb5 ⟨u, rfl, ho.lower hs⟩⟩
                      · intro s w_ hb hd R hR
                        generalize hA : putAll _ 0 s _ = A
                        have hR' := hR (.slice A3 l3.length d3) _ (Below.refl _ _) (rfl)
                        clear hR hd
                        refine opGives_value ?_ hR'
                        subst hA
                        simp only [dsOf, List.map_cons, List.map_nil, Option.getD_some, putAll, Act.put, List.setIfInBounds_toArray, List.set_cons_zero, List.set_cons_succ]
                        go_simp
                      · intro s w_ hb hd R hR
                        generalize hA : putAll _ 0 s _ = A
                        have e6 : s 6 = _ := hd 6 (by kernel_rfl)
                        have hs := hb.size
                        refine opGives_call (f := 18) (args := #[.slice A3 l3.length d3]) ?_ ?_
                        · subst hA
                          clear hR hd
                          simp only [dsOf, List.map_cons, List.map_nil, Option.getD_some, putAll, Act.put, List.setIfInBounds_toArray, List.set_cons_zero, List.set_cons_succ]
                          go_simp
                        clear hA A
                        refine (toInt64S _ l3 w_ (ReadI.below H3.out (HB.out.trans (hb.mono HB.out.size))) (by omega)).mono ?_
                        rintro e w__ ⟨u, rfl, ho, hb5⟩
                        exact ⟨_, rfl, hR _ _ hb5 (ho.lower hs)⟩
                      · intro s w_ hb hd R hR
                        generalize hA : putAll _ 0 s _ = A
                        have hR' := hR (.slice A4 l4.length d4) _ (Below.refl _ _) (rfl)
                        clear hR hd
                        refine opGives_value ?_ hR'
                        subst hA
                        simp only [dsOf, List.map_cons, List.map_nil, Option.getD_some, putAll, Act.put, List.setIfInBounds_toArray, List.set_cons_zero, List.set_cons_succ]
                        go_simp
                      · intro s w_ hb hd R hR
                        generalize hA : putAll _ 0 s _ = A
                        have e8 : s 8 = _ := hd 8 (by kernel_rfl)
                        have hs := hb.size
                        refine opGives_call (f := 18) (args := #[.slice A4 l4.length d4]) ?_ ?_
                        · subst hA
                          clear hR hd
                          simp only [dsOf, List.map_cons, List.map_nil, Option.getD_some, putAll, Act.put, List.setIfInBounds_toArray, List.set_cons_zero, List.set_cons_succ]
                          go_simp
                        clear hA A
                        refine (toInt64S _ l4 w_ (ReadI.below H4.out (HB.out.trans (hb.mono HB.out.size))) (by omega)).mono ?_
                        rintro e w__ ⟨u, rfl, ho, hb5⟩
                        exact ⟨_, rfl, hR _ _ hb5 (ho.lower hs)⟩
                      · intro s w_ hb hd R hR
                        generalize hA : putAll _ 0 s _ = A
                        obtain ⟨u1, e1, o1⟩ : ∃ u, s 1 = _ ∧ OwnI _ _ u l0 := hd 1 (by kernel_rfl)
                        obtain ⟨u3, e3, o3⟩ : ∃ u, s 3 = _ ∧ OwnI _ _ u l1 := hd 3 (by kernel_rfl)
                        obtain ⟨u5, e5, o5⟩ : ∃ u, s 5 = _ ∧ OwnI _ _ u l2 := hd 5 (by kernel_rfl)
                        have o7 : OwnI _ _ (s 7) l3 := hd 7 (by kernel_rfl)
                        have o9 : OwnI _ _ (s 9) l4 := hd 9 (by kernel_rfl)
                        have hs := hb.size
                        refine opGives_call (f := 23) (args := #[.agg #[.int .i64 a0, u1], .agg #[.int .i64 a1, u3], .agg #[.int .i64 a2, u5], s 7, s 9]) ?_ ?_
                        · subst hA
                          clear hR hd
                          simp only [dsOf, List.map_cons, List.map_nil, Option.getD_some, putAll, Act.put, List.setIfInBounds_toArray, List.set_cons_zero, List.set_cons_succ]
                          go_simp
                        clear hA A
                        refine (implComposeMaps a0 _ l0 a1 _ l1 a2 _ l2 _ l3 _ l4 w_ o1.read o3.read o5.read o7.read o9.read).mono ?_
                        rw [← HRr0.out, ← HRr1.out]
                        rintro e w__ ⟨u, rfl, ho, hb5⟩
                        exact ⟨_, rfl, hR _ _ hb5 ⟨u, rfl, ho.lower hs⟩⟩
                      · intro s w_ hb hd R hR
                        generalize hA : putAll _ 0 s _ = A
                        obtain ⟨u10, e10, o10⟩ : ∃ u, s 10 = _ ∧ OwnI _ _ u r0 := hd 10 (by kernel_rfl)
                        have hR' := hR (.tuple #[u10, .int .i64 r1]) _ (Below.refl _ _) (⟨u10, rfl, o10⟩)
                        clear hR hd
                        refine opGives_value ?_ hR'
                        subst hA
                        simp only [dsOf, List.map_cons, List.map_nil, Option.getD_some, putAll, Act.put, List.setIfInBounds_toArray, List.set_cons_zero, List.set_cons_succ]
                        go_simp
                      · intro s w_ hb hd R hR
                        generalize hA : putAll _ 0 s _ = A
                        obtain ⟨u11, e11, o11⟩ : ∃ u, s 11 = _ ∧ OwnI _ _ u r0 := hd 11 (by kernel_rfl)
                        have hR' := hR (u11) _ (Below.refl _ _) (o11)
                        clear hR hd
                        refine opGives_value ?_ hR'
                        subst hA
                        simp only [dsOf, List.map_cons, List.map_nil, Option.getD_some, putAll, Act.put, List.setIfInBounds_toArray, List.set_cons_zero, List.set_cons_succ]
                        go_simp
                      · intro s w_ hb hd R hR
                        generalize hA : putAll _ 0 s _ = A
                        obtain ⟨u11, e11, o11⟩ : ∃ u, s 11 = _ ∧ OwnI _ _ u r0 := hd 11 (by kernel_rfl)
                        have hR' := hR (.int .i64 r1) _ (Below.refl _ _) (rfl)
                        clear hR hd
                        refine opGives_value ?_ hR'
                        subst hA
                        simp only [dsOf, List.map_cons, List.map_nil, Option.getD_some, putAll, Act.put, List.setIfInBounds_toArray, List.set_cons_zero, List.set_cons_succ]
                        go_simp
                      · intro s w_ hb hd R hR
                        generalize hA : putAll _ 0 s _ = A
                        have o12 : OwnI _ _ (s 12) r0 := hd 12 (by kernel_rfl)
                        have hR' := hR (s 12) _ (Below.refl _ _) (o12)
                        clear hR hd
                        refine opGives_value ?_ hR'
                        subst hA
                        simp only [dsOf, List.map_cons, List.map_nil, Option.getD_some, putAll, Act.put, List.setIfInBounds_toArray, List.set_cons_zero, List.set_cons_succ]
                        go_simp
                      · intro s w_ hb hd R hR
                        generalize hA : putAll _ 0 s _ = A
                        have e13 : s 13 = _ := hd 13 (by kernel_rfl)
                        have hR' := hR (.int .i64 r1) _ (Below.refl _ _) (rfl)
                        clear hR hd
                        refine opGives_value ?_ hR'
                        subst hA
                        simp only [dsOf, List.map_cons, List.map_nil, Option.getD_some, putAll, Act.put, List.setIfInBounds_toArray, List.set_cons_zero, List.set_cons_succ]
                        go_simp
                    case rest =>
                      intro s28 w28 hb hv
                      have ho : OwnI _ _ (s28 14) r0 := hv 14 (by decide)
                      obtain ⟨A_28, d_28, e14_, -⟩ := ho.read
                      rw [e14_] at ho
                      have RG28 := Aside0.mk (fun k hk => And.intro (ho.base k hk) (ho.lt k hk))
                      have e15_ : s28 15 = _ := hv 15 (by decide)
                      simp only [dsOf, List.map_cons, List.map_nil, Option.getD_some, putAll, Act.put, List.setIfInBounds_toArray, List.set_cons_zero, List.set_cons_succ]
                      rw [e14_, e15_]
                      clear hv e14_ e15_
                      have z28 := Aside0.mk hb.size
                      replace HB := Aside0.belowC HB hb
                      replace c0a := pw_cell_below hb c0a
                      replace c0b := pw_cell_below hb c0b
                      replace c1a := pw_cell_below hb c1a
                      replace c1b := pw_cell_below hb c1b
                      replace c2a := pw_cell_below hb c2a
                      replace c2b := pw_cell_below hb c2b
                      replace c100 := pw_cell_below hb c100
                      replace c101 := pw_cell_below hb c101
                      replace c102 := pw_cell_below hb c102
                      replace c103 := pw_cell_below hb c103
                      replace c104 := pw_cell_below hb c104
                      replace c105 := pw_cell_below hb c105
                      replace HO5 := Aside0.own HO5 hb
                      replace HO6 := Aside0.own HO6 hb
                      replace HO7 := Aside0.own HO7 hb
                      replace HO8 := Aside0.own HO8 hb
                      replace HO9 := Aside0.own HO9 hb
                      replace HO10 := Aside0.own HO10 hb
                      replace HO11 := Aside0.own HO11 hb
                      replace HO16 := Aside0.own HO16 hb
                      replace HO18 := Aside0.own HO18 hb
                      clear hb
                      have HO28 := Aside0.mk ho
                      clear ho
                      go_wp2_with (first | (replace st := stg_next 22 23 st; go_at_call 21; refine (eqInt64S _ _ r0 r0 _ HO28.out.read HO5.out.read).mono ?_; rintro e w29 ⟨rfl, hb⟩; rw [beq_self_eq_true]; have z29 := Aside0.mk hb.size; replace HB := Aside0.belowC HB hb; replace c0a := pw_cell_below hb c0a; replace c0b := pw_cell_below hb c0b; replace c1a := pw_cell_below hb c1a; replace c1b := pw_cell_below hb c1b; replace c2a := pw_cell_below hb c2a; replace c2b := pw_cell_below hb c2b; replace c100 := pw_cell_below hb c100; replace c101 := pw_cell_below hb c101; replace c102 := pw_cell_below hb c102; replace c103 := pw_cell_below hb c103; replace c104 := pw_cell_below hb c104; replace c105 := pw_cell_below hb c105; replace HO5 := Aside0.own HO5 hb; replace HO6 := Aside0.own HO6 hb; replace HO7 := Aside0.own HO7 hb; replace HO8 := Aside0.own HO8 hb; replace HO9 := Aside0.own HO9 hb; replace HO10 := Aside0.own HO10 hb; replace HO11 := Aside0.own HO11 hb; replace HO16 := Aside0.own HO16 hb; replace HO18 := Aside0.own HO18 hb; replace HO28 := Aside0.own HO28 hb; clear hb) | (replace st := stg_next 23 24 st; go_at_call 26; have hl_ : r0.length ≤ 1073741824 := lenR; refine (heldInt64S _ (1) r0.length _ HO11.out.read (by omega) hl_).mono ?_; rintro e w30 ⟨rfl, hb⟩; clear hl_; have z30 := Aside0.mk hb.size; replace HB := Aside0.belowC HB hb; replace c0a := pw_cell_below hb c0a; replace c0b := pw_cell_below hb c0b; replace c1a := pw_cell_below hb c1a; replace c1b := pw_cell_below hb c1b; replace c2a := pw_cell_below hb c2a; replace c2b := pw_cell_below hb c2b; replace c100 := pw_cell_below hb c100; replace c101 := pw_cell_below hb c101; replace c102 := pw_cell_below hb c102; replace c103 := pw_cell_below hb c103; replace c104 := pw_cell_below hb c104; replace c105 := pw_cell_below hb c105; replace HO5 := Aside0.own HO5 hb; replace HO6 := Aside0.own HO6 hb; replace HO7 := Aside0.own HO7 hb; replace HO8 := Aside0.own HO8 hb; replace HO9 := Aside0.own HO9 hb; replace HO10 := Aside0.own HO10 hb; replace HO11 := Aside0.own HO11 hb; replace HO16 := Aside0.own HO16 hb; replace HO18 := Aside0.own HO18 hb; replace HO28 := Aside0.own HO28 hb; clear hb))
                      go_ret
                      exact ⟨rfl, HB0.out.trans (HB.out.mono HB0.out.size)⟩
          · have hz2 : szAns (1048576 - l0.length - l1.length) l2.length = -1 := by unfold szAns; rw [if_pos (by omega)]
            go_enter Try.func4, Try.ntmps4
            go_wp2_with (first | (replace st := stg_next 0 1 st; rw [← hw1]; clear hw1 y0a y0b; go_at_call 15; refine (szComplex _ _ l0 _ _ (ReadI.below H0.out HB.out) (by omega) (by omega)).mono ?_; rintro e w2 ⟨rfl, hb⟩; rw [hz0]; have z2 := Aside0.mk hb.size; replace HB := Aside0.belowC HB hb; replace c0a := pw_cell_below hb c0a; replace c0b := pw_cell_below hb c0b; replace c1a := pw_cell_below hb c1a; replace c1b := pw_cell_below hb c1b; replace c2a := pw_cell_below hb c2a; replace c2b := pw_cell_below hb c2b; clear hb) | (replace st := stg_next 1 2 st; go_at_call 15; refine (szComplex _ _ l1 _ _ (ReadI.below H1.out HB.out) (by omega) (by omega)).mono ?_; rintro e w3 ⟨rfl, hb⟩; rw [hz1]; have z3 := Aside0.mk hb.size; replace HB := Aside0.belowC HB hb; replace c0a := pw_cell_below hb c0a; replace c0b := pw_cell_below hb c0b; replace c1a := pw_cell_below hb c1a; replace c1b := pw_cell_below hb c1b; replace c2a := pw_cell_below hb c2a; replace c2b := pw_cell_below hb c2b; clear hb) | (replace st := stg_next 2 3 st; go_at_call 15; refine (szComplex _ _ l2 _ _ (ReadI.below H2.out HB.out) (by omega) (by omega)).mono ?_; rintro e w4 ⟨rfl, hb⟩; rw [hz2]; have z4 := Aside0.mk hb.size; replace HB := Aside0.belowC HB hb; replace c0a := pw_cell_below hb c0a; replace c0b := pw_cell_below hb c0b; replace c1a := pw_cell_below hb c1a; replace c1b := pw_cell_below hb c1b; replace c2a := pw_cell_below hb c2a; replace c2b := pw_cell_below hb c2b; clear hb))
            go_ret
            exact ⟨rfl, HB0.out.trans (HB.out.mono HB0.out.size)⟩
        · have hz1 : szAns (1048576 - l0.length) l1.length = -1 := by unfold szAns; rw [if_pos (by omega)]
          go_enter Try.func4, Try.ntmps4
          go_wp2_with (first | (replace st := stg_next 0 1 st; rw [← hw1]; clear hw1 y0a y0b; go_at_call 15; refine (szComplex _ _ l0 _ _ (ReadI.below H0.out HB.out) (by omega) (by omega)).mono ?_; rintro e w2 ⟨rfl, hb⟩; rw [hz0]; have z2 := Aside0.mk hb.size; replace HB := Aside0.belowC HB hb; replace c0a := pw_cell_below hb c0a; replace c0b := pw_cell_below hb c0b; replace c1a := pw_cell_below hb c1a; replace c1b := pw_cell_below hb c1b; replace c2a := pw_cell_below hb c2a; replace c2b := pw_cell_below hb c2b; clear hb) | (replace st := stg_next 1 2 st; go_at_call 15; refine (szComplex _ _ l1 _ _ (ReadI.below H1.out HB.out) (by omega) (by omega)).mono ?_; rintro e w3 ⟨rfl, hb⟩; rw [hz1]; have z3 := Aside0.mk hb.size; replace HB := Aside0.belowC HB hb; replace c0a := pw_cell_below hb c0a; replace c0b := pw_cell_below hb c0b; replace c1a := pw_cell_below hb c1a; replace c1b := pw_cell_below hb c1b; replace c2a := pw_cell_below hb c2a; replace c2b := pw_cell_below hb c2b; clear hb))
          go_ret
          exact ⟨rfl, HB0.out.trans (HB.out.mono HB0.out.size)⟩
      · have hz0 : szAns (1048576) l0.length = -1 := by unfold szAns; rw [if_pos (by omega)]
        go_enter Try.func4, Try.ntmps4
        go_wp2_with (first | (replace st := stg_next 0 1 st; rw [← hw1]; clear hw1 y0a y0b; go_at_call 15; refine (szComplex _ _ l0 _ _ (ReadI.below H0.out HB.out) (by omega) (by omega)).mono ?_; rintro e w2 ⟨rfl, hb⟩; rw [hz0]; have z2 := Aside0.mk hb.size; replace HB := Aside0.belowC HB hb; replace c0a := pw_cell_below hb c0a; replace c0b := pw_cell_below hb c0b; replace c1a := pw_cell_below hb c1a; replace c1b := pw_cell_below hb c1b; replace c2a := pw_cell_below hb c2a; replace c2b := pw_cell_below hb c2b; clear hb))
        go_ret
        exact ⟨rfl, HB0.out.trans (HB.out.mono HB0.out.size)⟩
    · have q1' : (1048576 : Int) < l4.length := by omega
      go_enter Try.func4, Try.ntmps4
      go_wp2
      rw [← hw1]
      go_ret
      exact ⟨rfl, HB0.out.trans (HB.out.mono HB0.out.size)⟩
  · have q0' : (1048576 : Int) < l3.length := by omega
    go_enter Try.func4, Try.ntmps4
    go_wp2
    rw [← hw1]
    go_ret
    exact ⟨rfl, HB0.out.trans (HB.out.mono HB0.out.size)⟩
end Go.Proofs.Ytllmbbaffhpheaa.H

