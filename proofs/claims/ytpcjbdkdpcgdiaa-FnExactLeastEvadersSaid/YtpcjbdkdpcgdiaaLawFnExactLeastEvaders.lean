/- The law of LeastEvaders (printed by lawgen.py). -/
import Derived.Test.YtpcjbdkdpcgdiaaLeast
import Derived.Test.YtpcjbdkdpcgdiaaLawB
import Derived.Test.YtpcjbdkdpcgdiaaLawC
import Derived.Test.YtpcjbdkdpcgdiaaOpen
namespace Go.Proofs.Ytpcjbdkdpcgdiaa.H
open Go.RowKit Go.Proofs.YtpcjbdkdpcgdiaaW.PrintWords Go.Proofs.YtpcjbdkdpcgdiaaW.PrintLast Go.Proofs.YtpcjbdkdpcgdiaaW.PrintMore
set_option linter.unusedVariables false
set_option linter.unusedSimpArgs false

set_option maxRecDepth 1000000 in
set_option maxHeartbeats 8000000 in
theorem lawFnExactLeastEvaders (w : World) (a0 : Int) (ga0 : W64 a0) (u0 : Value) (l0 : List Int) (h0 : ReadI w u0 l0) (g0 : ∀ x ∈ l0, W64 x) :
    Calls Try.prog 5 #[.agg #[.int .i64 a0, u0]] w fun e w' => e = .returned (.bool true) ∧ Below w.heap.size w w' := by
  obtain ⟨w1, hw1⟩ : ∃ w1, w1 = (w.alloc (.cells #[.int .i64 a0, u0] 24)) := ⟨_, rfl⟩
  have hB : Below w.heap.size w w1 := by rw [hw1]; exact ((Below.refl _ w).alloc (by simp) _)
  have c0a : w1.cell? ⟨w.heap.size, 0, none⟩ = some (.int .i64 a0) := by rw [hw1]; simp
  have c0b : w1.cell? ⟨w.heap.size, 1, none⟩ = some u0 := by rw [hw1]; simp
  have hbs : w1.heap.size = w.heap.size + 1 := by rw [hw1]; simp
  have HBS := Aside0.mk hbs
  clear hbs
  have H0 := Aside0.mk (h0.below hB)
  obtain ⟨A0, d0, rfl, -⟩ := id h0
  have HB0 := Aside0.mk hB
  have HB := Aside0.mk (Below.refl w1.heap.size w1)
  have GA0 := Aside0.mk ga0
  have G0 := Aside0.mk g0
  clear hB h0 ga0 g0
  have st : Stg 0 := ⟨⟩
  by_cases q0 : l0.length ≤ 1048576
  · have hz0 : szAns (1048576) l0.length = 1048576 - l0.length := by unfold szAns; rw [if_neg (by omega)]
    have q0' : (l0.length : Int) ≤ 1048576 := by omega
    have hmx : Try.prog.follows .mixedOrders = true := by kernel_rfl
    obtain ⟨r0, hr0⟩ : ∃ r, r = (ansLeastEvaders a0 l0).1 := ⟨_, rfl⟩
    have HRr0 := Aside0.mk hr0
    clear hr0
    obtain ⟨r1, hr1⟩ : ∃ r, r = (ansLeastEvaders a0 l0).2 := ⟨_, rfl⟩
    have HRr1 := Aside0.mk hr1
    clear hr1
    go_enter Try.func5, Try.ntmps5
    go_wp2_with (first | (replace st := stg_next 0 1 st; rw [← hw1]; clear hw1; go_at_call 11; refine (szComplex _ _ l0 _ _ (ReadI.below H0.out HB.out) (by omega) (by omega)).mono ?_; rintro e w2 ⟨rfl, hb⟩; rw [hz0]; have z2 := Aside0.mk hb.size; replace HB := Aside0.belowC HB hb; replace c0a := pw_cell_below hb c0a; replace c0b := pw_cell_below hb c0b; clear hb) | (replace st := stg_next 1 2 st; go_at_call 13; refine (toComplex _ _ l0 _ (ReadI.below H0.out HB.out) (by omega)).mono ?_; rintro e w3 ⟨u, rfl, ho, hb⟩; obtain ⟨A_3, d_3, rfl, -⟩ := ho.read; have RG3 := Aside0.mk (fun k hk => And.intro (ho.base k hk) (ho.lt k hk)); have z3 := Aside0.mk hb.size; replace HB := Aside0.belowC HB hb; replace c0a := pw_cell_below hb c0a; replace c0b := pw_cell_below hb c0b; clear hb; have HO3 := Aside0.mk ho; clear ho; have ec0a := cell_ahead c0a; have ec0b := cell_ahead c0b) | (replace st := stg_next 2 3 st; go_at_call 18; refine (specLeastEvaders a0 _ l0 _ HO3.out.read).mono ?_; rw [← HRr0.out, ← HRr1.out]; rintro e w4 ⟨rfl, hb⟩; clear ec0a; clear ec0b; have z4 := Aside0.mk hb.size; replace HB := Aside0.belowC HB hb; replace c0a := pw_cell_below hb c0a; replace c0b := pw_cell_below hb c0b; replace HO3 := Aside0.own HO3 hb; clear hb) | (replace st := stg_next 3 4 st; go_at_call 13; refine (toComplex _ _ l0 _ (ReadI.below H0.out HB.out) (by omega)).mono ?_; rintro e w5 ⟨u, rfl, ho, hb⟩; obtain ⟨A_5, d_5, rfl, -⟩ := ho.read; have RG5 := Aside0.mk (fun k hk => And.intro (ho.base k hk) (ho.lt k hk)); have z5 := Aside0.mk hb.size; replace HB := Aside0.belowC HB hb; replace c0a := pw_cell_below hb c0a; replace c0b := pw_cell_below hb c0b; replace HO3 := Aside0.own HO3 hb; clear hb; have HO5 := Aside0.mk ho; clear ho; have ec0a := cell_ahead c0a; have ec0b := cell_ahead c0b) | (replace st := stg_next 4 5 st; go_at_call 19; refine (implLeastEvaders a0 _ l0 _ (ReadI.below HO5.out.read (Below.alloc (Below.refl _ _) (Nat.le_refl _) _))).mono ?_; rw [← HRr0.out, ← HRr1.out]; rintro e w6 ⟨rfl, hb⟩; clear ec0a; clear ec0b; have c100 : w6.cell? ⟨w5.heap.size, 0, none⟩ = some (.int .i64 a0) := pw_cell_below hb (new_cell _ _ _ 0 _ rfl); have c101 : w6.cell? ⟨w5.heap.size, 1, none⟩ = some (.slice A_5 l0.length d_5) := pw_cell_below hb (new_cell _ _ _ 1 _ rfl); have z6 := Aside0.mk (alloc_size hb); replace hb := below_unalloc hb; replace HB := Aside0.belowC HB hb; replace c0a := pw_cell_below hb c0a; replace c0b := pw_cell_below hb c0b; replace HO3 := Aside0.own HO3 hb; replace HO5 := Aside0.own HO5 hb; clear hb))
    refine wp_region_phi (fun i => match i with | 0 => fun v _ => v = .agg #[.int .i64 a0, .slice A_5 l0.length d_5] | 1 => fun v _ => v = .agg #[.int .i64 a0, .slice A0 l0.length d0] | 2 => fun v W => ∃ u, v = .agg #[.int .i64 a0, u] ∧ OwnI w6.heap.size W u l0 | 3 => fun v _ => v = .bool true | 4 => fun v _ => v = .bool false | _ => fun _ _ => True)
      [0, 0, 2, 7, 15] hmx (by kernel_rfl) ?st ?steps ?rest
    case st =>
      intro i v w1_ w2_ hb
      match i with
      | 0 | 1 | 3 | 4 => exact id
      | 2 => exact fun ⟨u, e, ho⟩ => ⟨u, e, ho.below hb⟩
      | n + 5 => exact id
    case steps =>
      refine ⟨?_, ?_, ?_, ?_, ?_, trivial⟩
      · intro s w_ hb hd R hR
        generalize hA : putAll _ 0 s _ = A
        have c100 := pw_cell_below hb c100
        have c101 := pw_cell_below hb c101
        have hR' := hR (.agg #[.int .i64 a0, .slice A_5 l0.length d_5]) _ (Below.refl _ _) (rfl)
        clear hR hd
        refine opGives_value ?_ hR'
        subst hA
        simp only [dsOf, List.map_cons, List.map_nil, Option.getD_some, putAll, Act.put, List.setIfInBounds_toArray, List.set_cons_zero, List.set_cons_succ]
        go_simp
      · intro s w_ hb hd R hR
        generalize hA : putAll _ 0 s _ = A
        have c0a := pw_cell_below hb c0a
        have c0b := pw_cell_below hb c0b
        have hR' := hR (.agg #[.int .i64 a0, .slice A0 l0.length d0]) _ (Below.refl _ _) (rfl)
        clear hR hd
        refine opGives_value ?_ hR'
        subst hA
        simp only [dsOf, List.map_cons, List.map_nil, Option.getD_some, putAll, Act.put, List.setIfInBounds_toArray, List.set_cons_zero, List.set_cons_succ]
        go_simp
      · intro s w_ hb hd R hR
        generalize hA : putAll _ 0 s _ = A
        have e1 : s 1 = _ := hd 1 (by kernel_rfl)
        have hs := hb.size
        refine opGives_call (f := 13) (args := #[.agg #[.int .i64 a0, .slice A0 l0.length d0]]) ?_ ?_
        · subst hA
          clear hR hd
          simp only [dsOf, List.map_cons, List.map_nil, Option.getD_some, putAll, Act.put, List.setIfInBounds_toArray, List.set_cons_zero, List.set_cons_succ]
          go_simp
        clear hA A
        refine (toComplex _ _ l0 w_ (ReadI.below H0.out (HB.out.trans (hb.mono HB.out.size))) (by omega)).mono ?_
        rintro e w__ ⟨u, rfl, ho, hb5⟩
        exact ⟨_, rfl, hR _ _ hb5 ⟨u, rfl, ho.lower hs⟩⟩
      · intro s w_ hb hd R hR
        generalize hA : putAll _ 0 s _ = A
        have e0 : s 0 = _ := hd 0 (by kernel_rfl)
        obtain ⟨u2, e2, o2⟩ : ∃ u, s 2 = _ ∧ OwnI _ _ u l0 := hd 2 (by kernel_rfl)
        have hs := hb.size
        refine opGives_call (f := 15) (args := #[.agg #[.int .i64 a0, .slice A_5 l0.length d_5], .agg #[.int .i64 a0, u2]]) ?_ ?_
        · subst hA
          clear hR hd
          simp only [dsOf, List.map_cons, List.map_nil, Option.getD_some, putAll, Act.put, List.setIfInBounds_toArray, List.set_cons_zero, List.set_cons_succ]
          go_simp
        clear hA A
        refine (eqComplex _ _ _ _ l0 l0 w_ (ReadI.below HO5.out.read hb) o2.read).mono ?_
        rintro e w__ ⟨rfl, hb5⟩
        rw [decide_eq_true rfl, beq_self_eq_true]
        exact ⟨_, rfl, hR _ _ hb5 rfl⟩
      · intro s w_ hb hd R hR
        generalize hA : putAll _ 0 s _ = A
        have e3 : s 3 = _ := hd 3 (by kernel_rfl)
        have hR' := hR (.bool false) _ (Below.refl _ _) (rfl)
        clear hR hd
        refine opGives_value ?_ hR'
        subst hA
        simp only [dsOf, List.map_cons, List.map_nil, Option.getD_some, putAll, Act.put, List.setIfInBounds_toArray, List.set_cons_zero, List.set_cons_succ]
        go_simp
    case rest =>
      intro s7 w7 hb hv
      have e4_ : s7 4 = _ := hv 4 (by decide)
      simp only [dsOf, List.map_cons, List.map_nil, Option.getD_some, putAll, Act.put, List.setIfInBounds_toArray, List.set_cons_zero, List.set_cons_succ]
      rw [e4_]
      clear hv e4_
      have z7 := Aside0.mk hb.size
      replace HB := Aside0.belowC HB hb
      replace c0a := pw_cell_below hb c0a
      replace c0b := pw_cell_below hb c0b
      replace c100 := pw_cell_below hb c100
      replace c101 := pw_cell_below hb c101
      replace HO3 := Aside0.own HO3 hb
      replace HO5 := Aside0.own HO5 hb
      clear hb
      go_wp2
      go_ret
      exact ⟨rfl, HB0.out.trans (HB.out.mono HB0.out.size)⟩
  · have hz0 : szAns (1048576) l0.length = -1 := by unfold szAns; rw [if_pos (by omega)]
    go_enter Try.func5, Try.ntmps5
    go_wp2_with (first | (replace st := stg_next 0 1 st; rw [← hw1]; clear hw1; go_at_call 11; refine (szComplex _ _ l0 _ _ (ReadI.below H0.out HB.out) (by omega) (by omega)).mono ?_; rintro e w2 ⟨rfl, hb⟩; rw [hz0]; have z2 := Aside0.mk hb.size; replace HB := Aside0.belowC HB hb; replace c0a := pw_cell_below hb c0a; replace c0b := pw_cell_below hb c0b; clear hb))
    go_ret
    exact ⟨rfl, HB0.out.trans (HB.out.mono HB0.out.size)⟩
end Go.Proofs.Ytpcjbdkdpcgdiaa.H

