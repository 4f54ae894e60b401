/- The law of BestTree (printed by lawgen.py). -/
import Derived.Test.YtpcjbdkdpcgdiaaBestI
import Derived.Test.YtpcjbdkdpcgdiaaBestS
import Derived.Test.YtpcjbdkdpcgdiaaLawMm
import Derived.Test.YtpcjbdkdpcgdiaaLawB
import Derived.Test.YtpcjbdkdpcgdiaaLawC
import Derived.Test.YtpcjbdkdpcgdiaaOpen
namespace Go.Proofs.Ytpcjbdkdpcgdiaa.H
open Go.RowKit Go.Proofs.YtpcjbdkdpcgdiaaW.PrintWords Go.Proofs.YtpcjbdkdpcgdiaaW.PrintLast Go.Proofs.YtpcjbdkdpcgdiaaW.PrintMore
set_option linter.unusedVariables false
set_option linter.unusedSimpArgs false

set_option maxRecDepth 1000000 in
set_option maxHeartbeats 8000000 in
theorem lawFnExactBestTree (w : World) (a0 : Int) (ga0 : W64 a0) (u0 : Value) (l0 : List Int) (h0 : ReadI w u0 l0) (g0 : ∀ x ∈ l0, W64 x) :
    Calls Try.prog 8 #[.agg #[.int .i64 a0, u0]] w fun e w' => e = .returned (.bool true) ∧ Below w.heap.size w w' := by
  obtain ⟨w1, hw1⟩ : ∃ w1, w1 = (w.alloc (.cells #[.int .i64 a0, u0] 24)) := ⟨_, rfl⟩
  have hB : Below w.heap.size w w1 := by rw [hw1]; exact ((Below.refl _ w).alloc (by simp) _)
  have c0a : w1.cell? ⟨w.heap.size, 0, none⟩ = some (.int .i64 a0) := by rw [hw1]; simp
  have c0b : w1.cell? ⟨w.heap.size, 1, none⟩ = some u0 := by rw [hw1]; simp
  have hbs : w1.heap.size = w.heap.size + 1 := by rw [hw1]; simp
  have HBS := Aside0.mk hbs
  clear hbs
  have H0 := Aside0.mk (h0.below hB)
  obtain ⟨A0, d0, rfl, -⟩ := id h0
  have HB0 := Aside0.mk hB
  have HB := Aside0.mk (Below.refl w1.heap.size w1)
  have GA0 := Aside0.mk ga0
  have G0 := Aside0.mk g0
  clear hB h0 ga0 g0
  have st : Stg 0 := ⟨⟩
  by_cases q0 : l0.length ≤ 1048576
  · have hz0 : szAns (1048576) l0.length = 1048576 - l0.length := by unfold szAns; rw [if_neg (by omega)]
    have q0' : (l0.length : Int) ≤ 1048576 := by omega
    have hmx : Try.prog.follows .mixedOrders = true := by kernel_rfl
    obtain ⟨r0, hr0⟩ : ∃ r, r = (ansBestTree a0 l0).1 := ⟨_, rfl⟩
    have HRr0 := Aside0.mk hr0
    clear hr0
    obtain ⟨r1, hr1⟩ : ∃ r, r = (ansBestTree a0 l0).2 := ⟨_, rfl⟩
    have HRr1 := Aside0.mk hr1
    clear hr1
    have lenR : r0.length ≤ 1073741824 := by rw [HRr0.out]; exact lenBestTree a0 l0
    go_enter Try.func8, Try.ntmps8
    go_wp2_with (first | (replace st := stg_next 0 1 st; rw [← hw1]; clear hw1; go_at_call 11; refine (szComplex _ _ l0 _ _ (ReadI.below H0.out HB.out) (by omega) (by omega)).mono ?_; rintro e w2 ⟨rfl, hb⟩; rw [hz0]; have z2 := Aside0.mk hb.size; replace HB := Aside0.belowC HB hb; replace c0a := pw_cell_below hb c0a; replace c0b := pw_cell_below hb c0b; clear hb) | (replace st := stg_next 1 2 st; go_at_call 13; refine (toComplex _ _ l0 _ (ReadI.below H0.out HB.out) (by omega)).mono ?_; rintro e w3 ⟨u, rfl, ho, hb⟩; obtain ⟨A_3, d_3, rfl, -⟩ := ho.read; have RG3 := Aside0.mk (fun k hk => And.intro (ho.base k hk) (ho.lt k hk)); have z3 := Aside0.mk hb.size; replace HB := Aside0.belowC HB hb; replace c0a := pw_cell_below hb c0a; replace c0b := pw_cell_below hb c0b; clear hb; have HO3 := Aside0.mk ho; clear ho; have ec0a := cell_ahead c0a; have ec0b := cell_ahead c0b) | (replace st := stg_next 2 3 st; go_at_call 29; refine (specBestTree a0 _ l0 _ HO3.out.read).mono ?_; rw [← HRr0.out, ← HRr1.out]; rintro e w4 ⟨u, rfl, ho, hb⟩; obtain ⟨A_4, d_4, rfl, -⟩ := ho.read; have RG4 := Aside0.mk (fun k hk => And.intro (ho.base k hk) (ho.lt k hk)); clear ec0a; clear ec0b; have z4 := Aside0.mk hb.size; replace HB := Aside0.belowC HB hb; replace c0a := pw_cell_below hb c0a; replace c0b := pw_cell_below hb c0b; replace HO3 := Aside0.own HO3 hb; clear hb; have HO4 := Aside0.mk ho; clear ho) | (replace st := stg_next 3 4 st; go_at_call 13; refine (toComplex _ _ l0 _ (ReadI.below H0.out HB.out) (by omega)).mono ?_; rintro e w5 ⟨u, rfl, ho, hb⟩; obtain ⟨A_5, d_5, rfl, -⟩ := ho.read; have RG5 := Aside0.mk (fun k hk => And.intro (ho.base k hk) (ho.lt k hk)); have z5 := Aside0.mk hb.size; replace HB := Aside0.belowC HB hb; replace c0a := pw_cell_below hb c0a; replace c0b := pw_cell_below hb c0b; replace HO3 := Aside0.own HO3 hb; replace HO4 := Aside0.own HO4 hb; clear hb; have HO5 := Aside0.mk ho; clear ho; have ec0a := cell_ahead c0a; have ec0b := cell_ahead c0b) | (replace st := stg_next 4 5 st; go_at_call 30; refine (implBestTree a0 _ l0 _ (ReadI.below HO5.out.read (Below.alloc (Below.refl _ _) (Nat.le_refl _) _))).mono ?_; rw [← HRr0.out, ← HRr1.out]; rintro e w6 ⟨u, rfl, ho, hb⟩; obtain ⟨A_6, d_6, rfl, -⟩ := ho.read; have RG6 := Aside0.mk (fun k hk => And.intro (ho.base k hk) (ho.lt k hk)); clear ec0a; clear ec0b; have c100 : w6.cell? ⟨w5.heap.size, 0, none⟩ = some (.int .i64 a0) := pw_cell_below hb (new_cell _ _ _ 0 _ rfl); have c101 : w6.cell? ⟨w5.heap.size, 1, none⟩ = some (.slice A_5 l0.length d_5) := pw_cell_below hb (new_cell _ _ _ 1 _ rfl); have z6 := Aside0.mk (alloc_size hb); replace hb := below_unalloc hb; replace HB := Aside0.belowC HB hb; replace c0a := pw_cell_below hb c0a; replace c0b := pw_cell_below hb c0b; replace HO3 := Aside0.own HO3 hb; replace HO4 := Aside0.own HO4 hb; replace HO5 := Aside0.own HO5 hb; clear hb; have HO6 := Aside0.mk ho; clear ho) | (replace st := stg_next 5 6 st; go_at_call 23; refine (eqInt64S _ _ r0 r0 _ HO6.out.read HO4.out.read).mono ?_; rintro e w7 ⟨rfl, hb⟩; rw [beq_self_eq_true]; have z7 := Aside0.mk hb.size; replace HB := Aside0.belowC HB hb; replace c0a := pw_cell_below hb c0a; replace c0b := pw_cell_below hb c0b; replace c100 := pw_cell_below hb c100; replace c101 := pw_cell_below hb c101; replace HO3 := Aside0.own HO3 hb; replace HO4 := Aside0.own HO4 hb; replace HO5 := Aside0.own HO5 hb; replace HO6 := Aside0.own HO6 hb; clear hb))
    refine wp_region_phi (fun i => match i with | 0 => fun v _ => v = .agg #[.int .i64 a0, .slice A_5 l0.length d_5] | 1 => fun v _ => v = .agg #[.int .i64 a0, .slice A0 l0.length d0] | 2 => fun v W => ∃ u, v = .agg #[.int .i64 a0, u] ∧ OwnI w7.heap.size W u l0 | 3 => fun v _ => v = .bool true | 4 => fun v _ => v = .bool false | _ => fun _ _ => True)
      [0, 0, 2, 7, 15] hmx (by kernel_rfl) ?st ?steps ?rest
    case st =>
      intro i v w1_ w2_ hb
      match i with
      | 0 | 1 | 3 | 4 => exact id
      | 2 => exact fun ⟨u, e, ho⟩ => ⟨u, e, ho.below hb⟩
      | n + 5 => exact id
    case steps =>
      refine ⟨?_, ?_, ?_, ?_, ?_, trivial⟩
      · intro s w_ hb hd R hR
        generalize hA : putAll _ 0 s _ = A
        have c100 := pw_cell_below hb c100
        have c101 := pw_cell_below hb c101
        have hR' := hR (.agg #[.int .i64 a0, .slice A_5 l0.length d_5]) _ (Below.refl _ _) (rfl)
        clear hR hd
        refine opGives_value ?_ hR'
        subst hA
        simp only [dsOf, List.map_cons, List.map_nil, Option.getD_some, putAll, Act.put, List.setIfInBounds_toArray, List.set_cons_zero, List.set_cons_succ]
        go_simp
      · intro s w_ hb hd R hR
        generalize hA : putAll _ 0 s _ = A
        have c0a := pw_cell_below hb c0a
        have c0b := pw_cell_below hb c0b
        have hR' := hR (.agg #[.int .i64 a0, .slice A0 l0.length d0]) _ (Below.refl _ _) (rfl)
        clear hR hd
        refine opGives_value ?_ hR'
        subst hA
        simp only [dsOf, List.map_cons, List.map_nil, Option.getD_some, putAll, Act.put, List.setIfInBounds_toArray, List.set_cons_zero, List.set_cons_succ]
        go_simp
      · intro s w_ hb hd R hR
        generalize hA : putAll _ 0 s _ = A
        have e1 : s 1 = _ := hd 1 (by kernel_rfl)
        have hs := hb.size
        refine opGives_call (f := 13) (args := #[.agg #[.int .i64 a0, .slice A0 l0.length d0]]) ?_ ?_
        · subst hA
          clear hR hd
          simp only [dsOf, List.map_cons, List.map_nil, Option.getD_some, putAll, Act.put, List.setIfInBounds_toArray, List.set_cons_zero, List.set_cons_succ]
          go_simp
        clear hA A
        refine (toComplex _ _ l0 w_ (ReadI.below H0.out (HB.out.trans (hb.mono HB.out.size))) (by omega)).mono ?_
        rintro e w__ ⟨u, rfl, ho, hb5⟩
        exact ⟨_, rfl, hR _ _ hb5 ⟨u, rfl, ho.lower hs⟩⟩
      · intro s w_ hb hd R hR
        generalize hA : putAll _ 0 s _ = A
        have e0 : s 0 = _ := hd 0 (by kernel_rfl)
        obtain ⟨u2, e2, o2⟩ : ∃ u, s 2 = _ ∧ OwnI _ _ u l0 := hd 2 (by kernel_rfl)
        have hs := hb.size
        refine opGives_call (f := 15) (args := #[.agg #[.int .i64 a0, .slice A_5 l0.length d_5], .agg #[.int .i64 a0, u2]]) ?_ ?_
        · subst hA
          clear hR hd
          simp only [dsOf, List.map_cons, List.map_nil, Option.getD_some, putAll, Act.put, List.setIfInBounds_toArray, List.set_cons_zero, List.set_cons_succ]
          go_simp
        clear hA A
        refine (eqComplex _ _ _ _ l0 l0 w_ (ReadI.below HO5.out.read hb) o2.read).mono ?_
        rintro e w__ ⟨rfl, hb5⟩
        rw [decide_eq_true rfl, beq_self_eq_true]
        exact ⟨_, rfl, hR _ _ hb5 rfl⟩
      · intro s w_ hb hd R hR
        generalize hA : putAll _ 0 s _ = A
        have e3 : s 3 = _ := hd 3 (by kernel_rfl)
        have hR' := hR (.bool false) _ (Below.refl _ _) (rfl)
        clear hR hd
        refine opGives_value ?_ hR'
        subst hA
        simp only [dsOf, List.map_cons, List.map_nil, Option.getD_some, putAll, Act.put, List.setIfInBounds_toArray, List.set_cons_zero, List.set_cons_succ]
        go_simp
    case rest =>
      intro s8 w8 hb hv
      have e4_ : s8 4 = _ := hv 4 (by decide)
      simp only [dsOf, List.map_cons, List.map_nil, Option.getD_some, putAll, Act.put, List.setIfInBounds_toArray, List.set_cons_zero, List.set_cons_succ]
      rw [e4_]
      clear hv e4_
      have z8 := Aside0.mk hb.size
      replace HB := Aside0.belowC HB hb
      replace c0a := pw_cell_below hb c0a
      replace c0b := pw_cell_below hb c0b
      replace c100 := pw_cell_below hb c100
      replace c101 := pw_cell_below hb c101
      replace HO3 := Aside0.own HO3 hb
      replace HO4 := Aside0.own HO4 hb
      replace HO5 := Aside0.own HO5 hb
      replace HO6 := Aside0.own HO6 hb
      clear hb
      go_wp2_with (first | (replace st := stg_next 6 7 st; go_at_call 24; have hl_ : l0.length ≤ 1073741824 := (by omega); refine (markComplex _ _ _ l0 (1) _ HO5.out (by omega) hl_ (by have hbs_ := HBS.out; have z2_ := z2.out; have z3_ := z3.out; have z4_ := z4.out; have z5_ := z5.out; have z6_ := z6.out; have z7_ := z7.out; have z8_ := z8.out; (try simp only [World.size_alloc]); omega)).mono ?_; rintro e w9 ⟨rfl, ho, hg, hb⟩; clear hl_; have z9 := Aside0.mk hg.size; replace HB := Aside0.mk (HB.out.trans (hb.mono (by have hbs_ := HBS.out; have z2_ := z2.out; have z3_ := z3.out; have z4_ := z4.out; have z5_ := z5.out; have z6_ := z6.out; have z7_ := z7.out; have z8_ := z8.out; (try simp only [World.size_alloc]); omega))); replace c0a := cell_grown hg RG5.out (by have hbs_ := HBS.out; have z2_ := z2.out; have z3_ := z3.out; have z4_ := z4.out; have z5_ := z5.out; have z6_ := z6.out; have z7_ := z7.out; have z8_ := z8.out; (try dsimp only); (try simp only [World.size_alloc]); omega) c0a; replace c0b := cell_grown hg RG5.out (by have hbs_ := HBS.out; have z2_ := z2.out; have z3_ := z3.out; have z4_ := z4.out; have z5_ := z5.out; have z6_ := z6.out; have z7_ := z7.out; have z8_ := z8.out; (try dsimp only); (try simp only [World.size_alloc]); omega) c0b; replace c100 := cell_grown hg RG5.out (by have hbs_ := HBS.out; have z2_ := z2.out; have z3_ := z3.out; have z4_ := z4.out; have z5_ := z5.out; have z6_ := z6.out; have z7_ := z7.out; have z8_ := z8.out; (try dsimp only); (try simp only [World.size_alloc]); omega) c100; replace c101 := cell_grown hg RG5.out (by have hbs_ := HBS.out; have z2_ := z2.out; have z3_ := z3.out; have z4_ := z4.out; have z5_ := z5.out; have z6_ := z6.out; have z7_ := z7.out; have z8_ := z8.out; (try dsimp only); (try simp only [World.size_alloc]); omega) c101; replace HO3 := Aside0.mk (own_grown hg RG5.out RG3.out (by have hbs_ := HBS.out; have z2_ := z2.out; have z3_ := z3.out; have z4_ := z4.out; have z5_ := z5.out; have z6_ := z6.out; have z7_ := z7.out; have z8_ := z8.out; (try simp only [World.size_alloc]); omega) HO3.out); replace HO4 := Aside0.mk (own_grown hg RG5.out RG4.out (by have hbs_ := HBS.out; have z2_ := z2.out; have z3_ := z3.out; have z4_ := z4.out; have z5_ := z5.out; have z6_ := z6.out; have z7_ := z7.out; have z8_ := z8.out; (try simp only [World.size_alloc]); omega) HO4.out); replace HO6 := Aside0.mk (own_grown hg RG5.out RG6.out (by have hbs_ := HBS.out; have z2_ := z2.out; have z3_ := z3.out; have z4_ := z4.out; have z5_ := z5.out; have z6_ := z6.out; have z7_ := z7.out; have z8_ := z8.out; (try simp only [World.size_alloc]); omega) HO6.out); replace HO5 := Aside0.mk ho; clear ho hg hb) | (replace st := stg_next 7 8 st; go_at_call 23; refine (eqInt64S _ _ r0 r0 _ HO6.out.read HO4.out.read).mono ?_; rintro e w10 ⟨rfl, hb⟩; rw [beq_self_eq_true]; have z10 := Aside0.mk hb.size; replace HB := Aside0.belowC HB hb; replace c0a := pw_cell_below hb c0a; replace c0b := pw_cell_below hb c0b; replace c100 := pw_cell_below hb c100; replace c101 := pw_cell_below hb c101; replace HO3 := Aside0.own HO3 hb; replace HO4 := Aside0.own HO4 hb; replace HO5 := Aside0.own HO5 hb; replace HO6 := Aside0.own HO6 hb; clear hb) | (replace st := stg_next 8 9 st; go_at_call 25; have hl_ : r0.length ≤ 1073741824 := lenR; refine (markInt64S _ _ r0 (1) _ HO6.out (by omega) hl_).mono ?_; rintro e w11 ⟨rfl, ho, hg, hb⟩; clear hl_; have z11 := Aside0.mk hg.size; replace HB := Aside0.mk (HB.out.trans (hb.mono (by have hbs_ := HBS.out; have z2_ := z2.out; have z3_ := z3.out; have z4_ := z4.out; have z5_ := z5.out; have z6_ := z6.out; have z7_ := z7.out; have z8_ := z8.out; have z9_ := z9.out; have z10_ := z10.out; (try simp only [World.size_alloc]); omega))); replace c0a := cell_grown hg RG6.out (by have hbs_ := HBS.out; have z2_ := z2.out; have z3_ := z3.out; have z4_ := z4.out; have z5_ := z5.out; have z6_ := z6.out; have z7_ := z7.out; have z8_ := z8.out; have z9_ := z9.out; have z10_ := z10.out; (try dsimp only); (try simp only [World.size_alloc]); omega) c0a; replace c0b := cell_grown hg RG6.out (by have hbs_ := HBS.out; have z2_ := z2.out; have z3_ := z3.out; have z4_ := z4.out; have z5_ := z5.out; have z6_ := z6.out; have z7_ := z7.out; have z8_ := z8.out; have z9_ := z9.out; have z10_ := z10.out; (try dsimp only); (try simp only [World.size_alloc]); omega) c0b; replace c100 := cell_grown hg RG6.out (by have hbs_ := HBS.out; have z2_ := z2.out; have z3_ := z3.out; have z4_ := z4.out; have z5_ := z5.out; have z6_ := z6.out; have z7_ := z7.out; have z8_ := z8.out; have z9_ := z9.out; have z10_ := z10.out; (try dsimp only); (try simp only [World.size_alloc]); omega) c100; replace c101 := cell_grown hg RG6.out (by have hbs_ := HBS.out; have z2_ := z2.out; have z3_ := z3.out; have z4_ := z4.out; have z5_ := z5.out; have z6_ := z6.out; have z7_ := z7.out; have z8_ := z8.out; have z9_ := z9.out; have z10_ := z10.out; (try dsimp only); (try simp only [World.size_alloc]); omega) c101; replace HO3 := Aside0.mk (own_grown hg RG6.out RG3.out (by have hbs_ := HBS.out; have z2_ := z2.out; have z3_ := z3.out; have z4_ := z4.out; have z5_ := z5.out; have z6_ := z6.out; have z7_ := z7.out; have z8_ := z8.out; have z9_ := z9.out; have z10_ := z10.out; (try simp only [World.size_alloc]); omega) HO3.out); replace HO4 := Aside0.mk (own_grown hg RG6.out RG4.out (by have hbs_ := HBS.out; have z2_ := z2.out; have z3_ := z3.out; have z4_ := z4.out; have z5_ := z5.out; have z6_ := z6.out; have z7_ := z7.out; have z8_ := z8.out; have z9_ := z9.out; have z10_ := z10.out; (try simp only [World.size_alloc]); omega) HO4.out); replace HO5 := Aside0.mk (own_grown hg RG6.out RG5.out (by have hbs_ := HBS.out; have z2_ := z2.out; have z3_ := z3.out; have z4_ := z4.out; have z5_ := z5.out; have z6_ := z6.out; have z7_ := z7.out; have z8_ := z8.out; have z9_ := z9.out; have z10_ := z10.out; (try simp only [World.size_alloc]); omega) HO5.out); replace HO6 := Aside0.mk ho; clear ho hg hb) | (replace st := stg_next 9 10 st; go_at_call 26; have hl_ : r0.length ≤ 1073741824 := lenR; refine (heldInt64S _ (1) r0.length _ HO6.out.read (by omega) hl_).mono ?_; rintro e w12 ⟨rfl, hb⟩; clear hl_; have z12 := Aside0.mk hb.size; replace HB := Aside0.belowC HB hb; replace c0a := pw_cell_below hb c0a; replace c0b := pw_cell_below hb c0b; replace c100 := pw_cell_below hb c100; replace c101 := pw_cell_below hb c101; replace HO3 := Aside0.own HO3 hb; replace HO4 := Aside0.own HO4 hb; replace HO5 := Aside0.own HO5 hb; replace HO6 := Aside0.own HO6 hb; clear hb) | (replace st := stg_next 10 11 st; go_at_call 13; refine (toComplex _ _ l0 _ (ReadI.below H0.out HB.out) (by omega)).mono ?_; rintro e w13 ⟨u, rfl, ho, hb⟩; obtain ⟨A_13, d_13, rfl, -⟩ := ho.read; have RG13 := Aside0.mk (fun k hk => And.intro (ho.base k hk) (ho.lt k hk)); have z13 := Aside0.mk hb.size; replace HB := Aside0.belowC HB hb; replace c0a := pw_cell_below hb c0a; replace c0b := pw_cell_below hb c0b; replace c100 := pw_cell_below hb c100; replace c101 := pw_cell_below hb c101; replace HO3 := Aside0.own HO3 hb; replace HO4 := Aside0.own HO4 hb; replace HO5 := Aside0.own HO5 hb; replace HO6 := Aside0.own HO6 hb; clear hb; have HO13 := Aside0.mk ho; clear ho; have ec0a := cell_ahead c0a; have ec0b := cell_ahead c0b; have ec100 := cell_ahead c100; have ec101 := cell_ahead c101) | (replace st := stg_next 11 12 st; go_at_call 30; refine (implBestTree a0 _ l0 _ HO13.out.read).mono ?_; rw [← HRr0.out, ← HRr1.out]; rintro e w14 ⟨u, rfl, ho, hb⟩; obtain ⟨A_14, d_14, rfl, -⟩ := ho.read; have RG14 := Aside0.mk (fun k hk => And.intro (ho.base k hk) (ho.lt k hk)); clear ec0a; clear ec0b; clear ec100; clear ec101; have z14 := Aside0.mk hb.size; replace HB := Aside0.belowC HB hb; replace c0a := pw_cell_below hb c0a; replace c0b := pw_cell_below hb c0b; replace c100 := pw_cell_below hb c100; replace c101 := pw_cell_below hb c101; replace HO3 := Aside0.own HO3 hb; replace HO4 := Aside0.own HO4 hb; replace HO5 := Aside0.own HO5 hb; replace HO6 := Aside0.own HO6 hb; replace HO13 := Aside0.own HO13 hb; clear hb; have HO14 := Aside0.mk ho; clear ho) | (replace st := stg_next 12 13 st; go_at_call 23; refine (eqInt64S _ _ r0 r0 _ HO14.out.read HO4.out.read).mono ?_; rintro e w15 ⟨rfl, hb⟩; rw [beq_self_eq_true]; have z15 := Aside0.mk hb.size; replace HB := Aside0.belowC HB hb; replace c0a := pw_cell_below hb c0a; replace c0b := pw_cell_below hb c0b; replace c100 := pw_cell_below hb c100; replace c101 := pw_cell_below hb c101; replace HO3 := Aside0.own HO3 hb; replace HO4 := Aside0.own HO4 hb; replace HO5 := Aside0.own HO5 hb; replace HO6 := Aside0.own HO6 hb; replace HO13 := Aside0.own HO13 hb; replace HO14 := Aside0.own HO14 hb; clear hb) | (replace st := stg_next 13 14 st; go_at_call 26; have hl_ : r0.length ≤ 1073741824 := lenR; refine (heldInt64S _ (1) r0.length _ HO6.out.read (by omega) hl_).mono ?_; rintro e w16 ⟨rfl, hb⟩; clear hl_; have z16 := Aside0.mk hb.size; replace HB := Aside0.belowC HB hb; replace c0a := pw_cell_below hb c0a; replace c0b := pw_cell_below hb c0b; replace c100 := pw_cell_below hb c100; replace c101 := pw_cell_below hb c101; replace HO3 := Aside0.own HO3 hb; replace HO4 := Aside0.own HO4 hb; replace HO5 := Aside0.own HO5 hb; replace HO6 := Aside0.own HO6 hb; replace HO13 := Aside0.own HO13 hb; replace HO14 := Aside0.own HO14 hb; clear hb))
      go_ret
      exact ⟨rfl, HB0.out.trans (HB.out.mono HB0.out.size)⟩
  · have hz0 : szAns (1048576) l0.length = -1 := by unfold szAns; rw [if_pos (by omega)]
    go_enter Try.func8, Try.ntmps8
    go_wp2_with (first | (replace st := stg_next 0 1 st; rw [← hw1]; clear hw1; go_at_call 11; refine (szComplex _ _ l0 _ _ (ReadI.below H0.out HB.out) (by omega) (by omega)).mono ?_; rintro e w2 ⟨rfl, hb⟩; rw [hz0]; have z2 := Aside0.mk hb.size; replace HB := Aside0.belowC HB hb; replace c0a := pw_cell_below hb c0a; replace c0b := pw_cell_below hb c0b; clear hb))
    go_ret
    exact ⟨rfl, HB0.out.trans (HB.out.mono HB0.out.size)⟩
end Go.Proofs.Ytpcjbdkdpcgdiaa.H

