/- The law FnQuestions: the walk (printed by genfq.py). -/
import Derived.Test.YtkggchklmpmgpaaKFnQuestions1
import Derived.Test.YtkggchklmpmgpaaKFnQuestions2
import Derived.Test.YtkggchklmpmgpaaKFnQuestions3
import Derived.Test.YtkggchklmpmgpaaKFnQuestions4
import Derived.Test.YtkggchklmpmgpaaKFnQuestions5
import Derived.Test.YtkggchklmpmgpaaKFnQuestions6
import Derived.Test.YtkggchklmpmgpaaKFnQuestions7
import Derived.Test.YtkggchklmpmgpaaKFnQuestions8
import Derived.Test.YtkggchklmpmgpaaKFnQuestions9
import Derived.Test.YtkggchklmpmgpaaKFnQuestions10
import Derived.Test.YtkggchklmpmgpaaKFnQuestions11
import Derived.Test.YtkggchklmpmgpaaKFnQuestions12
import Derived.Test.YtkggchklmpmgpaaKFnQuestions13
import Derived.Test.YtkggchklmpmgpaaKFnQuestions14
import Derived.Test.YtkggchklmpmgpaaKFnQuestions15
import Derived.Test.YtkggchklmpmgpaaKFnQuestions16

namespace Go.Proofs.Ytkggchklmpmgpaa.H
open Go.RowKit Go.Proofs.YtkggchklmpmgpaaW.PrintWords Go.Proofs.YtkggchklmpmgpaaW.PrintLast Go.Proofs.YtkggchklmpmgpaaW.PrintMore
set_option linter.unusedVariables false
set_option linter.unusedSimpArgs false

set_option maxRecDepth 1000000 in
set_option maxHeartbeats 64000000 in
theorem lawFnQuestions (w : World) (v : Value) (nb : Nat) (hv : ReadY w v nb) (hnb : nb ≤ 9223372036854775807) :
    Calls Try.prog 6 #[v] w fun e w' => e = .returned (.bool true) ∧ Below w.heap.size w w' := by
  have HV := Aside0.mk hv
  have HB := Aside0.mk (Below.refl w.heap.size w)
  have st : Stg 0 := ⟨⟩
  have hmx : Try.prog.follows .mixedOrders = true := by kernel_rfl
  obtain ⟨A0, d0, rfl, -⟩ := id hv
  clear hv
  by_cases hbig : 4096 < nb
  · have HG : Aside0 (decide (4096 < nb) = true) := ⟨decide_eq_true hbig⟩
    clear hbig
    go_enter Try.func6, Try.ntmps6
    go_wp2_with (first | (replace st := stg_next 0 1 st; go_at_call 21; refine (bigB _ nb _ HV.out hnb).mono ?_; rw [HG.out]; rintro e w2 ⟨rfl, hb⟩; replace HB := Aside0.belowC HB hb; replace HV := Aside0.ready HV hb; clear hb))
    go_ret
    exact ⟨rfl, HB.out⟩
  · have HG : Aside0 (decide (4096 < nb) = false) := ⟨decide_eq_false hbig⟩
    have HN := Aside0.mk (Nat.le_of_not_lt hbig)
    clear hbig
    go_enter Try.func6, Try.ntmps6
    go_wp2_with (first | (replace st := stg_next 0 1 st; go_at_call 21; refine (bigB _ nb _ HV.out hnb).mono ?_; rw [HG.out]; rintro e w2 ⟨rfl, hb⟩; replace HB := Aside0.belowC HB hb; replace HV := Aside0.ready HV hb; clear hb) | (replace st := stg_next 1 2 st; go_at_call 22; refine (drawQuestionNumber _ nb _ HN.out HV.out).mono ?_; rintro e w3 ⟨vk, rfl, ⟨a, u, ys, rfl, ho, hrc⟩, hb⟩; replace HB := Aside0.belowC HB hb; replace HV := Aside0.ready HV hb; clear hb; have HR1 := Aside0.mk ho.read; have HRC := Aside0.mk hrc; clear hrc; obtain ⟨A1, d1, rfl, -⟩ := id ho.read; clear ho; obtain ⟨q1, hq1⟩ : ∃ r, r = (ansQuestionNumber a ys).1 := ⟨_, rfl⟩; have Hq1 := Aside0.mk hq1; clear hq1; obtain ⟨q2, hq2⟩ : ∃ r, r = (ansQuestionNumber a ys).2 := ⟨_, rfl⟩; have Hq2 := Aside0.mk hq2; clear hq2; obtain ⟨i1, hi1⟩ : ∃ r, r = (ansIsEvasive a ys).1 := ⟨_, rfl⟩; have Hi1 := Aside0.mk hi1; clear hi1; obtain ⟨i2, hi2⟩ : ∃ r, r = (ansIsEvasive a ys).2 := ⟨_, rfl⟩; have Hi2 := Aside0.mk hi2; clear hi2; obtain ⟨l1, hl1⟩ : ∃ r, r = (ansLeastEvaders a ys).1 := ⟨_, rfl⟩; have Hl1 := Aside0.mk hl1; clear hl1; obtain ⟨l2, hl2⟩ : ∃ r, r = (ansLeastEvaders a ys).2 := ⟨_, rfl⟩; have Hl2 := Aside0.mk hl2; clear hl2) | (replace st := stg_next 2 3 st; go_at_call 23; refine (implQuestionNumber a _ ys _ (HR1.out.below (Below.alloc (Below.refl _ _) (Nat.le_refl _) _))).mono ?_; rw [← Hq1.out, ← Hq2.out]; rintro e w4 ⟨rfl, hb⟩; have c30 : w4.cell? ⟨w3.heap.size, 0, none⟩ = some (.int .i64 a) := pw_cell_below hb (new_cell _ _ _ 0 _ rfl); have c31 : w4.cell? ⟨w3.heap.size, 1, none⟩ = some (.slice A1 ys.length d1) := pw_cell_below hb (new_cell _ _ _ 1 _ rfl); replace hb := below_unalloc hb; replace HB := Aside0.belowC HB hb; replace HR1 := Aside0.readc HR1 hb; replace HV := Aside0.ready HV hb; clear hb) | (replace st := stg_next 3 4 st; go_at_call 24; refine (specQuestionNumber a _ ys _ HR1.out).mono ?_; rw [← Hq1.out, ← Hq2.out]; rintro e w5 ⟨rfl, hb⟩; replace HB := Aside0.belowC HB hb; replace c30 := pw_cell_below hb c30; replace c31 := pw_cell_below hb c31; replace HR1 := Aside0.readc HR1 hb; replace HV := Aside0.ready HV hb; clear hb) | (replace st := stg_next 4 5 st; go_at_call 25; refine (implIsEvasive a _ ys _ HR1.out).mono ?_; rw [← Hi1.out, ← Hi2.out]; rintro e w6 ⟨rfl, hb⟩; replace HB := Aside0.belowC HB hb; replace c30 := pw_cell_below hb c30; replace c31 := pw_cell_below hb c31; replace HR1 := Aside0.readc HR1 hb; replace HV := Aside0.ready HV hb; clear hb) | (replace st := stg_next 5 6 st; go_at_call 26; refine (specIsEvasive a _ ys _ HR1.out).mono ?_; rw [← Hi1.out, ← Hi2.out]; rintro e w7 ⟨rfl, hb⟩; replace HB := Aside0.belowC HB hb; replace c30 := pw_cell_below hb c30; replace c31 := pw_cell_below hb c31; replace HR1 := Aside0.readc HR1 hb; replace HV := Aside0.ready HV hb; clear hb) | (replace st := stg_next 6 7 st; go_at_call 27; refine (implLeastEvaders a _ ys _ HR1.out).mono ?_; rw [← Hl1.out, ← Hl2.out]; rintro e w8 ⟨rfl, hb⟩; replace HB := Aside0.belowC HB hb; replace c30 := pw_cell_below hb c30; replace c31 := pw_cell_below hb c31; replace HR1 := Aside0.readc HR1 hb; replace HV := Aside0.ready HV hb; clear hb) | (replace st := stg_next 7 8 st; go_at_call 28; refine (specLeastEvaders a _ ys _ HR1.out).mono ?_; rw [← Hl1.out, ← Hl2.out]; rintro e w9 ⟨rfl, hb⟩; replace HB := Aside0.belowC HB hb; replace c30 := pw_cell_below hb c30; replace c31 := pw_cell_below hb c31; replace HR1 := Aside0.readc HR1 hb; replace HV := Aside0.ready HV hb; clear hb) | (replace st := stg_next 8 9 st; go_at_call 29; refine Aside0.out ?_))
    refine Aside0.mk ?_
    with_reducible refine (drawQuestionsFor _ nb _ HN.out HV.out).mono ?_
    rintro e w10 ⟨b, u2, tv, zs, ts, h, rfl, ho2, hot, hrc2, hlt, hh, hb⟩
    replace HB := Aside0.belowC HB hb
    replace c30 := pw_cell_below hb c30
    replace c31 := pw_cell_below hb c31
    replace HR1 := Aside0.readc HR1 hb
    clear hb HV
    have HR2 := Aside0.mk ho2.read
    have HRT := Aside0.mk hot.read
    have HHH := Aside0.mk hh
    obtain ⟨A2, d2, rfl, -⟩ := id ho2.read
    obtain ⟨A3, d3, rfl, -⟩ := id hot.read
    clear ho2 hot hrc2 hlt hh
    obtain ⟨f1, hf1⟩ : ∃ r, r = (ansQuestionsFor b zs ts h).1 := ⟨_, rfl⟩
    have Hf1 := Aside0.mk hf1
    clear hf1
    obtain ⟨f2, hf2⟩ : ∃ r, r = (ansQuestionsFor b zs ts h).2 := ⟨_, rfl⟩
    have Hf2 := Aside0.mk hf2
    clear hf2
    obtain ⟨e1, he1⟩ : ∃ r, r = (ansEvadersOf b zs ts).1 := ⟨_, rfl⟩
    have He1 := Aside0.mk he1
    clear he1
    obtain ⟨e2, he2⟩ : ∃ r, r = (ansEvadersOf b zs ts).2 := ⟨_, rfl⟩
    have He2 := Aside0.mk he2
    clear he2
    obtain ⟨m1, hm1⟩ : ∃ r, r = (ansLeastEvaders b zs).1 := ⟨_, rfl⟩
    have Hm1 := Aside0.mk hm1
    clear hm1
    obtain ⟨m2, hm2⟩ : ∃ r, r = (ansLeastEvaders b zs).2 := ⟨_, rfl⟩
    have Hm2 := Aside0.mk hm2
    clear hm2
    have HFL : Aside0 (f1.length ≤ 1073741824) := ⟨by rw [Hf1.out]; exact lenQuestionsFor b zs ts h⟩
    have HEL : Aside0 (e1.length ≤ 64) := ⟨by rw [He1.out]; exact ev_len64 b zs ts⟩
    have hfl := HFL.out
    have hel := HEL.out
    have KE : e2 = 0 → m2 = 0 ∧ m1 ≤ (e1.length : Int) ∧ e1.length % 2 = 0 := fun h0 => by
      rw [Hm1.out, Hm2.out, He1.out]; exact key_ev (by rw [← He2.out]; exact h0)
    have KQ : f2 = 0 → e2 = 0 ∧ decide (h ∈ e1) = ((f1.length : Int) == b) := fun h0 => by
      rw [He2.out, He1.out, Hf1.out]; exact key_qf (by rw [← Hf2.out]; exact h0)
    by_cases he2z : e2 = 0
    · obtain ⟨hm2z, hm1, hev⟩ := KE he2z
      clear KE
      have he2' : (e2 == 0) = true := by rw [he2z]; rfl
      have hm1n : ¬ (e1.length : Int) < m1 := by omega
      have hev1 : Int.tmod (e1.length : Int) 2 = 0 := by rw [Int.tmod_eq_emod_of_nonneg (by omega)]; omega
      have hev2 : (e1.length : Int) % 2 = 0 := by omega
      clear hm1 hev
      by_cases hf2z : f2 = 0
      · obtain ⟨-, hdec⟩ := KQ hf2z
        clear KQ
        cases hcx : cxOk a ys with
        | false =>
          obtain ⟨k1, k2, k3⟩ := key_bad hcx
          have eq1 : q1 = 0 := by rw [Hq1.out, k1]
          subst eq1
          have eq2 : q2 = 1 := by rw [Hq2.out, k1]
          subst eq2
          have ei1 : i1 = false := by rw [Hi1.out, k2]
          subst ei1
          have ei2 : i2 = 1 := by rw [Hi2.out, k2]
          subst ei2
          have el1 : l1 = 0 := by rw [Hl1.out, k3]
          subst el1
          have el2 : l2 = 1 := by rw [Hl2.out, k3]
          subst el2
          clear k1 k2 k3 hcx
          go_wp2_with (first | (replace st := stg_next 9 10 st; go_at_call 30; refine (implQuestionsFor b _ zs _ ts h _ (HR2.out.below (Below.alloc (Below.refl _ _) (Nat.le_refl _) _)) (HRT.out.below (Below.alloc (Below.refl _ _) (Nat.le_refl _) _))).mono ?_; rw [← Hf1.out, ← Hf2.out]; rw [hf2z]; rintro e w11 ⟨u, rfl, ho, hb⟩; have c60 : w11.cell? ⟨w10.heap.size, 0, none⟩ = some (.int .i64 b) := pw_cell_below hb (new_cell _ _ _ 0 _ rfl); have c61 : w11.cell? ⟨w10.heap.size, 1, none⟩ = some (.slice A2 zs.length d2) := pw_cell_below hb (new_cell _ _ _ 1 _ rfl); replace hb := below_unalloc hb; replace HB := Aside0.belowC HB hb; replace c30 := pw_cell_below hb c30; replace c31 := pw_cell_below hb c31; replace HR1 := Aside0.readc HR1 hb; replace HR2 := Aside0.readc HR2 hb; replace HRT := Aside0.readc HRT hb; clear hb; have HQ1 := Aside0.mk ho.read; obtain ⟨A4, d4, rfl, -⟩ := id ho.read; clear ho) | (replace st := stg_next 10 11 st; go_at_call 31; refine (specQuestionsFor b _ zs _ ts h _ HR2.out HRT.out).mono ?_; rw [← Hf1.out, ← Hf2.out]; rw [hf2z]; rintro e w12 ⟨u, rfl, ho, hb⟩; replace HB := Aside0.belowC HB hb; replace c30 := pw_cell_below hb c30; replace c31 := pw_cell_below hb c31; replace c60 := pw_cell_below hb c60; replace c61 := pw_cell_below hb c61; replace HR1 := Aside0.readc HR1 hb; replace HR2 := Aside0.readc HR2 hb; replace HRT := Aside0.readc HRT hb; replace HQ1 := Aside0.readc HQ1 hb; clear hb; have HQ2 := Aside0.mk ho.read; obtain ⟨A5, d5, rfl, -⟩ := id ho.read; clear ho) | (replace st := stg_next 11 12 st; go_at_call 32; refine (likeSame _ _ f1 _ HQ1.out HQ2.out).mono ?_; rintro e w13 ⟨rfl, hb⟩; replace HB := Aside0.belowC HB hb; replace c30 := pw_cell_below hb c30; replace c31 := pw_cell_below hb c31; replace c60 := pw_cell_below hb c60; replace c61 := pw_cell_below hb c61; replace HR1 := Aside0.readc HR1 hb; replace HR2 := Aside0.readc HR2 hb; replace HRT := Aside0.readc HRT hb; replace HQ1 := Aside0.readc HQ1 hb; replace HQ2 := Aside0.readc HQ2 hb; clear hb) | (replace st := stg_next 12 13 st; go_at_call 33; refine (implEvadersOf b _ zs _ ts _ HR2.out HRT.out).mono ?_; rw [← He1.out, ← He2.out]; rw [he2z]; rintro e w14 ⟨u, rfl, ho, hb⟩; replace HB := Aside0.belowC HB hb; replace c30 := pw_cell_below hb c30; replace c31 := pw_cell_below hb c31; replace c60 := pw_cell_below hb c60; replace c61 := pw_cell_below hb c61; replace HR1 := Aside0.readc HR1 hb; replace HR2 := Aside0.readc HR2 hb; replace HRT := Aside0.readc HRT hb; replace HQ1 := Aside0.readc HQ1 hb; replace HQ2 := Aside0.readc HQ2 hb; clear hb; have HE1 := Aside0.mk ho.read; obtain ⟨A6, d6, rfl, -⟩ := id ho.read; clear ho) | (replace st := stg_next 13 14 st; go_at_call 34; refine (specEvadersOf b _ zs _ ts _ HR2.out HRT.out).mono ?_; rw [← He1.out, ← He2.out]; rw [he2z]; rintro e w15 ⟨u, rfl, ho, hb⟩; replace HB := Aside0.belowC HB hb; replace c30 := pw_cell_below hb c30; replace c31 := pw_cell_below hb c31; replace c60 := pw_cell_below hb c60; replace c61 := pw_cell_below hb c61; replace HR1 := Aside0.readc HR1 hb; replace HR2 := Aside0.readc HR2 hb; replace HRT := Aside0.readc HRT hb; replace HQ1 := Aside0.readc HQ1 hb; replace HQ2 := Aside0.readc HQ2 hb; replace HE1 := Aside0.readc HE1 hb; clear hb; have HE2 := Aside0.mk ho.read; obtain ⟨A7, d7, rfl, -⟩ := id ho.read; clear ho) | (replace st := stg_next 14 15 st; go_at_call 32; refine (likeSame _ _ e1 _ HE1.out HE2.out).mono ?_; rintro e w16 ⟨rfl, hb⟩; replace HB := Aside0.belowC HB hb; replace c30 := pw_cell_below hb c30; replace c31 := pw_cell_below hb c31; replace c60 := pw_cell_below hb c60; replace c61 := pw_cell_below hb c61; replace HR1 := Aside0.readc HR1 hb; replace HR2 := Aside0.readc HR2 hb; replace HRT := Aside0.readc HRT hb; replace HQ1 := Aside0.readc HQ1 hb; replace HQ2 := Aside0.readc HQ2 hb; replace HE1 := Aside0.readc HE1 hb; replace HE2 := Aside0.readc HE2 hb; clear hb) | (replace st := stg_next 15 16 st; go_at_call 27; refine (implLeastEvaders b _ zs _ HR2.out).mono ?_; rw [← Hm1.out, ← Hm2.out]; rw [hm2z]; rintro e w17 ⟨rfl, hb⟩; replace HB := Aside0.belowC HB hb; replace c30 := pw_cell_below hb c30; replace c31 := pw_cell_below hb c31; replace c60 := pw_cell_below hb c60; replace c61 := pw_cell_below hb c61; replace HR1 := Aside0.readc HR1 hb; replace HR2 := Aside0.readc HR2 hb; replace HRT := Aside0.readc HRT hb; replace HQ1 := Aside0.readc HQ1 hb; replace HQ2 := Aside0.readc HQ2 hb; replace HE1 := Aside0.readc HE1 hb; replace HE2 := Aside0.readc HE2 hb; clear hb))
          have x60 : ∀ x : Ext w17, x.1.cell? ⟨w10.heap.size, 0, none⟩ = some (.int .i64 b) := fun x => Ext.cell c60 x
          have HH : Aside0 (∀ x : Ext w17, Calls Try.prog 35 #[.slice A6 e1.length d6, .int .i64 h] x.1 fun e w' => e = .returned (.bool ((f1.length : Int) == b)) ∧ Below x.1.heap.size x.1 w') := ⟨fun x => by rw [← hdec]; exact hasInt _ e1 h x.1 (HE1.out.below x.2) (by omega)⟩
          refine wp_region_ext (by kernel_rfl) (by kernel_rfl) ?_
          repeat (go_big_quiet_step ((first | (go_at_call 35; exact Calls.ext_of (HH.out _)))))
          refine wpQuiet_nil ?_
          rintro _ ⟨x, rfl⟩
          have hb := x.2
          replace c30 := pw_cell_below hb c30
          replace c31 := pw_cell_below hb c31
          replace c60 := pw_cell_below hb c60
          replace c61 := pw_cell_below hb c61
          replace HR1 := Aside0.readc HR1 hb
          replace HR2 := Aside0.readc HR2 hb
          replace HRT := Aside0.readc HRT hb
          replace HQ1 := Aside0.readc HQ1 hb
          replace HQ2 := Aside0.readc HQ2 hb
          replace HE1 := Aside0.readc HE1 hb
          replace HE2 := Aside0.readc HE2 hb
          replace HB := Aside0.belowC HB hb
          clear x60 HH hb
          go_wp2
          go_ret
          exact ⟨rfl, HB.out⟩
        | true =>
          obtain ⟨N, L, X, k1, k2, k3, k4, hN0, hN1, hL, hX⟩ := key_good hcx
          have hN0n : ¬ N < 0 := by omega
          have hN1n : ¬ a < N := by omega
          by_cases hNa : N = a
          · have hn1 : (N == a) = true := by rw [beq_iff_eq]; exact hNa
            rw [hn1] at hL k2
            have hL0 : (0 : Int) < L := of_decide_eq_true hL
            have eq1 : q1 = N := by rw [Hq1.out, k1]
            clear Hq1
            subst eq1
            have eq2 : q2 = 0 := by rw [Hq2.out, k1]
            clear Hq2
            subst eq2
            have ei1 : i1 = true := by rw [Hi1.out, k2]
            clear Hi1
            subst ei1
            have ei2 : i2 = 0 := by rw [Hi2.out, k2]
            clear Hi2
            subst ei2
            have el1 : l1 = L := by rw [Hl1.out, k3]
            clear Hl1
            subst el1
            have el2 : l2 = 0 := by rw [Hl2.out, k3]
            clear Hl2
            subst el2
            have HX := Aside0.mk k4
            clear k1 k2 k3 k4 hcx hX hL hN0 hN1 hNa
            go_wp2_with (first | (replace st := stg_next 9 10 st; go_at_call 30; refine (implQuestionsFor b _ zs _ ts h _ (HR2.out.below (Below.alloc (Below.refl _ _) (Nat.le_refl _) _)) (HRT.out.below (Below.alloc (Below.refl _ _) (Nat.le_refl _) _))).mono ?_; rw [← Hf1.out, ← Hf2.out]; rw [hf2z]; rintro e w11 ⟨u, rfl, ho, hb⟩; have c60 : w11.cell? ⟨w10.heap.size, 0, none⟩ = some (.int .i64 b) := pw_cell_below hb (new_cell _ _ _ 0 _ rfl); have c61 : w11.cell? ⟨w10.heap.size, 1, none⟩ = some (.slice A2 zs.length d2) := pw_cell_below hb (new_cell _ _ _ 1 _ rfl); replace hb := below_unalloc hb; replace HB := Aside0.belowC HB hb; replace c30 := pw_cell_below hb c30; replace c31 := pw_cell_below hb c31; replace HR1 := Aside0.readc HR1 hb; replace HR2 := Aside0.readc HR2 hb; replace HRT := Aside0.readc HRT hb; clear hb; have HQ1 := Aside0.mk ho.read; obtain ⟨A4, d4, rfl, -⟩ := id ho.read; clear ho) | (replace st := stg_next 10 11 st; go_at_call 31; refine (specQuestionsFor b _ zs _ ts h _ HR2.out HRT.out).mono ?_; rw [← Hf1.out, ← Hf2.out]; rw [hf2z]; rintro e w12 ⟨u, rfl, ho, hb⟩; replace HB := Aside0.belowC HB hb; replace c30 := pw_cell_below hb c30; replace c31 := pw_cell_below hb c31; replace c60 := pw_cell_below hb c60; replace c61 := pw_cell_below hb c61; replace HR1 := Aside0.readc HR1 hb; replace HR2 := Aside0.readc HR2 hb; replace HRT := Aside0.readc HRT hb; replace HQ1 := Aside0.readc HQ1 hb; clear hb; have HQ2 := Aside0.mk ho.read; obtain ⟨A5, d5, rfl, -⟩ := id ho.read; clear ho) | (replace st := stg_next 11 12 st; go_at_call 32; refine (likeSame _ _ f1 _ HQ1.out HQ2.out).mono ?_; rintro e w13 ⟨rfl, hb⟩; replace HB := Aside0.belowC HB hb; replace c30 := pw_cell_below hb c30; replace c31 := pw_cell_below hb c31; replace c60 := pw_cell_below hb c60; replace c61 := pw_cell_below hb c61; replace HR1 := Aside0.readc HR1 hb; replace HR2 := Aside0.readc HR2 hb; replace HRT := Aside0.readc HRT hb; replace HQ1 := Aside0.readc HQ1 hb; replace HQ2 := Aside0.readc HQ2 hb; clear hb) | (replace st := stg_next 12 13 st; go_at_call 33; refine (implEvadersOf b _ zs _ ts _ HR2.out HRT.out).mono ?_; rw [← He1.out, ← He2.out]; rw [he2z]; rintro e w14 ⟨u, rfl, ho, hb⟩; replace HB := Aside0.belowC HB hb; replace c30 := pw_cell_below hb c30; replace c31 := pw_cell_below hb c31; replace c60 := pw_cell_below hb c60; replace c61 := pw_cell_below hb c61; replace HR1 := Aside0.readc HR1 hb; replace HR2 := Aside0.readc HR2 hb; replace HRT := Aside0.readc HRT hb; replace HQ1 := Aside0.readc HQ1 hb; replace HQ2 := Aside0.readc HQ2 hb; clear hb; have HE1 := Aside0.mk ho.read; obtain ⟨A6, d6, rfl, -⟩ := id ho.read; clear ho) | (replace st := stg_next 13 14 st; go_at_call 34; refine (specEvadersOf b _ zs _ ts _ HR2.out HRT.out).mono ?_; rw [← He1.out, ← He2.out]; rw [he2z]; rintro e w15 ⟨u, rfl, ho, hb⟩; replace HB := Aside0.belowC HB hb; replace c30 := pw_cell_below hb c30; replace c31 := pw_cell_below hb c31; replace c60 := pw_cell_below hb c60; replace c61 := pw_cell_below hb c61; replace HR1 := Aside0.readc HR1 hb; replace HR2 := Aside0.readc HR2 hb; replace HRT := Aside0.readc HRT hb; replace HQ1 := Aside0.readc HQ1 hb; replace HQ2 := Aside0.readc HQ2 hb; replace HE1 := Aside0.readc HE1 hb; clear hb; have HE2 := Aside0.mk ho.read; obtain ⟨A7, d7, rfl, -⟩ := id ho.read; clear ho) | (replace st := stg_next 14 15 st; go_at_call 32; refine (likeSame _ _ e1 _ HE1.out HE2.out).mono ?_; rintro e w16 ⟨rfl, hb⟩; replace HB := Aside0.belowC HB hb; replace c30 := pw_cell_below hb c30; replace c31 := pw_cell_below hb c31; replace c60 := pw_cell_below hb c60; replace c61 := pw_cell_below hb c61; replace HR1 := Aside0.readc HR1 hb; replace HR2 := Aside0.readc HR2 hb; replace HRT := Aside0.readc HRT hb; replace HQ1 := Aside0.readc HQ1 hb; replace HQ2 := Aside0.readc HQ2 hb; replace HE1 := Aside0.readc HE1 hb; replace HE2 := Aside0.readc HE2 hb; clear hb) | (replace st := stg_next 15 16 st; go_at_call 27; refine (implLeastEvaders b _ zs _ HR2.out).mono ?_; rw [← Hm1.out, ← Hm2.out]; rw [hm2z]; rintro e w17 ⟨rfl, hb⟩; replace HB := Aside0.belowC HB hb; replace c30 := pw_cell_below hb c30; replace c31 := pw_cell_below hb c31; replace c60 := pw_cell_below hb c60; replace c61 := pw_cell_below hb c61; replace HR1 := Aside0.readc HR1 hb; replace HR2 := Aside0.readc HR2 hb; replace HRT := Aside0.readc HRT hb; replace HQ1 := Aside0.readc HQ1 hb; replace HQ2 := Aside0.readc HQ2 hb; replace HE1 := Aside0.readc HE1 hb; replace HE2 := Aside0.readc HE2 hb; clear hb))
            have x60 : ∀ x : Ext w17, x.1.cell? ⟨w10.heap.size, 0, none⟩ = some (.int .i64 b) := fun x => Ext.cell c60 x
            have HH : Aside0 (∀ x : Ext w17, Calls Try.prog 35 #[.slice A6 e1.length d6, .int .i64 h] x.1 fun e w' => e = .returned (.bool ((f1.length : Int) == b)) ∧ Below x.1.heap.size x.1 w') := ⟨fun x => by rw [← hdec]; exact hasInt _ e1 h x.1 (HE1.out.below x.2) (by omega)⟩
            refine wp_region_ext (by kernel_rfl) (by kernel_rfl) ?_
            repeat (go_big_quiet_step ((first | (go_at_call 35; exact Calls.ext_of (HH.out _)))))
            refine wpQuiet_nil ?_
            rintro _ ⟨x, rfl⟩
            have hb := x.2
            replace c30 := pw_cell_below hb c30
            replace c31 := pw_cell_below hb c31
            replace c60 := pw_cell_below hb c60
            replace c61 := pw_cell_below hb c61
            replace HR1 := Aside0.readc HR1 hb
            replace HR2 := Aside0.readc HR2 hb
            replace HRT := Aside0.readc HRT hb
            replace HQ1 := Aside0.readc HQ1 hb
            replace HQ2 := Aside0.readc HQ2 hb
            replace HE1 := Aside0.readc HE1 hb
            replace HE2 := Aside0.readc HE2 hb
            replace HB := Aside0.belowC HB hb
            clear x60 HH hb
            go_wp2_with (first | (go_at_call 36; refine (implEulerNumber a _ ys _ (HR1.out.below (Below.refl _ _))).mono ?_; rw [HX.out]; rintro e w18 ⟨rfl, hb⟩; replace hb := (Below.refl _ _).trans hb; replace c30 := pw_cell_below hb c30; replace c31 := pw_cell_below hb c31; replace HB := Aside0.belowC HB hb; clear hb))
            go_ret
            exact ⟨rfl, HB.out⟩
          · have hn1 : (N == a) = false := by rw [beq_eq_false_iff_ne]; exact hNa
            rw [hn1] at hL k2
            have hL0 : ¬ (0 : Int) < L := of_decide_eq_false hL
            obtain rfl : X = 1 := hX hNa
            have eq1 : q1 = N := by rw [Hq1.out, k1]
            clear Hq1
            subst eq1
            have eq2 : q2 = 0 := by rw [Hq2.out, k1]
            clear Hq2
            subst eq2
            have ei1 : i1 = false := by rw [Hi1.out, k2]
            clear Hi1
            subst ei1
            have ei2 : i2 = 0 := by rw [Hi2.out, k2]
            clear Hi2
            subst ei2
            have el1 : l1 = L := by rw [Hl1.out, k3]
            clear Hl1
            subst el1
            have el2 : l2 = 0 := by rw [Hl2.out, k3]
            clear Hl2
            subst el2
            have HX := Aside0.mk k4
            clear k1 k2 k3 k4 hcx hX hL hN0 hN1 hNa
            go_wp2_with (first | (replace st := stg_next 9 10 st; go_at_call 30; refine (implQuestionsFor b _ zs _ ts h _ (HR2.out.below (Below.alloc (Below.refl _ _) (Nat.le_refl _) _)) (HRT.out.below (Below.alloc (Below.refl _ _) (Nat.le_refl _) _))).mono ?_; rw [← Hf1.out, ← Hf2.out]; rw [hf2z]; rintro e w11 ⟨u, rfl, ho, hb⟩; have c60 : w11.cell? ⟨w10.heap.size, 0, none⟩ = some (.int .i64 b) := pw_cell_below hb (new_cell _ _ _ 0 _ rfl); have c61 : w11.cell? ⟨w10.heap.size, 1, none⟩ = some (.slice A2 zs.length d2) := pw_cell_below hb (new_cell _ _ _ 1 _ rfl); replace hb := below_unalloc hb; replace HB := Aside0.belowC HB hb; replace c30 := pw_cell_below hb c30; replace c31 := pw_cell_below hb c31; replace HR1 := Aside0.readc HR1 hb; replace HR2 := Aside0.readc HR2 hb; replace HRT := Aside0.readc HRT hb; clear hb; have HQ1 := Aside0.mk ho.read; obtain ⟨A4, d4, rfl, -⟩ := id ho.read; clear ho) | (replace st := stg_next 10 11 st; go_at_call 31; refine (specQuestionsFor b _ zs _ ts h _ HR2.out HRT.out).mono ?_; rw [← Hf1.out, ← Hf2.out]; rw [hf2z]; rintro e w12 ⟨u, rfl, ho, hb⟩; replace HB := Aside0.belowC HB hb; replace c30 := pw_cell_below hb c30; replace c31 := pw_cell_below hb c31; replace c60 := pw_cell_below hb c60; replace c61 := pw_cell_below hb c61; replace HR1 := Aside0.readc HR1 hb; replace HR2 := Aside0.readc HR2 hb; replace HRT := Aside0.readc HRT hb; replace HQ1 := Aside0.readc HQ1 hb; clear hb; have HQ2 := Aside0.mk ho.read; obtain ⟨A5, d5, rfl, -⟩ := id ho.read; clear ho) | (replace st := stg_next 11 12 st; go_at_call 32; refine (likeSame _ _ f1 _ HQ1.out HQ2.out).mono ?_; rintro e w13 ⟨rfl, hb⟩; replace HB := Aside0.belowC HB hb; replace c30 := pw_cell_below hb c30; replace c31 := pw_cell_below hb c31; replace c60 := pw_cell_below hb c60; replace c61 := pw_cell_below hb c61; replace HR1 := Aside0.readc HR1 hb; replace HR2 := Aside0.readc HR2 hb; replace HRT := Aside0.readc HRT hb; replace HQ1 := Aside0.readc HQ1 hb; replace HQ2 := Aside0.readc HQ2 hb; clear hb) | (replace st := stg_next 12 13 st; go_at_call 33; refine (implEvadersOf b _ zs _ ts _ HR2.out HRT.out).mono ?_; rw [← He1.out, ← He2.out]; rw [he2z]; rintro e w14 ⟨u, rfl, ho, hb⟩; replace HB := Aside0.belowC HB hb; replace c30 := pw_cell_below hb c30; replace c31 := pw_cell_below hb c31; replace c60 := pw_cell_below hb c60; replace c61 := pw_cell_below hb c61; replace HR1 := Aside0.readc HR1 hb; replace HR2 := Aside0.readc HR2 hb; replace HRT := Aside0.readc HRT hb; replace HQ1 := Aside0.readc HQ1 hb; replace HQ2 := Aside0.readc HQ2 hb; clear hb; have HE1 := Aside0.mk ho.read; obtain ⟨A6, d6, rfl, -⟩ := id ho.read; clear ho) | (replace st := stg_next 13 14 st; go_at_call 34; refine (specEvadersOf b _ zs _ ts _ HR2.out HRT.out).mono ?_; rw [← He1.out, ← He2.out]; rw [he2z]; rintro e w15 ⟨u, rfl, ho, hb⟩; replace HB := Aside0.belowC HB hb; replace c30 := pw_cell_below hb c30; replace c31 := pw_cell_below hb c31; replace c60 := pw_cell_below hb c60; replace c61 := pw_cell_below hb c61; replace HR1 := Aside0.readc HR1 hb; replace HR2 := Aside0.readc HR2 hb; replace HRT := Aside0.readc HRT hb; replace HQ1 := Aside0.readc HQ1 hb; replace HQ2 := Aside0.readc HQ2 hb; replace HE1 := Aside0.readc HE1 hb; clear hb; have HE2 := Aside0.mk ho.read; obtain ⟨A7, d7, rfl, -⟩ := id ho.read; clear ho) | (replace st := stg_next 14 15 st; go_at_call 32; refine (likeSame _ _ e1 _ HE1.out HE2.out).mono ?_; rintro e w16 ⟨rfl, hb⟩; replace HB := Aside0.belowC HB hb; replace c30 := pw_cell_below hb c30; replace c31 := pw_cell_below hb c31; replace c60 := pw_cell_below hb c60; replace c61 := pw_cell_below hb c61; replace HR1 := Aside0.readc HR1 hb; replace HR2 := Aside0.readc HR2 hb; replace HRT := Aside0.readc HRT hb; replace HQ1 := Aside0.readc HQ1 hb; replace HQ2 := Aside0.readc HQ2 hb; replace HE1 := Aside0.readc HE1 hb; replace HE2 := Aside0.readc HE2 hb; clear hb) | (replace st := stg_next 15 16 st; go_at_call 27; refine (implLeastEvaders b _ zs _ HR2.out).mono ?_; rw [← Hm1.out, ← Hm2.out]; rw [hm2z]; rintro e w17 ⟨rfl, hb⟩; replace HB := Aside0.belowC HB hb; replace c30 := pw_cell_below hb c30; replace c31 := pw_cell_below hb c31; replace c60 := pw_cell_below hb c60; replace c61 := pw_cell_below hb c61; replace HR1 := Aside0.readc HR1 hb; replace HR2 := Aside0.readc HR2 hb; replace HRT := Aside0.readc HRT hb; replace HQ1 := Aside0.readc HQ1 hb; replace HQ2 := Aside0.readc HQ2 hb; replace HE1 := Aside0.readc HE1 hb; replace HE2 := Aside0.readc HE2 hb; clear hb))
            have x60 : ∀ x : Ext w17, x.1.cell? ⟨w10.heap.size, 0, none⟩ = some (.int .i64 b) := fun x => Ext.cell c60 x
            have HH : Aside0 (∀ x : Ext w17, Calls Try.prog 35 #[.slice A6 e1.length d6, .int .i64 h] x.1 fun e w' => e = .returned (.bool ((f1.length : Int) == b)) ∧ Below x.1.heap.size x.1 w') := ⟨fun x => by rw [← hdec]; exact hasInt _ e1 h x.1 (HE1.out.below x.2) (by omega)⟩
            refine wp_region_ext (by kernel_rfl) (by kernel_rfl) ?_
            repeat (go_big_quiet_step ((first | (go_at_call 35; exact Calls.ext_of (HH.out _)))))
            refine wpQuiet_nil ?_
            rintro _ ⟨x, rfl⟩
            have hb := x.2
            replace c30 := pw_cell_below hb c30
            replace c31 := pw_cell_below hb c31
            replace c60 := pw_cell_below hb c60
            replace c61 := pw_cell_below hb c61
            replace HR1 := Aside0.readc HR1 hb
            replace HR2 := Aside0.readc HR2 hb
            replace HRT := Aside0.readc HRT hb
            replace HQ1 := Aside0.readc HQ1 hb
            replace HQ2 := Aside0.readc HQ2 hb
            replace HE1 := Aside0.readc HE1 hb
            replace HE2 := Aside0.readc HE2 hb
            replace HB := Aside0.belowC HB hb
            clear x60 HH hb
            go_wp2_with (first | (go_at_call 36; refine (implEulerNumber a _ ys _ (HR1.out.below (Below.refl _ _))).mono ?_; rw [HX.out]; rintro e w18 ⟨rfl, hb⟩; replace hb := (Below.refl _ _).trans hb; replace c30 := pw_cell_below hb c30; replace c31 := pw_cell_below hb c31; replace HB := Aside0.belowC HB hb; clear hb))
            go_ret
            exact ⟨rfl, HB.out⟩
      · have hf2' : (f2 == 0) = false := by rw [beq_eq_false_iff_ne]; exact hf2z
        clear KQ
        cases hcx : cxOk a ys with
        | false =>
          obtain ⟨k1, k2, k3⟩ := key_bad hcx
          have eq1 : q1 = 0 := by rw [Hq1.out, k1]
          subst eq1
          have eq2 : q2 = 1 := by rw [Hq2.out, k1]
          subst eq2
          have ei1 : i1 = false := by rw [Hi1.out, k2]
          subst ei1
          have ei2 : i2 = 1 := by rw [Hi2.out, k2]
          subst ei2
          have el1 : l1 = 0 := by rw [Hl1.out, k3]
          subst el1
          have el2 : l2 = 1 := by rw [Hl2.out, k3]
          subst el2
          clear k1 k2 k3 hcx
          go_wp2_with (first | (replace st := stg_next 9 10 st; go_at_call 30; refine (implQuestionsFor b _ zs _ ts h _ (HR2.out.below (Below.alloc (Below.refl _ _) (Nat.le_refl _) _)) (HRT.out.below (Below.alloc (Below.refl _ _) (Nat.le_refl _) _))).mono ?_; rw [← Hf1.out, ← Hf2.out]; rintro e w11 ⟨u, rfl, ho, hb⟩; have c60 : w11.cell? ⟨w10.heap.size, 0, none⟩ = some (.int .i64 b) := pw_cell_below hb (new_cell _ _ _ 0 _ rfl); have c61 : w11.cell? ⟨w10.heap.size, 1, none⟩ = some (.slice A2 zs.length d2) := pw_cell_below hb (new_cell _ _ _ 1 _ rfl); replace hb := below_unalloc hb; replace HB := Aside0.belowC HB hb; replace c30 := pw_cell_below hb c30; replace c31 := pw_cell_below hb c31; replace HR1 := Aside0.readc HR1 hb; replace HR2 := Aside0.readc HR2 hb; replace HRT := Aside0.readc HRT hb; clear hb; have HQ1 := Aside0.mk ho.read; obtain ⟨A4, d4, rfl, -⟩ := id ho.read; clear ho) | (replace st := stg_next 10 11 st; go_at_call 31; refine (specQuestionsFor b _ zs _ ts h _ HR2.out HRT.out).mono ?_; rw [← Hf1.out, ← Hf2.out]; rintro e w12 ⟨u, rfl, ho, hb⟩; replace HB := Aside0.belowC HB hb; replace c30 := pw_cell_below hb c30; replace c31 := pw_cell_below hb c31; replace c60 := pw_cell_below hb c60; replace c61 := pw_cell_below hb c61; replace HR1 := Aside0.readc HR1 hb; replace HR2 := Aside0.readc HR2 hb; replace HRT := Aside0.readc HRT hb; replace HQ1 := Aside0.readc HQ1 hb; clear hb; have HQ2 := Aside0.mk ho.read; obtain ⟨A5, d5, rfl, -⟩ := id ho.read; clear ho) | (replace st := stg_next 11 12 st; go_at_call 32; refine (likeSame _ _ f1 _ HQ1.out HQ2.out).mono ?_; rintro e w13 ⟨rfl, hb⟩; replace HB := Aside0.belowC HB hb; replace c30 := pw_cell_below hb c30; replace c31 := pw_cell_below hb c31; replace c60 := pw_cell_below hb c60; replace c61 := pw_cell_below hb c61; replace HR1 := Aside0.readc HR1 hb; replace HR2 := Aside0.readc HR2 hb; replace HRT := Aside0.readc HRT hb; replace HQ1 := Aside0.readc HQ1 hb; replace HQ2 := Aside0.readc HQ2 hb; clear hb) | (replace st := stg_next 12 13 st; go_at_call 33; refine (implEvadersOf b _ zs _ ts _ HR2.out HRT.out).mono ?_; rw [← He1.out, ← He2.out]; rw [he2z]; rintro e w14 ⟨u, rfl, ho, hb⟩; replace HB := Aside0.belowC HB hb; replace c30 := pw_cell_below hb c30; replace c31 := pw_cell_below hb c31; replace c60 := pw_cell_below hb c60; replace c61 := pw_cell_below hb c61; replace HR1 := Aside0.readc HR1 hb; replace HR2 := Aside0.readc HR2 hb; replace HRT := Aside0.readc HRT hb; replace HQ1 := Aside0.readc HQ1 hb; replace HQ2 := Aside0.readc HQ2 hb; clear hb; have HE1 := Aside0.mk ho.read; obtain ⟨A6, d6, rfl, -⟩ := id ho.read; clear ho) | (replace st := stg_next 13 14 st; go_at_call 34; refine (specEvadersOf b _ zs _ ts _ HR2.out HRT.out).mono ?_; rw [← He1.out, ← He2.out]; rw [he2z]; rintro e w15 ⟨u, rfl, ho, hb⟩; replace HB := Aside0.belowC HB hb; replace c30 := pw_cell_below hb c30; replace c31 := pw_cell_below hb c31; replace c60 := pw_cell_below hb c60; replace c61 := pw_cell_below hb c61; replace HR1 := Aside0.readc HR1 hb; replace HR2 := Aside0.readc HR2 hb; replace HRT := Aside0.readc HRT hb; replace HQ1 := Aside0.readc HQ1 hb; replace HQ2 := Aside0.readc HQ2 hb; replace HE1 := Aside0.readc HE1 hb; clear hb; have HE2 := Aside0.mk ho.read; obtain ⟨A7, d7, rfl, -⟩ := id ho.read; clear ho) | (replace st := stg_next 14 15 st; go_at_call 32; refine (likeSame _ _ e1 _ HE1.out HE2.out).mono ?_; rintro e w16 ⟨rfl, hb⟩; replace HB := Aside0.belowC HB hb; replace c30 := pw_cell_below hb c30; replace c31 := pw_cell_below hb c31; replace c60 := pw_cell_below hb c60; replace c61 := pw_cell_below hb c61; replace HR1 := Aside0.readc HR1 hb; replace HR2 := Aside0.readc HR2 hb; replace HRT := Aside0.readc HRT hb; replace HQ1 := Aside0.readc HQ1 hb; replace HQ2 := Aside0.readc HQ2 hb; replace HE1 := Aside0.readc HE1 hb; replace HE2 := Aside0.readc HE2 hb; clear hb) | (replace st := stg_next 15 16 st; go_at_call 27; refine (implLeastEvaders b _ zs _ HR2.out).mono ?_; rw [← Hm1.out, ← Hm2.out]; rw [hm2z]; rintro e w17 ⟨rfl, hb⟩; replace HB := Aside0.belowC HB hb; replace c30 := pw_cell_below hb c30; replace c31 := pw_cell_below hb c31; replace c60 := pw_cell_below hb c60; replace c61 := pw_cell_below hb c61; replace HR1 := Aside0.readc HR1 hb; replace HR2 := Aside0.readc HR2 hb; replace HRT := Aside0.readc HRT hb; replace HQ1 := Aside0.readc HQ1 hb; replace HQ2 := Aside0.readc HQ2 hb; replace HE1 := Aside0.readc HE1 hb; replace HE2 := Aside0.readc HE2 hb; clear hb))
          go_quiet (fail)
          go_wp2
          go_ret
          exact ⟨rfl, below_drewN HB.out _⟩
        | true =>
          obtain ⟨N, L, X, k1, k2, k3, k4, hN0, hN1, hL, hX⟩ := key_good hcx
          have hN0n : ¬ N < 0 := by omega
          have hN1n : ¬ a < N := by omega
          by_cases hNa : N = a
          · have hn1 : (N == a) = true := by rw [beq_iff_eq]; exact hNa
            rw [hn1] at hL k2
            have hL0 : (0 : Int) < L := of_decide_eq_true hL
            have eq1 : q1 = N := by rw [Hq1.out, k1]
            clear Hq1
            subst eq1
            have eq2 : q2 = 0 := by rw [Hq2.out, k1]
            clear Hq2
            subst eq2
            have ei1 : i1 = true := by rw [Hi1.out, k2]
            clear Hi1
            subst ei1
            have ei2 : i2 = 0 := by rw [Hi2.out, k2]
            clear Hi2
            subst ei2
            have el1 : l1 = L := by rw [Hl1.out, k3]
            clear Hl1
            subst el1
            have el2 : l2 = 0 := by rw [Hl2.out, k3]
            clear Hl2
            subst el2
            have HX := Aside0.mk k4
            clear k1 k2 k3 k4 hcx hX hL hN0 hN1 hNa
            go_wp2_with (first | (replace st := stg_next 9 10 st; go_at_call 30; refine (implQuestionsFor b _ zs _ ts h _ (HR2.out.below (Below.alloc (Below.refl _ _) (Nat.le_refl _) _)) (HRT.out.below (Below.alloc (Below.refl _ _) (Nat.le_refl _) _))).mono ?_; rw [← Hf1.out, ← Hf2.out]; rintro e w11 ⟨u, rfl, ho, hb⟩; have c60 : w11.cell? ⟨w10.heap.size, 0, none⟩ = some (.int .i64 b) := pw_cell_below hb (new_cell _ _ _ 0 _ rfl); have c61 : w11.cell? ⟨w10.heap.size, 1, none⟩ = some (.slice A2 zs.length d2) := pw_cell_below hb (new_cell _ _ _ 1 _ rfl); replace hb := below_unalloc hb; replace HB := Aside0.belowC HB hb; replace c30 := pw_cell_below hb c30; replace c31 := pw_cell_below hb c31; replace HR1 := Aside0.readc HR1 hb; replace HR2 := Aside0.readc HR2 hb; replace HRT := Aside0.readc HRT hb; clear hb; have HQ1 := Aside0.mk ho.read; obtain ⟨A4, d4, rfl, -⟩ := id ho.read; clear ho) | (replace st := stg_next 10 11 st; go_at_call 31; refine (specQuestionsFor b _ zs _ ts h _ HR2.out HRT.out).mono ?_; rw [← Hf1.out, ← Hf2.out]; rintro e w12 ⟨u, rfl, ho, hb⟩; replace HB := Aside0.belowC HB hb; replace c30 := pw_cell_below hb c30; replace c31 := pw_cell_below hb c31; replace c60 := pw_cell_below hb c60; replace c61 := pw_cell_below hb c61; replace HR1 := Aside0.readc HR1 hb; replace HR2 := Aside0.readc HR2 hb; replace HRT := Aside0.readc HRT hb; replace HQ1 := Aside0.readc HQ1 hb; clear hb; have HQ2 := Aside0.mk ho.read; obtain ⟨A5, d5, rfl, -⟩ := id ho.read; clear ho) | (replace st := stg_next 11 12 st; go_at_call 32; refine (likeSame _ _ f1 _ HQ1.out HQ2.out).mono ?_; rintro e w13 ⟨rfl, hb⟩; replace HB := Aside0.belowC HB hb; replace c30 := pw_cell_below hb c30; replace c31 := pw_cell_below hb c31; replace c60 := pw_cell_below hb c60; replace c61 := pw_cell_below hb c61; replace HR1 := Aside0.readc HR1 hb; replace HR2 := Aside0.readc HR2 hb; replace HRT := Aside0.readc HRT hb; replace HQ1 := Aside0.readc HQ1 hb; replace HQ2 := Aside0.readc HQ2 hb; clear hb) | (replace st := stg_next 12 13 st; go_at_call 33; refine (implEvadersOf b _ zs _ ts _ HR2.out HRT.out).mono ?_; rw [← He1.out, ← He2.out]; rw [he2z]; rintro e w14 ⟨u, rfl, ho, hb⟩; replace HB := Aside0.belowC HB hb; replace c30 := pw_cell_below hb c30; replace c31 := pw_cell_below hb c31; replace c60 := pw_cell_below hb c60; replace c61 := pw_cell_below hb c61; replace HR1 := Aside0.readc HR1 hb; replace HR2 := Aside0.readc HR2 hb; replace HRT := Aside0.readc HRT hb; replace HQ1 := Aside0.readc HQ1 hb; replace HQ2 := Aside0.readc HQ2 hb; clear hb; have HE1 := Aside0.mk ho.read; obtain ⟨A6, d6, rfl, -⟩ := id ho.read; clear ho) | (replace st := stg_next 13 14 st; go_at_call 34; refine (specEvadersOf b _ zs _ ts _ HR2.out HRT.out).mono ?_; rw [← He1.out, ← He2.out]; rw [he2z]; rintro e w15 ⟨u, rfl, ho, hb⟩; replace HB := Aside0.belowC HB hb; replace c30 := pw_cell_below hb c30; replace c31 := pw_cell_below hb c31; replace c60 := pw_cell_below hb c60; replace c61 := pw_cell_below hb c61; replace HR1 := Aside0.readc HR1 hb; replace HR2 := Aside0.readc HR2 hb; replace HRT := Aside0.readc HRT hb; replace HQ1 := Aside0.readc HQ1 hb; replace HQ2 := Aside0.readc HQ2 hb; replace HE1 := Aside0.readc HE1 hb; clear hb; have HE2 := Aside0.mk ho.read; obtain ⟨A7, d7, rfl, -⟩ := id ho.read; clear ho) | (replace st := stg_next 14 15 st; go_at_call 32; refine (likeSame _ _ e1 _ HE1.out HE2.out).mono ?_; rintro e w16 ⟨rfl, hb⟩; replace HB := Aside0.belowC HB hb; replace c30 := pw_cell_below hb c30; replace c31 := pw_cell_below hb c31; replace c60 := pw_cell_below hb c60; replace c61 := pw_cell_below hb c61; replace HR1 := Aside0.readc HR1 hb; replace HR2 := Aside0.readc HR2 hb; replace HRT := Aside0.readc HRT hb; replace HQ1 := Aside0.readc HQ1 hb; replace HQ2 := Aside0.readc HQ2 hb; replace HE1 := Aside0.readc HE1 hb; replace HE2 := Aside0.readc HE2 hb; clear hb) | (replace st := stg_next 15 16 st; go_at_call 27; refine (implLeastEvaders b _ zs _ HR2.out).mono ?_; rw [← Hm1.out, ← Hm2.out]; rw [hm2z]; rintro e w17 ⟨rfl, hb⟩; replace HB := Aside0.belowC HB hb; replace c30 := pw_cell_below hb c30; replace c31 := pw_cell_below hb c31; replace c60 := pw_cell_below hb c60; replace c61 := pw_cell_below hb c61; replace HR1 := Aside0.readc HR1 hb; replace HR2 := Aside0.readc HR2 hb; replace HRT := Aside0.readc HRT hb; replace HQ1 := Aside0.readc HQ1 hb; replace HQ2 := Aside0.readc HQ2 hb; replace HE1 := Aside0.readc HE1 hb; replace HE2 := Aside0.readc HE2 hb; clear hb))
            go_quiet (fail)
            go_wp2_with (first | (go_at_call 36; refine (implEulerNumber a _ ys _ (HR1.out.below (below_drewN (Below.refl _ _) _))).mono ?_; rw [HX.out]; rintro e w18 ⟨rfl, hb⟩; replace hb := (below_drewN (Below.refl _ _) _).trans hb; replace c30 := pw_cell_below hb c30; replace c31 := pw_cell_below hb c31; replace HB := Aside0.belowC HB hb; clear hb))
            go_ret
            exact ⟨rfl, HB.out⟩
          · have hn1 : (N == a) = false := by rw [beq_eq_false_iff_ne]; exact hNa
            rw [hn1] at hL k2
            have hL0 : ¬ (0 : Int) < L := of_decide_eq_false hL
            obtain rfl : X = 1 := hX hNa
            have eq1 : q1 = N := by rw [Hq1.out, k1]
            clear Hq1
            subst eq1
            have eq2 : q2 = 0 := by rw [Hq2.out, k1]
            clear Hq2
            subst eq2
            have ei1 : i1 = false := by rw [Hi1.out, k2]
            clear Hi1
            subst ei1
            have ei2 : i2 = 0 := by rw [Hi2.out, k2]
            clear Hi2
            subst ei2
            have el1 : l1 = L := by rw [Hl1.out, k3]
            clear Hl1
            subst el1
            have el2 : l2 = 0 := by rw [Hl2.out, k3]
            clear Hl2
            subst el2
            have HX := Aside0.mk k4
            clear k1 k2 k3 k4 hcx hX hL hN0 hN1 hNa
            go_wp2_with (first | (replace st := stg_next 9 10 st; go_at_call 30; refine (implQuestionsFor b _ zs _ ts h _ (HR2.out.below (Below.alloc (Below.refl _ _) (Nat.le_refl _) _)) (HRT.out.below (Below.alloc (Below.refl _ _) (Nat.le_refl _) _))).mono ?_; rw [← Hf1.out, ← Hf2.out]; rintro e w11 ⟨u, rfl, ho, hb⟩; have c60 : w11.cell? ⟨w10.heap.size, 0, none⟩ = some (.int .i64 b) := pw_cell_below hb (new_cell _ _ _ 0 _ rfl); have c61 : w11.cell? ⟨w10.heap.size, 1, none⟩ = some (.slice A2 zs.length d2) := pw_cell_below hb (new_cell _ _ _ 1 _ rfl); replace hb := below_unalloc hb; replace HB := Aside0.belowC HB hb; replace c30 := pw_cell_below hb c30; replace c31 := pw_cell_below hb c31; replace HR1 := Aside0.readc HR1 hb; replace HR2 := Aside0.readc HR2 hb; replace HRT := Aside0.readc HRT hb; clear hb; have HQ1 := Aside0.mk ho.read; obtain ⟨A4, d4, rfl, -⟩ := id ho.read; clear ho) | (replace st := stg_next 10 11 st; go_at_call 31; refine (specQuestionsFor b _ zs _ ts h _ HR2.out HRT.out).mono ?_; rw [← Hf1.out, ← Hf2.out]; rintro e w12 ⟨u, rfl, ho, hb⟩; replace HB := Aside0.belowC HB hb; replace c30 := pw_cell_below hb c30; replace c31 := pw_cell_below hb c31; replace c60 := pw_cell_below hb c60; replace c61 := pw_cell_below hb c61; replace HR1 := Aside0.readc HR1 hb; replace HR2 := Aside0.readc HR2 hb; replace HRT := Aside0.readc HRT hb; replace HQ1 := Aside0.readc HQ1 hb; clear hb; have HQ2 := Aside0.mk ho.read; obtain ⟨A5, d5, rfl, -⟩ := id ho.read; clear ho) | (replace st := stg_next 11 12 st; go_at_call 32; refine (likeSame _ _ f1 _ HQ1.out HQ2.out).mono ?_; rintro e w13 ⟨rfl, hb⟩; replace HB := Aside0.belowC HB hb; replace c30 := pw_cell_below hb c30; replace c31 := pw_cell_below hb c31; replace c60 := pw_cell_below hb c60; replace c61 := pw_cell_below hb c61; replace HR1 := Aside0.readc HR1 hb; replace HR2 := Aside0.readc HR2 hb; replace HRT := Aside0.readc HRT hb; replace HQ1 := Aside0.readc HQ1 hb; replace HQ2 := Aside0.readc HQ2 hb; clear hb) | (replace st := stg_next 12 13 st; go_at_call 33; refine (implEvadersOf b _ zs _ ts _ HR2.out HRT.out).mono ?_; rw [← He1.out, ← He2.out]; rw [he2z]; rintro e w14 ⟨u, rfl, ho, hb⟩; replace HB := Aside0.belowC HB hb; replace c30 := pw_cell_below hb c30; replace c31 := pw_cell_below hb c31; replace c60 := pw_cell_below hb c60; replace c61 := pw_cell_below hb c61; replace HR1 := Aside0.readc HR1 hb; replace HR2 := Aside0.readc HR2 hb; replace HRT := Aside0.readc HRT hb; replace HQ1 := Aside0.readc HQ1 hb; replace HQ2 := Aside0.readc HQ2 hb; clear hb; have HE1 := Aside0.mk ho.read; obtain ⟨A6, d6, rfl, -⟩ := id ho.read; clear ho) | (replace st := stg_next 13 14 st; go_at_call 34; refine (specEvadersOf b _ zs _ ts _ HR2.out HRT.out).mono ?_; rw [← He1.out, ← He2.out]; rw [he2z]; rintro e w15 ⟨u, rfl, ho, hb⟩; replace HB := Aside0.belowC HB hb; replace c30 := pw_cell_below hb c30; replace c31 := pw_cell_below hb c31; replace c60 := pw_cell_below hb c60; replace c61 := pw_cell_below hb c61; replace HR1 := Aside0.readc HR1 hb; replace HR2 := Aside0.readc HR2 hb; replace HRT := Aside0.readc HRT hb; replace HQ1 := Aside0.readc HQ1 hb; replace HQ2 := Aside0.readc HQ2 hb; replace HE1 := Aside0.readc HE1 hb; clear hb; have HE2 := Aside0.mk ho.read; obtain ⟨A7, d7, rfl, -⟩ := id ho.read; clear ho) | (replace st := stg_next 14 15 st; go_at_call 32; refine (likeSame _ _ e1 _ HE1.out HE2.out).mono ?_; rintro e w16 ⟨rfl, hb⟩; replace HB := Aside0.belowC HB hb; replace c30 := pw_cell_below hb c30; replace c31 := pw_cell_below hb c31; replace c60 := pw_cell_below hb c60; replace c61 := pw_cell_below hb c61; replace HR1 := Aside0.readc HR1 hb; replace HR2 := Aside0.readc HR2 hb; replace HRT := Aside0.readc HRT hb; replace HQ1 := Aside0.readc HQ1 hb; replace HQ2 := Aside0.readc HQ2 hb; replace HE1 := Aside0.readc HE1 hb; replace HE2 := Aside0.readc HE2 hb; clear hb) | (replace st := stg_next 15 16 st; go_at_call 27; refine (implLeastEvaders b _ zs _ HR2.out).mono ?_; rw [← Hm1.out, ← Hm2.out]; rw [hm2z]; rintro e w17 ⟨rfl, hb⟩; replace HB := Aside0.belowC HB hb; replace c30 := pw_cell_below hb c30; replace c31 := pw_cell_below hb c31; replace c60 := pw_cell_below hb c60; replace c61 := pw_cell_below hb c61; replace HR1 := Aside0.readc HR1 hb; replace HR2 := Aside0.readc HR2 hb; replace HRT := Aside0.readc HRT hb; replace HQ1 := Aside0.readc HQ1 hb; replace HQ2 := Aside0.readc HQ2 hb; replace HE1 := Aside0.readc HE1 hb; replace HE2 := Aside0.readc HE2 hb; clear hb))
            go_quiet (fail)
            go_wp2_with (first | (go_at_call 36; refine (implEulerNumber a _ ys _ (HR1.out.below (below_drewN (Below.refl _ _) _))).mono ?_; rw [HX.out]; rintro e w18 ⟨rfl, hb⟩; replace hb := (below_drewN (Below.refl _ _) _).trans hb; replace c30 := pw_cell_below hb c30; replace c31 := pw_cell_below hb c31; replace HB := Aside0.belowC HB hb; clear hb))
            go_ret
            exact ⟨rfl, HB.out⟩
    · have he2' : (e2 == 0) = false := by rw [beq_eq_false_iff_ne]; exact he2z
      have hf2z : ¬ f2 = 0 := fun h0 => he2z (KQ h0).1
      have hf2' : (f2 == 0) = false := by rw [beq_eq_false_iff_ne]; exact hf2z
      clear KQ KE
      cases hcx : cxOk a ys with
      | false =>
        obtain ⟨k1, k2, k3⟩ := key_bad hcx
        have eq1 : q1 = 0 := by rw [Hq1.out, k1]
        subst eq1
        have eq2 : q2 = 1 := by rw [Hq2.out, k1]
        subst eq2
        have ei1 : i1 = false := by rw [Hi1.out, k2]
        subst ei1
        have ei2 : i2 = 1 := by rw [Hi2.out, k2]
        subst ei2
        have el1 : l1 = 0 := by rw [Hl1.out, k3]
        subst el1
        have el2 : l2 = 1 := by rw [Hl2.out, k3]
        subst el2
        clear k1 k2 k3 hcx
        go_wp2_with (first | (replace st := stg_next 9 10 st; go_at_call 30; refine (implQuestionsFor b _ zs _ ts h _ (HR2.out.below (Below.alloc (Below.refl _ _) (Nat.le_refl _) _)) (HRT.out.below (Below.alloc (Below.refl _ _) (Nat.le_refl _) _))).mono ?_; rw [← Hf1.out, ← Hf2.out]; rintro e w11 ⟨u, rfl, ho, hb⟩; have c60 : w11.cell? ⟨w10.heap.size, 0, none⟩ = some (.int .i64 b) := pw_cell_below hb (new_cell _ _ _ 0 _ rfl); have c61 : w11.cell? ⟨w10.heap.size, 1, none⟩ = some (.slice A2 zs.length d2) := pw_cell_below hb (new_cell _ _ _ 1 _ rfl); replace hb := below_unalloc hb; replace HB := Aside0.belowC HB hb; replace c30 := pw_cell_below hb c30; replace c31 := pw_cell_below hb c31; replace HR1 := Aside0.readc HR1 hb; replace HR2 := Aside0.readc HR2 hb; replace HRT := Aside0.readc HRT hb; clear hb; have HQ1 := Aside0.mk ho.read; obtain ⟨A4, d4, rfl, -⟩ := id ho.read; clear ho) | (replace st := stg_next 10 11 st; go_at_call 31; refine (specQuestionsFor b _ zs _ ts h _ HR2.out HRT.out).mono ?_; rw [← Hf1.out, ← Hf2.out]; rintro e w12 ⟨u, rfl, ho, hb⟩; replace HB := Aside0.belowC HB hb; replace c30 := pw_cell_below hb c30; replace c31 := pw_cell_below hb c31; replace c60 := pw_cell_below hb c60; replace c61 := pw_cell_below hb c61; replace HR1 := Aside0.readc HR1 hb; replace HR2 := Aside0.readc HR2 hb; replace HRT := Aside0.readc HRT hb; replace HQ1 := Aside0.readc HQ1 hb; clear hb; have HQ2 := Aside0.mk ho.read; obtain ⟨A5, d5, rfl, -⟩ := id ho.read; clear ho) | (replace st := stg_next 11 12 st; go_at_call 32; refine (likeSame _ _ f1 _ HQ1.out HQ2.out).mono ?_; rintro e w13 ⟨rfl, hb⟩; replace HB := Aside0.belowC HB hb; replace c30 := pw_cell_below hb c30; replace c31 := pw_cell_below hb c31; replace c60 := pw_cell_below hb c60; replace c61 := pw_cell_below hb c61; replace HR1 := Aside0.readc HR1 hb; replace HR2 := Aside0.readc HR2 hb; replace HRT := Aside0.readc HRT hb; replace HQ1 := Aside0.readc HQ1 hb; replace HQ2 := Aside0.readc HQ2 hb; clear hb) | (replace st := stg_next 12 13 st; go_at_call 33; refine (implEvadersOf b _ zs _ ts _ HR2.out HRT.out).mono ?_; rw [← He1.out, ← He2.out]; rintro e w14 ⟨u, rfl, ho, hb⟩; replace HB := Aside0.belowC HB hb; replace c30 := pw_cell_below hb c30; replace c31 := pw_cell_below hb c31; replace c60 := pw_cell_below hb c60; replace c61 := pw_cell_below hb c61; replace HR1 := Aside0.readc HR1 hb; replace HR2 := Aside0.readc HR2 hb; replace HRT := Aside0.readc HRT hb; replace HQ1 := Aside0.readc HQ1 hb; replace HQ2 := Aside0.readc HQ2 hb; clear hb; have HE1 := Aside0.mk ho.read; obtain ⟨A6, d6, rfl, -⟩ := id ho.read; clear ho) | (replace st := stg_next 13 14 st; go_at_call 34; refine (specEvadersOf b _ zs _ ts _ HR2.out HRT.out).mono ?_; rw [← He1.out, ← He2.out]; rintro e w15 ⟨u, rfl, ho, hb⟩; replace HB := Aside0.belowC HB hb; replace c30 := pw_cell_below hb c30; replace c31 := pw_cell_below hb c31; replace c60 := pw_cell_below hb c60; replace c61 := pw_cell_below hb c61; replace HR1 := Aside0.readc HR1 hb; replace HR2 := Aside0.readc HR2 hb; replace HRT := Aside0.readc HRT hb; replace HQ1 := Aside0.readc HQ1 hb; replace HQ2 := Aside0.readc HQ2 hb; replace HE1 := Aside0.readc HE1 hb; clear hb; have HE2 := Aside0.mk ho.read; obtain ⟨A7, d7, rfl, -⟩ := id ho.read; clear ho) | (replace st := stg_next 14 15 st; go_at_call 32; refine (likeSame _ _ e1 _ HE1.out HE2.out).mono ?_; rintro e w16 ⟨rfl, hb⟩; replace HB := Aside0.belowC HB hb; replace c30 := pw_cell_below hb c30; replace c31 := pw_cell_below hb c31; replace c60 := pw_cell_below hb c60; replace c61 := pw_cell_below hb c61; replace HR1 := Aside0.readc HR1 hb; replace HR2 := Aside0.readc HR2 hb; replace HRT := Aside0.readc HRT hb; replace HQ1 := Aside0.readc HQ1 hb; replace HQ2 := Aside0.readc HQ2 hb; replace HE1 := Aside0.readc HE1 hb; replace HE2 := Aside0.readc HE2 hb; clear hb))
        go_quiet (fail)
        go_wp2
        go_ret
        exact ⟨rfl, below_drewN HB.out _⟩
      | true =>
        obtain ⟨N, L, X, k1, k2, k3, k4, hN0, hN1, hL, hX⟩ := key_good hcx
        have hN0n : ¬ N < 0 := by omega
        have hN1n : ¬ a < N := by omega
        by_cases hNa : N = a
        · have hn1 : (N == a) = true := by rw [beq_iff_eq]; exact hNa
          rw [hn1] at hL k2
          have hL0 : (0 : Int) < L := of_decide_eq_true hL
          have eq1 : q1 = N := by rw [Hq1.out, k1]
          clear Hq1
          subst eq1
          have eq2 : q2 = 0 := by rw [Hq2.out, k1]
          clear Hq2
          subst eq2
          have ei1 : i1 = true := by rw [Hi1.out, k2]
          clear Hi1
          subst ei1
          have ei2 : i2 = 0 := by rw [Hi2.out, k2]
          clear Hi2
          subst ei2
          have el1 : l1 = L := by rw [Hl1.out, k3]
          clear Hl1
          subst el1
          have el2 : l2 = 0 := by rw [Hl2.out, k3]
          clear Hl2
          subst el2
          have HX := Aside0.mk k4
          clear k1 k2 k3 k4 hcx hX hL hN0 hN1 hNa
          go_wp2_with (first | (replace st := stg_next 9 10 st; go_at_call 30; refine (implQuestionsFor b _ zs _ ts h _ (HR2.out.below (Below.alloc (Below.refl _ _) (Nat.le_refl _) _)) (HRT.out.below (Below.alloc (Below.refl _ _) (Nat.le_refl _) _))).mono ?_; rw [← Hf1.out, ← Hf2.out]; rintro e w11 ⟨u, rfl, ho, hb⟩; have c60 : w11.cell? ⟨w10.heap.size, 0, none⟩ = some (.int .i64 b) := pw_cell_below hb (new_cell _ _ _ 0 _ rfl); have c61 : w11.cell? ⟨w10.heap.size, 1, none⟩ = some (.slice A2 zs.length d2) := pw_cell_below hb (new_cell _ _ _ 1 _ rfl); replace hb := below_unalloc hb; replace HB := Aside0.belowC HB hb; replace c30 := pw_cell_below hb c30; replace c31 := pw_cell_below hb c31; replace HR1 := Aside0.readc HR1 hb; replace HR2 := Aside0.readc HR2 hb; replace HRT := Aside0.readc HRT hb; clear hb; have HQ1 := Aside0.mk ho.read; obtain ⟨A4, d4, rfl, -⟩ := id ho.read; clear ho) | (replace st := stg_next 10 11 st; go_at_call 31; refine (specQuestionsFor b _ zs _ ts h _ HR2.out HRT.out).mono ?_; rw [← Hf1.out, ← Hf2.out]; rintro e w12 ⟨u, rfl, ho, hb⟩; replace HB := Aside0.belowC HB hb; replace c30 := pw_cell_below hb c30; replace c31 := pw_cell_below hb c31; replace c60 := pw_cell_below hb c60; replace c61 := pw_cell_below hb c61; replace HR1 := Aside0.readc HR1 hb; replace HR2 := Aside0.readc HR2 hb; replace HRT := Aside0.readc HRT hb; replace HQ1 := Aside0.readc HQ1 hb; clear hb; have HQ2 := Aside0.mk ho.read; obtain ⟨A5, d5, rfl, -⟩ := id ho.read; clear ho) | (replace st := stg_next 11 12 st; go_at_call 32; refine (likeSame _ _ f1 _ HQ1.out HQ2.out).mono ?_; rintro e w13 ⟨rfl, hb⟩; replace HB := Aside0.belowC HB hb; replace c30 := pw_cell_below hb c30; replace c31 := pw_cell_below hb c31; replace c60 := pw_cell_below hb c60; replace c61 := pw_cell_below hb c61; replace HR1 := Aside0.readc HR1 hb; replace HR2 := Aside0.readc HR2 hb; replace HRT := Aside0.readc HRT hb; replace HQ1 := Aside0.readc HQ1 hb; replace HQ2 := Aside0.readc HQ2 hb; clear hb) | (replace st := stg_next 12 13 st; go_at_call 33; refine (implEvadersOf b _ zs _ ts _ HR2.out HRT.out).mono ?_; rw [← He1.out, ← He2.out]; rintro e w14 ⟨u, rfl, ho, hb⟩; replace HB := Aside0.belowC HB hb; replace c30 := pw_cell_below hb c30; replace c31 := pw_cell_below hb c31; replace c60 := pw_cell_below hb c60; replace c61 := pw_cell_below hb c61; replace HR1 := Aside0.readc HR1 hb; replace HR2 := Aside0.readc HR2 hb; replace HRT := Aside0.readc HRT hb; replace HQ1 := Aside0.readc HQ1 hb; replace HQ2 := Aside0.readc HQ2 hb; clear hb; have HE1 := Aside0.mk ho.read; obtain ⟨A6, d6, rfl, -⟩ := id ho.read; clear ho) | (replace st := stg_next 13 14 st; go_at_call 34; refine (specEvadersOf b _ zs _ ts _ HR2.out HRT.out).mono ?_; rw [← He1.out, ← He2.out]; rintro e w15 ⟨u, rfl, ho, hb⟩; replace HB := Aside0.belowC HB hb; replace c30 := pw_cell_below hb c30; replace c31 := pw_cell_below hb c31; replace c60 := pw_cell_below hb c60; replace c61 := pw_cell_below hb c61; replace HR1 := Aside0.readc HR1 hb; replace HR2 := Aside0.readc HR2 hb; replace HRT := Aside0.readc HRT hb; replace HQ1 := Aside0.readc HQ1 hb; replace HQ2 := Aside0.readc HQ2 hb; replace HE1 := Aside0.readc HE1 hb; clear hb; have HE2 := Aside0.mk ho.read; obtain ⟨A7, d7, rfl, -⟩ := id ho.read; clear ho) | (replace st := stg_next 14 15 st; go_at_call 32; refine (likeSame _ _ e1 _ HE1.out HE2.out).mono ?_; rintro e w16 ⟨rfl, hb⟩; replace HB := Aside0.belowC HB hb; replace c30 := pw_cell_below hb c30; replace c31 := pw_cell_below hb c31; replace c60 := pw_cell_below hb c60; replace c61 := pw_cell_below hb c61; replace HR1 := Aside0.readc HR1 hb; replace HR2 := Aside0.readc HR2 hb; replace HRT := Aside0.readc HRT hb; replace HQ1 := Aside0.readc HQ1 hb; replace HQ2 := Aside0.readc HQ2 hb; replace HE1 := Aside0.readc HE1 hb; replace HE2 := Aside0.readc HE2 hb; clear hb))
          go_quiet (fail)
          go_wp2_with (first | (go_at_call 36; refine (implEulerNumber a _ ys _ (HR1.out.below (below_drewN (Below.refl _ _) _))).mono ?_; rw [HX.out]; rintro e w17 ⟨rfl, hb⟩; replace hb := (below_drewN (Below.refl _ _) _).trans hb; replace c30 := pw_cell_below hb c30; replace c31 := pw_cell_below hb c31; replace HB := Aside0.belowC HB hb; clear hb))
          go_ret
          exact ⟨rfl, HB.out⟩
        · have hn1 : (N == a) = false := by rw [beq_eq_false_iff_ne]; exact hNa
          rw [hn1] at hL k2
          have hL0 : ¬ (0 : Int) < L := of_decide_eq_false hL
          obtain rfl : X = 1 := hX hNa
          have eq1 : q1 = N := by rw [Hq1.out, k1]
          clear Hq1
          subst eq1
          have eq2 : q2 = 0 := by rw [Hq2.out, k1]
          clear Hq2
          subst eq2
          have ei1 : i1 = false := by rw [Hi1.out, k2]
          clear Hi1
          subst ei1
          have ei2 : i2 = 0 := by rw [Hi2.out, k2]
          clear Hi2
          subst ei2
          have el1 : l1 = L := by rw [Hl1.out, k3]
          clear Hl1
          subst el1
          have el2 : l2 = 0 := by rw [Hl2.out, k3]
          clear Hl2
          subst el2
          have HX := Aside0.mk k4
          clear k1 k2 k3 k4 hcx hX hL hN0 hN1 hNa
          go_wp2_with (first | (replace st := stg_next 9 10 st; go_at_call 30; refine (implQuestionsFor b _ zs _ ts h _ (HR2.out.below (Below.alloc (Below.refl _ _) (Nat.le_refl _) _)) (HRT.out.below (Below.alloc (Below.refl _ _) (Nat.le_refl _) _))).mono ?_; rw [← Hf1.out, ← Hf2.out]; rintro e w11 ⟨u, rfl, ho, hb⟩; have c60 : w11.cell? ⟨w10.heap.size, 0, none⟩ = some (.int .i64 b) := pw_cell_below hb (new_cell _ _ _ 0 _ rfl); have c61 : w11.cell? ⟨w10.heap.size, 1, none⟩ = some (.slice A2 zs.length d2) := pw_cell_below hb (new_cell _ _ _ 1 _ rfl); replace hb := below_unalloc hb; replace HB := Aside0.belowC HB hb; replace c30 := pw_cell_below hb c30; replace c31 := pw_cell_below hb c31; replace HR1 := Aside0.readc HR1 hb; replace HR2 := Aside0.readc HR2 hb; replace HRT := Aside0.readc HRT hb; clear hb; have HQ1 := Aside0.mk ho.read; obtain ⟨A4, d4, rfl, -⟩ := id ho.read; clear ho) | (replace st := stg_next 10 11 st; go_at_call 31; refine (specQuestionsFor b _ zs _ ts h _ HR2.out HRT.out).mono ?_; rw [← Hf1.out, ← Hf2.out]; rintro e w12 ⟨u, rfl, ho, hb⟩; replace HB := Aside0.belowC HB hb; replace c30 := pw_cell_below hb c30; replace c31 := pw_cell_below hb c31; replace c60 := pw_cell_below hb c60; replace c61 := pw_cell_below hb c61; replace HR1 := Aside0.readc HR1 hb; replace HR2 := Aside0.readc HR2 hb; replace HRT := Aside0.readc HRT hb; replace HQ1 := Aside0.readc HQ1 hb; clear hb; have HQ2 := Aside0.mk ho.read; obtain ⟨A5, d5, rfl, -⟩ := id ho.read; clear ho) | (replace st := stg_next 11 12 st; go_at_call 32; refine (likeSame _ _ f1 _ HQ1.out HQ2.out).mono ?_; rintro e w13 ⟨rfl, hb⟩; replace HB := Aside0.belowC HB hb; replace c30 := pw_cell_below hb c30; replace c31 := pw_cell_below hb c31; replace c60 := pw_cell_below hb c60; replace c61 := pw_cell_below hb c61; replace HR1 := Aside0.readc HR1 hb; replace HR2 := Aside0.readc HR2 hb; replace HRT := Aside0.readc HRT hb; replace HQ1 := Aside0.readc HQ1 hb; replace HQ2 := Aside0.readc HQ2 hb; clear hb) | (replace st := stg_next 12 13 st; go_at_call 33; refine (implEvadersOf b _ zs _ ts _ HR2.out HRT.out).mono ?_; rw [← He1.out, ← He2.out]; rintro e w14 ⟨u, rfl, ho, hb⟩; replace HB := Aside0.belowC HB hb; replace c30 := pw_cell_below hb c30; replace c31 := pw_cell_below hb c31; replace c60 := pw_cell_below hb c60; replace c61 := pw_cell_below hb c61; replace HR1 := Aside0.readc HR1 hb; replace HR2 := Aside0.readc HR2 hb; replace HRT := Aside0.readc HRT hb; replace HQ1 := Aside0.readc HQ1 hb; replace HQ2 := Aside0.readc HQ2 hb; clear hb; have HE1 := Aside0.mk ho.read; obtain ⟨A6, d6, rfl, -⟩ := id ho.read; clear ho) | (replace st := stg_next 13 14 st; go_at_call 34; refine (specEvadersOf b _ zs _ ts _ HR2.out HRT.out).mono ?_; rw [← He1.out, ← He2.out]; rintro e w15 ⟨u, rfl, ho, hb⟩; replace HB := Aside0.belowC HB hb; replace c30 := pw_cell_below hb c30; replace c31 := pw_cell_below hb c31; replace c60 := pw_cell_below hb c60; replace c61 := pw_cell_below hb c61; replace HR1 := Aside0.readc HR1 hb; replace HR2 := Aside0.readc HR2 hb; replace HRT := Aside0.readc HRT hb; replace HQ1 := Aside0.readc HQ1 hb; replace HQ2 := Aside0.readc HQ2 hb; replace HE1 := Aside0.readc HE1 hb; clear hb; have HE2 := Aside0.mk ho.read; obtain ⟨A7, d7, rfl, -⟩ := id ho.read; clear ho) | (replace st := stg_next 14 15 st; go_at_call 32; refine (likeSame _ _ e1 _ HE1.out HE2.out).mono ?_; rintro e w16 ⟨rfl, hb⟩; replace HB := Aside0.belowC HB hb; replace c30 := pw_cell_below hb c30; replace c31 := pw_cell_below hb c31; replace c60 := pw_cell_below hb c60; replace c61 := pw_cell_below hb c61; replace HR1 := Aside0.readc HR1 hb; replace HR2 := Aside0.readc HR2 hb; replace HRT := Aside0.readc HRT hb; replace HQ1 := Aside0.readc HQ1 hb; replace HQ2 := Aside0.readc HQ2 hb; replace HE1 := Aside0.readc HE1 hb; replace HE2 := Aside0.readc HE2 hb; clear hb))
          go_quiet (fail)
          go_wp2_with (first | (go_at_call 36; refine (implEulerNumber a _ ys _ (HR1.out.below (below_drewN (Below.refl _ _) _))).mono ?_; rw [HX.out]; rintro e w17 ⟨rfl, hb⟩; replace hb := (below_drewN (Below.refl _ _) _).trans hb; replace c30 := pw_cell_below hb c30; replace c31 := pw_cell_below hb c31; replace HB := Aside0.belowC HB hb; clear hb))
          go_ret
          exact ⟨rfl, HB.out⟩
end Go.Proofs.Ytkggchklmpmgpaa.H
