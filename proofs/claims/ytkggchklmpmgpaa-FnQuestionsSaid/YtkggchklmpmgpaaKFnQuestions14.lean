/- Trees drawn: l10DrawTree. Trees drawn: l10Draw. A region of open order: heads as in wp_region_u, then stores that may come early, the last operations one behind the other. DrawQuestionsFor: what its region keeps. -/
import Derived.Test.YtkggchklmpmgpaaKFnQuestions1
import Derived.Test.YtkggchklmpmgpaaKFnQuestions2
import Derived.Test.YtkggchklmpmgpaaKFnQuestions3
import Derived.Test.YtkggchklmpmgpaaKFnQuestions4
import Derived.Test.YtkggchklmpmgpaaKFnQuestions5
import Derived.Test.YtkggchklmpmgpaaKFnQuestions6
import Derived.Test.YtkggchklmpmgpaaKFnQuestions7
import Derived.Test.YtkggchklmpmgpaaKFnQuestions8
import Derived.Test.YtkggchklmpmgpaaKFnQuestions9
import Derived.Test.YtkggchklmpmgpaaKFnQuestions10
import Derived.Test.YtkggchklmpmgpaaKFnQuestions11
import Derived.Test.YtkggchklmpmgpaaKFnQuestions12
import Derived.Test.YtkggchklmpmgpaaKFnQuestions13

namespace Go.Proofs.Ytkggchklmpmgpaa.H
open Go.RowKit Go.Proofs.YtkggchklmpmgpaaW.PrintWords Go.Proofs.YtkggchklmpmgpaaW.PrintLast Go.Proofs.YtkggchklmpmgpaaW.PrintMore
set_option linter.unusedVariables false
set_option linter.unusedSimpArgs false

set_option maxRecDepth 100000 in
theorem ones_or : ∀ a, a < 64 → ∀ v, v < 6 → ones (a ||| 2 ^ v) ≤ ones a + 1 := by decide +kernel
set_option maxRecDepth 100000 in
theorem ones_free : ∀ n, n < 7 → ∀ a, a < 64 → ones a < n → ∃ u, u < n ∧ a.testBit u = false := by
  have h : ∀ n, n < 7 → ∀ a, a < 64 → ones a < n → ((List.range n).any fun u => !a.testBit u) = true := by decide +kernel
  intro n hn a ha ho
  obtain ⟨u, hu, hb⟩ := List.any_eq_true.1 (h n hn a ha ho)
  exact ⟨u, List.mem_range.1 hu, by simpa using hb⟩
/-- how far v is from u, going up -/
def farV (n u v : Nat) : Nat := if v ≤ u then u - v else u + n - v
theorem far_step {n u v : Nat} (hu : u < n) (hv : v < n) (hne : v ≠ u) : farV n u ((v + 1) % n) < farV n u v := by
  unfold farV
  by_cases h : v + 1 < n
  · rw [Nat.mod_eq_of_lt h]; split <;> split <;> omega
  · have : v + 1 = n := by omega
    rw [this, Nat.mod_self]; split <;> split <;> omega

set_option maxRecDepth 100000 in
set_option maxHeartbeats 4000000 in
theorem drawTree (bs : Nat) (a : Int) (ha1 : -1 ≤ a) (ha2 : a ≤ 7) (w : World) (hs : Src bs w) :
    Calls Try.prog 128 #[.pointer (some ⟨bs, 0, none⟩), .int .i64 a] w fun e w' => ∃ v, e = .returned v ∧ (∃ t : List Int, OwnI w.heap.size w' v t ∧ t.length ≤ 64) ∧ Dw bs w w' := by
  have HBS := Aside0.mk hs.lt
  obtain ⟨w1, hw1⟩ : ∃ w1, w1 = w.alloc (.cells #[] 2) := ⟨_, rfl⟩
  have hb1 : Below w.heap.size w w1 := by rw [hw1]; exact Below.alloc (Below.refl _ _) (Nat.le_refl _) _
  have HO1 : Aside0 (OwnI w.heap.size w1 (.slice (some ⟨w.heap.size, 0, none⟩) 0 0) []) := ⟨by rw [hw1]; exact OwnI.empty w (Nat.le_refl _)⟩
  have HD1 := Aside0.mk (Dw.of_below hs hb1)
  clear hs hb1
  cases hin : (decide (1 ≤ a) && decide (a ≤ 6)) with
  | false =>
    have HI := Aside0.mk hin
    clear hin
    go_enter Try.func128, Try.ntmps128
    go_wp2_with (first | (go_at_call 81; rw [← hw1]; clear hw1; refine (specIn _ _ _ _).mono ?_; rintro e w2 ⟨rfl, hb⟩; rw [HI.out]; have HO2 := Aside0.mk (OwnI.below HO1.out hb); have HD2 := Aside0.mk (HD1.out.then_below hb); clear hb))
    go_ret
    exact ⟨_, rfl, ⟨[], HO2.out, by simp⟩, HD2.out⟩
  | true =>
    have HI := Aside0.mk hin
    rw [Bool.and_eq_true, decide_eq_true_eq, decide_eq_true_eq] at hin
    obtain ⟨n, rfl⟩ : ∃ n : Nat, a = n := ⟨a.toNat, by omega⟩
    have hn1 : 1 ≤ n := by omega
    have hn6 : n ≤ 6 := by omega
    have hsh := pow_wrap n (by omega)
    have hpp := pwn hn6
    obtain ⟨N, hN⟩ : ∃ N, N = 2 ^ n := ⟨_, rfl⟩
    rw [← hN] at hsh hpp
    have hnu : IntKind.u64.wrap (n : Int) = (n : Int) := wrapUn (by omega)
    have hmn : min n 64 = n := by omega
    have HN := Aside0.mk hN
    clear hin ha1 ha2 hN
    go_enter Try.func128, Try.ntmps128
    go_wp2_with (first | (go_at_call 81; rw [← hw1]; clear hw1; refine (specIn _ _ _ _).mono ?_; rintro e w2 ⟨rfl, hb⟩; rw [HI.out]; have HO2 := Aside0.mk (OwnI.below HO1.out hb); have HD2 := Aside0.mk (HD1.out.then_below hb); clear hb))
    go_loopw [5, 6] (fun s5 s6 wr => ∃ (p : Nat) (t : List Int), s6 = .int .i64 p ∧ 1 ≤ p ∧ p ≤ N ∧ Aside0 (t.length + 1 = p) ∧ Aside0 (∀ x ∈ t, 0 ≤ x ∧ x ≤ 5) ∧ Aside0 (OwnI w.heap.size wr s5 t) ∧ Aside0 (Dw bs w wr)) (fun _ s6 _ => N - (intOf s6).toNat)
    case atStart => exact ⟨1, [], rfl, Nat.le_refl _, hpp.1, ⟨rfl⟩, ⟨fun x h => by cases h⟩, HO2, HD2⟩
    case round =>
      obtain ⟨p, t, rfl, hp1, hpN, HL, HT, HO, HD⟩ := hrel
      obtain ⟨w3, hw3⟩ : ∃ w3, w3 = wr := ⟨_, rfl⟩
      subst hw3
      obtain ⟨A5, c5, e5, -⟩ := id HO.out.read
      have hL : t.length = p - 1 := by have := HL.out; omega
      rw [hL] at e5
      subst e5
      by_cases hlt : p < N
      · have hltI : (p : Int) < (N : Int) := by omega
        have hp64 : p < 64 := by omega
        have HPN := Aside0.mk (⟨hp1, hlt⟩ : 1 ≤ p ∧ p < N)
        go_wp2
        clear hsh hnu hmn
        go_loopw [7, 8] (fun s7 s8 wx => ∃ (k q m : Nat), s7 = .int .i64 k ∧ k < 64 ∧ s8 = .int .i64 q ∧ q < p ∧ Aside0 (q < 2 ^ m ∧ ones k + m + 1 ≤ n) ∧ wx = w3) (fun _ s8 _ => (intOf s8).toNat)
        case atStart =>
          refine ⟨0, p / 2, n - 1, rfl, by decide, by first | rfl | (congr 1; omega), by omega, ⟨?_, ?_⟩, rfl⟩
          · have h1 : p < 2 ^ n := by rw [← HN.out]; exact hlt
            have h2 : 2 ^ n = 2 * 2 ^ (n - 1) := by rw [← Nat.pow_succ']; congr 1; omega
            omega
          · rw [show ones 0 = 0 by decide]; omega
        case round =>
          obtain ⟨k, q, m, rfl, hk, rfl, hq, HM, rfl⟩ := hrel
          by_cases hq0 : 0 < q
          · have hqI : (0 : Int) < (q : Int) := by omega
            obtain ⟨A_, c_, e_, -, hr⟩ := HO.out.read
            rw [hL] at e_
            cases e_
            obtain ⟨ad, y, rfl, hcell, HY⟩ := ReadI.get hr (i := q - 1) (by omega)
            have hy := HT.out y (mem_at (by omega) HY.out)
            obtain ⟨v, rfl⟩ : ∃ v : Nat, y = v := ⟨y.toNat, by omega⟩
            have hv5 : v ≤ 5 := by omega
            have hq1I : (0 : Int) ≤ (q : Int) - 1 := by omega
            have hq2I : (q : Int) - 1 < ((p - 1 : Nat) : Int) := by omega
            have hq3I : ((q : Int) - 1).toNat = q - 1 := by omega
            have HPV : Aside0 (∃ P : Nat, P ≤ 32 ∧ wrap64 ((2 : Int) ^ v) = (P : Int) ∧ bits .or .i64 (k : Int) (P : Int) = ((k ||| P : Nat) : Int) ∧ k ||| P < 64 ∧ ones (k ||| P) ≤ ones k + 1) := ⟨2 ^ v, pow_bd v hv5, pow_wrap v (by omega), or_i64 k (2 ^ v) (by omega) (by have := pow_bd v hv5; omega), Nat.or_lt_two_pow (n := 6) hk (by have := pow_bd v hv5; omega), ones_or k hk v (by omega)⟩
            have hm1 : 1 ≤ m := by
              rcases Nat.eq_zero_or_pos m with h | h
              · have := HM.out.1; rw [h] at this; simp at this; omega
              · exact h
            clear hy
            have HQ := Aside0.mk (⟨hq0, hq⟩ : 0 < q ∧ q < p)
            have hvu : IntKind.u64.wrap (v : Int) = (v : Int) := wrapUn (by omega)
            have hmv : min v 64 = v := by omega
            obtain ⟨P, hppv, hshv, hor, hkp, hon⟩ := HPV.out
            have HKP := Aside0.mk hkp
            have HON := Aside0.mk hon
            clear hkp hon
            have HM2 : Aside0 (q / 2 < 2 ^ (m - 1) ∧ ones (k ||| P) + (m - 1) + 1 ≤ n) := ⟨by
              have h1 := HM.out.1
              have h2 : 2 ^ m = 2 * 2 ^ (m - 1) := by rw [← Nat.pow_succ']; congr 1; omega
              have h3 := HM.out.2
              have h4 := HON.out
              generalize ones (k ||| P) = o1 at h4 ⊢
              generalize ones k = o2 at h3 h4
              exact ⟨by omega, by omega⟩⟩
            clear hr hm1
            go_wp2
            go_roundw
            case rel => have hQ := HQ.out; exact ⟨k ||| P, q / 2, m - 1, by first | rfl | (congr 1), HKP.out, by first | rfl | (congr 1; omega), by omega, HM2, trivial⟩
            case measure => have hQ := HQ.out; simp [intOf]; omega
          · have hqI : ¬ (0 : Int) < (q : Int) := by omega
            have HU := Aside0.mk (ones_free n (by omega) k hk (by have h3 := HM.out.2; generalize ones k = o2 at h3 ⊢; omega))
            go_wp2_with (first | (go_at_call 74; go_must (refine (next bs (n : Int) _ (by omega) HD.out.2).mono ?_; rintro e w5 ⟨r, rfl, -, hr, hd⟩; have hr := hr (by omega); obtain ⟨v0, rfl⟩ : ∃ v : Nat, r = v := ⟨r.toNat, by omega⟩; have HO5 := Aside0.mk (HO.out.gm hd.1 HBS.out); have HD5 := Aside0.mk (HD.out.trans hd); clear hd)))
            obtain ⟨u, hu1, hu2⟩ := HU.out
            go_loopw [9] (fun s9 wx => ∃ v : Nat, s9 = .int .i64 v ∧ v < n ∧ wx = w5) (fun s9 _ => farV n u (intOf s9).toNat)
            case atStart => exact ⟨v0, rfl, by omega, rfl⟩
            case round =>
              obtain ⟨v, rfl, hv, rfl⟩ := hrel
              have hvu : IntKind.u64.wrap (v : Int) = (v : Int) := wrapUn (by omega)
              have hmv : min v 64 = v := by omega
              have hbit := bit_of k v (by omega)
              cases hb : k.testBit v with
              | true =>
                rw [hb, if_pos rfl] at hbit
                have hvne : v ≠ u := fun e => by rw [e, hu2] at hb; cases hb
                have HF := Aside0.mk (far_step hu1 hv hvne)
                have hn0 : ¬ (n : Int) = 0 := by omega
                have hnz : ((n : Int) == 0) = false := by simpa using (show n ≠ 0 by omega)
                have HVM : Aside0 ((v + 1) % n < n) := ⟨Nat.mod_lt _ (by omega)⟩
                go_wp2
                go_roundw
                case rel => exact ⟨(v + 1) % n, by first | rfl | (congr 1; omega) | (push_cast; rfl), HVM.out, trivial⟩
                case measure =>
                  have e : (((v : Int) + 1) % (n : Int)).toNat = (v + 1) % n := by
                    rw [show (v : Int) + 1 = ((v + 1 : Nat) : Int) from rfl, ← Int.natCast_emod]; exact Int.toNat_natCast _
                  have h9 := HF.out
                  show farV n u (((v : Int) + 1) % (n : Int)).toNat < farV n u ((v : Int)).toNat
                  rw [e, Int.toNat_natCast]; exact h9
              | false =>
                rw [hb, if_neg (by decide)] at hbit
                go_wp2_with (first | (at_builtin; refine app_own (w0 := wr) w.heap.size rfl (.tmp 50) (.tmp 52) rfl _ t (v : Int) rfl rfl HO5.out (Below.refl _ _) HD5.out.size (by have := HL.out; omega) ?_; intro v1 w9 ho hb hg hat; have HO9 := Aside0.mk ho; have HD9 := Aside0.mk (HD5.out.top hb (Nat.le_refl _) HBS.out); clear ho hb hg hat))
                go_roundw
                case rel => exact ⟨p + 1, t ++ [(v : Int)], by go_num, by omega, by have := HPN.out; omega, ⟨by rw [List.length_append, List.length_singleton, HL.out]⟩, ⟨fun x hx => by
                  rcases List.mem_append.1 hx with h | h
                  · exact HT.out x h
                  · rw [List.mem_singleton] at h; omega⟩, HO9, HD9⟩
                case measure => have := HPN.out; simp [intOf]; omega
      · have hltI : ¬ (p : Int) < (N : Int) := by omega
        have hpe : p = N := by omega
        have hN2 : 2 ≤ N := by
          have h1 := HN.out
          have h2 : 2 ^ 1 ≤ 2 ^ n := Nat.pow_le_pow_right (by decide) hn1
          omega
        obtain ⟨g, cap, e5, -⟩ := Kd.R_form HO.out (by rw [hL]; omega)
        injection e5 with e6 e7 e8
        subst e6
        subst e8
        have hp63 : p - 1 ≤ 63 := by omega
        have hp0 : 1 ≤ p - 1 := by omega
        have HL63 : Aside0 (t.length ≤ 63) := ⟨by omega⟩
        have hnw1 : IntKind.i64.wrap ((n : Int) + 1) = (n : Int) + 1 := IntWalk.i64_in _ (by omega)
        have HLE : Aside0 (t.length = p - 1) := ⟨hL⟩
        clear e7 hpe hpp hp1 hpN hL hlt hN2
        have SHD : Aside0 (Src bs w3) := ⟨HD.out.2⟩
        go_wp2_with (first | (go_at_call 74; refine Aside0.out ?_))
        refine Aside0.mk ?_
        with_reducible refine (next bs 24 w3 (by decide) SHD.out).mono ?_
        rintro e w5 ⟨r, rfl, -, -, hd⟩
        have HO5 := Aside0.mk (HO.out.gm hd.1 HBS.out)
        have HD5 := Aside0.mk (HD.out.trans hd)
        have SHD5 : Aside0 (Src bs w5) := ⟨hd.2⟩
        clear hd hsh hnu hmn hltI
        by_cases hr0 : r = 0
        · subst hr0
          go_wp2_with (first | (go_at_call 74; refine Aside0.out ?_))
          refine Aside0.mk ?_
          with_reducible refine (next bs ((p - 1 : Nat) : Int) w5 (by omega) SHD5.out).mono ?_
          rintro e w6 ⟨r6, rfl, -, hr, hd⟩
          have hr := hr (by omega)
          obtain ⟨i6, rfl⟩ : ∃ i : Nat, r6 = i := ⟨r6.toNat, by omega⟩
          have hi6 : i6 < p - 1 := by omega
          have hi6I : (i6 : Int) < ((p - 1 : Nat) : Int) := by omega
          have HO6 := Aside0.mk (HO5.out.gm hd.1 HBS.out)
          have HD6 := Aside0.mk (HD5.out.trans hd)
          have SHD6 : Aside0 (Src bs w6) := ⟨hd.2⟩
          clear hd
          go_wp2_with (first | (go_at_call 74; refine Aside0.out ?_))
          refine Aside0.mk ?_
          with_reducible refine (next bs ((n : Int) + 1) w6 (by omega) SHD6.out).mono ?_
          rintro e w7 ⟨r7, rfl, -, -, hd⟩
          have HO7 := Aside0.mk (HO6.out.gm hd.1 HBS.out)
          have HD7 := Aside0.mk (HD6.out.trans hd)
          clear hd
          go_wp2_with (first | ((with_reducible refine gate_store (t := 2) (p := 67) rfl ?_); refine store_own (w0 := w) rfl (p := 67) rfl rfl i6 r7 HO7.out ?ha ?hb ?hc ?_; (case ha => omega); (case hb => rfl); (case hc => rfl); intro w8 ho hg8 hb; have HO8 := Aside0.mk ho; have HD8 := Aside0.mk (HD7.out.top hb (Nat.le_refl _) HBS.out); clear ho hg8 hb))
          go_ret
          exact ⟨_, rfl, ⟨_, HO8.out, by rw [List.length_set]; have := HL63.out; omega⟩, HD8.out⟩
        · by_cases hr1 : r = 1
          · subst hr1
            go_wp2_with (first | (at_builtin; refine app_own (w0 := w5) w.heap.size rfl (.tmp 70) (.tmp 71) rfl _ t 0 rfl rfl HO5.out (Below.refl _ _) HD5.out.size (by have := HL63.out; omega) ?_; intro v1 w8 ho hb hg8 hat; have HO8 := Aside0.mk ho; have HD8 := Aside0.mk (HD5.out.top hb (Nat.le_refl _) HBS.out); clear ho hb hg8 hat))
            go_ret
            exact ⟨_, rfl, ⟨_, HO8.out, by rw [List.length_append, List.length_singleton]; have := HL63.out; omega⟩, HD8.out⟩
          · go_wp2
            go_ret
            exact ⟨_, rfl, ⟨t, HO5.out, by have := HL63.out; omega⟩, HD5.out⟩
end Go.Proofs.Ytkggchklmpmgpaa.H

namespace Go.Proofs.Ytkggchklmpmgpaa.H
open Go.RowKit Go.Proofs.YtkggchklmpmgpaaW.PrintWords Go.Proofs.YtkggchklmpmgpaaW.PrintLast Go.Proofs.YtkggchklmpmgpaaW.PrintMore
set_option linter.unusedVariables false
set_option linter.unusedSimpArgs false

set_option maxRecDepth 100000 in
set_option maxHeartbeats 4000000 in
theorem drawBoth (bs : Nat) (w : World) (hs : Src bs w) :
    Calls Try.prog 73 #[.pointer (some ⟨bs, 0, none⟩)] w fun e w' => ∃ (a : Int) (u tv : Value) (ys ts : List Int), e = .returned (.tuple #[.agg #[.int .i64 a, u], tv]) ∧ OwnI w.heap.size w' u ys ∧ OwnI w.heap.size w' tv ts ∧ Rc a ys ∧ ts.length ≤ 64 ∧ Dw bs w w' := by
  have HBS := Aside0.mk hs.lt
  obtain ⟨w1, hw1⟩ : ∃ w1, w1 = w.alloc C0 := ⟨_, rfl⟩
  have hb1 : Below w.heap.size w w1 := by rw [hw1]; exact Below.alloc (Below.refl _ _) (Nat.le_refl _) _
  have HZ1 : Aside0 (w1.heap.size = w.heap.size + 1) := ⟨by rw [hw1]; simp⟩
  have HK1 : Aside0 (w1.heap[w.heap.size]? = some C0) := ⟨by rw [hw1]; exact blk_new w _⟩
  have HD1 := Aside0.mk (Dw.of_below hs hb1)
  have hmx : Try.prog.follows .mixedOrders = true := by kernel_rfl
  clear hs hb1
  have HSP := Aside0.mk (spoil bs w1 HD1.out.2)
  go_enter Try.func73, Try.ntmps73
  go_wp2_with (first | (go_at_call 66; rw [← hw1]; clear hw1; refine HSP.out.mono ?_; rintro e w2 ⟨_, rfl, ⟨a, z, ys, rfl, ho, hr⟩, hd⟩; obtain ⟨Az, cz, rfl, -⟩ := id ho.read; have HD2 := Aside0.mk hd; have HO2 := Aside0.mk ho; have HR := Aside0.mk hr; clear ho hr hd) | (go_at_call 74; refine Aside0.out ?_))
  refine Aside0.mk ?_
  obtain ⟨w3, hw3⟩ : ∃ w3, w3 = w2.alloc (.cells #[.int .i64 a, .slice Az ys.length cz] 28) := ⟨_, rfl⟩
  rw [← hw3]
  have hb3 : Below w2.heap.size w2 w3 := by rw [hw3]; exact Below.alloc (Below.refl _ _) (Nat.le_refl _) _
  have hk3 : w3.heap[w2.heap.size]? = some (.cells #[.int .i64 a, .slice Az ys.length cz] 28) := by rw [hw3]; exact heap_alloc_new w2 _
  clear hw3
  have hkb : w2.heap.size ≠ bs := Nat.ne_of_gt HD2.out.2.lt
  have HD3 := Aside0.mk (HD2.out.then_below hb3)
  have SHD3 : Aside0 (Src bs w3) := ⟨HD3.out.2⟩
  have HO3 := Aside0.mk (HO2.out.below hb3)
  clear hb3
  with_reducible refine (next bs 2 w3 (by decide) SHD3.out).mono ?_
  rintro e w4 ⟨r, rfl, -, -, hd⟩
  have hk4 : w4.heap[w2.heap.size]? = some (.cells #[.int .i64 a, .slice Az ys.length cz] 28) := by rw [hd.1.block _ (blk_lt hk3) (fun e => hkb (Option.some.inj e))]; exact hk3
  have HD4 := Aside0.mk (HD3.out.trans hd)
  have HO4 := Aside0.mk (HO3.out.gm hd.1 HD1.out.2.lt)
  have SHD4 : Aside0 (Src bs w4) := ⟨hd.2⟩
  clear hd hk3
  by_cases hr0 : r = 0
  · subst hr0
    have HS2 := Aside0.mk (blk_lt hk4)
    have HK4 := Aside0.mk hk4
    clear hk4 HR HO2 HO3 HO4
    go_wp2_with (first | (go_at_call 127; go_must (refine (small bs w4 SHD4.out).mono ?_; rintro e w5 ⟨n, z5, xs5, rfl, ho, hg, hd⟩; obtain ⟨A5, c5, rfl, -⟩ := id ho.read; have hk5 : w5.heap[w2.heap.size]? = some (.cells #[.int .i64 a, .slice Az ys.length cz] 28) := (by rw [hd.1.block _ HS2.out (fun e => hkb (Option.some.inj e))]; exact HK4.out); have HK5 := Aside0.mk hk5; have HD5 := Aside0.mk (HD4.out.trans hd); have HO5 := Aside0.mk ho; have HR5 := Aside0.mk hg.rc; have c00 : w5.cell? ⟨w2.heap.size, 0, none⟩ = some (.int .i64 a) := blk_cell hk5 0; have c01 : w5.cell? ⟨w2.heap.size, 1, none⟩ = some (.slice Az ys.length cz) := blk_cell hk5 1; have f00 : w5.frozen? ⟨w2.heap.size, 0, none⟩ = false := blk_frozen hk5 0; have f01 : w5.frozen? ⟨w2.heap.size, 1, none⟩ = false := blk_frozen hk5 1; clear ho hg hd hk5)))
    obtain ⟨wz, hwz⟩ : ∃ wz, wz = (w5.setCell ⟨w2.heap.size, 0, none⟩ (Value.int IntKind.i64 n)).setCell ⟨w2.heap.size, 1, none⟩ (Value.slice A5 xs5.length c5) := ⟨_, rfl⟩
    rw [← hwz]
    have hkz : wz.heap[w2.heap.size]? = some (.cells #[.int .i64 n, .slice A5 xs5.length c5] 28) := by
      rw [hwz]; refine blk_put (cs := #[.int .i64 n, .slice Az ys.length cz]) ?_ 1 _ rfl; refine blk_put (cs := #[.int .i64 a, .slice Az ys.length cz]) ?_ 0 _ rfl; exact HK5.out
    have hbb : Below w2.heap.size w5 wz := by rw [hwz]; exact ((Below.refl _ _).setCell (by simp) _).setCell (by simp) _
    have HDz := Aside0.mk (HD5.out.top (hbb.mono HD2.out.size) (Nat.le_refl _) HD1.out.2.lt)
    have HOz : Aside0 (OwnI w1.heap.size wz (.slice A5 xs5.length c5) xs5) := ⟨by
      have ho := HO5.out
      have hbse := ho.base
      have hs2 := HS2.out
      have ho := ho.lower (b' := w1.heap.size) HD4.out.size
      rw [hwz]
      exact (ho.grown (set_grown' _ w2.heap.size _ _) (fun j hj e => by have := hbse _ hj; cases e; omega)).grown (set_grown' _ w2.heap.size _ _) (fun j hj e => by have := hbse _ hj; cases e; omega)⟩
    clear hwz hbb c00 c01 f00 f01 HK5 HK4 HO5 HD5
    obtain ⟨a5, ha5⟩ : ∃ a5 : Int, a5 = n := ⟨_, rfl⟩
    rw [← ha5] at hkz HR5
    clear ha5
    clear HD4 SHD4
    have kc0 : wz.cell? ⟨w2.heap.size, 0, none⟩ = some (.int .i64 a5) := blk_cell hkz 0
    have kc1 : wz.cell? ⟨w2.heap.size, 1, none⟩ = some (.slice A5 xs5.length c5) := blk_cell hkz 1
    clear hkz
    have HBSz := Aside0.mk (show bs < wz.heap.size from HDz.out.2.lt)
    have HSz := Aside0.mk HDz.out.2
    have HZZ := Aside0.mk (HDz.out.size)
    refine wp_region_gv (Gm bs (Src bs)) (fun w => ⟨grown_drew w _, fun h => h.below (Below.refl _ _).drew⟩) (fun _ _ _ => Gm.trans) 5 (fun i => match i with | 0 => fun v _ => v = .agg #[.int .i64 a5, .slice A5 xs5.length c5] | 1 => fun v _ => v = .pointer (some ⟨bs, 0, none⟩) | 2 => fun v _ => v = .pointer (some ⟨w2.heap.size, 0, none⟩) | 3 => fun v _ => v = .int .i64 a5 | 4 => fun v W => ∃ t, OwnI wz.heap.size W v t ∧ t.length ≤ 64 | _ => fun _ _ => True)
      [0, 0, 0, 4, 14, 31, 63] hmx (by kernel_rfl) ?st ?steps ?rest
    case st =>
      intro i v w1_ w2_ hb
      match i with
      | 0 | 1 | 2 | 3 => exact id
      | 4 => exact fun ⟨t, ho, h1⟩ => ⟨t, ho.gm hb.1 HBSz.out, h1⟩
      | n + 5 => exact id
    case steps =>
      refine ⟨?_, ?_, ?_, ?_, ?_, trivial⟩
      · intro s w_ hb hd hq R hR
        generalize hA : putAll _ 0 s _ = A
        clear hq
        have kc0 := grown_cell hb.1 kc0 hkb
        have kc1 := grown_cell hb.1 kc1 hkb
        have hR' := hR (.agg #[.int .i64 a5, .slice A5 xs5.length c5]) _ (Gm.refl _ _ _) rfl
        clear hR hd
        refine opGives_value ?_ hR'
        subst hA
        simp only [dsOf, List.take, List.map_cons, List.map_nil, Option.getD_some, putAll, Act.put, List.setIfInBounds_toArray, List.set_cons_zero, List.set_cons_succ]
        go_simp
      · intro s w_ hb hd hq R hR
        generalize hA : putAll _ 0 s _ = A
        clear hq
        have hR' := hR (.pointer (some ⟨bs, 0, none⟩)) _ (Gm.refl _ _ _) rfl
        clear hR hd
        refine opGives_value ?_ hR'
        subst hA
        simp only [dsOf, List.take, List.map_cons, List.map_nil, Option.getD_some, putAll, Act.put, List.setIfInBounds_toArray, List.set_cons_zero, List.set_cons_succ]
        go_simp
      · intro s w_ hb hd hq R hR
        generalize hA : putAll _ 0 s _ = A
        clear hq
        have hR' := hR (.pointer (some ⟨w2.heap.size, 0, none⟩)) _ (Gm.refl _ _ _) rfl
        clear hR hd
        refine opGives_value ?_ hR'
        subst hA
        simp only [dsOf, List.take, List.map_cons, List.map_nil, Option.getD_some, putAll, Act.put, List.setIfInBounds_toArray, List.set_cons_zero, List.set_cons_succ]
        go_simp
      · intro s w_ hb hd hq R hR
        generalize hA : putAll _ 0 s _ = A
        have e2 : s 2 = _ := hd 2 (by kernel_rfl)
        clear hq
        have kc0 := grown_cell hb.1 kc0 hkb
        have hR' := hR (.int .i64 a5) _ (Gm.refl _ _ _) rfl
        clear hR hd
        refine opGives_value ?_ hR'
        subst hA
        simp only [dsOf, List.take, List.map_cons, List.map_nil, Option.getD_some, putAll, Act.put, List.setIfInBounds_toArray, List.set_cons_zero, List.set_cons_succ]
        go_simp
      · intro s w_ hb hd hq R hR
        generalize hA : putAll _ 0 s _ = A
        have e1 : s 1 = _ := hd 1 (by kernel_rfl)
        have e3 : s 3 = _ := hd 3 (by kernel_rfl)
        clear hq
        refine opGives_call (f := 128) (args := #[.pointer (some ⟨bs, 0, none⟩), .int .i64 a5]) ?_ ?_
        · subst hA
          clear hR hd
          simp only [dsOf, List.take, List.map_cons, List.map_nil, Option.getD_some, putAll, Act.put, List.setIfInBounds_toArray, List.set_cons_zero, List.set_cons_succ]
          go_simp
        clear hA A hd
        refine (drawTree bs a5 HR5.out.1 HR5.out.2.1 w_ (hb.2 HSz.out)).mono ?_
        rintro e w3_ ⟨u3, rfl, ⟨t, ho, hl⟩, hd⟩
        exact ⟨_, rfl, hR _ _ ⟨hd.1, fun _ => hd.2⟩ ⟨t, ho.lower hb.1.size, hl⟩⟩
    case rest =>
      intro s9 w9 hb hv
      have e0_ : s9 0 = _ := hv 0 (by decide)
      obtain ⟨t4, o4, l4⟩ : ∃ t, OwnI wz.heap.size w9 (s9 4) t ∧ t.length ≤ 64 := hv 4 (by decide)
      obtain ⟨A4, c4, e4_, -⟩ := id o4.read
      rw [e4_] at o4
      clear hv
      simp only [dsOf, List.take, List.map_cons, List.map_nil, Option.getD_some, putAll, Act.put, List.setIfInBounds_toArray, List.set_cons_zero, List.set_cons_succ]
      have hd9 : Dw bs w1 w9 := HDz.out.trans ⟨hb.1, hb.2 HSz.out⟩
      have hk9 : w9.heap[w.heap.size]? = some C0 := by rw [hd9.1.block _ (by have h1 := HZ1.out; omega) (fun e => by have := Option.some.inj e; have := HBS.out; omega)]; exact HK1.out
      have HK9 := Aside0.mk hk9
      have HD9 := Aside0.mk hd9
      have HO9 := Aside0.mk (HOz.out.gm hb.1 (HD1.out.2.lt))
      have HT9 := Aside0.mk (o4.lower HZZ.out)
      have HL9 := Aside0.mk l4
      have c00 : w9.cell? ⟨w.heap.size, 0, none⟩ = some (.int .i64 0) := blk_cell hk9 0
      have c01 : w9.cell? ⟨w.heap.size, 1, none⟩ = some (.slice none 0 0) := blk_cell hk9 1
      have f00 : w9.frozen? ⟨w.heap.size, 0, none⟩ = false := blk_frozen hk9 0
      have f01 : w9.frozen? ⟨w.heap.size, 1, none⟩ = false := blk_frozen hk9 1
      rw [e0_, e4_]
      clear hb hd9 hk9 o4 l4 e4_ e0_
      refine .inr ⟨(w9.setCell ⟨w.heap.size, 0, none⟩ (.int .i64 a5)).setCell ⟨w.heap.size, 1, none⟩ (.slice A5 xs5.length c5), (by go_simp), ?_⟩
      simp only [List.drop, Act.put, List.setIfInBounds_toArray, List.set_cons_zero, List.set_cons_succ]
      unfold tailList
      refine .inl ?_
      refine opGives_value (v := .slice A4 t4.length c4) (w' := (w9.setCell ⟨w.heap.size, 0, none⟩ (.int .i64 a5)).setCell ⟨w.heap.size, 1, none⟩ (.slice A5 xs5.length c5)) ?_ ?_
      · go_simp
      simp only [List.drop, Act.put, List.setIfInBounds_toArray, List.set_cons_zero, List.set_cons_succ]
      unfold tailList
      go_wp2
      refine bodyPost_ret (results_ct rfl _ _ w.heap.size 28 #[.int .i64 a5, .slice A5 xs5.length c5] (0, 0) _ rfl (by refine blk_put (cs := #[.int .i64 a5, .slice none 0 0]) ?_ 1 _ rfl; refine blk_put (cs := #[.int .i64 0, .slice none 0 0]) ?_ 0 _ rfl; exact HK9.out) Try.underlying28 rfl (by kernel_rfl)) rfl ?_
      have hbb : Below w.heap.size w9 ((w9.setCell ⟨w.heap.size, 0, none⟩ (Value.int IntKind.i64 a5)).setCell ⟨w.heap.size, 1, none⟩ (Value.slice A5 xs5.length c5)) := ((Below.refl _ _).setCell (by simp) _).setCell (by simp) _
      have hz := HZ1.out
      have own : ∀ {v : Value} {l : List Int}, OwnI w1.heap.size w9 v l → OwnI w.heap.size ((w9.setCell ⟨w.heap.size, 0, none⟩ (Value.int IntKind.i64 a5)).setCell ⟨w.heap.size, 1, none⟩ (Value.slice A5 xs5.length c5)) v l := by
        intro v l ho
        have hbse := ho.base
        have ho := ho.lower (b' := w.heap.size) (by omega)
        exact (ho.grown (set_grown' _ w.heap.size _ _) (fun j hj e => by have := hbse _ hj; cases e; omega)).grown (set_grown' _ w.heap.size _ _) (fun j hj e => by have := hbse _ hj; cases e; omega)
      exact ⟨a5, _, _, xs5, t4, rfl, own HO9.out, own HT9.out, HR5.out, HL9.out, (HD1.out.trans HD9.out).top hbb (Nat.le_refl _) HBS.out⟩
  · have HDz : Aside0 (Dw bs w1 w4) := HD4
    have HOz := HO4
    obtain ⟨wz, hwz⟩ : ∃ wz, wz = w4 := ⟨_, rfl⟩
    have kc0 : w4.cell? ⟨w2.heap.size, 0, none⟩ = some (.int .i64 a) := blk_cell hk4 0
    have kc1 : w4.cell? ⟨w2.heap.size, 1, none⟩ = some (.slice Az ys.length cz) := blk_cell hk4 1
    clear hk4
    go_wp2
    subst hwz
    have HBSz := Aside0.mk (show bs < wz.heap.size from HDz.out.2.lt)
    have HSz := Aside0.mk HDz.out.2
    have HZZ := Aside0.mk (HDz.out.size)
    refine wp_region_gv (Gm bs (Src bs)) (fun w => ⟨grown_drew w _, fun h => h.below (Below.refl _ _).drew⟩) (fun _ _ _ => Gm.trans) 5 (fun i => match i with | 0 => fun v _ => v = .agg #[.int .i64 a, .slice Az ys.length cz] | 1 => fun v _ => v = .pointer (some ⟨bs, 0, none⟩) | 2 => fun v _ => v = .pointer (some ⟨w2.heap.size, 0, none⟩) | 3 => fun v _ => v = .int .i64 a | 4 => fun v W => ∃ t, OwnI wz.heap.size W v t ∧ t.length ≤ 64 | _ => fun _ _ => True)
      [0, 0, 0, 4, 14, 31, 63] hmx (by kernel_rfl) ?st ?steps ?rest
    case st =>
      intro i v w1_ w2_ hb
      match i with
      | 0 | 1 | 2 | 3 => exact id
      | 4 => exact fun ⟨t, ho, h1⟩ => ⟨t, ho.gm hb.1 HBSz.out, h1⟩
      | n + 5 => exact id
    case steps =>
      refine ⟨?_, ?_, ?_, ?_, ?_, trivial⟩
      · intro s w_ hb hd hq R hR
        generalize hA : putAll _ 0 s _ = A
        clear hq
        have kc0 := grown_cell hb.1 kc0 hkb
        have kc1 := grown_cell hb.1 kc1 hkb
        have hR' := hR (.agg #[.int .i64 a, .slice Az ys.length cz]) _ (Gm.refl _ _ _) rfl
        clear hR hd
        refine opGives_value ?_ hR'
        subst hA
        simp only [dsOf, List.take, List.map_cons, List.map_nil, Option.getD_some, putAll, Act.put, List.setIfInBounds_toArray, List.set_cons_zero, List.set_cons_succ]
        go_simp
      · intro s w_ hb hd hq R hR
        generalize hA : putAll _ 0 s _ = A
        clear hq
        have hR' := hR (.pointer (some ⟨bs, 0, none⟩)) _ (Gm.refl _ _ _) rfl
        clear hR hd
        refine opGives_value ?_ hR'
        subst hA
        simp only [dsOf, List.take, List.map_cons, List.map_nil, Option.getD_some, putAll, Act.put, List.setIfInBounds_toArray, List.set_cons_zero, List.set_cons_succ]
        go_simp
      · intro s w_ hb hd hq R hR
        generalize hA : putAll _ 0 s _ = A
        clear hq
        have hR' := hR (.pointer (some ⟨w2.heap.size, 0, none⟩)) _ (Gm.refl _ _ _) rfl
        clear hR hd
        refine opGives_value ?_ hR'
        subst hA
        simp only [dsOf, List.take, List.map_cons, List.map_nil, Option.getD_some, putAll, Act.put, List.setIfInBounds_toArray, List.set_cons_zero, List.set_cons_succ]
        go_simp
      · intro s w_ hb hd hq R hR
        generalize hA : putAll _ 0 s _ = A
        have e2 : s 2 = _ := hd 2 (by kernel_rfl)
        clear hq
        have kc0 := grown_cell hb.1 kc0 hkb
        have hR' := hR (.int .i64 a) _ (Gm.refl _ _ _) rfl
        clear hR hd
        refine opGives_value ?_ hR'
        subst hA
        simp only [dsOf, List.take, List.map_cons, List.map_nil, Option.getD_some, putAll, Act.put, List.setIfInBounds_toArray, List.set_cons_zero, List.set_cons_succ]
        go_simp
      · intro s w_ hb hd hq R hR
        generalize hA : putAll _ 0 s _ = A
        have e1 : s 1 = _ := hd 1 (by kernel_rfl)
        have e3 : s 3 = _ := hd 3 (by kernel_rfl)
        clear hq
        refine opGives_call (f := 128) (args := #[.pointer (some ⟨bs, 0, none⟩), .int .i64 a]) ?_ ?_
        · subst hA
          clear hR hd
          simp only [dsOf, List.take, List.map_cons, List.map_nil, Option.getD_some, putAll, Act.put, List.setIfInBounds_toArray, List.set_cons_zero, List.set_cons_succ]
          go_simp
        clear hA A hd
        refine (drawTree bs a HR.out.1 HR.out.2.1 w_ (hb.2 HSz.out)).mono ?_
        rintro e w3_ ⟨u3, rfl, ⟨t, ho, hl⟩, hd⟩
        exact ⟨_, rfl, hR _ _ ⟨hd.1, fun _ => hd.2⟩ ⟨t, ho.lower hb.1.size, hl⟩⟩
    case rest =>
      intro s9 w9 hb hv
      have e0_ : s9 0 = _ := hv 0 (by decide)
      obtain ⟨t4, o4, l4⟩ : ∃ t, OwnI wz.heap.size w9 (s9 4) t ∧ t.length ≤ 64 := hv 4 (by decide)
      obtain ⟨A4, c4, e4_, -⟩ := id o4.read
      rw [e4_] at o4
      clear hv
      simp only [dsOf, List.take, List.map_cons, List.map_nil, Option.getD_some, putAll, Act.put, List.setIfInBounds_toArray, List.set_cons_zero, List.set_cons_succ]
      have hd9 : Dw bs w1 w9 := HDz.out.trans ⟨hb.1, hb.2 HSz.out⟩
      have hk9 : w9.heap[w.heap.size]? = some C0 := by rw [hd9.1.block _ (by have h1 := HZ1.out; omega) (fun e => by have := Option.some.inj e; have := HBS.out; omega)]; exact HK1.out
      have HK9 := Aside0.mk hk9
      have HD9 := Aside0.mk hd9
      have HO9 := Aside0.mk (HOz.out.gm hb.1 (HD1.out.2.lt))
      have HT9 := Aside0.mk (o4.lower HZZ.out)
      have HL9 := Aside0.mk l4
      have c00 : w9.cell? ⟨w.heap.size, 0, none⟩ = some (.int .i64 0) := blk_cell hk9 0
      have c01 : w9.cell? ⟨w.heap.size, 1, none⟩ = some (.slice none 0 0) := blk_cell hk9 1
      have f00 : w9.frozen? ⟨w.heap.size, 0, none⟩ = false := blk_frozen hk9 0
      have f01 : w9.frozen? ⟨w.heap.size, 1, none⟩ = false := blk_frozen hk9 1
      rw [e0_, e4_]
      clear hb hd9 hk9 o4 l4 e4_ e0_
      refine .inr ⟨(w9.setCell ⟨w.heap.size, 0, none⟩ (.int .i64 a)).setCell ⟨w.heap.size, 1, none⟩ (.slice Az ys.length cz), (by go_simp), ?_⟩
      simp only [List.drop, Act.put, List.setIfInBounds_toArray, List.set_cons_zero, List.set_cons_succ]
      unfold tailList
      refine .inl ?_
      refine opGives_value (v := .slice A4 t4.length c4) (w' := (w9.setCell ⟨w.heap.size, 0, none⟩ (.int .i64 a)).setCell ⟨w.heap.size, 1, none⟩ (.slice Az ys.length cz)) ?_ ?_
      · go_simp
      simp only [List.drop, Act.put, List.setIfInBounds_toArray, List.set_cons_zero, List.set_cons_succ]
      unfold tailList
      go_wp2
      refine bodyPost_ret (results_ct rfl _ _ w.heap.size 28 #[.int .i64 a, .slice Az ys.length cz] (0, 0) _ rfl (by refine blk_put (cs := #[.int .i64 a, .slice none 0 0]) ?_ 1 _ rfl; refine blk_put (cs := #[.int .i64 0, .slice none 0 0]) ?_ 0 _ rfl; exact HK9.out) Try.underlying28 rfl (by kernel_rfl)) rfl ?_
      have hbb : Below w.heap.size w9 ((w9.setCell ⟨w.heap.size, 0, none⟩ (Value.int IntKind.i64 a)).setCell ⟨w.heap.size, 1, none⟩ (Value.slice Az ys.length cz)) := ((Below.refl _ _).setCell (by simp) _).setCell (by simp) _
      have hz := HZ1.out
      have own : ∀ {v : Value} {l : List Int}, OwnI w1.heap.size w9 v l → OwnI w.heap.size ((w9.setCell ⟨w.heap.size, 0, none⟩ (Value.int IntKind.i64 a)).setCell ⟨w.heap.size, 1, none⟩ (Value.slice Az ys.length cz)) v l := by
        intro v l ho
        have hbse := ho.base
        have ho := ho.lower (b' := w.heap.size) (by omega)
        exact (ho.grown (set_grown' _ w.heap.size _ _) (fun j hj e => by have := hbse _ hj; cases e; omega)).grown (set_grown' _ w.heap.size _ _) (fun j hj e => by have := hbse _ hj; cases e; omega)
      exact ⟨a, _, _, ys, t4, rfl, own HO9.out, own HT9.out, HR.out, HL9.out, (HD1.out.trans HD9.out).top hbb (Nat.le_refl _) HBS.out⟩
end Go.Proofs.Ytkggchklmpmgpaa.H

namespace Go.Proofs.Ytkggchklmpmgpaa.H
open Go.RowKit Go.Proofs.YtkggchklmpmgpaaW.PrintWords Go.Proofs.YtkggchklmpmgpaaW.PrintLast Go.Proofs.YtkggchklmpmgpaaW.PrintMore
set_option linter.unusedVariables false
set_option linter.unusedSimpArgs false

def tailOkW (l : List Oper) (B : List Nat) (n k1 k : Nat) : Bool :=
  decide (k < l.length) && (l.take k1).all (fun o => o.dst.isSome) && l.all (fun o => o.guard.isNone) && decide (dsOf (l.take k1)).Nodup && (dsOf (l.take k1)).all (fun d => decide (d < n)) &&
  waitsOk (rtab .any l.toArray).2 B && baseOk (rtab .any l.toArray).2 (List.range l.length) &&
  (List.range l.length).all (fun i => decide (i < k) || (List.range i).all fun j => (B.getD i 0).testBit j) &&
  (List.range k).all (fun i => (List.range l.length).all fun j => decide (j < i) || !(B.getD i 0).testBit j)
theorem wp_region_w {P : Program} {id : Nat} {Q : Exit → Act → World → Prop} {a : Act} {w : World} {l : List Oper} (k1 k : Nat) (hkk : k1 ≤ k) (qt : Nat → Bool) (V : Nat → Value → Prop) (I : (Nat → Bool) → (Nat → Value) → World → Prop) (B : List Nat) (hm : P.follows .mixedOrders = true) (hok : tailOkW l B a.tmps.size k1 k = true)
    (hI0 : ∀ b s, (∀ i, b i = false) → I b s w.drew)
    (hI : ∀ i b s v w1, qt i = true → I b s w1 → I (markU b i) (upd s i v) w1)
    (hs : uSteps qt V I P (l.take k1) B a 0 (l.take k1))
    (ht : ∀ i o, k1 ≤ i → i < k → l[i]? = some o → ∀ s b w1, I b s w1 → b i = false → (∀ j, j < i → (B.getD i 0).testBit j = true → b j = true ∧ (j < k1 → qt j = true → V j (s j))) → o.dst = none ∧ ∃ w', (execOp (putAll (dsOf (l.take k1)) 0 s a).eval o).run P w1 = .ok .skip w' ∧ I (markU b i) s w')
    (hend : ∀ s b w1, I b s w1 → (∀ i, i < k → b i = true) → (∀ i, i < k1 → qt i = true → V i (s i)) → tailList P Q (l.drop k) (putAll (dsOf (l.take k1)) 0 s a) w1) : (Code.region id l.toArray true).wp P Q a w := by
  simp only [tailOkW, Bool.and_eq_true] at hok
  obtain ⟨⟨⟨⟨⟨⟨⟨⟨hk, h1⟩, h0⟩, h2⟩, h3⟩, h4⟩, h5⟩, hBt⟩, hBd⟩ := hok
  have hk : k < l.length := of_decide_eq_true hk
  have hnd : (dsOf (l.take k1)).Nodup := of_decide_eq_true h2
  have hBt : ∀ i j, i < l.length → k ≤ i → j < i → (B.getD i 0).testBit j = true := by
    intro i j hi hki hj
    have := List.all_eq_true.1 hBt i (List.mem_range.2 hi)
    rw [decide_eq_false (by omega), Bool.false_or] at this
    exact List.all_eq_true.1 this j (List.mem_range.2 hj)
  have hBd : ∀ i j, i < k → j < l.length → (B.getD i 0).testBit j = true → j < i := by
    intro i j hi hj hij
    have := List.all_eq_true.1 (List.all_eq_true.1 hBd i (List.mem_range.2 hi)) j (List.mem_range.2 hj)
    rw [hij, Bool.not_true, Bool.or_false] at this
    exact of_decide_eq_true this
  have hTl : (rtab .any l.toArray).2.length = l.length := by rw [rtab_length]; simp
  have hdl : ∀ i, i < k1 → (l.take k1)[i]? = l[i]? := fun i hi => by rw [List.getElem?_take_of_lt hi]
  have hlt : (l.take k1).length = k1 := by rw [List.length_take]; omega
  have hds : ∀ (i : Nat) (o : Oper), i < k1 → l[i]? = some o → o.dst = some ((dsOf (l.take k1))[i]?.getD 0) ∧ (dsOf (l.take k1))[i]? = some (o.dst.getD 0) := by
    intro i o hi ho
    have ho' : (l.take k1)[i]? = some o := (hdl i hi).trans ho
    have e : (dsOf (l.take k1))[i]? = some (o.dst.getD 0) := by unfold dsOf; rw [List.getElem?_map, ho']; rfl
    refine ⟨?_, e⟩
    have := List.all_eq_true.1 h1 o (List.mem_of_getElem? ho')
    rw [e]
    cases hd : o.dst with
    | none => rw [hd] at this; cases this
    | some d => rfl
  have hrange : ∀ j, j < l.length → (List.range l.length).contains j = true := fun j hj => by simpa using hj
  refine wp_region_last_drew (S := fun _ => True) (ds := []) hm trivial (fun _ => ?_)
  refine inv_ (T := rtab .any l.toArray) (B := B) (List.range l.length) (fun b a' w' => (b k = false → ∃ s, a' = putAll (dsOf (l.take k1)) 0 s a ∧ I b s w' ∧ (∀ i, i < k1 → b i = true → qt i = true → V i (s i)) ∧ ∀ i, i < k1 → b i = false → s i = (a.tmps[(dsOf (l.take k1))[i]?.getD 0]?).getD undef) ∧ (∀ n, k < n → n ≤ l.length → (∀ j, j < n → b j = true) → (∀ j, n ≤ j → j < l.length → b j = false) → tailList P Q (l.drop n) a' w')) rfl h4 h5 ?_ ?_ ?_ ?_
  · rw [hTl, Bool.and_eq_true, beq_iff_eq, beq_iff_eq]
    refine ⟨?_, by simp⟩
    apply List.ext_getElem
    · simp [lof]
    · intro i hi1 hi2
      have hi : i < l.length := by simpa [lof] using hi1
      simp [lof, hi]
  · refine ⟨fun _ => ⟨fun k' => (a.tmps[(dsOf (l.take k1))[k']?.getD 0]?).getD undef, ?_, hI0 _ _ (fun _ => rfl), (fun _ _ h => by cases h), fun _ _ _ => rfl⟩, fun n hn _ hj _ => by have := hj 0 (by omega); cases this⟩
    refine (putAll_self _ _ _ _ (fun j d hj => ?_)).symm
    have hd := List.all_eq_true.1 h3 d (List.mem_of_getElem? hj)
    have hd' : d < a.tmps.size := of_decide_eq_true hd
    simp [hj, hd']
  · intro i hi b a' w' ⟨hA, hT⟩ hbi hon hoff
    have hil : i < l.length := List.mem_range.1 hi
    have ho : l[i]? = some l[i] := List.getElem?_eq_getElem hil
    refine ⟨l[i], by simp, fun K hK => ?_⟩
    have hK' := Shut.out hK
    have hg : l[i].guard = none := by
      have := List.all_eq_true.1 h0 l[i] (List.mem_of_getElem? ho)
      cases hq : l[i].guard with
      | none => rfl
      | some g => rw [hq] at this; cases this
    rw [if_pos (by simp [Region.wanted, hg])]
    have hon' : ∀ j, j < l.length → (B.getD i 0).testBit j = true → b j = true := fun j hj hb => hon j (by rw [hrange j hj, hb]; rfl)
    have hoff' : ∀ d, d < l.length → (B.getD d 0).testBit i = true → b d = false := fun d hd hb => hoff d (by rw [hrange d hd, hb]; rfl)
    by_cases hik0 : i < k
    · have hbk : b k = false := hoff' k hk (hBt k i hk (Nat.le_refl _) hik0)
      obtain ⟨s, rfl, hIb, hvs, hq0⟩ := hA hbk
      have hup : up b i = markU b i := by
        funext j
        by_cases hji : j = i
        · subst hji; rw [up_self, markU_self]
        · rw [up_ne hji, markU_ne b hji]
      by_cases hik : i < k1
      · ·
          have hfin : ∀ v w2, I (markU b i) (upd s i v) w2 → (qt i = true → V i v) → K ((putAll (dsOf (l.take k1)) 0 s a).put l[i].dst v) w2 := by
            intro v w2 hI2 hV2
            rw [(hds i _ hik ho).1, (hds i _ hik ho).2, Option.getD_some, putAll_put _ _ _ _ _ _ _ hnd (Nat.zero_le _) (by rw [Nat.sub_zero]; exact (hds i _ hik ho).2)]
            refine hK' _ _ ⟨fun _ => ⟨upd s i v, rfl, by rw [hup]; exact hI2, fun j hj hbj hqj => ?_, fun j hj hbj => ?_⟩, fun n hn hnl hj _ => ?_⟩
            · by_cases hji : j = i
              · subst hji; rw [upd_self]; exact hV2 hqj
              · rw [upd_ne s v hji]; rw [up_ne hji] at hbj
                exact hvs j hj hbj hqj
            · have hji : j ≠ i := by
                rintro rfl
                rw [up_self] at hbj
                cases hbj
              rw [upd_ne s v hji]; rw [up_ne hji] at hbj
              exact hq0 j hj hbj
            · have := hj k hn
              rw [up_ne (by omega), hbk] at this
              cases this
          have hst := uSteps_at (l.take k1) 0 hs i _ ((hdl i hik).trans ho) s b w' hIb (by rw [Nat.zero_add]; exact hbi) (fun j hj => by
            rw [Nat.zero_add] at hj
            have h6 := Bool.and_eq_true _ _ ▸ hj
            have h7 : j < k1 := by have := of_decide_eq_true h6.1; rw [hlt] at this; exact this
            have h8 : b j = true := hon' j (by omega) h6.2
            exact ⟨h8, hvs j h7 h8⟩) (fun j hj => by
            rw [Nat.zero_add] at hj
            have h6 := Bool.and_eq_true _ _ ▸ hj
            have h7 : j < k1 := by have := of_decide_eq_true h6.1; rw [hlt] at this; exact this
            exact hq0 j h7 (hoff' j (by omega) h6.2)) (fun v w2 => K ((putAll (dsOf (l.take k1)) 0 s a).put l[i].dst v) w2) (fun hqi v hvi => by
            rw [Nat.zero_add] at hqi hvi
            exact hfin v w' (hI i b s v w' hqi hIb) (fun _ => hvi)) (fun hqi v w2 hI2 => by
            rw [Nat.zero_add] at hqi hI2
            exact hfin v w2 hI2 (fun h => by rw [hqi] at h; cases h))
          unfold stepG at hst
          rw [if_pos (by simp [Region.wanted, hg])] at hst
          exact opGives_wp hst
      · obtain ⟨e0, w2, e1, e2⟩ := ht i _ (by omega) hik0 ho s b w' hIb hbi (fun j hj hb => by
          have h8 : b j = true := hon' j (by omega) hb
          exact ⟨h8, fun h1 h2 => hvs j h1 h8 h2⟩)
        unfold Oper.wp
        rw [e1]
        refine hK' _ _ ⟨fun _ => ⟨s, by rw [e0]; rfl, by rw [hup]; exact e2, fun j hj hbj hqj => ?_, fun j hj hbj => ?_⟩, fun n hn hnl hj _ => ?_⟩
        · rw [up_ne (by omega)] at hbj; exact hvs j hj hbj hqj
        · rw [up_ne (by omega)] at hbj; exact hq0 j hj hbj
        · have := hj k hn
          rw [up_ne (by omega), hbk] at this
          cases this
    · have hall : ∀ j, j < i → b j = true := fun j hj => hon' j (by omega) (hBt i j hil (by omega) hj)
      have hnone : ∀ j, i ≤ j → j < l.length → b j = false := by
        intro j hj hjl
        by_cases hji : j = i
        · subst hji; exact hbi
        · exact hoff' j hjl (hBt j i hjl (by omega) (by omega))
      have htl : tailList P Q (l.drop i) a' w' := by
        by_cases hki : i = k
        · subst hki
          obtain ⟨s, rfl, hIb, hvs, -⟩ := hA hbi
          exact hend s b w' hIb (fun j hj => hall j hj) (fun j hj => hvs j hj (hall j (by omega)))
        · exact hT i (by omega) (by omega) hall hnone
      rw [List.drop_eq_getElem_cons hil] at htl
      have hnext : ∀ a2 w2, tailList P Q (l.drop (i + 1)) a2 w2 → K a2 w2 := by
        intro a2 w2 hq
        refine hK' _ _ ⟨fun h => ?_, fun n hn hnl hj hj2 => ?_⟩
        · by_cases hki : i = k
          · subst hki; rw [up_self] at h; cases h
          · rw [up_ne (by omega)] at h
            have := hall k (by omega)
            rw [h] at this; cases this
        · have hni : n = i + 1 := by
            by_cases h6 : n ≤ i
            · have := hj2 i h6 hil
              rw [up_self] at this; cases this
            · by_cases h7 : i + 1 < n
              · have := hj (i + 1) h7
                rw [up_ne (by omega), hnone (i + 1) (by omega) (by omega)] at this
                cases this
              · omega
          subst hni
          exact hq
      rcases htl with htl | ⟨w2, h1, h2⟩
      · refine opGives_wp (opGives_mono htl (fun v w2 hq => hnext _ _ hq))
      · unfold Oper.wp
        rw [h1]
        exact hnext _ _ h2
  · intro b a' w' hall ⟨hA, hT⟩
    have := hT l.length hk (Nat.le_refl _) (fun j hj => hall j (hrange j hj)) (fun j h1 h2 => by omega)
    rw [List.drop_length] at this
    exact this
end Go.Proofs.Ytkggchklmpmgpaa.H

namespace Go.Proofs.Ytkggchklmpmgpaa.H
open Go.RowKit Go.Proofs.YtkggchklmpmgpaaW.PrintWords Go.Proofs.YtkggchklmpmgpaaW.PrintLast Go.Proofs.YtkggchklmpmgpaaW.PrintMore
set_option linter.unusedVariables false
set_option linter.unusedSimpArgs false

/-- what operation j gives -/
def Rg (j : Nat) (v : Value) : Prop := match j with | 10 => ∃ r : Int, v = .int .i64 r ∧ 0 ≤ r ∧ r < 24 | 11 => ∃ r : Int, v = .int .i64 r ∧ 0 ≤ r ∧ r < 2 | 12 => ∃ r : Int, v = .int .i64 r ∧ 1 ≤ r ∧ r ≤ 65 | 13 => ∃ r : Int, v = .int .i64 r ∧ 0 ≤ r ∧ r < 65 | _ => True
structure QI (bs kr kc B : Nat) (a : Int) (uy ut : Value) (ys ts : List Int) (w0 : World) (b : Nat → Bool) (s : Nat → Value) (w : World) : Prop where
  src : Src bs w
  own : OwnI B w uy ys
  tre : OwnI B w ut ts
  k0 : w.cell? ⟨kc, 0, none⟩ = some (.int .i64 a)
  k1 : w.cell? ⟨kc, 1, none⟩ = some uy
  bel : Below kr w0 w
  blk : w.heap[kr]? = some (if b 14 then .cells #[.int .i64 a, uy] 28 else C0)
  vals : ∀ j, b j = true → Rg j (s j)
theorem QI.gm {bs kr kc B : Nat} {a : Int} {uy ut : Value} {ys ts : List Int} {w0 : World} {b : Nat → Bool} {s : Nat → Value} {w w' : World} (h : QI bs kr kc B a uy ut ys ts w0 b s w) (hg : Gm bs (Src bs) w w') (h1 : bs < B) (h2 : kc ≠ bs) (h3 : kr < bs) (h4 : kr ≤ w.heap.size) (i : Nat) (hi : i ≠ 14) (v : Value) (hv : Rg i v) : QI bs kr kc B a uy ut ys ts w0 (markU b i) (upd s i v) w' := by
  refine ⟨hg.2 h.src, h.own.gm hg.1 h1, h.tre.gm hg.1 h1, grown_cell hg.1 h.k0 h2, grown_cell hg.1 h.k1 h2, h.bel.trans (below_grown hg.1 (Nat.le_of_lt h3) h4), ?_, fun j hj => ?_⟩
  · rw [hg.1.block _ (blk_lt h.blk) (fun e => by have := Option.some.inj e; omega), markU_ne b (Ne.symm hi)]; exact h.blk
  · by_cases hji : j = i
    · subst hji; rw [upd_self]; exact hv
    · rw [upd_ne s v hji]; rw [markU_ne b hji] at hj; exact h.vals j hj

theorem C0_u8 {w : World} {kr : Nat} (hk : w.heap[kr]? = some C0) {ad : Addr} {y : Int} (h : w.cell? ad = some (.int .u8 y)) : ad.block ≠ kr := by
  intro e
  unfold World.cell? at h
  rw [e, hk] at h
  simp only [C0] at h
  split at h
  · cases h
  · rcases hq : ad.off with _ | _ | n <;> rw [hq] at h <;> simp at h
theorem Src.turn {bs kr : Nat} {w w' : World} (h : Src bs w) (hk : w.heap[kr]? = some C0) (hne : kr ≠ bs) (hg : w.grownBy w' (some kr)) : Src bs w' := by
  obtain ⟨A, n, c, at_, hh, h1, h2, h3, h4, h5⟩ := h
  refine ⟨A, n, c, at_, hh, by rw [hg.block bs (blk_lt h1) (fun e => hne (Option.some.inj e).symm)]; exact h1, h2, h3, h4, fun hn => ?_⟩
  obtain ⟨ad, e, hlt, hc⟩ := h5 hn
  exact ⟨ad, e, hlt, fun i hi => by obtain ⟨y, hy, hcy⟩ := hc i hi; exact ⟨y, hy, grown_cell hg hcy (C0_u8 hk hcy)⟩⟩
theorem QI.quiet {bs kr kc B : Nat} {a : Int} {uy ut : Value} {ys ts : List Int} {w0 : World} {i : Nat} {b : Nat → Bool} {s : Nat → Value} {v : Value} {w : World} (hq : (!(i == 10) && !(i == 11) && !(i == 12) && !(i == 13) && !(i == 14)) = true) (h : QI bs kr kc B a uy ut ys ts w0 b s w) : QI bs kr kc B a uy ut ys ts w0 (markU b i) (upd s i v) w := by
  simp only [Bool.and_eq_true, Bool.not_eq_true', beq_eq_false_iff_ne] at hq
  obtain ⟨⟨⟨⟨h10, h11⟩, h12⟩, h13⟩, h14⟩ := hq
  refine ⟨h.src, h.own, h.tre, h.k0, h.k1, h.bel, by rw [markU_ne b (Ne.symm h14)]; exact h.blk, fun j hj => ?_⟩
  by_cases hji : j = i
  · subst hji
    unfold Rg
    split <;> first | trivial | contradiction
  · rw [upd_ne s v hji]; rw [markU_ne b hji] at hj; exact h.vals j hj
theorem QI.store {bs kr kc B : Nat} {a : Int} {A : Option Addr} {n c : Nat} {ut : Value} {ys ts : List Int} {w0 : World} {b : Nat → Bool} {s : Nat → Value} {w : World} (h : QI bs kr kc B a (.slice A n c) ut ys ts w0 b s w) (hb : b 14 = false) (h1 : kr ≠ bs) (h2 : kc ≠ kr) (h3 : kr < B) (hk : w.heap[kr]? = some C0) :
    QI bs kr kc B a (.slice A n c) ut ys ts w0 (markU b 14) s ((w.setCell ⟨kr, 0, none⟩ (.int .i64 a)).setCell ⟨kr, 1, none⟩ (.slice A n c)) := by
  have hg : w.grownBy ((w.setCell ⟨kr, 0, none⟩ (.int .i64 a)).setCell ⟨kr, 1, none⟩ (.slice A n c)) (some kr) := grown_trans (set_grown' _ kr _ _) (set_grown' _ kr _ _)
  refine ⟨h.src.turn hk h1 hg, h.own.gm hg h3, h.tre.gm hg h3, grown_cell hg h.k0 h2, grown_cell hg h.k1 h2, h.bel.trans (below_grown hg (Nat.le_refl _) (Nat.le_of_lt (blk_lt hk))), ?_, fun j hj => ?_⟩
  · rw [markU_self, if_pos rfl]
    refine blk_put (cs := #[.int .i64 a, .slice none 0 0]) ?_ 1 _ rfl; refine blk_put (cs := #[.int .i64 0, .slice none 0 0]) ?_ 0 _ rfl; exact hk
  · by_cases hji : j = 14
    · subst hji; exact trivial
    · rw [markU_ne b hji] at hj; exact h.vals j hj
end Go.Proofs.Ytkggchklmpmgpaa.H
