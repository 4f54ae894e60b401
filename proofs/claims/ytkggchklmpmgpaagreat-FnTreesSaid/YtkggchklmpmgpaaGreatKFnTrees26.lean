/- Trees drawn: l10DrawTree. Trees drawn: l10Draw. Draws for trees: DrawBestTree, DrawEvadersOf, DrawPairingOfTree, DrawIsTree. -/
import Derived.Test.YtkggchklmpmgpaaGreatKFnTrees1
import Derived.Test.YtkggchklmpmgpaaGreatKFnTrees2
import Derived.Test.YtkggchklmpmgpaaGreatKFnTrees3
import Derived.Test.YtkggchklmpmgpaaGreatKFnTrees4
import Derived.Test.YtkggchklmpmgpaaGreatKFnTrees5
import Derived.Test.YtkggchklmpmgpaaGreatKFnTrees6
import Derived.Test.YtkggchklmpmgpaaGreatKFnTrees7
import Derived.Test.YtkggchklmpmgpaaGreatKFnTrees8
import Derived.Test.YtkggchklmpmgpaaGreatKFnTrees9
import Derived.Test.YtkggchklmpmgpaaGreatKFnTrees10
import Derived.Test.YtkggchklmpmgpaaGreatKFnTrees11
import Derived.Test.YtkggchklmpmgpaaGreatKFnTrees12
import Derived.Test.YtkggchklmpmgpaaGreatKFnTrees13
import Derived.Test.YtkggchklmpmgpaaGreatKFnTrees14
import Derived.Test.YtkggchklmpmgpaaGreatKFnTrees15
import Derived.Test.YtkggchklmpmgpaaGreatKFnTrees16
import Derived.Test.YtkggchklmpmgpaaGreatKFnTrees17
import Derived.Test.YtkggchklmpmgpaaGreatKFnTrees18
import Derived.Test.YtkggchklmpmgpaaGreatKFnTrees19
import Derived.Test.YtkggchklmpmgpaaGreatKFnTrees20
import Derived.Test.YtkggchklmpmgpaaGreatKFnTrees21
import Derived.Test.YtkggchklmpmgpaaGreatKFnTrees22
import Derived.Test.YtkggchklmpmgpaaGreatKFnTrees23
import Derived.Test.YtkggchklmpmgpaaGreatKFnTrees24
import Derived.Test.YtkggchklmpmgpaaGreatKFnTrees25

namespace Go.Proofs.YtkggchklmpmgpaaGreat.H
open Go.RowKit Go.Proofs.YtkggchklmpmgpaaGreatW.PrintWords Go.Proofs.YtkggchklmpmgpaaGreatW.PrintLast
set_option linter.unusedVariables false
set_option linter.unusedSimpArgs false
set_option maxRecDepth 100000 in
theorem ones_or : ∀ a, a < 64 → ∀ v, v < 6 → ones (a ||| 2 ^ v) ≤ ones a + 1 := by decide +kernel
set_option maxRecDepth 100000 in
theorem ones_free : ∀ n, n < 7 → ∀ a, a < 64 → ones a < n → ∃ u, u < n ∧ a.testBit u = false := by
 have h : ∀ n, n < 7 → ∀ a, a < 64 → ones a < n → ((List.range n).any fun u => !a.testBit u) = true := by decide +kernel
 intro n hn a ha ho
 obtain ⟨u, hu, hb⟩ := List.any_eq_true.1 (h n hn a ha ho)
 exact ⟨u, List.mem_range.1 hu, by simpa using hb⟩
/-- how far v is from u, going up -/
def farV (n u v : Nat) : Nat := if v ≤ u then u - v else u + n - v
theorem far_step {n u v : Nat} (hu : u < n) (hv : v < n) (hne : v ≠ u) : farV n u ((v + 1) % n) < farV n u v := by
 unfold farV
 by_cases h : v + 1 < n
 ·rw [Nat.mod_eq_of_lt h]; split <;> split <;> omega
 ·have : v + 1 = n := by omega
  rw [this, Nat.mod_self]; split <;> split <;> omega
set_option maxRecDepth 100000 in
set_option maxHeartbeats 4000000 in
theorem drawTree (bs : Nat) (a : Int) (ha1 : -1 ≤ a) (ha2 : a ≤ 7) (w : World) (hs : Src bs w) :
  Calls Tryz.prog 215 #[.pointer (some ⟨bs, 0, none⟩), .int .i64 a] w fun e w' => ∃ v, e = .returned v ∧ (∃ t : List Int, OwnI w.heap.size w' v t ∧ t.length ≤ 64) ∧ Dw bs w w' := by
 have HBS := Aside0.mk hs.lt
 obtain ⟨w1, hw1⟩ : ∃ w1, w1 = w.alloc (.cells #[] 2) := ⟨_, rfl⟩
 have hb1 : Below w.heap.size w w1 := by rw [hw1]; exact Below.alloc (Below.refl _ _) (Nat.le_refl _) _
 have HO1 : Aside0 (OwnI w.heap.size w1 (.slice (some ⟨w.heap.size, 0, none⟩) 0 0) []) := ⟨by rw [hw1]; exact OwnI.empty w (Nat.le_refl _)⟩
 have HD1 := Aside0.mk (Dw.of_below hs hb1)
 clear hs hb1
 cases hin : (decide (1 ≤ a) && decide (a ≤ 6)) with
 | false =>
  have HI := Aside0.mk hin
  clear hin
  go_enter Tryz.func215, Tryz.ntmps215
  go_wp2_with (first | (go_at_call 164; rw [← hw1]; clear hw1; refine (specIn _ _ _ _).mono ?_; rintro e w2 ⟨rfl, hb⟩; rw [HI.out]; have HO2 := Aside0.mk (OwnI.below HO1.out hb); have HD2 := Aside0.mk (HD1.out.then_below hb); clear hb))
  go_ret
  exact ⟨_, rfl, ⟨[], HO2.out, by simp⟩, HD2.out⟩
 | true =>
  have HI := Aside0.mk hin
  rw [Bool.and_eq_true, decide_eq_true_eq, decide_eq_true_eq] at hin
  obtain ⟨n, rfl⟩ : ∃ n : Nat, a = n := ⟨a.toNat, by omega⟩
  have hn1 : 1 ≤ n := by omega
  have hn6 : n ≤ 6 := by omega
  have hsh := pow_wrap n (by omega)
  have hpp := pwn hn6
  obtain ⟨N, hN⟩ : ∃ N, N = 2 ^ n := ⟨_, rfl⟩
  rw [← hN] at hsh hpp
  have hnu : IntKind.u64.wrap (n : Int) = (n : Int) := wrapUn (by omega)
  have hmn : min n 64 = n := by omega
  have HN := Aside0.mk hN
  clear hin ha1 ha2 hN
  go_enter Tryz.func215, Tryz.ntmps215
  go_wp2_with (first | (go_at_call 164; rw [← hw1]; clear hw1; refine (specIn _ _ _ _).mono ?_; rintro e w2 ⟨rfl, hb⟩; rw [HI.out]; have HO2 := Aside0.mk (OwnI.below HO1.out hb); have HD2 := Aside0.mk (HD1.out.then_below hb); clear hb))
  go_loopw [5, 6] (fun s5 s6 wr => ∃ (p : Nat) (t : List Int), s6 = .int .i64 p ∧ 1 ≤ p ∧ p ≤ N ∧ Aside0 (t.length + 1 = p) ∧ Aside0 (∀ x ∈ t, 0 ≤ x ∧ x ≤ 5) ∧ Aside0 (OwnI w.heap.size wr s5 t) ∧ Aside0 (Dw bs w wr)) (fun _ s6 _ => N - (intOf s6).toNat)
  case atStart => exact ⟨1, [], rfl, Nat.le_refl _, hpp.1, ⟨rfl⟩, ⟨fun x h => by cases h⟩, HO2, HD2⟩
  case round =>
   obtain ⟨p, t, rfl, hp1, hpN, HL, HT, HO, HD⟩ := hrel
   obtain ⟨w3, hw3⟩ : ∃ w3, w3 = wr := ⟨_, rfl⟩
   subst hw3
   obtain ⟨A5, c5, e5, -⟩ := id HO.out.read
   have hL : t.length = p - 1 := by have := HL.out; omega
   rw [hL] at e5
   subst e5
   by_cases hlt : p < N
   ·have hltI : (p : Int) < (N : Int) := by omega
    have hp64 : p < 64 := by omega
    have HPN := Aside0.mk (⟨hp1, hlt⟩ : 1 ≤ p ∧ p < N)
    go_wp2
    clear hsh hnu hmn
    go_loopw [7, 8] (fun s7 s8 wx => ∃ (k q m : Nat), s7 = .int .i64 k ∧ k < 64 ∧ s8 = .int .i64 q ∧ q < p ∧ Aside0 (q < 2 ^ m ∧ ones k + m + 1 ≤ n) ∧ wx = w3) (fun _ s8 _ => (intOf s8).toNat)
    case atStart =>
     refine ⟨0, p / 2, n - 1, rfl, by decide, by first | rfl | (congr 1; omega), by omega, ⟨?_, ?_⟩, rfl⟩
     ·have h1 : p < 2 ^ n := by rw [← HN.out]; exact hlt
      have h2 : 2 ^ n = 2 * 2 ^ (n - 1) := by rw [← Nat.pow_succ']; congr 1; omega
      omega
     ·rw [show ones 0 = 0 by decide]; omega
    case round =>
     obtain ⟨k, q, m, rfl, hk, rfl, hq, HM, rfl⟩ := hrel
     by_cases hq0 : 0 < q
     ·have hqI : (0 : Int) < (q : Int) := by omega
      obtain ⟨A_, c_, e_, -, hr⟩ := HO.out.read
      rw [hL] at e_
      cases e_
      obtain ⟨ad, y, rfl, hcell, HY⟩ := ReadI.get hr (i := q - 1) (by omega)
      have hy := HT.out y (mem_at (by omega) HY.out)
      obtain ⟨v, rfl⟩ : ∃ v : Nat, y = v := ⟨y.toNat, by omega⟩
      have hv5 : v ≤ 5 := by omega
      have hq1I : (0 : Int) ≤ (q : Int) - 1 := by omega
      have hq2I : (q : Int) - 1 < ((p - 1 : Nat) : Int) := by omega
      have hq3I : ((q : Int) - 1).toNat = q - 1 := by omega
      have HPV : Aside0 (∃ P : Nat, P ≤ 32 ∧ wrap64 ((2 : Int) ^ v) = (P : Int) ∧ bits .or .i64 (k : Int) (P : Int) = ((k ||| P : Nat) : Int) ∧ k ||| P < 64 ∧ ones (k ||| P) ≤ ones k + 1) := ⟨2 ^ v, pow_bd v hv5, pow_wrap v (by omega), or_i64 k (2 ^ v) (by omega) (by have := pow_bd v hv5; omega), Nat.or_lt_two_pow (n := 6) hk (by have := pow_bd v hv5; omega), ones_or k hk v (by omega)⟩
      have hm1 : 1 ≤ m := by
       rcases Nat.eq_zero_or_pos m with h | h
       ·have := HM.out.1; rw [h] at this; simp at this; omega
       ·exact h
      clear hy
      have HQ := Aside0.mk (⟨hq0, hq⟩ : 0 < q ∧ q < p)
      have hvu : IntKind.u64.wrap (v : Int) = (v : Int) := wrapUn (by omega)
      have hmv : min v 64 = v := by omega
      obtain ⟨P, hppv, hshv, hor, hkp, hon⟩ := HPV.out
      have HKP := Aside0.mk hkp
      have HON := Aside0.mk hon
      clear hkp hon
      have HM2 : Aside0 (q / 2 < 2 ^ (m - 1) ∧ ones (k ||| P) + (m - 1) + 1 ≤ n) := ⟨by
       have h1 := HM.out.1
       have h2 : 2 ^ m = 2 * 2 ^ (m - 1) := by rw [← Nat.pow_succ']; congr 1; omega
       have h3 := HM.out.2
       have h4 := HON.out
       generalize ones (k ||| P) = o1 at h4 ⊢
       generalize ones k = o2 at h3 h4
       exact ⟨by omega, by omega⟩⟩
      clear hr hm1
      go_wp2
      go_roundw
      case rel => have hQ := HQ.out; exact ⟨k ||| P, q / 2, m - 1, by first | rfl | (congr 1), HKP.out, by first | rfl | (congr 1; omega), by omega, HM2, trivial⟩
      case measure => have hQ := HQ.out; simp [intOf]; omega
     ·have hqI : ¬ (0 : Int) < (q : Int) := by omega
      have HU := Aside0.mk (ones_free n (by omega) k hk (by have h3 := HM.out.2; generalize ones k = o2 at h3 ⊢; omega))
      go_wp2_with (first | (go_at_call 162; go_must (refine (next bs (n : Int) _ (by omega) HD.out.2).mono ?_; rintro e w5 ⟨r, rfl, -, hr, hd⟩; have hr := hr (by omega); obtain ⟨v0, rfl⟩ : ∃ v : Nat, r = v := ⟨r.toNat, by omega⟩; have HO5 := Aside0.mk (HO.out.gm hd.1 HBS.out); have HD5 := Aside0.mk (HD.out.trans hd); clear hd)))
      obtain ⟨u, hu1, hu2⟩ := HU.out
      go_loopw [9] (fun s9 wx => ∃ v : Nat, s9 = .int .i64 v ∧ v < n ∧ wx = w5) (fun s9 _ => farV n u (intOf s9).toNat)
      case atStart => exact ⟨v0, rfl, by omega, rfl⟩
      case round =>
       obtain ⟨v, rfl, hv, rfl⟩ := hrel
       have hvu : IntKind.u64.wrap (v : Int) = (v : Int) := wrapUn (by omega)
       have hmv : min v 64 = v := by omega
       have hbit := bit_of k v (by omega)
       cases hb : k.testBit v with
       | true =>
        rw [hb, if_pos rfl] at hbit
        have hvne : v ≠ u := fun e => by rw [e, hu2] at hb; cases hb
        have HF := Aside0.mk (far_step hu1 hv hvne)
        have hn0 : ¬ (n : Int) = 0 := by omega
        have hnz : ((n : Int) == 0) = false := by simpa using (show n ≠ 0 by omega)
        have HVM : Aside0 ((v + 1) % n < n) := ⟨Nat.mod_lt _ (by omega)⟩
        go_wp2
        go_roundw
        case rel => exact ⟨(v + 1) % n, by first | rfl | (congr 1; omega) | (push_cast; rfl), HVM.out, trivial⟩
        case measure =>
         have e : (((v : Int) + 1) % (n : Int)).toNat = (v + 1) % n := by
          rw [show (v : Int) + 1 = ((v + 1 : Nat) : Int) from rfl, ← Int.natCast_emod]; exact Int.toNat_natCast _
         have h9 := HF.out
         show farV n u (((v : Int) + 1) % (n : Int)).toNat < farV n u ((v : Int)).toNat
         rw [e, Int.toNat_natCast]; exact h9
       | false =>
        rw [hb, if_neg (by decide)] at hbit
        go_wp2_with (first | (at_builtin; refine app_own (w0 := wr) w.heap.size rfl (.tmp 50) (.tmp 52) rfl _ t (v : Int) rfl rfl HO5.out (Below.refl _ _) HD5.out.size (by have := HL.out; omega) ?_; intro v1 w9 ho hb hg hat; have HO9 := Aside0.mk ho; have HD9 := Aside0.mk (HD5.out.top hb (Nat.le_refl _) HBS.out); clear ho hb hg hat))
        go_roundw
        case rel => exact ⟨p + 1, t ++ [(v : Int)], by go_num, by omega, by have := HPN.out; omega, ⟨by rw [List.length_append, List.length_singleton, HL.out]⟩, ⟨fun x hx => by
         rcases List.mem_append.1 hx with h | h
         ·exact HT.out x h
         ·rw [List.mem_singleton] at h; omega⟩, HO9, HD9⟩
        case measure => have := HPN.out; simp [intOf]; omega
   ·have hltI : ¬ (p : Int) < (N : Int) := by omega
    have hpe : p = N := by omega
    have hN2 : 2 ≤ N := by
     have h1 := HN.out
     have h2 : 2 ^ 1 ≤ 2 ^ n := Nat.pow_le_pow_right (by decide) hn1
     omega
    obtain ⟨g, cap, e5, -⟩ := Kd.R_form HO.out (by rw [hL]; omega)
    injection e5 with e6 e7 e8
    subst e6
    subst e8
    have hp63 : p - 1 ≤ 63 := by omega
    have hp0 : 1 ≤ p - 1 := by omega
    have HL63 : Aside0 (t.length ≤ 63) := ⟨by omega⟩
    have hnw1 : IntKind.i64.wrap ((n : Int) + 1) = (n : Int) + 1 := IntWalk.i64_in _ (by omega)
    have HLE : Aside0 (t.length = p - 1) := ⟨hL⟩
    clear e7 hpe hpp hp1 hpN hL hlt hN2
    have SHD : Aside0 (Src bs w3) := ⟨HD.out.2⟩
    go_wp2_with (first | (go_at_call 162; refine Aside0.out ?_))
    refine Aside0.mk ?_
    with_reducible refine (next bs 24 w3 (by decide) SHD.out).mono ?_
    rintro e w5 ⟨r, rfl, -, -, hd⟩
    have HO5 := Aside0.mk (HO.out.gm hd.1 HBS.out)
    have HD5 := Aside0.mk (HD.out.trans hd)
    have SHD5 : Aside0 (Src bs w5) := ⟨hd.2⟩
    clear hd hsh hnu hmn hltI
    by_cases hr0 : r = 0
    ·subst hr0
     go_wp2_with (first | (go_at_call 162; refine Aside0.out ?_))
     refine Aside0.mk ?_
     with_reducible refine (next bs ((p - 1 : Nat) : Int) w5 (by omega) SHD5.out).mono ?_
     rintro e w6 ⟨r6, rfl, -, hr, hd⟩
     have hr := hr (by omega)
     obtain ⟨i6, rfl⟩ : ∃ i : Nat, r6 = i := ⟨r6.toNat, by omega⟩
     have hi6 : i6 < p - 1 := by omega
     have hi6I : (i6 : Int) < ((p - 1 : Nat) : Int) := by omega
     have HO6 := Aside0.mk (HO5.out.gm hd.1 HBS.out)
     have HD6 := Aside0.mk (HD5.out.trans hd)
     have SHD6 : Aside0 (Src bs w6) := ⟨hd.2⟩
     clear hd
     go_wp2_with (first | (go_at_call 162; refine Aside0.out ?_))
     refine Aside0.mk ?_
     with_reducible refine (next bs ((n : Int) + 1) w6 (by omega) SHD6.out).mono ?_
     rintro e w7 ⟨r7, rfl, -, -, hd⟩
     have HO7 := Aside0.mk (HO6.out.gm hd.1 HBS.out)
     have HD7 := Aside0.mk (HD6.out.trans hd)
     clear hd
     go_wp2_with (first | ((with_reducible refine gate_store (t := 2) (p := 67) rfl ?_); refine store_own (w0 := w) rfl (p := 67) rfl rfl i6 r7 HO7.out ?ha ?hb ?hc ?_; (case ha => omega); (case hb => rfl); (case hc => rfl); intro w8 ho hg8 hb; have HO8 := Aside0.mk ho; have HD8 := Aside0.mk (HD7.out.top hb (Nat.le_refl _) HBS.out); clear ho hg8 hb))
     go_ret
     exact ⟨_, rfl, ⟨_, HO8.out, by rw [List.length_set]; have := HL63.out; omega⟩, HD8.out⟩
    ·by_cases hr1 : r = 1
     ·subst hr1
      go_wp2_with (first | (at_builtin; refine app_own (w0 := w5) w.heap.size rfl (.tmp 70) (.tmp 71) rfl _ t 0 rfl rfl HO5.out (Below.refl _ _) HD5.out.size (by have := HL63.out; omega) ?_; intro v1 w8 ho hb hg8 hat; have HO8 := Aside0.mk ho; have HD8 := Aside0.mk (HD5.out.top hb (Nat.le_refl _) HBS.out); clear ho hb hg8 hat))
      go_ret
      exact ⟨_, rfl, ⟨_, HO8.out, by rw [List.length_append, List.length_singleton]; have := HL63.out; omega⟩, HD8.out⟩
     ·go_wp2
      go_ret
      exact ⟨_, rfl, ⟨t, HO5.out, by have := HL63.out; omega⟩, HD5.out⟩
set_option maxRecDepth 100000 in
set_option maxHeartbeats 4000000 in
theorem drawBoth (bs : Nat) (w : World) (hs : Src bs w) :
  Calls Tryz.prog 337 #[.pointer (some ⟨bs, 0, none⟩)] w fun e w' => ∃ (a : Int) (u tv : Value) (ys ts : List Int), e = .returned (.tuple #[.agg #[.int .i64 a, u], tv]) ∧ OwnI w.heap.size w' u ys ∧ OwnI w.heap.size w' tv ts ∧ Rc a ys ∧ ts.length ≤ 64 ∧ Dw bs w w' := by
 have HBS := Aside0.mk hs.lt
 obtain ⟨w1, hw1⟩ : ∃ w1, w1 = w.alloc C0 := ⟨_, rfl⟩
 have hb1 : Below w.heap.size w w1 := by rw [hw1]; exact Below.alloc (Below.refl _ _) (Nat.le_refl _) _
 have HZ1 : Aside0 (w1.heap.size = w.heap.size + 1) := ⟨by rw [hw1]; simp⟩
 have HK1 : Aside0 (w1.heap[w.heap.size]? = some C0) := ⟨by rw [hw1]; exact blk_new w _⟩
 have HD1 := Aside0.mk (Dw.of_below hs hb1)
 have hmx : Tryz.prog.follows .mixedOrders = true := by kernel_rfl
 clear hs hb1
 have HSP := Aside0.mk (spoil bs w1 HD1.out.2)
 go_enter Tryz.func337, Tryz.ntmps337
 go_wp2_with (first | (go_at_call 199; rw [← hw1]; clear hw1; refine HSP.out.mono ?_; rintro e w2 ⟨_, rfl, ⟨a, z, ys, rfl, ho, hr⟩, hd⟩; obtain ⟨Az, cz, rfl, -⟩ := id ho.read; have HD2 := Aside0.mk hd; have HO2 := Aside0.mk ho; have HR := Aside0.mk hr; clear ho hr hd) | (go_at_call 162; refine Aside0.out ?_))
 refine Aside0.mk ?_
 obtain ⟨w3, hw3⟩ : ∃ w3, w3 = w2.alloc (.cells #[.int .i64 a, .slice Az ys.length cz] 26) := ⟨_, rfl⟩
 rw [← hw3]
 have hb3 : Below w2.heap.size w2 w3 := by rw [hw3]; exact Below.alloc (Below.refl _ _) (Nat.le_refl _) _
 have hk3 : w3.heap[w2.heap.size]? = some (.cells #[.int .i64 a, .slice Az ys.length cz] 26) := by rw [hw3]; exact heap_alloc_new w2 _
 clear hw3
 have hkb : w2.heap.size ≠ bs := Nat.ne_of_gt HD2.out.2.lt
 have HD3 := Aside0.mk (HD2.out.then_below hb3)
 have SHD3 : Aside0 (Src bs w3) := ⟨HD3.out.2⟩
 have HO3 := Aside0.mk (HO2.out.below hb3)
 clear hb3
 with_reducible refine (next bs 2 w3 (by decide) SHD3.out).mono ?_
 rintro e w4 ⟨r, rfl, -, -, hd⟩
 have hk4 : w4.heap[w2.heap.size]? = some (.cells #[.int .i64 a, .slice Az ys.length cz] 26) := by rw [hd.1.block _ (blk_lt hk3) (fun e => hkb (Option.some.inj e))]; exact hk3
 have HD4 := Aside0.mk (HD3.out.trans hd)
 have HO4 := Aside0.mk (HO3.out.gm hd.1 HD1.out.2.lt)
 have SHD4 : Aside0 (Src bs w4) := ⟨hd.2⟩
 clear hd hk3
 by_cases hr0 : r = 0
 ·subst hr0
  have HS2 := Aside0.mk (blk_lt hk4)
  have HK4 := Aside0.mk hk4
  clear hk4 HR HO2 HO3 HO4
  go_wp2_with (first | (go_at_call 161; go_must (refine (small bs w4 SHD4.out).mono ?_; rintro e w5 ⟨n, z5, xs5, rfl, ho, hg, hd⟩; obtain ⟨A5, c5, rfl, -⟩ := id ho.read; have hk5 : w5.heap[w2.heap.size]? = some (.cells #[.int .i64 a, .slice Az ys.length cz] 26) := (by rw [hd.1.block _ HS2.out (fun e => hkb (Option.some.inj e))]; exact HK4.out); have HK5 := Aside0.mk hk5; have HD5 := Aside0.mk (HD4.out.trans hd); have HO5 := Aside0.mk ho; have HR5 := Aside0.mk hg.rc; have c00 : w5.cell? ⟨w2.heap.size, 0, none⟩ = some (.int .i64 a) := blk_cell hk5 0; have c01 : w5.cell? ⟨w2.heap.size, 1, none⟩ = some (.slice Az ys.length cz) := blk_cell hk5 1; have f00 : w5.frozen? ⟨w2.heap.size, 0, none⟩ = false := blk_frozen hk5 0; have f01 : w5.frozen? ⟨w2.heap.size, 1, none⟩ = false := blk_frozen hk5 1; clear ho hg hd hk5)))
  obtain ⟨wz, hwz⟩ : ∃ wz, wz = (w5.setCell ⟨w2.heap.size, 0, none⟩ (Value.int IntKind.i64 n)).setCell ⟨w2.heap.size, 1, none⟩ (Value.slice A5 xs5.length c5) := ⟨_, rfl⟩
  rw [← hwz]
  have hkz : wz.heap[w2.heap.size]? = some (.cells #[.int .i64 n, .slice A5 xs5.length c5] 26) := by
   rw [hwz]; refine blk_put (cs := #[.int .i64 n, .slice Az ys.length cz]) ?_ 1 _ rfl; refine blk_put (cs := #[.int .i64 a, .slice Az ys.length cz]) ?_ 0 _ rfl; exact HK5.out
  have hbb : Below w2.heap.size w5 wz := by rw [hwz]; exact ((Below.refl _ _).setCell (by simp) _).setCell (by simp) _
  have HDz := Aside0.mk (HD5.out.top (hbb.mono HD2.out.size) (Nat.le_refl _) HD1.out.2.lt)
  have HOz : Aside0 (OwnI w1.heap.size wz (.slice A5 xs5.length c5) xs5) := ⟨by
   have ho := HO5.out
   have hbse := ho.base
   have hs2 := HS2.out
   have ho := ho.lower (b' := w1.heap.size) HD4.out.size
   rw [hwz]
   exact (ho.grown (set_grown' _ w2.heap.size _ _) (fun j hj e => by have := hbse _ hj; cases e; omega)).grown (set_grown' _ w2.heap.size _ _) (fun j hj e => by have := hbse _ hj; cases e; omega)⟩
  clear hwz hbb c00 c01 f00 f01 HK5 HK4 HO5 HD5
  obtain ⟨a5, ha5⟩ : ∃ a5 : Int, a5 = n := ⟨_, rfl⟩
  rw [← ha5] at hkz HR5
  clear ha5
  clear HD4 SHD4
  have kc0 : wz.cell? ⟨w2.heap.size, 0, none⟩ = some (.int .i64 a5) := blk_cell hkz 0
  have kc1 : wz.cell? ⟨w2.heap.size, 1, none⟩ = some (.slice A5 xs5.length c5) := blk_cell hkz 1
  clear hkz
  have HBSz := Aside0.mk (show bs < wz.heap.size from HDz.out.2.lt)
  have HSz := Aside0.mk HDz.out.2
  have HZZ := Aside0.mk (HDz.out.size)
  refine wp_region_gv (Gm bs (Src bs)) (fun w => ⟨grown_drew w _, fun h => h.below (Below.refl _ _).drew⟩) (fun _ _ _ => Gm.trans) 5 (fun i => match i with | 0 => fun v _ => v = .agg #[.int .i64 a5, .slice A5 xs5.length c5] | 1 => fun v _ => v = .pointer (some ⟨bs, 0, none⟩) | 2 => fun v _ => v = .pointer (some ⟨w2.heap.size, 0, none⟩) | 3 => fun v _ => v = .int .i64 a5 | 4 => fun v W => ∃ t, OwnI wz.heap.size W v t ∧ t.length ≤ 64 | _ => fun _ _ => True)
   [0, 0, 0, 4, 14, 31, 63] hmx (by kernel_rfl) ?st ?steps ?rest
  case st =>
   intro i v w1_ w2_ hb
   match i with
   | 0 | 1 | 2 | 3 => exact id
   | 4 => exact fun ⟨t, ho, h1⟩ => ⟨t, ho.gm hb.1 HBSz.out, h1⟩
   | n + 5 => exact id
  case steps =>
   refine ⟨?_, ?_, ?_, ?_, ?_, trivial⟩
   ·intro s w_ hb hd hq R hR
    generalize hA : putAll _ 0 s _ = A
    clear hq
    have kc0 := grown_cell hb.1 kc0 hkb
    have kc1 := grown_cell hb.1 kc1 hkb
    have hR' := hR (.agg #[.int .i64 a5, .slice A5 xs5.length c5]) _ (Gm.refl _ _ _) rfl
    clear hR hd
    refine opGives_value ?_ hR'
    subst hA
    simp only [dsOf, List.take, List.map_cons, List.map_nil, Option.getD_some, putAll, Act.put, List.setIfInBounds_toArray, List.set_cons_zero, List.set_cons_succ]
    go_simp
   ·intro s w_ hb hd hq R hR
    generalize hA : putAll _ 0 s _ = A
    clear hq
    have hR' := hR (.pointer (some ⟨bs, 0, none⟩)) _ (Gm.refl _ _ _) rfl
    clear hR hd
    refine opGives_value ?_ hR'
    subst hA
    simp only [dsOf, List.take, List.map_cons, List.map_nil, Option.getD_some, putAll, Act.put, List.setIfInBounds_toArray, List.set_cons_zero, List.set_cons_succ]
    go_simp
   ·intro s w_ hb hd hq R hR
    generalize hA : putAll _ 0 s _ = A
    clear hq
    have hR' := hR (.pointer (some ⟨w2.heap.size, 0, none⟩)) _ (Gm.refl _ _ _) rfl
    clear hR hd
    refine opGives_value ?_ hR'
    subst hA
    simp only [dsOf, List.take, List.map_cons, List.map_nil, Option.getD_some, putAll, Act.put, List.setIfInBounds_toArray, List.set_cons_zero, List.set_cons_succ]
    go_simp
   ·intro s w_ hb hd hq R hR
    generalize hA : putAll _ 0 s _ = A
    have e2 : s 2 = _ := hd 2 (by kernel_rfl)
    clear hq
    have kc0 := grown_cell hb.1 kc0 hkb
    have hR' := hR (.int .i64 a5) _ (Gm.refl _ _ _) rfl
    clear hR hd
    refine opGives_value ?_ hR'
    subst hA
    simp only [dsOf, List.take, List.map_cons, List.map_nil, Option.getD_some, putAll, Act.put, List.setIfInBounds_toArray, List.set_cons_zero, List.set_cons_succ]
    go_simp
   ·intro s w_ hb hd hq R hR
    generalize hA : putAll _ 0 s _ = A
    have e1 : s 1 = _ := hd 1 (by kernel_rfl)
    have e3 : s 3 = _ := hd 3 (by kernel_rfl)
    clear hq
    refine opGives_call (f := 215) (args := #[.pointer (some ⟨bs, 0, none⟩), .int .i64 a5]) ?_ ?_
    ·subst hA
     clear hR hd
     simp only [dsOf, List.take, List.map_cons, List.map_nil, Option.getD_some, putAll, Act.put, List.setIfInBounds_toArray, List.set_cons_zero, List.set_cons_succ]
     go_simp
    clear hA A hd
    refine (drawTree bs a5 HR5.out.1 HR5.out.2.1 w_ (hb.2 HSz.out)).mono ?_
    rintro e w3_ ⟨u3, rfl, ⟨t, ho, hl⟩, hd⟩
    exact ⟨_, rfl, hR _ _ ⟨hd.1, fun _ => hd.2⟩ ⟨t, ho.lower hb.1.size, hl⟩⟩
  case rest =>
   intro s9 w9 hb hv
   have e0_ : s9 0 = _ := hv 0 (by decide)
   obtain ⟨t4, o4, l4⟩ : ∃ t, OwnI wz.heap.size w9 (s9 4) t ∧ t.length ≤ 64 := hv 4 (by decide)
   obtain ⟨A4, c4, e4_, -⟩ := id o4.read
   rw [e4_] at o4
   clear hv
   simp only [dsOf, List.take, List.map_cons, List.map_nil, Option.getD_some, putAll, Act.put, List.setIfInBounds_toArray, List.set_cons_zero, List.set_cons_succ]
   have hd9 : Dw bs w1 w9 := HDz.out.trans ⟨hb.1, hb.2 HSz.out⟩
   have hk9 : w9.heap[w.heap.size]? = some C0 := by rw [hd9.1.block _ (by have h1 := HZ1.out; omega) (fun e => by have := Option.some.inj e; have := HBS.out; omega)]; exact HK1.out
   have HK9 := Aside0.mk hk9
   have HD9 := Aside0.mk hd9
   have HO9 := Aside0.mk (HOz.out.gm hb.1 (HD1.out.2.lt))
   have HT9 := Aside0.mk (o4.lower HZZ.out)
   have HL9 := Aside0.mk l4
   have c00 : w9.cell? ⟨w.heap.size, 0, none⟩ = some (.int .i64 0) := blk_cell hk9 0
   have c01 : w9.cell? ⟨w.heap.size, 1, none⟩ = some (.slice none 0 0) := blk_cell hk9 1
   have f00 : w9.frozen? ⟨w.heap.size, 0, none⟩ = false := blk_frozen hk9 0
   have f01 : w9.frozen? ⟨w.heap.size, 1, none⟩ = false := blk_frozen hk9 1
   rw [e0_, e4_]
   clear hb hd9 hk9 o4 l4 e4_ e0_
   refine .inr ⟨(w9.setCell ⟨w.heap.size, 0, none⟩ (.int .i64 a5)).setCell ⟨w.heap.size, 1, none⟩ (.slice A5 xs5.length c5), (by go_simp), ?_⟩
   simp only [List.drop, Act.put, List.setIfInBounds_toArray, List.set_cons_zero, List.set_cons_succ]
   unfold tailList
   refine .inl ?_
   refine opGives_value (v := .slice A4 t4.length c4) (w' := (w9.setCell ⟨w.heap.size, 0, none⟩ (.int .i64 a5)).setCell ⟨w.heap.size, 1, none⟩ (.slice A5 xs5.length c5)) ?_ ?_
   ·go_simp
   simp only [List.drop, Act.put, List.setIfInBounds_toArray, List.set_cons_zero, List.set_cons_succ]
   unfold tailList
   go_wp2
   refine bodyPost_ret (results_ct rfl _ _ w.heap.size 26 #[.int .i64 a5, .slice A5 xs5.length c5] (0, 0) _ rfl (by refine blk_put (cs := #[.int .i64 a5, .slice none 0 0]) ?_ 1 _ rfl; refine blk_put (cs := #[.int .i64 0, .slice none 0 0]) ?_ 0 _ rfl; exact HK9.out) Tryz.underlying26 rfl (by kernel_rfl)) rfl ?_
   have hbb : Below w.heap.size w9 ((w9.setCell ⟨w.heap.size, 0, none⟩ (Value.int IntKind.i64 a5)).setCell ⟨w.heap.size, 1, none⟩ (Value.slice A5 xs5.length c5)) := ((Below.refl _ _).setCell (by simp) _).setCell (by simp) _
   have hz := HZ1.out
   have own : ∀ {v : Value} {l : List Int}, OwnI w1.heap.size w9 v l → OwnI w.heap.size ((w9.setCell ⟨w.heap.size, 0, none⟩ (Value.int IntKind.i64 a5)).setCell ⟨w.heap.size, 1, none⟩ (Value.slice A5 xs5.length c5)) v l := by
    intro v l ho
    have hbse := ho.base
    have ho := ho.lower (b' := w.heap.size) (by omega)
    exact (ho.grown (set_grown' _ w.heap.size _ _) (fun j hj e => by have := hbse _ hj; cases e; omega)).grown (set_grown' _ w.heap.size _ _) (fun j hj e => by have := hbse _ hj; cases e; omega)
   exact ⟨a5, _, _, xs5, t4, rfl, own HO9.out, own HT9.out, HR5.out, HL9.out, (HD1.out.trans HD9.out).top hbb (Nat.le_refl _) HBS.out⟩
 ·have HDz : Aside0 (Dw bs w1 w4) := HD4
  have HOz := HO4
  obtain ⟨wz, hwz⟩ : ∃ wz, wz = w4 := ⟨_, rfl⟩
  have kc0 : w4.cell? ⟨w2.heap.size, 0, none⟩ = some (.int .i64 a) := blk_cell hk4 0
  have kc1 : w4.cell? ⟨w2.heap.size, 1, none⟩ = some (.slice Az ys.length cz) := blk_cell hk4 1
  clear hk4
  go_wp2
  subst hwz
  have HBSz := Aside0.mk (show bs < wz.heap.size from HDz.out.2.lt)
  have HSz := Aside0.mk HDz.out.2
  have HZZ := Aside0.mk (HDz.out.size)
  refine wp_region_gv (Gm bs (Src bs)) (fun w => ⟨grown_drew w _, fun h => h.below (Below.refl _ _).drew⟩) (fun _ _ _ => Gm.trans) 5 (fun i => match i with | 0 => fun v _ => v = .agg #[.int .i64 a, .slice Az ys.length cz] | 1 => fun v _ => v = .pointer (some ⟨bs, 0, none⟩) | 2 => fun v _ => v = .pointer (some ⟨w2.heap.size, 0, none⟩) | 3 => fun v _ => v = .int .i64 a | 4 => fun v W => ∃ t, OwnI wz.heap.size W v t ∧ t.length ≤ 64 | _ => fun _ _ => True)
   [0, 0, 0, 4, 14, 31, 63] hmx (by kernel_rfl) ?st ?steps ?rest
  case st =>
   intro i v w1_ w2_ hb
   match i with
   | 0 | 1 | 2 | 3 => exact id
   | 4 => exact fun ⟨t, ho, h1⟩ => ⟨t, ho.gm hb.1 HBSz.out, h1⟩
   | n + 5 => exact id
  case steps =>
   refine ⟨?_, ?_, ?_, ?_, ?_, trivial⟩
   ·intro s w_ hb hd hq R hR
    generalize hA : putAll _ 0 s _ = A
    clear hq
    have kc0 := grown_cell hb.1 kc0 hkb
    have kc1 := grown_cell hb.1 kc1 hkb
    have hR' := hR (.agg #[.int .i64 a, .slice Az ys.length cz]) _ (Gm.refl _ _ _) rfl
    clear hR hd
    refine opGives_value ?_ hR'
    subst hA
    simp only [dsOf, List.take, List.map_cons, List.map_nil, Option.getD_some, putAll, Act.put, List.setIfInBounds_toArray, List.set_cons_zero, List.set_cons_succ]
    go_simp
   ·intro s w_ hb hd hq R hR
    generalize hA : putAll _ 0 s _ = A
    clear hq
    have hR' := hR (.pointer (some ⟨bs, 0, none⟩)) _ (Gm.refl _ _ _) rfl
    clear hR hd
    refine opGives_value ?_ hR'
    subst hA
    simp only [dsOf, List.take, List.map_cons, List.map_nil, Option.getD_some, putAll, Act.put, List.setIfInBounds_toArray, List.set_cons_zero, List.set_cons_succ]
    go_simp
   ·intro s w_ hb hd hq R hR
    generalize hA : putAll _ 0 s _ = A
    clear hq
    have hR' := hR (.pointer (some ⟨w2.heap.size, 0, none⟩)) _ (Gm.refl _ _ _) rfl
    clear hR hd
    refine opGives_value ?_ hR'
    subst hA
    simp only [dsOf, List.take, List.map_cons, List.map_nil, Option.getD_some, putAll, Act.put, List.setIfInBounds_toArray, List.set_cons_zero, List.set_cons_succ]
    go_simp
   ·intro s w_ hb hd hq R hR
    generalize hA : putAll _ 0 s _ = A
    have e2 : s 2 = _ := hd 2 (by kernel_rfl)
    clear hq
    have kc0 := grown_cell hb.1 kc0 hkb
    have hR' := hR (.int .i64 a) _ (Gm.refl _ _ _) rfl
    clear hR hd
    refine opGives_value ?_ hR'
    subst hA
    simp only [dsOf, List.take, List.map_cons, List.map_nil, Option.getD_some, putAll, Act.put, List.setIfInBounds_toArray, List.set_cons_zero, List.set_cons_succ]
    go_simp
   ·intro s w_ hb hd hq R hR
    generalize hA : putAll _ 0 s _ = A
    have e1 : s 1 = _ := hd 1 (by kernel_rfl)
    have e3 : s 3 = _ := hd 3 (by kernel_rfl)
    clear hq
    refine opGives_call (f := 215) (args := #[.pointer (some ⟨bs, 0, none⟩), .int .i64 a]) ?_ ?_
    ·subst hA
     clear hR hd
     simp only [dsOf, List.take, List.map_cons, List.map_nil, Option.getD_some, putAll, Act.put, List.setIfInBounds_toArray, List.set_cons_zero, List.set_cons_succ]
     go_simp
    clear hA A hd
    refine (drawTree bs a HR.out.1 HR.out.2.1 w_ (hb.2 HSz.out)).mono ?_
    rintro e w3_ ⟨u3, rfl, ⟨t, ho, hl⟩, hd⟩
    exact ⟨_, rfl, hR _ _ ⟨hd.1, fun _ => hd.2⟩ ⟨t, ho.lower hb.1.size, hl⟩⟩
  case rest =>
   intro s9 w9 hb hv
   have e0_ : s9 0 = _ := hv 0 (by decide)
   obtain ⟨t4, o4, l4⟩ : ∃ t, OwnI wz.heap.size w9 (s9 4) t ∧ t.length ≤ 64 := hv 4 (by decide)
   obtain ⟨A4, c4, e4_, -⟩ := id o4.read
   rw [e4_] at o4
   clear hv
   simp only [dsOf, List.take, List.map_cons, List.map_nil, Option.getD_some, putAll, Act.put, List.setIfInBounds_toArray, List.set_cons_zero, List.set_cons_succ]
   have hd9 : Dw bs w1 w9 := HDz.out.trans ⟨hb.1, hb.2 HSz.out⟩
   have hk9 : w9.heap[w.heap.size]? = some C0 := by rw [hd9.1.block _ (by have h1 := HZ1.out; omega) (fun e => by have := Option.some.inj e; have := HBS.out; omega)]; exact HK1.out
   have HK9 := Aside0.mk hk9
   have HD9 := Aside0.mk hd9
   have HO9 := Aside0.mk (HOz.out.gm hb.1 (HD1.out.2.lt))
   have HT9 := Aside0.mk (o4.lower HZZ.out)
   have HL9 := Aside0.mk l4
   have c00 : w9.cell? ⟨w.heap.size, 0, none⟩ = some (.int .i64 0) := blk_cell hk9 0
   have c01 : w9.cell? ⟨w.heap.size, 1, none⟩ = some (.slice none 0 0) := blk_cell hk9 1
   have f00 : w9.frozen? ⟨w.heap.size, 0, none⟩ = false := blk_frozen hk9 0
   have f01 : w9.frozen? ⟨w.heap.size, 1, none⟩ = false := blk_frozen hk9 1
   rw [e0_, e4_]
   clear hb hd9 hk9 o4 l4 e4_ e0_
   refine .inr ⟨(w9.setCell ⟨w.heap.size, 0, none⟩ (.int .i64 a)).setCell ⟨w.heap.size, 1, none⟩ (.slice Az ys.length cz), (by go_simp), ?_⟩
   simp only [List.drop, Act.put, List.setIfInBounds_toArray, List.set_cons_zero, List.set_cons_succ]
   unfold tailList
   refine .inl ?_
   refine opGives_value (v := .slice A4 t4.length c4) (w' := (w9.setCell ⟨w.heap.size, 0, none⟩ (.int .i64 a)).setCell ⟨w.heap.size, 1, none⟩ (.slice Az ys.length cz)) ?_ ?_
   ·go_simp
   simp only [List.drop, Act.put, List.setIfInBounds_toArray, List.set_cons_zero, List.set_cons_succ]
   unfold tailList
   go_wp2
   refine bodyPost_ret (results_ct rfl _ _ w.heap.size 26 #[.int .i64 a, .slice Az ys.length cz] (0, 0) _ rfl (by refine blk_put (cs := #[.int .i64 a, .slice none 0 0]) ?_ 1 _ rfl; refine blk_put (cs := #[.int .i64 0, .slice none 0 0]) ?_ 0 _ rfl; exact HK9.out) Tryz.underlying26 rfl (by kernel_rfl)) rfl ?_
   have hbb : Below w.heap.size w9 ((w9.setCell ⟨w.heap.size, 0, none⟩ (Value.int IntKind.i64 a)).setCell ⟨w.heap.size, 1, none⟩ (Value.slice Az ys.length cz)) := ((Below.refl _ _).setCell (by simp) _).setCell (by simp) _
   have hz := HZ1.out
   have own : ∀ {v : Value} {l : List Int}, OwnI w1.heap.size w9 v l → OwnI w.heap.size ((w9.setCell ⟨w.heap.size, 0, none⟩ (Value.int IntKind.i64 a)).setCell ⟨w.heap.size, 1, none⟩ (Value.slice Az ys.length cz)) v l := by
    intro v l ho
    have hbse := ho.base
    have ho := ho.lower (b' := w.heap.size) (by omega)
    exact (ho.grown (set_grown' _ w.heap.size _ _) (fun j hj e => by have := hbse _ hj; cases e; omega)).grown (set_grown' _ w.heap.size _ _) (fun j hj e => by have := hbse _ hj; cases e; omega)
   exact ⟨a, _, _, ys, t4, rfl, own HO9.out, own HT9.out, HR.out, HL9.out, (HD1.out.trans HD9.out).top hbb (Nat.le_refl _) HBS.out⟩
set_option maxRecDepth 100000 in
set_option maxHeartbeats 2000000 in
theorem drawBestTree : DrawsOne 49 := by
 intro v n w hn hv
 obtain ⟨w1, hw1⟩ : ∃ w1, w1 = w.alloc C0 := ⟨_, rfl⟩
 have hb1 : Below w.heap.size w w1 := by rw [hw1]; exact Below.alloc (Below.refl _ _) (Nat.le_refl _) _
 have HZ1 : Aside0 (w1.heap.size = w.heap.size + 1) := ⟨by rw [hw1]; simp⟩
 have HK1 : Aside0 (w1.heap[w.heap.size]? = some C0) := ⟨by rw [hw1]; exact blk_new w _⟩
 have HB1 := Aside0.mk hb1
 have HFR := Aside0.mk (srcFrom v n hn w1 (hv.below hb1))
 clear hv hb1
 go_enter Tryz.func49, Tryz.ntmps49
 go_wp2_with (first | (go_at_call 133; rw [← hw1]; clear hw1; refine HFR.out.mono ?_; rintro e w2 ⟨rfl, hs, hb⟩; have HS2 := Aside0.mk hs; have HB2 := Aside0.mk hb; clear hs hb) | (go_at_call 199; go_must (refine (spoil w1.heap.size w2 HS2.out).mono ?_; rintro e w9 ⟨_, rfl, ⟨a, u, ys, rfl, ho, hr⟩, hd⟩; have hB9 : Below w1.heap.size w1 w9 := HB2.out.trans (below_grown hd.1 (Nat.le_refl _) HB2.out.size); have HB9 := Aside0.mk hB9; have hk9 : w9.heap[w.heap.size]? = some C0 := (by rw [hB9.block _ (by have h1 := HZ1.out; omega)]; exact HK1.out); have HK9 := Aside0.mk hk9; have HO9 := Aside0.mk (ho.lower HB2.out.size); have HR9 := Aside0.mk hr; obtain ⟨A9, c9, rfl, -⟩ := id ho.read; have c00 : w9.cell? ⟨w.heap.size, 0, none⟩ = some (.int .i64 0) := blk_cell hk9 0; have c01 : w9.cell? ⟨w.heap.size, 1, none⟩ = some (.slice none 0 0) := blk_cell hk9 1; have f00 : w9.frozen? ⟨w.heap.size, 0, none⟩ = false := blk_frozen hk9 0; have f01 : w9.frozen? ⟨w.heap.size, 1, none⟩ = false := blk_frozen hk9 1; clear ho hr hd hk9 hB9)))
 refine bodyPost_ret (results_cell_row rfl _ _ w.heap.size 26 #[.int .i64 a, .slice A9 ys.length c9] (0, 0) _ rfl (by refine blk_put (cs := #[.int .i64 a, .slice none 0 0]) ?_ 1 _ rfl; refine blk_put (cs := #[.int .i64 0, .slice none 0 0]) ?_ 0 _ rfl; exact HK9.out) Tryz.underlying26 rfl (by kernel_rfl)) rfl ?_
 have hbb : Below w.heap.size w9 ((w9.setCell ⟨w.heap.size, 0, none⟩ (Value.int IntKind.i64 a)).setCell ⟨w.heap.size, 1, none⟩ (Value.slice A9 ys.length c9)) := ((Below.refl _ _).setCell (by simp) _).setCell (by simp) _
 have hz := HZ1.out
 refine ⟨_, rfl, ⟨a, _, ys, rfl, ?_, HR9.out⟩, (HB1.out.trans (HB9.out.mono HB1.out.size)).trans hbb⟩
 have ho := HO9.out
 have hbse := ho.base
 have ho := ho.lower (b' := w.heap.size) (by omega)
 exact (ho.grown (set_grown' _ w.heap.size _ _) (fun j hj e => by have := hbse _ hj; cases e; omega)).grown (set_grown' _ w.heap.size _ _) (fun j hj e => by have := hbse _ hj; cases e; omega)
/-- a draw of a complex and a tree, out of a code -/
def DrawsTree (f : FuncId) : Prop := ∀ (v : Value) (n : Nat) (w : World), n ≤ 4096 → ReadY w v n → Calls Tryz.prog f #[v] w fun e w' => ∃ (a : Int) (u tv : Value) (ys ts : List Int), e = .returned (.tuple #[.agg #[.int .i64 a, u], tv]) ∧ OwnI w.heap.size w' u ys ∧ OwnI w.heap.size w' tv ts ∧ Rc a ys ∧ ts.length ≤ 64 ∧ Below w.heap.size w w'
set_option maxRecDepth 100000 in
set_option maxHeartbeats 2000000 in
theorem drawEvadersOf : DrawsTree 206 := by
 intro v nb w hn hv
 obtain ⟨w1, hw1⟩ : ∃ w1, w1 = w.alloc C0 := ⟨_, rfl⟩
 have hb1 : Below w.heap.size w w1 := by rw [hw1]; exact Below.alloc (Below.refl _ _) (Nat.le_refl _) _
 have HZ1 : Aside0 (w1.heap.size = w.heap.size + 1) := ⟨by rw [hw1]; simp⟩
 have HK1 : Aside0 (w1.heap[w.heap.size]? = some C0) := ⟨by rw [hw1]; exact blk_new w _⟩
 have HB1 := Aside0.mk hb1
 have HFR := Aside0.mk (srcFrom v nb hn w1 (hv.below hb1))
 have hmx : Tryz.prog.follows .mixedOrders = true := by kernel_rfl
 clear hv hb1
 go_enter Tryz.func206, Tryz.ntmps206
 go_wp2_with (first | (go_at_call 133; rw [← hw1]; clear hw1; refine Aside0.out ?_) | (go_at_call 337; refine Aside0.out ?_))
 refine Aside0.mk ?_
 refine HFR.out.mono ?_
 rintro e w2 ⟨rfl, hs, hb⟩
 have HS2 := Aside0.mk hs
 have HLT := Aside0.mk hs.lt
 have HB2 := Aside0.mk hb
 have HDB := Aside0.mk (drawBoth w1.heap.size w2 hs)
 clear hs hb
 go_wp2_with (first | (go_at_call 337; refine Aside0.out ?_))
 refine Aside0.mk ?_
 refine HDB.out.mono ?_
 rintro e w3 ⟨a, z, tv, ys, ts, rfl, ho, ht, hr, htl, hd⟩
 obtain ⟨Az, cz, rfl, -⟩ := id ho.read
 obtain ⟨At, ct, rfl, -⟩ := id ht.read
 have hB3 : Below w1.heap.size w1 w3 := HB2.out.trans (below_grown hd.1 (Nat.le_refl _) HB2.out.size)
 have hbz : Below w3.heap.size w3 (w3.alloc (.cells #[.int .i64 a, .slice Az ys.length cz] 26)) := Below.alloc (Below.refl _ _) (Nat.le_refl _) _
 have hB4 : Below w1.heap.size w1 (w3.alloc (.cells #[.int .i64 a, .slice Az ys.length cz] 26)) := hB3.trans (hbz.mono hB3.size)
 have hk9 : (w3.alloc (.cells #[.int .i64 a, .slice Az ys.length cz] 26)).heap[w.heap.size]? = some C0 := by rw [hB4.block _ (by have h1 := HZ1.out; omega)]; exact HK1.out
 have HK9 := Aside0.mk hk9
 have HB9 := Aside0.mk hB4
 have HO9 := Aside0.mk ((ho.below hbz).lower (b' := w1.heap.size) HB2.out.size)
 have HT9 := Aside0.mk ((ht.below hbz).lower (b' := w1.heap.size) HB2.out.size)
 have HR := Aside0.mk hr
 have HTL := Aside0.mk htl
 have c00 : (w3.alloc (.cells #[.int .i64 a, .slice Az ys.length cz] 26)).cell? ⟨w.heap.size, 0, none⟩ = some (.int .i64 0) := blk_cell hk9 0
 have c01 : (w3.alloc (.cells #[.int .i64 a, .slice Az ys.length cz] 26)).cell? ⟨w.heap.size, 1, none⟩ = some (.slice none 0 0) := blk_cell hk9 1
 have f00 : (w3.alloc (.cells #[.int .i64 a, .slice Az ys.length cz] 26)).frozen? ⟨w.heap.size, 0, none⟩ = false := blk_frozen hk9 0
 have f01 : (w3.alloc (.cells #[.int .i64 a, .slice Az ys.length cz] 26)).frozen? ⟨w.heap.size, 1, none⟩ = false := blk_frozen hk9 1
 clear ho ht hr htl hd hB3 hbz hB4 hk9
 have l0 : (w3.alloc (.cells #[.int .i64 a, .slice Az ys.length cz] 26)).cell? ⟨w3.heap.size, 0, none⟩ = some (.int .i64 a) := new_cell _ _ _ 0 _ rfl
 have l1 : (w3.alloc (.cells #[.int .i64 a, .slice Az ys.length cz] 26)).cell? ⟨w3.heap.size, 1, none⟩ = some (.slice Az ys.length cz) := new_cell _ _ _ 1 _ rfl
 go_wp2
 obtain ⟨w9, hw9⟩ : ∃ w9, w9 = w3.alloc (.cells #[.int .i64 a, .slice Az ys.length cz] 26) := ⟨_, rfl⟩
 rw [← hw9] at HK9 HB9 HO9 HT9 ⊢
 clear c00 c01 f00 f01 l0 l1 hw9
 refine bodyPost_ret (results_ct rfl _ _ w.heap.size 26 #[.int .i64 a, .slice Az ys.length cz] (0, 0) _ rfl (by refine blk_put (cs := #[.int .i64 a, .slice none 0 0]) ?_ 1 _ rfl; refine blk_put (cs := #[.int .i64 0, .slice none 0 0]) ?_ 0 _ rfl; exact HK9.out) Tryz.underlying26 rfl (by kernel_rfl)) rfl ?_
 have hbb : Below w.heap.size w9 ((w9.setCell ⟨w.heap.size, 0, none⟩ (Value.int IntKind.i64 a)).setCell ⟨w.heap.size, 1, none⟩ (Value.slice Az ys.length cz)) := ((Below.refl _ _).setCell (by simp) _).setCell (by simp) _
 have hz := HZ1.out
 have own : ∀ {v : Value} {l : List Int}, OwnI w1.heap.size w9 v l → OwnI w.heap.size ((w9.setCell ⟨w.heap.size, 0, none⟩ (Value.int IntKind.i64 a)).setCell ⟨w.heap.size, 1, none⟩ (Value.slice Az ys.length cz)) v l := by
  intro v l ho
  have hbse := ho.base
  have ho := ho.lower (b' := w.heap.size) (by omega)
  exact (ho.grown (set_grown' _ w.heap.size _ _) (fun j hj e => by have := hbse _ hj; cases e; omega)).grown (set_grown' _ w.heap.size _ _) (fun j hj e => by have := hbse _ hj; cases e; omega)
 exact ⟨a, _, _, ys, ts, rfl, own HO9.out, own HT9.out, HR.out, HTL.out, (HB1.out.trans (HB9.out.mono HB1.out.size)).trans hbb⟩
set_option maxRecDepth 100000 in
set_option maxHeartbeats 2000000 in
theorem drawPairingOfTree : DrawsTree 52 := by
 intro v nb w hn hv
 obtain ⟨w1, hw1⟩ : ∃ w1, w1 = w.alloc C0 := ⟨_, rfl⟩
 have hb1 : Below w.heap.size w w1 := by rw [hw1]; exact Below.alloc (Below.refl _ _) (Nat.le_refl _) _
 have HZ1 : Aside0 (w1.heap.size = w.heap.size + 1) := ⟨by rw [hw1]; simp⟩
 have HK1 : Aside0 (w1.heap[w.heap.size]? = some C0) := ⟨by rw [hw1]; exact blk_new w _⟩
 have HB1 := Aside0.mk hb1
 have HDE := Aside0.mk (drawEvadersOf v nb w1 hn (hv.below hb1))
 have hmx : Tryz.prog.follows .mixedOrders = true := by kernel_rfl
 clear hv hb1
 go_enter Tryz.func52, Tryz.ntmps52
 go_wp2_with (first | (go_at_call 206; rw [← hw1]; clear hw1; refine Aside0.out ?_))
 refine Aside0.mk ?_
 refine HDE.out.mono ?_
 rintro e w9 ⟨a, z, tv, ys, ts, rfl, ho, ht, hr, htl, hB9⟩
 obtain ⟨Az, cz, rfl, -⟩ := id ho.read
 obtain ⟨At, ct, rfl, -⟩ := id ht.read
 have hk9 : w9.heap[w.heap.size]? = some C0 := by rw [hB9.block _ (by have h1 := HZ1.out; omega)]; exact HK1.out
 have HK9 := Aside0.mk hk9
 have HB9 := Aside0.mk hB9
 have HO9 := Aside0.mk ho
 have HT9 := Aside0.mk ht
 have HR := Aside0.mk hr
 have HTL := Aside0.mk htl
 have c00 : w9.cell? ⟨w.heap.size, 0, none⟩ = some (.int .i64 0) := blk_cell hk9 0
 have c01 : w9.cell? ⟨w.heap.size, 1, none⟩ = some (.slice none 0 0) := blk_cell hk9 1
 have f00 : w9.frozen? ⟨w.heap.size, 0, none⟩ = false := blk_frozen hk9 0
 have f01 : w9.frozen? ⟨w.heap.size, 1, none⟩ = false := blk_frozen hk9 1
 clear ho ht hr htl hB9 hk9
 go_wp2
 refine bodyPost_ret (results_ct rfl _ _ w.heap.size 26 #[.int .i64 a, .slice Az ys.length cz] (0, 0) _ rfl (by refine blk_put (cs := #[.int .i64 a, .slice none 0 0]) ?_ 1 _ rfl; refine blk_put (cs := #[.int .i64 0, .slice none 0 0]) ?_ 0 _ rfl; exact HK9.out) Tryz.underlying26 rfl (by kernel_rfl)) rfl ?_
 have hbb : Below w.heap.size w9 ((w9.setCell ⟨w.heap.size, 0, none⟩ (Value.int IntKind.i64 a)).setCell ⟨w.heap.size, 1, none⟩ (Value.slice Az ys.length cz)) := ((Below.refl _ _).setCell (by simp) _).setCell (by simp) _
 have hz := HZ1.out
 have own : ∀ {v : Value} {l : List Int}, OwnI w1.heap.size w9 v l → OwnI w.heap.size ((w9.setCell ⟨w.heap.size, 0, none⟩ (Value.int IntKind.i64 a)).setCell ⟨w.heap.size, 1, none⟩ (Value.slice Az ys.length cz)) v l := by
  intro v l ho
  have hbse := ho.base
  have ho := ho.lower (b' := w.heap.size) (by omega)
  exact (ho.grown (set_grown' _ w.heap.size _ _) (fun j hj e => by have := hbse _ hj; cases e; omega)).grown (set_grown' _ w.heap.size _ _) (fun j hj e => by have := hbse _ hj; cases e; omega)
 exact ⟨a, _, _, ys, ts, rfl, own HO9.out, own HT9.out, HR.out, HTL.out, (HB1.out.trans (HB9.out.mono HB1.out.size)).trans hbb⟩
set_option maxRecDepth 100000 in
set_option maxHeartbeats 2000000 in
theorem drawIsTree (v : Value) (nb : Nat) (w : World) (hn : nb ≤ 4096) (hv : ReadY w v nb) :
  Calls Tryz.prog 56 #[v] w fun e w' => ∃ (n : Int) (tv : Value) (ts : List Int), e = .returned (.tuple #[.int .i64 n, tv]) ∧ (0 ≤ n ∧ n ≤ 7) ∧ OwnI w.heap.size w' tv ts ∧ ts.length ≤ 64 ∧ Below w.heap.size w w' := by
 have HFR := Aside0.mk (srcFrom v nb hn w hv)
 have hmx : Tryz.prog.follows .mixedOrders = true := by kernel_rfl
 have st : Stg 0 := ⟨⟩
 clear hv
 go_enter Tryz.func56, Tryz.ntmps56
 go_wp2_with (first | (replace st := stg_next 0 1 st; go_at_call 133; refine HFR.out.mono ?_; rintro e w2 ⟨rfl, hs, hb⟩; have HLT := Aside0.mk hs.lt; have HB2 := Aside0.mk hb; have HS2 := Aside0.mk hs; clear hs hb) | (replace st := stg_next 1 2 st; go_at_call 162; refine (next w.heap.size 5 w2 (by omega) HS2.out).mono ?_; rintro e w3 ⟨r, rfl, -, hr, hd⟩; replace hr := hr (by omega); have HD3 := Aside0.mk hd; clear hd) | (replace st := stg_next 2 3 st; go_at_call 215; refine (drawTree w.heap.size (1 + r) (by omega) (by omega) w3 HD3.out.2).mono ?_; rintro e w4 ⟨tv, rfl, ⟨ts, ho, htl⟩, hd⟩; have HO4 := Aside0.mk ho; have HTL := Aside0.mk htl; obtain ⟨At, ct, rfl, -⟩ := id ho.read; have HD4 := Aside0.mk hd; clear hd ho htl) | (replace st := stg_next 3 4 st; go_at_call 162; refine Aside0.out ?_))
 refine Aside0.mk ?_
 have HS4 := Aside0.mk HD4.out.2
 with_reducible refine (next w.heap.size 16 w4 (by omega) HS4.out).mono ?_
 rintro e w5 ⟨q, rfl, -, -, hd⟩
 have HD5 := Aside0.mk (HD4.out.trans hd)
 have HO5 := Aside0.mk (HO4.out.gm hd.1 (Nat.lt_of_lt_of_le HLT.out HD3.out.size))
 clear hd
 by_cases hq : q = 0
 ·have hq1 : (q == 0) = true := by rw [beq_iff_eq]; exact hq
  clear hq
  go_wp2_with (first | (go_at_call 216; refine Aside0.out ?_))
  obtain ⟨w6, hw6⟩ : ∃ w6, w6 = w5.alloc (.cells #[.int .i64 0, .int .i64 7, .int .i64 2, .int .i64 3] 2) := ⟨_, rfl⟩
  rw [← hw6]
  have hb6 : Below w5.heap.size w5 w6 := by rw [hw6]; exact Below.alloc (Below.refl _ _) (Nat.le_refl _) _
  have hl6 : RdK w.heap.size w6 (.slice (some ⟨w5.heap.size, 0, none⟩) 4 4) [0, 7, 2, 3] := by
   rw [hw6]; exact (lit_own w5 w5.heap.size [0, 7, 2, 3] (Nat.le_refl _) (by decide)).rdk HD5.out.2.lt
  clear hw6
  refine Aside0.mk ?_
  have HS6 := Aside0.mk (HD5.out.2.below hb6)
  with_reducible refine (pick w.heap.size _ [0, 7, 2, 3] w6 HS6.out hl6 (by decide) (by decide)).mono ?_
  rintro e w7 ⟨y, rfl, hy, hd⟩
  have hyb : 0 ≤ y ∧ y ≤ 7 := by
   simp only [List.mem_cons, List.not_mem_nil, or_false] at hy
   omega
  have HY := Aside0.mk hyb
  have HD7 := Aside0.mk ((HD5.out.then_below hb6).trans hd)
  have HO7 := Aside0.mk ((HO5.out.below hb6).gm hd.1 (Nat.lt_of_lt_of_le HLT.out HD3.out.size))
  clear hyb hy hd hb6 hl6
  go_wp2
  go_ret2
  exact ⟨y, _, ts, rfl, HY.out, HO7.out.lower (Nat.le_trans HB2.out.size HD3.out.size), HTL.out, HB2.out.trans (below_grown (HD3.out.trans HD7.out).1 (Nat.le_refl _) HB2.out.size)⟩
 ·have hq1 : (q == 0) = false := by rw [beq_eq_false_iff_ne]; exact hq
  clear hq
  go_wp2
  go_ret2
  exact ⟨1 + r, _, ts, rfl, by omega, HO5.out.lower (Nat.le_trans HB2.out.size HD3.out.size), HTL.out, HB2.out.trans (below_grown (HD3.out.trans HD5.out).1 (Nat.le_refl _) HB2.out.size)⟩
end Go.Proofs.YtkggchklmpmgpaaGreat.H
