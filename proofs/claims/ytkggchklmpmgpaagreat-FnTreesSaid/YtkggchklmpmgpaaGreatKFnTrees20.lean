/- BestTree of the reference. -/
import Derived.Test.YtkggchklmpmgpaaGreatKFnTrees1
import Derived.Test.YtkggchklmpmgpaaGreatKFnTrees2
import Derived.Test.YtkggchklmpmgpaaGreatKFnTrees3
import Derived.Test.YtkggchklmpmgpaaGreatKFnTrees4
import Derived.Test.YtkggchklmpmgpaaGreatKFnTrees5
import Derived.Test.YtkggchklmpmgpaaGreatKFnTrees6
import Derived.Test.YtkggchklmpmgpaaGreatKFnTrees7
import Derived.Test.YtkggchklmpmgpaaGreatKFnTrees8
import Derived.Test.YtkggchklmpmgpaaGreatKFnTrees9
import Derived.Test.YtkggchklmpmgpaaGreatKFnTrees10
import Derived.Test.YtkggchklmpmgpaaGreatKFnTrees11
import Derived.Test.YtkggchklmpmgpaaGreatKFnTrees12
import Derived.Test.YtkggchklmpmgpaaGreatKFnTrees13
import Derived.Test.YtkggchklmpmgpaaGreatKFnTrees14
import Derived.Test.YtkggchklmpmgpaaGreatKFnTrees15
import Derived.Test.YtkggchklmpmgpaaGreatKFnTrees16
import Derived.Test.YtkggchklmpmgpaaGreatKFnTrees17
import Derived.Test.YtkggchklmpmgpaaGreatKFnTrees18
import Derived.Test.YtkggchklmpmgpaaGreatKFnTrees19

namespace Go.Proofs.YtkggchklmpmgpaaGreat.H
open Go.RowKit Go.Proofs.YtkggchklmpmgpaaGreatW.PrintWords Go.Proofs.YtkggchklmpmgpaaGreatW.PrintLast
set_option linter.unusedVariables false
set_option linter.unusedSimpArgs false
theorem grown_base {w3 wr w1 : World} {b : Nat} (h : w3.grownBy wr (some b)) (h2 : Below w3.heap.size wr w1) : w3.grownBy w1 (some b) :=
 ⟨h2.os.trans h.os, h2.tape.trans h.tape, h2.output.trans h.output, Nat.le_trans h.size h2.size, fun k hk hne => (h2.block k hk).trans (h.block k hk hne)⟩
theorem TabI.grown' {n : Nat} {val : Nat → Nat → Int} {b c : Nat} {w w' : World} (h : TabI n val b c w) {row : Option Nat} (hg : w.grownBy w' row) (hne : some b ≠ row) : TabI n val b c w' := by
 obtain ⟨L, ho, hv⟩ := h
 exact ⟨L, ho.grown hg (fun k hk => by simp [Value.ownBlock] at hk; rw [← hk]; exact hne), hv⟩
/-- on the way up, what is still to come -/
def WInv (n : Nat) (xs : List Int) (p q A B x : Nat) : Prop := A ||| (stq n xs x).1 = p ∧ B ||| (stq n xs x).2 = q
theorem WInv.odd {n : Nat} {xs : List Int} {p q A B x : Nat} (h : WInv n xs p q A B x) (h1 : 1 < x) (h2 : x % 2 = 1) : WInv n xs p q (A ||| 2 ^ bq n xs (x / 2)) B (x / 2) := by
 obtain ⟨e1, e2⟩ := h
 rw [stq_odd (by omega) h2] at e1 e2
 exact ⟨by rw [← e1, Nat.or_assoc, Nat.or_comm (2 ^ _)], e2⟩
theorem WInv.even {n : Nat} {xs : List Int} {p q A B x : Nat} (h : WInv n xs p q A B x) (h1 : 1 < x) (h2 : ¬ x % 2 = 1) : WInv n xs p q A (B ||| 2 ^ bq n xs (x / 2)) (x / 2) := by
 obtain ⟨e1, e2⟩ := h
 rw [stq_even (by omega) h2] at e1 e2
 exact ⟨e1, by rw [← e2, Nat.or_assoc, Nat.or_comm (2 ^ _)]⟩
theorem WInv.le {n : Nat} {xs : List Int} {p q A B x : Nat} (h : WInv n xs p q A B x) : A ≤ p ∧ B ≤ q := ⟨by rw [← h.1]; exact Nat.left_le_or, by rw [← h.2]; exact Nat.left_le_or⟩
theorem WInv.top {n : Nat} {xs : List Int} {p q A B : Nat} (h : WInv n xs p q A B 1) : A = p ∧ B = q := by
 obtain ⟨e1, e2⟩ := h
 rw [stq_one] at e1 e2
 exact ⟨by rw [← e1]; exact (Nat.or_zero _).symm, by rw [← e2]; exact (Nat.or_zero _).symm⟩
theorem own_ne {b base k : Nat} (h1 : base ≤ k) (h2 : b < base) (e : some k = some b) : False := by have := Option.some.inj e; omega
theorem l1_yes {O1 n : Int} {l : Nat} (h : O1 + l = n + 1) (h1 : l = 1) : (O1 == n) = true := by rw [beq_iff_eq]; omega
theorem l1_no {O1 n : Int} {l : Nat} (h : O1 + l = n + 1) (h1 : l ≠ 1) : (O1 == n) = false := by rw [beq_eq_false_iff_ne]; omega
theorem meas_int {m v : Nat} (h : v < m) : m - (intOf (.int .i64 ((v : Int) + 1))).toNat < m - (intOf (.int .i64 (v : Int))).toNat := by simp [intOf]; omega
theorem pick_set {n : Nat} {xs : List Int} {p q v : Nat} (h : (p ||| q).testBit v = true) : pickV n xs p q v = false := by unfold pickV; rw [h]; rfl
theorem pick_one {n : Nat} {xs : List Int} {p q v : Nat} (h : (p ||| q).testBit v = false) (h1 : lefts n p q = 1) : pickV n xs p q v = true := by unfold pickV; rw [h, h1]; rfl
theorem pick_more {n : Nat} {xs : List Int} {p q v : Nat} (h : (p ||| q).testBit v = false) (h1 : lefts n p q ≠ 1) : pickV n xs p q v = (leastAt n xs p q v == leastV n xs p q) := by
 unfold pickV
 rw [h, show (lefts n p q == 1) = false from by rw [beq_eq_false_iff_ne]; exact h1]
 rfl
set_option maxRecDepth 100000 in
set_option maxHeartbeats 8000000 in
theorem specBestTree (a : Int) (ku : Value) (xs : List Int) (w : World) (hk : ReadI w ku xs) :
  Calls Tryz.prog 51 #[cx a ku] w fun e w' => ∃ u, e = .returned (.tuple #[u, .int .i64 (ansBestTree a xs).2]) ∧ OwnI w.heap.size w' u (ansBestTree a xs).1 ∧ Below w.heap.size w w' := by
 obtain ⟨w1, hw1⟩ : ∃ w1, w1 = w.alloc (.cells #[.int .i64 a, ku] 26) := ⟨_, rfl⟩
 have hB : Below w.heap.size w w1 := by rw [hw1]; exact Below.alloc (Below.refl _ _) (Nat.le_refl _) _
 have c0 : w1.cell? ⟨w.heap.size, 0, none⟩ = some (.int .i64 a) := by rw [hw1]; simp
 have c1 : w1.cell? ⟨w.heap.size, 1, none⟩ = some ku := by rw [hw1]; simp
 have hz1 : w.heap.size < w1.heap.size := by rw [hw1]; simp
 have HB := Aside0.mk hB
 have HK := Aside0.mk (hk.below hB)
 have HM := Aside0.mk (specIs a ku xs w1 HK.out)
 obtain ⟨A1, d1, rfl, -⟩ := id hk
 clear hk hB
 have hmx : Tryz.prog.follows .mixedOrders = true := by kernel_rfl
 cases hx : cxOk a xs with
 | false =>
  have HA : Aside0 (ansBestTree a xs = ([], 1)) := ⟨by unfold ansBestTree; rw [hx]; rfl⟩
  rw [hx] at HM
  clear hx
  go_enter Tryz.func51, Tryz.ntmps51
  go_wp2_with (first | (go_at_call 171; rw [← hw1]; clear hw1; refine HM.out.mono ?_; rintro e w2 ⟨rfl, hb⟩; have HB2 := Aside0.mk hb; clear hb))
  go_ret2
  exact ⟨_, by rw [HA.out]; rfl, by rw [HA.out]; exact OwnI.nil _ _, HB.out.trans (HB2.out.mono HB.out.size)⟩
 | true =>
  obtain ⟨n, rfl, hc⟩ := cxOk_nat hx
  have HA : Aside0 (ansBestTree (n : Int) xs = (bestTo' n xs (2 ^ n - 1), 0)) := ⟨by unfold ansBestTree; rw [hx]; rfl⟩
  rw [hx] at HM
  have HC := Aside0.mk hc
  have hn := hc.hi
  have h64 := pw6 hn
  have hsh := pow_wrap n (by omega)
  obtain ⟨N, hN⟩ : ∃ N : Nat, N = 2 ^ n := ⟨_, rfl⟩
  rw [← hN] at HA h64 hsh
  have HN := Aside0.mk hN
  clear hx hc hN
  go_enter Tryz.func51, Tryz.ntmps51
  go_wp2_with (first | (go_at_call 171; rw [← hw1]; clear hw1; refine HM.out.mono ?_; rintro e w2 ⟨rfl, hb⟩; have HB2 := Aside0.mk hb; have hz2 : w.heap.size < w2.heap.size := (by have := hb.size; omega); replace c0 := pw_cell_below hb c0; replace c1 := pw_cell_below hb c1; clear hb) | (go_at_call 203; refine (specTable _).mono ?_; rintro e w3 ⟨u, rfl, ho, hb⟩; obtain ⟨b, c, rfl, -⟩ := Kd.R_form ho (by rw [noneT_len]; decide); rw [noneT_len] at ho ⊢; have hb2 := ho.base b (by simp [Value.ownBlock]); have hb3 := ho.lt b (by simp [Value.ownBlock]); have HT3 : Aside0 (TabI n (leastV n xs) b c w3) := ⟨⟨_, ho.lower (Nat.zero_le _), tab_none hn _⟩⟩; have HB3 := Aside0.mk hb; have HK3 : Aside0 (RdK b w3 _ xs) := ⟨RdK.mk' (HK.out.below HB2.out) hb hb2⟩; replace c0 := pw_cell_below hb c0; replace c1 := pw_cell_below hb c1; clear ho hb))
  have hne0 : w.heap.size ≠ b := by omega
  have C0 := Aside0.mk c0
  have C1 := Aside0.mk c1
  clear c0 c1
  have HBe : Aside0 (Below w3.heap.size w3 (w3.alloc (.cells #[] 2))) := ⟨Below.alloc (Below.refl _ _) (Nat.le_refl _) _⟩
  go_loopw [5, 6] (fun s5 s6 wr => ∃ pv : Nat, s6 = .int .i64 pv ∧ 1 ≤ pv ∧ pv ≤ N ∧ Aside0 (OwnI w3.heap.size wr s5 (bestTo' n xs (pv - 1))) ∧ Aside0 (w3.grownBy wr (some b)) ∧ Aside0 (TabI n (leastV n xs) b c wr)) (fun _ s6 _ => N - (intOf s6).toNat)
  case atStart => exact ⟨1, rfl, Nat.le_refl _, by omega, ⟨OwnI.empty w3 (Nat.le_refl _)⟩, ⟨grown_below HBe.out _⟩, ⟨HT3.out.below HBe.out⟩⟩
  case round =>
   obtain ⟨pv, rfl, hp1, hp2, HO, HGr, HTr⟩ := hrel
   have c0 := grown_cell HGr.out C0.out hne0
   have c1 := grown_cell HGr.out C1.out hne0
   have HKr := Aside0.mk (HK3.out.go HGr.out)
   obtain ⟨A5, d5, e5, hd5, hr5⟩ := HO.out.read
   have HR5 := Aside0.mk hr5
   have hl5 := bestTo'_len n xs (pv - 1)
   rw [hl5] at e5
   subst e5
   have HSL : Aside0 ((bestTo' n xs (pv - 1)).length < 17592186044416) := ⟨by omega⟩
   clear hr5 hd5
   by_cases hlt : pv < N
   ·obtain ⟨iv, hi, hi1, hi2⟩ := level_of (n := n) hp1 (by rw [← HN.out]; exact hlt)
    have hst := stq_pl hn xs iv pv (by omega) hi1 hi2
    have hne : lefts n (stq n xs pv).1 (stq n xs pv).2 ≠ 0 := by omega
    have hbq := bestQ_lt hn (xs := xs) hst.1 hne
    have HNX : Aside0 (bestTo' n xs (pv + 1 - 1) = bestTo' n xs (pv - 1) ++ [(bq n xs pv : Int)]) := ⟨by have := bestTo'_succ n xs (pv - 1); rw [show pv - 1 + 1 = pv by omega] at this; rw [Nat.add_sub_cancel]; exact this⟩
    have HW0 : Aside0 (WInv n xs (stq n xs pv).1 (stq n xs pv).2 0 0 pv) := ⟨⟨Nat.zero_or _, Nat.zero_or _⟩⟩
    obtain ⟨v0, hv0⟩ : ∃ v0, v0 = bq n xs pv := ⟨_, rfl⟩
    have hq1 : v0 < n := by rw [hv0]; exact hbq.1
    have hq2 : ∀ j, j < v0 → pickV n xs (stq n xs pv).1 (stq n xs pv).2 j = false := by rw [hv0]; exact hbq.2.2
    have hq3 : pickV n xs (stq n xs pv).1 (stq n xs pv).2 v0 = true := by rw [hv0]; exact hbq.2.1
    rw [← hv0] at HNX
    obtain ⟨p, hp⟩ : ∃ p, p = (stq n xs pv).1 := ⟨_, rfl⟩
    obtain ⟨q, hq⟩ : ∃ q, q = (stq n xs pv).2 := ⟨_, rfl⟩
    rw [← hp, ← hq] at hst hne HW0 hq2 hq3
    have HP := Aside0.mk hst.1
    have HV2 := Aside0.mk hq2
    have HV3 := Aside0.mk hq3
    have hpq := hst.1.lt hn
    clear hv0 hp hq hbq hq2 hq3 hst hne hi1 hi2
    go_wp2
    go_loopw [7, 8, 9] (fun s7 s8 s9 wi => ∃ aA aB qv : Nat, s7 = .int .i64 aA ∧ s8 = .int .i64 aB ∧ s9 = .int .i64 qv ∧ 1 ≤ qv ∧ qv ≤ pv ∧ Aside0 (WInv n xs p q aA aB qv) ∧ wi = wr) (fun _ _ s9 _ => (intOf s9).toNat)
    case atStart => exact ⟨0, 0, pv, rfl, rfl, rfl, hp1, Nat.le_refl _, HW0, rfl⟩
    case round =>
     obtain ⟨aA, aB, qv, rfl, rfl, rfl, hqv1, hqv2, HW, rfl⟩ := hrel
     have hr1 : Int.tmod (qv : Int) 2 = ((qv % 2 : Nat) : Int) := by rw [Int.tmod_eq_emod_of_nonneg (by omega)]; omega
     have hab := HW.out.le
     by_cases hgt : 1 < qv
     ·have HODD := Aside0.mk (fun h => HW.out.odd hgt h)
      have HEVE := Aside0.mk (fun h => HW.out.even hgt h)
      obtain ⟨hv, hhv⟩ : ∃ hv, hv = qv / 2 := ⟨_, rfl⟩
      have hqq : Int.tdiv (qv : Int) 2 = ((hv : Nat) : Int) := by rw [hhv, Int.tdiv_eq_ediv_of_nonneg (by omega)]; omega
      have hv1 : 1 ≤ hv ∧ hv < pv ∧ hv < qv := by omega
      rw [← hhv] at HODD HEVE
      have HHV := Aside0.mk hhv
      have hbl := bq_lt hn xs (x := hv) hv1.1 (by rw [← HN.out]; omega)
      have hix : hv - 1 < (bestTo' n xs (pv - 1)).length := by rw [hl5]; omega
      have hgw := bestTo'_get (n := n) (xs := xs) (k := pv - 1) (i := hv - 1) (by omega)
      rw [show hv - 1 + 1 = hv by omega] at hgw
      obtain ⟨ad, y0, rfl, hcell, hY0⟩ := ReadI.get HR5.out hix
      obtain ⟨vb, hvb⟩ : ∃ vb, vb = bq n xs hv := ⟨_, rfl⟩
      rw [← hvb] at hgw hbl HODD HEVE
      have hy : y0 = (vb : Int) := hY0.out.symm.trans hgw
      subst hy
      have hP1 : (0 : Int) ≤ (hv : Int) - 1 := by omega
      have hP2 : (hv : Int) - 1 < ((pv - 1 : Nat) : Int) := by omega
      have hP3 : ((hv : Int) - 1).toNat = hv - 1 := by omega
      have hshb := pow_wrap vb (by omega)
      have hV := pow_lt64 (v := vb) (by omega)
      obtain ⟨V, hVV⟩ : ∃ V, V = 2 ^ vb := ⟨_, rfl⟩
      rw [← hVV] at hshb hV HODD HEVE
      have hoA := or_i64 aA V (lt_big (Nat.lt_of_le_of_lt hab.1 hpq.1)) (lt_big hV)
      have hoB := or_i64 aB V (lt_big (Nat.lt_of_le_of_lt hab.2 hpq.2)) (lt_big hV)
      clear hVV hvb hgw hY0 hix hhv
      by_cases ho : qv % 2 = 1
      ·have HWn := Aside0.mk (HODD.out ho)
       have hrb : (((qv % 2 : Nat) : Int) == 1) = true := by rw [ho]; rfl
       clear ho HODD HEVE
       go_wp2
       go_roundw
       case rel => exact ⟨aA ||| V, aB, hv, by go_num, rfl, by go_num, hv1.1, by omega, HWn, trivial⟩
       case measure => simp [intOf]; omega
      ·have HWn := Aside0.mk (HEVE.out ho)
       have hrb : (((qv % 2 : Nat) : Int) == 1) = false := by rw [beq_eq_false_iff_ne]; omega
       clear ho HODD HEVE
       go_wp2
       go_roundw
       case rel => exact ⟨aA, aB ||| V, hv, rfl, by go_num, by go_num, hv1.1, by omega, HWn, trivial⟩
       case measure => simp [intOf]; omega
     ·obtain rfl : qv = 1 := by omega
      obtain ⟨hap, haq⟩ := HW.out.top
      obtain rfl := hap.symm
      obtain rfl := haq.symm
      clear hab hr1 hgt
      have HX0 := Aside0.mk (fun W hk hT => specLeast n hn (.slice A1 xs.length d1) xs b c 7 p q W (lefts_lt hn) HP.out hk hT)
      obtain ⟨X, hX⟩ : ∃ X, X = leastV n xs p q := ⟨_, rfl⟩
      rw [← hX] at HX0
      have HXX := Aside0.mk hX
      clear hX
      go_wp2_with (first | (go_at_call 204; refine (HX0.out _ HKr.out HTr.out).mono ?_; rintro e w5 ⟨rfl, hg, hT⟩; have HT5 := Aside0.mk hT; have HO5 := Aside0.mk (HO.out.grown hg (fun k hk e => own_ne (HO.out.base k hk) hb3 e)); have HG5 := Aside0.mk (grown_trans HGr.out hg); clear hg hT))
      have hU := or_lt64 hpq.1 hpq.2
      have HOR := Aside0.mk (or_i64 p q (lt_big hpq.1) (lt_big hpq.2))
      have hlo := ones_lefts hn HP.out
      have HPS := Aside0.mk (fun v => pick_set (n := n) (xs := xs) (p := p) (q := q) (v := v))
      have HPO := Aside0.mk (fun v => pick_one (n := n) (xs := xs) (p := p) (q := q) (v := v))
      have HPM := Aside0.mk (fun v => pick_more (n := n) (xs := xs) (p := p) (q := q) (v := v))
      have HAPv := Aside0.mk (fun v => and_pow (p ||| q) v)
      have HPY := Aside0.mk (fun v hv h => Pl.yes (v := v) HP.out hv h)
      have HPN := Aside0.mk (fun v hv h => Pl.no (v := v) HP.out hv h)
      obtain ⟨U, hUU⟩ : ∃ U, U = p ||| q := ⟨_, rfl⟩
      rw [← hUU] at hU HOR hlo HPS HPO HPM HAPv HPY HPN
      rw [← HXX.out] at HPM
      have hones := ones_le U hU
      have HLT := Aside0.mk hlt
      have H64 := Aside0.mk h64
      have HPQ := Aside0.mk hpq
      have HQ1 := Aside0.mk hq1
      obtain ⟨O1, hO1⟩ : ∃ O1 : Int, O1 = ((ones U : Nat) : Int) + 1 := ⟨_, rfl⟩
      have HON : Aside0 (IntKind.i64.wrap (((ones U : Nat) : Int) + 1) = O1) := ⟨by rw [hO1]; exact IntWalk.i64_in _ (by omega)⟩
      have HLO : Aside0 (O1 + (lefts n p q : Nat) = (n : Int) + 1) := ⟨by rw [hO1]; omega⟩
      clear hlo hUU hO1 hones hsh h64 hz1 hz2 hpq hp1 hp2 hi hlt hq1 hqv1 hqv2 hb2 hl5
      go_loopw [5, 12] (fun s5 s12 wv => ∃ vq : Nat, s5 = .slice A5 (pv - 1) d5 ∧ s12 = .int .i64 vq ∧ vq ≤ v0 ∧ Aside0 (w5.grownBy wv (some b)) ∧ Aside0 (TabI n (leastV n xs) b c wv)) (fun _ s12 _ => v0 - (intOf s12).toNat)
      case atStart => exact ⟨0, rfl, rfl, Nat.zero_le _, ⟨grown_below (Below.refl _ _) _⟩, HT5⟩
      case round =>
       obtain ⟨vq, rfl, rfl, hvq, HGx, HTv⟩ := hrel
       have HGv := Aside0.mk (grown_trans HG5.out HGx.out)
       have c0 := grown_cell HGv.out C0.out hne0
       have c1 := grown_cell HGv.out C1.out hne0
       have HKv := Aside0.mk (HK3.out.go HGv.out)
       have HOv := Aside0.mk (HO5.out.grown HGx.out (fun k hk e => own_ne (HO5.out.base k hk) hb3 e))
       have hvn : vq < n := Nat.lt_of_le_of_lt hvq HQ1.out
       have hv6 : vq < 6 := Nat.lt_of_lt_of_le hvn hn
       have hsh3 := pow_wrap vq (Nat.lt_succ_of_lt hv6)
       have hV := pow_lt64 (v := vq) hv6
       have hpb := Nat.two_pow_pos vq
       have HAP := Aside0.mk (HAPv.out vq)
       have HPYv := Aside0.mk (HPY.out vq hvn)
       have HPNv := Aside0.mk (HPN.out vq hvn)
       have HNA : Aside0 (leastAt n xs p q vq = leastV n xs (p ||| 2 ^ vq) q + leastV n xs p (q ||| 2 ^ vq)) := ⟨rfl⟩
       obtain ⟨V, hVV⟩ : ∃ V, V = 2 ^ vq := ⟨_, rfl⟩
       rw [← hVV] at hsh3 hV hpb HAP HPYv HPNv HNA
       clear hVV
       have hand := and_i64 U V (lt_big hU) (lt_big hV)
       have hor := HOR.out
       cases hbit : U.testBit vq with
       | true =>
        have hlt2 : vq < v0 := by
         rcases Nat.lt_or_ge vq v0 with h | h
         ·exact h
         ·exfalso
          have e : vq = v0 := Nat.le_antisymm hvq h
          have h3 := HPS.out vq hbit
          rw [e, HV3.out] at h3
          cases h3
        have hz : U &&& V = V := by have := HAP.out; rw [hbit, if_pos rfl] at this; exact this
        rw [hz] at hand
        have hne := ne_zero_nat hpb
        have HLT2 := Aside0.mk hlt2
        clear hz hbit hlt2 hpb hV hvq hv6
        go_wp2
        go_roundw
        case rel => exact ⟨vq + 1, rfl, by go_num, HLT2.out, HGx, HTv⟩
        case measure => exact meas_int HLT2.out
       | false =>
        have hz : U &&& V = 0 := by have := HAP.out; rw [hbit, if_neg (by decide)] at this; exact this
        rw [hz] at hand
        by_cases hl1 : lefts n p q = 1
        ·have HL1 : Aside0 ((O1 == (n : Int)) = true) := ⟨l1_yes HLO.out hl1⟩
         have hve : vq = v0 := by
          rcases Nat.lt_or_ge vq v0 with h | h
          ·exfalso
           have h3 := HPO.out vq hbit hl1
           rw [HV2.out vq h] at h3
           cases h3
          ·exact Nat.le_antisymm hvq h
         obtain rfl := hve
         clear hz hbit hl1 hpb hV hvq hv6
         go_wp2
         refine wp_region_gg (Gm b (TabI n (leastV n xs) b c)) (fun w => ⟨grown_drew w _, fun h => h.below (Below.refl _ _).drew⟩) (fun _ _ _ => Gm.trans) (fun i => match i with | 0 => fun v _ => v = .int .i64 (p : Int) | 1 => fun v _ => v = .int .i64 (q : Int) | 2 => fun v _ => v = .int .i64 (U : Int) | 3 => fun v _ => v = .int .i64 ((ones U : Nat) : Int) | 4 => fun v _ => v = .int .i64 (O1 : Int) | 5 => fun v _ => v = .pointer (some ⟨w.heap.size, 0, none⟩) | 6 => fun v _ => v = .int .i64 (n : Int) | 7 => fun v _ => v = .bool true | 8 => fun v _ => v = .bool true | 9 => fun v _ => v = undef | 10 => fun v _ => v = undef | 11 => fun v _ => v = undef | 12 => fun v _ => v = undef | 13 => fun v _ => v = undef | 14 => fun v _ => v = undef | 15 => fun v _ => v = undef | 16 => fun v _ => v = undef | 17 => fun v _ => v = undef | 18 => fun v _ => v = undef | 19 => fun v _ => v = undef | 20 => fun v _ => v = undef | 21 => fun v _ => v = undef | 22 => fun v _ => v = undef | 23 => fun v _ => v = undef | 24 => fun v _ => v = undef | 25 => fun v _ => v = undef | 26 => fun v _ => v = .bool true | _ => fun _ _ => True)
          [0, 0, 3, 7, 15, 0, 32, 127, 255, 511, 511, 511, 3583, 511, 511, 32767, 511, 511, 511, 511, 786943, 511, 4194303, 8388607, 511, 33554431, 67108863] hmx (by kernel_rfl) ?st ?steps ?rest
         case st =>
          intro i v w1_ w2_ hb
          match i with
          | 0 | 1 | 2 | 3 | 4 | 5 | 6 | 7 | 8 | 9 | 10 | 11 | 12 | 13 | 14 | 15 | 16 | 17 | 18 | 19 | 20 | 21 | 22 | 23 | 24 | 25 | 26 => exact id
          | n + 27 => exact id
         case steps =>
          refine ⟨?_, ?_, ?_, ?_, ?_, ?_, ?_, ?_, ?_, ?_, ?_, ?_, ?_, ?_, ?_, ?_, ?_, ?_, ?_, ?_, ?_, ?_, ?_, ?_, ?_, ?_, ?_, trivial⟩
          ·intro s w_ hb hd hq R hR
           generalize hA : putAll _ 0 s _ = A
           clear hq
           refine stepG_on rfl ?_
           have hR' := hR (.int .i64 (p : Int)) _ (Gm.refl _ _ _) rfl
           clear hR hd
           refine opGives_value ?_ hR'
           subst hA
           simp only [dsOf, List.map_cons, List.map_nil, Option.getD_some, putAll, Act.put, List.setIfInBounds_toArray, List.set_cons_zero, List.set_cons_succ]
           go_simp
          ·intro s w_ hb hd hq R hR
           generalize hA : putAll _ 0 s _ = A
           clear hq
           refine stepG_on rfl ?_
           have hR' := hR (.int .i64 (q : Int)) _ (Gm.refl _ _ _) rfl
           clear hR hd
           refine opGives_value ?_ hR'
           subst hA
           simp only [dsOf, List.map_cons, List.map_nil, Option.getD_some, putAll, Act.put, List.setIfInBounds_toArray, List.set_cons_zero, List.set_cons_succ]
           go_simp
          ·intro s w_ hb hd hq R hR
           generalize hA : putAll _ 0 s _ = A
           clear hq
           refine stepG_on rfl ?_
           have e0 : s 0 = _ := hd 0 (by kernel_rfl)
           have e1 : s 1 = _ := hd 1 (by kernel_rfl)
           have hor := HOR.out
           have hR' := hR (.int .i64 (U : Int)) _ (Gm.refl _ _ _) rfl
           clear hR hd
           refine opGives_value ?_ hR'
           subst hA
           simp only [dsOf, List.map_cons, List.map_nil, Option.getD_some, putAll, Act.put, List.setIfInBounds_toArray, List.set_cons_zero, List.set_cons_succ]
           go_simp
          ·intro s w_ hb hd hq R hR
           generalize hA : putAll _ 0 s _ = A
           clear hq
           refine stepG_on rfl ?_
           have e2 : s 2 = _ := hd 2 (by kernel_rfl)
           refine opGives_call (f := 205) (args := #[.int .i64 (U : Int)]) ?_ ?_
           ·subst hA
            clear hR hd
            simp only [dsOf, List.map_cons, List.map_nil, Option.getD_some, putAll, Act.put, List.setIfInBounds_toArray, List.set_cons_zero, List.set_cons_succ]
            go_simp
           clear hA A hd
           refine (specOnes U hU w_).mono ?_
           rintro e w3_ ⟨rfl, hb3⟩
           exact ⟨_, rfl, hR _ _ ⟨grown_below hb3 _, fun h => h.below hb3⟩ rfl⟩
          ·intro s w_ hb hd hq R hR
           generalize hA : putAll _ 0 s _ = A
           clear hq
           refine stepG_on rfl ?_
           have e3 : s 3 = _ := hd 3 (by kernel_rfl)
           have ho1 := HON.out
           have hR' := hR (.int .i64 (O1 : Int)) _ (Gm.refl _ _ _) rfl
           clear hR hd
           refine opGives_value ?_ hR'
           subst hA
           simp only [dsOf, List.map_cons, List.map_nil, Option.getD_some, putAll, Act.put, List.setIfInBounds_toArray, List.set_cons_zero, List.set_cons_succ]
           go_simp
          ·intro s w_ hb hd hq R hR
           generalize hA : putAll _ 0 s _ = A
           clear hq
           refine stepG_on rfl ?_
           have hR' := hR (.pointer (some ⟨w.heap.size, 0, none⟩)) _ (Gm.refl _ _ _) rfl
           clear hR hd
           refine opGives_value ?_ hR'
           subst hA
           simp only [dsOf, List.map_cons, List.map_nil, Option.getD_some, putAll, Act.put, List.setIfInBounds_toArray, List.set_cons_zero, List.set_cons_succ]
           go_simp
          ·intro s w_ hb hd hq R hR
           generalize hA : putAll _ 0 s _ = A
           clear hq
           refine stepG_on rfl ?_
           have e5 : s 5 = _ := hd 5 (by kernel_rfl)
           have c0 := grown_cell hb.1 c0 hne0
           have hR' := hR (.int .i64 (n : Int)) _ (Gm.refl _ _ _) rfl
           clear hR hd
           refine opGives_value ?_ hR'
           subst hA
           simp only [dsOf, List.map_cons, List.map_nil, Option.getD_some, putAll, Act.put, List.setIfInBounds_toArray, List.set_cons_zero, List.set_cons_succ]
           go_simp
          ·intro s w_ hb hd hq R hR
           generalize hA : putAll _ 0 s _ = A
           clear hq
           refine stepG_on rfl ?_
           have e4 : s 4 = _ := hd 4 (by kernel_rfl)
           have e6 : s 6 = _ := hd 6 (by kernel_rfl)
           have hl1 := HL1.out
           have hR' := hR (.bool true) _ (Gm.refl _ _ _) rfl
           clear hR hd
           refine opGives_value ?_ hR'
           subst hA
           simp only [dsOf, List.map_cons, List.map_nil, Option.getD_some, putAll, Act.put, List.setIfInBounds_toArray, List.set_cons_zero, List.set_cons_succ]
           go_simp
          ·intro s w_ hb hd hq R hR
           generalize hA : putAll _ 0 s _ = A
           clear hq
           refine stepG_on rfl ?_
           have e7 : s 7 = _ := hd 7 (by kernel_rfl)
           have hR' := hR (.bool true) _ (Gm.refl _ _ _) rfl
           clear hR hd
           refine opGives_value ?_ hR'
           subst hA
           simp only [dsOf, List.map_cons, List.map_nil, Option.getD_some, putAll, Act.put, List.setIfInBounds_toArray, List.set_cons_zero, List.set_cons_succ]
           go_simp
          ·intro s w_ hb hd hq R hR
           generalize hA : putAll _ 0 s _ = A
           have eg : s 8 = _ := hd 8 (by kernel_rfl)
           clear hq
           refine stepG_off ?_ (hR undef _ (Gm.refl _ _ _) rfl)
           clear hR hd
           subst hA
           simp only [dsOf, List.map_cons, List.map_nil, Option.getD_some, putAll, Act.put, List.setIfInBounds_toArray, List.set_cons_zero, List.set_cons_succ]
           simp [Region.wanted, yielded, eg]
          ·intro s w_ hb hd hq R hR
           generalize hA : putAll _ 0 s _ = A
           have eg : s 8 = _ := hd 8 (by kernel_rfl)
           clear hq
           refine stepG_off ?_ (hR undef _ (Gm.refl _ _ _) rfl)
           clear hR hd
           subst hA
           simp only [dsOf, List.map_cons, List.map_nil, Option.getD_some, putAll, Act.put, List.setIfInBounds_toArray, List.set_cons_zero, List.set_cons_succ]
           simp [Region.wanted, yielded, eg]
          ·intro s w_ hb hd hq R hR
           generalize hA : putAll _ 0 s _ = A
           have eg : s 8 = _ := hd 8 (by kernel_rfl)
           clear hq
           refine stepG_off ?_ (hR undef _ (Gm.refl _ _ _) rfl)
           clear hR hd
           subst hA
           simp only [dsOf, List.map_cons, List.map_nil, Option.getD_some, putAll, Act.put, List.setIfInBounds_toArray, List.set_cons_zero, List.set_cons_succ]
           simp [Region.wanted, yielded, eg]
          ·intro s w_ hb hd hq R hR
           generalize hA : putAll _ 0 s _ = A
           have eg : s 8 = _ := hd 8 (by kernel_rfl)
           clear hq
           refine stepG_off ?_ (hR undef _ (Gm.refl _ _ _) rfl)
           clear hR hd
           subst hA
           simp only [dsOf, List.map_cons, List.map_nil, Option.getD_some, putAll, Act.put, List.setIfInBounds_toArray, List.set_cons_zero, List.set_cons_succ]
           simp [Region.wanted, yielded, eg]
          ·intro s w_ hb hd hq R hR
           generalize hA : putAll _ 0 s _ = A
           have eg : s 8 = _ := hd 8 (by kernel_rfl)
           clear hq
           refine stepG_off ?_ (hR undef _ (Gm.refl _ _ _) rfl)
           clear hR hd
           subst hA
           simp only [dsOf, List.map_cons, List.map_nil, Option.getD_some, putAll, Act.put, List.setIfInBounds_toArray, List.set_cons_zero, List.set_cons_succ]
           simp [Region.wanted, yielded, eg]
          ·intro s w_ hb hd hq R hR
           generalize hA : putAll _ 0 s _ = A
           have eg : s 8 = _ := hd 8 (by kernel_rfl)
           clear hq
           refine stepG_off ?_ (hR undef _ (Gm.refl _ _ _) rfl)
           clear hR hd
           subst hA
           simp only [dsOf, List.map_cons, List.map_nil, Option.getD_some, putAll, Act.put, List.setIfInBounds_toArray, List.set_cons_zero, List.set_cons_succ]
           simp [Region.wanted, yielded, eg]
          ·intro s w_ hb hd hq R hR
           generalize hA : putAll _ 0 s _ = A
           have eg : s 8 = _ := hd 8 (by kernel_rfl)
           clear hq
           refine stepG_off ?_ (hR undef _ (Gm.refl _ _ _) rfl)
           clear hR hd
           subst hA
           simp only [dsOf, List.map_cons, List.map_nil, Option.getD_some, putAll, Act.put, List.setIfInBounds_toArray, List.set_cons_zero, List.set_cons_succ]
           simp [Region.wanted, yielded, eg]
          ·intro s w_ hb hd hq R hR
           generalize hA : putAll _ 0 s _ = A
           have eg : s 8 = _ := hd 8 (by kernel_rfl)
           clear hq
           refine stepG_off ?_ (hR undef _ (Gm.refl _ _ _) rfl)
           clear hR hd
           subst hA
           simp only [dsOf, List.map_cons, List.map_nil, Option.getD_some, putAll, Act.put, List.setIfInBounds_toArray, List.set_cons_zero, List.set_cons_succ]
           simp [Region.wanted, yielded, eg]
          ·intro s w_ hb hd hq R hR
           generalize hA : putAll _ 0 s _ = A
           have eg : s 8 = _ := hd 8 (by kernel_rfl)
           clear hq
           refine stepG_off ?_ (hR undef _ (Gm.refl _ _ _) rfl)
           clear hR hd
           subst hA
           simp only [dsOf, List.map_cons, List.map_nil, Option.getD_some, putAll, Act.put, List.setIfInBounds_toArray, List.set_cons_zero, List.set_cons_succ]
           simp [Region.wanted, yielded, eg]
          ·intro s w_ hb hd hq R hR
           generalize hA : putAll _ 0 s _ = A
           have eg : s 8 = _ := hd 8 (by kernel_rfl)
           clear hq
           refine stepG_off ?_ (hR undef _ (Gm.refl _ _ _) rfl)
           clear hR hd
           subst hA
           simp only [dsOf, List.map_cons, List.map_nil, Option.getD_some, putAll, Act.put, List.setIfInBounds_toArray, List.set_cons_zero, List.set_cons_succ]
           simp [Region.wanted, yielded, eg]
          ·intro s w_ hb hd hq R hR
           generalize hA : putAll _ 0 s _ = A
           have eg : s 8 = _ := hd 8 (by kernel_rfl)
           clear hq
           refine stepG_off ?_ (hR undef _ (Gm.refl _ _ _) rfl)
           clear hR hd
           subst hA
           simp only [dsOf, List.map_cons, List.map_nil, Option.getD_some, putAll, Act.put, List.setIfInBounds_toArray, List.set_cons_zero, List.set_cons_succ]
           simp [Region.wanted, yielded, eg]
          ·intro s w_ hb hd hq R hR
           generalize hA : putAll _ 0 s _ = A
           have eg : s 8 = _ := hd 8 (by kernel_rfl)
           clear hq
           refine stepG_off ?_ (hR undef _ (Gm.refl _ _ _) rfl)
           clear hR hd
           subst hA
           simp only [dsOf, List.map_cons, List.map_nil, Option.getD_some, putAll, Act.put, List.setIfInBounds_toArray, List.set_cons_zero, List.set_cons_succ]
           simp [Region.wanted, yielded, eg]
          ·intro s w_ hb hd hq R hR
           generalize hA : putAll _ 0 s _ = A
           have eg : s 8 = _ := hd 8 (by kernel_rfl)
           clear hq
           refine stepG_off ?_ (hR undef _ (Gm.refl _ _ _) rfl)
           clear hR hd
           subst hA
           simp only [dsOf, List.map_cons, List.map_nil, Option.getD_some, putAll, Act.put, List.setIfInBounds_toArray, List.set_cons_zero, List.set_cons_succ]
           simp [Region.wanted, yielded, eg]
          ·intro s w_ hb hd hq R hR
           generalize hA : putAll _ 0 s _ = A
           have eg : s 8 = _ := hd 8 (by kernel_rfl)
           clear hq
           refine stepG_off ?_ (hR undef _ (Gm.refl _ _ _) rfl)
           clear hR hd
           subst hA
           simp only [dsOf, List.map_cons, List.map_nil, Option.getD_some, putAll, Act.put, List.setIfInBounds_toArray, List.set_cons_zero, List.set_cons_succ]
           simp [Region.wanted, yielded, eg]
          ·intro s w_ hb hd hq R hR
           generalize hA : putAll _ 0 s _ = A
           have eg : s 8 = _ := hd 8 (by kernel_rfl)
           clear hq
           refine stepG_off ?_ (hR undef _ (Gm.refl _ _ _) rfl)
           clear hR hd
           subst hA
           simp only [dsOf, List.map_cons, List.map_nil, Option.getD_some, putAll, Act.put, List.setIfInBounds_toArray, List.set_cons_zero, List.set_cons_succ]
           simp [Region.wanted, yielded, eg]
          ·intro s w_ hb hd hq R hR
           generalize hA : putAll _ 0 s _ = A
           have eg : s 8 = _ := hd 8 (by kernel_rfl)
           clear hq
           refine stepG_off ?_ (hR undef _ (Gm.refl _ _ _) rfl)
           clear hR hd
           subst hA
           simp only [dsOf, List.map_cons, List.map_nil, Option.getD_some, putAll, Act.put, List.setIfInBounds_toArray, List.set_cons_zero, List.set_cons_succ]
           simp [Region.wanted, yielded, eg]
          ·intro s w_ hb hd hq R hR
           generalize hA : putAll _ 0 s _ = A
           have eg : s 8 = _ := hd 8 (by kernel_rfl)
           clear hq
           refine stepG_off ?_ (hR undef _ (Gm.refl _ _ _) rfl)
           clear hR hd
           subst hA
           simp only [dsOf, List.map_cons, List.map_nil, Option.getD_some, putAll, Act.put, List.setIfInBounds_toArray, List.set_cons_zero, List.set_cons_succ]
           simp [Region.wanted, yielded, eg]
          ·intro s w_ hb hd hq R hR
           generalize hA : putAll _ 0 s _ = A
           clear hq
           refine stepG_on rfl ?_
           have e8 : s 8 = _ := hd 8 (by kernel_rfl)
           have e25 : s 25 = _ := hd 25 (by kernel_rfl)
           have hR' := hR (.bool true) _ (Gm.refl _ _ _) rfl
           clear hR hd
           refine opGives_value ?_ hR'
           subst hA
           simp only [dsOf, List.map_cons, List.map_nil, Option.getD_some, putAll, Act.put, List.setIfInBounds_toArray, List.set_cons_zero, List.set_cons_succ]
           go_simp
         case rest =>
          intro s9 w9 hb hv
          have e26_ : s9 26 = _ := hv 26 (by decide)
          simp only [dsOf, List.map_cons, List.map_nil, Option.getD_some, putAll, Act.put, List.setIfInBounds_toArray, List.set_cons_zero, List.set_cons_succ]
          rw [e26_]
          clear hv e26_
          have HGn := Aside0.mk (grown_trans HGv.out hb.1)
          have HTn := Aside0.mk (hb.2 HTv.out)
          have HO9 := Aside0.mk (HOv.out.grown hb.1 (fun k hk e => own_ne (HOv.out.base k hk) hb3 e))
          have HGx9 := Aside0.mk (grown_trans HGx.out hb.1)
          clear hb
          have hlt := HLT.out
          have h64 := H64.out
          clear hand hor hsh3
          go_wp2_with (first | (at_builtin; refine app_own (w0 := w9) w3.heap.size rfl (.tmp 96) (.tmp 98) rfl _ (bestTo' n xs (pv - 1)) (vq : Int) rfl rfl HO9.out (Below.refl _ _) HGn.out.size HSL.out ?_; intro v1 w6 ho hb hg hat; have HO6 := Aside0.mk ho; have HG6 := Aside0.mk (grown_base HGn.out hb); have HT6 := Aside0.mk (HTn.out.grown' hg (fun e => absurd (HO9.out.base b e.symm) (Nat.not_le.2 hb3))); clear ho hb hg hat))
          go_roundw
          case rel => exact ⟨pv + 1, by go_num, Nat.succ_le_succ (Nat.zero_le _), hlt, by rw [HNX.out]; exact HO6, HG6, HT6⟩
          case measure => exact meas_int hlt
        ·have HL1 : Aside0 ((O1 == (n : Int)) = false) := ⟨l1_no HLO.out hl1⟩
         have hpm := HPM.out vq hbit hl1
         have hp1' := HPYv.out hbit
         have hp2' := HPNv.out hbit
         have ho1' := or_i64 p V (lt_big HPQ.out.1) (lt_big hV)
         have ho2' := or_i64 q V (lt_big HPQ.out.2) (lt_big hV)
         have hx1 := leastV_bd n xs (p ||| V) q
         have hx2 := leastV_bd n xs p (q ||| V)
         have IH1 := Aside0.mk (fun W hk hT => specLeast n hn (.slice A1 xs.length d1) xs b c 7 (p ||| V) q W (lefts_lt hn) hp1' hk hT)
         have IH2 := Aside0.mk (fun W hk hT => specLeast n hn (.slice A1 xs.length d1) xs b c 7 p (q ||| V) W (lefts_lt hn) hp2' hk hT)
         obtain ⟨p1, hp1e⟩ : ∃ p1, p1 = p ||| V := ⟨_, rfl⟩
         obtain ⟨q1, hq1e⟩ : ∃ q1, q1 = q ||| V := ⟨_, rfl⟩
         rw [← hp1e] at ho1' IH1 hx1 HNA
         rw [← hq1e] at ho2' IH2 hx2 HNA
         obtain ⟨x1, hx1'⟩ : ∃ x1, x1 = leastV n xs p1 q := ⟨_, rfl⟩
         obtain ⟨x2, hx2'⟩ : ∃ x2, x2 = leastV n xs p q1 := ⟨_, rfl⟩
         rw [← hx1'] at hx1 IH1 HNA
         rw [← hx2'] at hx2 IH2 HNA
         rw [HNA.out] at hpm
         have HSM := Aside0.mk (sum_wrap hx1.1 hx1.2 hx2.1 hx2.2)
         have HO1 := Aside0.mk ho1'
         have HO2 := Aside0.mk ho2'
         obtain ⟨R0, hR0⟩ : ∃ R0, R0 = (x1 + x2 == X) := ⟨_, rfl⟩
         rw [← hR0] at hpm
         have HR0 := Aside0.mk hR0.symm
         have HPMv := Aside0.mk hpm
         have HVQ := Aside0.mk hvq
         clear hz hbit hl1 hpb hV hvq hv6 hpm hp1' hp2' ho1' ho2' hx1 hx2 hp1e hq1e hx1' hx2' hR0
         go_wp2
         refine wp_region_gg (Gm b (TabI n (leastV n xs) b c)) (fun w => ⟨grown_drew w _, fun h => h.below (Below.refl _ _).drew⟩) (fun _ _ _ => Gm.trans) (fun i => match i with | 0 => fun v _ => v = .int .i64 (p : Int) | 1 => fun v _ => v = .int .i64 (q : Int) | 2 => fun v _ => v = .int .i64 (U : Int) | 3 => fun v _ => v = .int .i64 ((ones U : Nat) : Int) | 4 => fun v _ => v = .int .i64 (O1 : Int) | 5 => fun v _ => v = .pointer (some ⟨w.heap.size, 0, none⟩) | 6 => fun v _ => v = .int .i64 (n : Int) | 7 => fun v _ => v = .bool false | 8 => fun v _ => v = .bool false | 9 => fun v _ => v = .agg #[.int .i64 (n : Int), .slice A1 xs.length d1] | 10 => fun v _ => v = .int .i64 (p : Int) | 11 => fun v _ => v = .int .i64 (V : Int) | 12 => fun v _ => v = .int .i64 (p1 : Int) | 13 => fun v _ => v = .int .i64 (q : Int) | 14 => fun v _ => v = .slice (some ⟨b, 0, none⟩) 4096 c | 15 => fun v _ => v = .int .i64 x1 | 16 => fun v _ => v = .agg #[.int .i64 (n : Int), .slice A1 xs.length d1] | 17 => fun v _ => v = .int .i64 (p : Int) | 18 => fun v _ => v = .int .i64 (q : Int) | 19 => fun v _ => v = .int .i64 (V : Int) | 20 => fun v _ => v = .int .i64 (q1 : Int) | 21 => fun v _ => v = .slice (some ⟨b, 0, none⟩) 4096 c | 22 => fun v _ => v = .int .i64 x2 | 23 => fun v _ => v = .int .i64 (x1 + x2) | 24 => fun v _ => v = .int .i64 X | 25 => fun v _ => v = .bool R0 | 26 => fun v _ => v = .bool R0 | _ => fun _ _ => True)
          [0, 0, 3, 7, 15, 0, 32, 127, 255, 511, 511, 511, 3583, 511, 511, 32767, 511, 511, 511, 511, 786943, 511, 4194303, 8388607, 511, 33554431, 67108863] hmx (by kernel_rfl) ?st ?steps ?rest
         case st =>
          intro i v w1_ w2_ hb
          match i with
          | 0 | 1 | 2 | 3 | 4 | 5 | 6 | 7 | 8 | 9 | 10 | 11 | 12 | 13 | 14 | 15 | 16 | 17 | 18 | 19 | 20 | 21 | 22 | 23 | 24 | 25 | 26 => exact id
          | n + 27 => exact id
         case steps =>
          refine ⟨?_, ?_, ?_, ?_, ?_, ?_, ?_, ?_, ?_, ?_, ?_, ?_, ?_, ?_, ?_, ?_, ?_, ?_, ?_, ?_, ?_, ?_, ?_, ?_, ?_, ?_, ?_, trivial⟩
          ·intro s w_ hb hd hq R hR
           generalize hA : putAll _ 0 s _ = A
           clear hq
           refine stepG_on rfl ?_
           have hR' := hR (.int .i64 (p : Int)) _ (Gm.refl _ _ _) rfl
           clear hR hd
           refine opGives_value ?_ hR'
           subst hA
           simp only [dsOf, List.map_cons, List.map_nil, Option.getD_some, putAll, Act.put, List.setIfInBounds_toArray, List.set_cons_zero, List.set_cons_succ]
           go_simp
          ·intro s w_ hb hd hq R hR
           generalize hA : putAll _ 0 s _ = A
           clear hq
           refine stepG_on rfl ?_
           have hR' := hR (.int .i64 (q : Int)) _ (Gm.refl _ _ _) rfl
           clear hR hd
           refine opGives_value ?_ hR'
           subst hA
           simp only [dsOf, List.map_cons, List.map_nil, Option.getD_some, putAll, Act.put, List.setIfInBounds_toArray, List.set_cons_zero, List.set_cons_succ]
           go_simp
          ·intro s w_ hb hd hq R hR
           generalize hA : putAll _ 0 s _ = A
           clear hq
           refine stepG_on rfl ?_
           have e0 : s 0 = _ := hd 0 (by kernel_rfl)
           have e1 : s 1 = _ := hd 1 (by kernel_rfl)
           have hor := HOR.out
           have hR' := hR (.int .i64 (U : Int)) _ (Gm.refl _ _ _) rfl
           clear hR hd
           refine opGives_value ?_ hR'
           subst hA
           simp only [dsOf, List.map_cons, List.map_nil, Option.getD_some, putAll, Act.put, List.setIfInBounds_toArray, List.set_cons_zero, List.set_cons_succ]
           go_simp
          ·intro s w_ hb hd hq R hR
           generalize hA : putAll _ 0 s _ = A
           clear hq
           refine stepG_on rfl ?_
           have e2 : s 2 = _ := hd 2 (by kernel_rfl)
           refine opGives_call (f := 205) (args := #[.int .i64 (U : Int)]) ?_ ?_
           ·subst hA
            clear hR hd
            simp only [dsOf, List.map_cons, List.map_nil, Option.getD_some, putAll, Act.put, List.setIfInBounds_toArray, List.set_cons_zero, List.set_cons_succ]
            go_simp
           clear hA A hd
           refine (specOnes U hU w_).mono ?_
           rintro e w3_ ⟨rfl, hb3⟩
           exact ⟨_, rfl, hR _ _ ⟨grown_below hb3 _, fun h => h.below hb3⟩ rfl⟩
          ·intro s w_ hb hd hq R hR
           generalize hA : putAll _ 0 s _ = A
           clear hq
           refine stepG_on rfl ?_
           have e3 : s 3 = _ := hd 3 (by kernel_rfl)
           have ho1 := HON.out
           have hR' := hR (.int .i64 (O1 : Int)) _ (Gm.refl _ _ _) rfl
           clear hR hd
           refine opGives_value ?_ hR'
           subst hA
           simp only [dsOf, List.map_cons, List.map_nil, Option.getD_some, putAll, Act.put, List.setIfInBounds_toArray, List.set_cons_zero, List.set_cons_succ]
           go_simp
          ·intro s w_ hb hd hq R hR
           generalize hA : putAll _ 0 s _ = A
           clear hq
           refine stepG_on rfl ?_
           have hR' := hR (.pointer (some ⟨w.heap.size, 0, none⟩)) _ (Gm.refl _ _ _) rfl
           clear hR hd
           refine opGives_value ?_ hR'
           subst hA
           simp only [dsOf, List.map_cons, List.map_nil, Option.getD_some, putAll, Act.put, List.setIfInBounds_toArray, List.set_cons_zero, List.set_cons_succ]
           go_simp
          ·intro s w_ hb hd hq R hR
           generalize hA : putAll _ 0 s _ = A
           clear hq
           refine stepG_on rfl ?_
           have e5 : s 5 = _ := hd 5 (by kernel_rfl)
           have c0 := grown_cell hb.1 c0 hne0
           have hR' := hR (.int .i64 (n : Int)) _ (Gm.refl _ _ _) rfl
           clear hR hd
           refine opGives_value ?_ hR'
           subst hA
           simp only [dsOf, List.map_cons, List.map_nil, Option.getD_some, putAll, Act.put, List.setIfInBounds_toArray, List.set_cons_zero, List.set_cons_succ]
           go_simp
          ·intro s w_ hb hd hq R hR
           generalize hA : putAll _ 0 s _ = A
           clear hq
           refine stepG_on rfl ?_
           have e4 : s 4 = _ := hd 4 (by kernel_rfl)
           have e6 : s 6 = _ := hd 6 (by kernel_rfl)
           have hl1 := HL1.out
           have hR' := hR (.bool false) _ (Gm.refl _ _ _) rfl
           clear hR hd
           refine opGives_value ?_ hR'
           subst hA
           simp only [dsOf, List.map_cons, List.map_nil, Option.getD_some, putAll, Act.put, List.setIfInBounds_toArray, List.set_cons_zero, List.set_cons_succ]
           go_simp
          ·intro s w_ hb hd hq R hR
           generalize hA : putAll _ 0 s _ = A
           clear hq
           refine stepG_on rfl ?_
           have e7 : s 7 = _ := hd 7 (by kernel_rfl)
           have hR' := hR (.bool false) _ (Gm.refl _ _ _) rfl
           clear hR hd
           refine opGives_value ?_ hR'
           subst hA
           simp only [dsOf, List.map_cons, List.map_nil, Option.getD_some, putAll, Act.put, List.setIfInBounds_toArray, List.set_cons_zero, List.set_cons_succ]
           go_simp
          ·intro s w_ hb hd hq R hR
           generalize hA : putAll _ 0 s _ = A
           have eg : s 8 = _ := hd 8 (by kernel_rfl)
           clear hq
           refine stepG_on ?_ ?_
           ·clear hR hd
            subst hA
            simp only [dsOf, List.map_cons, List.map_nil, Option.getD_some, putAll, Act.put, List.setIfInBounds_toArray, List.set_cons_zero, List.set_cons_succ]
            simp [Region.wanted, yielded, eg]
           clear eg
           have c0 := grown_cell hb.1 c0 hne0
           have c1 := grown_cell hb.1 c1 hne0
           have hR' := hR (.agg #[.int .i64 (n : Int), .slice A1 xs.length d1]) _ (Gm.refl _ _ _) rfl
           clear hR hd
           refine opGives_value ?_ hR'
           subst hA
           simp only [dsOf, List.map_cons, List.map_nil, Option.getD_some, putAll, Act.put, List.setIfInBounds_toArray, List.set_cons_zero, List.set_cons_succ]
           go_simp
          ·intro s w_ hb hd hq R hR
           generalize hA : putAll _ 0 s _ = A
           have eg : s 8 = _ := hd 8 (by kernel_rfl)
           clear hq
           refine stepG_on ?_ ?_
           ·clear hR hd
            subst hA
            simp only [dsOf, List.map_cons, List.map_nil, Option.getD_some, putAll, Act.put, List.setIfInBounds_toArray, List.set_cons_zero, List.set_cons_succ]
            simp [Region.wanted, yielded, eg]
           clear eg
           have hR' := hR (.int .i64 (p : Int)) _ (Gm.refl _ _ _) rfl
           clear hR hd
           refine opGives_value ?_ hR'
           subst hA
           simp only [dsOf, List.map_cons, List.map_nil, Option.getD_some, putAll, Act.put, List.setIfInBounds_toArray, List.set_cons_zero, List.set_cons_succ]
           go_simp
          ·intro s w_ hb hd hq R hR
           generalize hA : putAll _ 0 s _ = A
           have eg : s 8 = _ := hd 8 (by kernel_rfl)
           clear hq
           refine stepG_on ?_ ?_
           ·clear hR hd
            subst hA
            simp only [dsOf, List.map_cons, List.map_nil, Option.getD_some, putAll, Act.put, List.setIfInBounds_toArray, List.set_cons_zero, List.set_cons_succ]
            simp [Region.wanted, yielded, eg]
           clear eg
           have hR' := hR (.int .i64 (V : Int)) _ (Gm.refl _ _ _) rfl
           clear hR hd
           refine opGives_value ?_ hR'
           subst hA
           simp only [dsOf, List.map_cons, List.map_nil, Option.getD_some, putAll, Act.put, List.setIfInBounds_toArray, List.set_cons_zero, List.set_cons_succ]
           go_simp
          ·intro s w_ hb hd hq R hR
           generalize hA : putAll _ 0 s _ = A
           have eg : s 8 = _ := hd 8 (by kernel_rfl)
           clear hq
           refine stepG_on ?_ ?_
           ·clear hR hd
            subst hA
            simp only [dsOf, List.map_cons, List.map_nil, Option.getD_some, putAll, Act.put, List.setIfInBounds_toArray, List.set_cons_zero, List.set_cons_succ]
            simp [Region.wanted, yielded, eg]
           clear eg
           have e10 : s 10 = _ := hd 10 (by kernel_rfl)
           have e11 : s 11 = _ := hd 11 (by kernel_rfl)
           have hop := HO1.out
           have hR' := hR (.int .i64 (p1 : Int)) _ (Gm.refl _ _ _) rfl
           clear hR hd
           refine opGives_value ?_ hR'
           subst hA
           simp only [dsOf, List.map_cons, List.map_nil, Option.getD_some, putAll, Act.put, List.setIfInBounds_toArray, List.set_cons_zero, List.set_cons_succ]
           go_simp
          ·intro s w_ hb hd hq R hR
           generalize hA : putAll _ 0 s _ = A
           have eg : s 8 = _ := hd 8 (by kernel_rfl)
           clear hq
           refine stepG_on ?_ ?_
           ·clear hR hd
            subst hA
            simp only [dsOf, List.map_cons, List.map_nil, Option.getD_some, putAll, Act.put, List.setIfInBounds_toArray, List.set_cons_zero, List.set_cons_succ]
            simp [Region.wanted, yielded, eg]
           clear eg
           have hR' := hR (.int .i64 (q : Int)) _ (Gm.refl _ _ _) rfl
           clear hR hd
           refine opGives_value ?_ hR'
           subst hA
           simp only [dsOf, List.map_cons, List.map_nil, Option.getD_some, putAll, Act.put, List.setIfInBounds_toArray, List.set_cons_zero, List.set_cons_succ]
           go_simp
          ·intro s w_ hb hd hq R hR
           generalize hA : putAll _ 0 s _ = A
           have eg : s 8 = _ := hd 8 (by kernel_rfl)
           clear hq
           refine stepG_on ?_ ?_
           ·clear hR hd
            subst hA
            simp only [dsOf, List.map_cons, List.map_nil, Option.getD_some, putAll, Act.put, List.setIfInBounds_toArray, List.set_cons_zero, List.set_cons_succ]
            simp [Region.wanted, yielded, eg]
           clear eg
           have hR' := hR (.slice (some ⟨b, 0, none⟩) 4096 c) _ (Gm.refl _ _ _) rfl
           clear hR hd
           refine opGives_value ?_ hR'
           subst hA
           simp only [dsOf, List.map_cons, List.map_nil, Option.getD_some, putAll, Act.put, List.setIfInBounds_toArray, List.set_cons_zero, List.set_cons_succ]
           go_simp
          ·intro s w_ hb hd hq R hR
           generalize hA : putAll _ 0 s _ = A
           have eg : s 8 = _ := hd 8 (by kernel_rfl)
           clear hq
           refine stepG_on ?_ ?_
           ·clear hR hd
            subst hA
            simp only [dsOf, List.map_cons, List.map_nil, Option.getD_some, putAll, Act.put, List.setIfInBounds_toArray, List.set_cons_zero, List.set_cons_succ]
            simp [Region.wanted, yielded, eg]
           clear eg
           have e9 : s 9 = _ := hd 9 (by kernel_rfl)
           have e12 : s 12 = _ := hd 12 (by kernel_rfl)
           have e13 : s 13 = _ := hd 13 (by kernel_rfl)
           have e14 : s 14 = _ := hd 14 (by kernel_rfl)
           refine opGives_call (f := 204) (args := #[.agg #[.int .i64 (n : Int), .slice A1 xs.length d1], .int .i64 ((p1 : Nat) : Int), .int .i64 ((q : Nat) : Int), .slice (some ⟨b, 0, none⟩) 4096 c]) ?_ ?_
           ·subst hA
            clear hR hd
            simp only [dsOf, List.map_cons, List.map_nil, Option.getD_some, putAll, Act.put, List.setIfInBounds_toArray, List.set_cons_zero, List.set_cons_succ]
            go_simp
           clear hA A hd
           refine (IH1.out w_ (HKv.out.go hb.1) (hb.2 HTv.out)).mono ?_
           rintro e w3_ ⟨rfl, hg, hT⟩
           exact ⟨_, rfl, hR _ _ ⟨hg, fun _ => hT⟩ rfl⟩
          ·intro s w_ hb hd hq R hR
           generalize hA : putAll _ 0 s _ = A
           have eg : s 8 = _ := hd 8 (by kernel_rfl)
           clear hq
           refine stepG_on ?_ ?_
           ·clear hR hd
            subst hA
            simp only [dsOf, List.map_cons, List.map_nil, Option.getD_some, putAll, Act.put, List.setIfInBounds_toArray, List.set_cons_zero, List.set_cons_succ]
            simp [Region.wanted, yielded, eg]
           clear eg
           have c0 := grown_cell hb.1 c0 hne0
           have c1 := grown_cell hb.1 c1 hne0
           have hR' := hR (.agg #[.int .i64 (n : Int), .slice A1 xs.length d1]) _ (Gm.refl _ _ _) rfl
           clear hR hd
           refine opGives_value ?_ hR'
           subst hA
           simp only [dsOf, List.map_cons, List.map_nil, Option.getD_some, putAll, Act.put, List.setIfInBounds_toArray, List.set_cons_zero, List.set_cons_succ]
           go_simp
          ·intro s w_ hb hd hq R hR
           generalize hA : putAll _ 0 s _ = A
           have eg : s 8 = _ := hd 8 (by kernel_rfl)
           clear hq
           refine stepG_on ?_ ?_
           ·clear hR hd
            subst hA
            simp only [dsOf, List.map_cons, List.map_nil, Option.getD_some, putAll, Act.put, List.setIfInBounds_toArray, List.set_cons_zero, List.set_cons_succ]
            simp [Region.wanted, yielded, eg]
           clear eg
           have hR' := hR (.int .i64 (p : Int)) _ (Gm.refl _ _ _) rfl
           clear hR hd
           refine opGives_value ?_ hR'
           subst hA
           simp only [dsOf, List.map_cons, List.map_nil, Option.getD_some, putAll, Act.put, List.setIfInBounds_toArray, List.set_cons_zero, List.set_cons_succ]
           go_simp
          ·intro s w_ hb hd hq R hR
           generalize hA : putAll _ 0 s _ = A
           have eg : s 8 = _ := hd 8 (by kernel_rfl)
           clear hq
           refine stepG_on ?_ ?_
           ·clear hR hd
            subst hA
            simp only [dsOf, List.map_cons, List.map_nil, Option.getD_some, putAll, Act.put, List.setIfInBounds_toArray, List.set_cons_zero, List.set_cons_succ]
            simp [Region.wanted, yielded, eg]
           clear eg
           have hR' := hR (.int .i64 (q : Int)) _ (Gm.refl _ _ _) rfl
           clear hR hd
           refine opGives_value ?_ hR'
           subst hA
           simp only [dsOf, List.map_cons, List.map_nil, Option.getD_some, putAll, Act.put, List.setIfInBounds_toArray, List.set_cons_zero, List.set_cons_succ]
           go_simp
          ·intro s w_ hb hd hq R hR
           generalize hA : putAll _ 0 s _ = A
           have eg : s 8 = _ := hd 8 (by kernel_rfl)
           clear hq
           refine stepG_on ?_ ?_
           ·clear hR hd
            subst hA
            simp only [dsOf, List.map_cons, List.map_nil, Option.getD_some, putAll, Act.put, List.setIfInBounds_toArray, List.set_cons_zero, List.set_cons_succ]
            simp [Region.wanted, yielded, eg]
           clear eg
           have hR' := hR (.int .i64 (V : Int)) _ (Gm.refl _ _ _) rfl
           clear hR hd
           refine opGives_value ?_ hR'
           subst hA
           simp only [dsOf, List.map_cons, List.map_nil, Option.getD_some, putAll, Act.put, List.setIfInBounds_toArray, List.set_cons_zero, List.set_cons_succ]
           go_simp
          ·intro s w_ hb hd hq R hR
           generalize hA : putAll _ 0 s _ = A
           have eg : s 8 = _ := hd 8 (by kernel_rfl)
           clear hq
           refine stepG_on ?_ ?_
           ·clear hR hd
            subst hA
            simp only [dsOf, List.map_cons, List.map_nil, Option.getD_some, putAll, Act.put, List.setIfInBounds_toArray, List.set_cons_zero, List.set_cons_succ]
            simp [Region.wanted, yielded, eg]
           clear eg
           have e18 : s 18 = _ := hd 18 (by kernel_rfl)
           have e19 : s 19 = _ := hd 19 (by kernel_rfl)
           have hoq := HO2.out
           have hR' := hR (.int .i64 (q1 : Int)) _ (Gm.refl _ _ _) rfl
           clear hR hd
           refine opGives_value ?_ hR'
           subst hA
           simp only [dsOf, List.map_cons, List.map_nil, Option.getD_some, putAll, Act.put, List.setIfInBounds_toArray, List.set_cons_zero, List.set_cons_succ]
           go_simp
          ·intro s w_ hb hd hq R hR
           generalize hA : putAll _ 0 s _ = A
           have eg : s 8 = _ := hd 8 (by kernel_rfl)
           clear hq
           refine stepG_on ?_ ?_
           ·clear hR hd
            subst hA
            simp only [dsOf, List.map_cons, List.map_nil, Option.getD_some, putAll, Act.put, List.setIfInBounds_toArray, List.set_cons_zero, List.set_cons_succ]
            simp [Region.wanted, yielded, eg]
           clear eg
           have hR' := hR (.slice (some ⟨b, 0, none⟩) 4096 c) _ (Gm.refl _ _ _) rfl
           clear hR hd
           refine opGives_value ?_ hR'
           subst hA
           simp only [dsOf, List.map_cons, List.map_nil, Option.getD_some, putAll, Act.put, List.setIfInBounds_toArray, List.set_cons_zero, List.set_cons_succ]
           go_simp
          ·intro s w_ hb hd hq R hR
           generalize hA : putAll _ 0 s _ = A
           have eg : s 8 = _ := hd 8 (by kernel_rfl)
           clear hq
           refine stepG_on ?_ ?_
           ·clear hR hd
            subst hA
            simp only [dsOf, List.map_cons, List.map_nil, Option.getD_some, putAll, Act.put, List.setIfInBounds_toArray, List.set_cons_zero, List.set_cons_succ]
            simp [Region.wanted, yielded, eg]
           clear eg
           have e16 : s 16 = _ := hd 16 (by kernel_rfl)
           have e17 : s 17 = _ := hd 17 (by kernel_rfl)
           have e20 : s 20 = _ := hd 20 (by kernel_rfl)
           have e21 : s 21 = _ := hd 21 (by kernel_rfl)
           refine opGives_call (f := 204) (args := #[.agg #[.int .i64 (n : Int), .slice A1 xs.length d1], .int .i64 ((p : Nat) : Int), .int .i64 ((q1 : Nat) : Int), .slice (some ⟨b, 0, none⟩) 4096 c]) ?_ ?_
           ·subst hA
            clear hR hd
            simp only [dsOf, List.map_cons, List.map_nil, Option.getD_some, putAll, Act.put, List.setIfInBounds_toArray, List.set_cons_zero, List.set_cons_succ]
            go_simp
           clear hA A hd
           refine (IH2.out w_ (HKv.out.go hb.1) (hb.2 HTv.out)).mono ?_
           rintro e w3_ ⟨rfl, hg, hT⟩
           exact ⟨_, rfl, hR _ _ ⟨hg, fun _ => hT⟩ rfl⟩
          ·intro s w_ hb hd hq R hR
           generalize hA : putAll _ 0 s _ = A
           have eg : s 8 = _ := hd 8 (by kernel_rfl)
           clear hq
           refine stepG_on ?_ ?_
           ·clear hR hd
            subst hA
            simp only [dsOf, List.map_cons, List.map_nil, Option.getD_some, putAll, Act.put, List.setIfInBounds_toArray, List.set_cons_zero, List.set_cons_succ]
            simp [Region.wanted, yielded, eg]
           clear eg
           have e15 : s 15 = _ := hd 15 (by kernel_rfl)
           have e22 : s 22 = _ := hd 22 (by kernel_rfl)
           have hsm := HSM.out
           have hR' := hR (.int .i64 (x1 + x2)) _ (Gm.refl _ _ _) rfl
           clear hR hd
           refine opGives_value ?_ hR'
           subst hA
           simp only [dsOf, List.map_cons, List.map_nil, Option.getD_some, putAll, Act.put, List.setIfInBounds_toArray, List.set_cons_zero, List.set_cons_succ]
           go_simp
          ·intro s w_ hb hd hq R hR
           generalize hA : putAll _ 0 s _ = A
           have eg : s 8 = _ := hd 8 (by kernel_rfl)
           clear hq
           refine stepG_on ?_ ?_
           ·clear hR hd
            subst hA
            simp only [dsOf, List.map_cons, List.map_nil, Option.getD_some, putAll, Act.put, List.setIfInBounds_toArray, List.set_cons_zero, List.set_cons_succ]
            simp [Region.wanted, yielded, eg]
           clear eg
           have hR' := hR (.int .i64 X) _ (Gm.refl _ _ _) rfl
           clear hR hd
           refine opGives_value ?_ hR'
           subst hA
           simp only [dsOf, List.map_cons, List.map_nil, Option.getD_some, putAll, Act.put, List.setIfInBounds_toArray, List.set_cons_zero, List.set_cons_succ]
           go_simp
          ·intro s w_ hb hd hq R hR
           generalize hA : putAll _ 0 s _ = A
           have eg : s 8 = _ := hd 8 (by kernel_rfl)
           clear hq
           refine stepG_on ?_ ?_
           ·clear hR hd
            subst hA
            simp only [dsOf, List.map_cons, List.map_nil, Option.getD_some, putAll, Act.put, List.setIfInBounds_toArray, List.set_cons_zero, List.set_cons_succ]
            simp [Region.wanted, yielded, eg]
           clear eg
           have e23 : s 23 = _ := hd 23 (by kernel_rfl)
           have e24 : s 24 = _ := hd 24 (by kernel_rfl)
           have hr0 := HR0.out
           have hR' := hR (.bool R0) _ (Gm.refl _ _ _) rfl
           clear hR hd
           refine opGives_value ?_ hR'
           subst hA
           simp only [dsOf, List.map_cons, List.map_nil, Option.getD_some, putAll, Act.put, List.setIfInBounds_toArray, List.set_cons_zero, List.set_cons_succ]
           go_simp
          ·intro s w_ hb hd hq R hR
           generalize hA : putAll _ 0 s _ = A
           clear hq
           refine stepG_on rfl ?_
           have e8 : s 8 = _ := hd 8 (by kernel_rfl)
           have e25 : s 25 = _ := hd 25 (by kernel_rfl)
           have hR' := hR (.bool R0) _ (Gm.refl _ _ _) rfl
           clear hR hd
           refine opGives_value ?_ hR'
           subst hA
           simp only [dsOf, List.map_cons, List.map_nil, Option.getD_some, putAll, Act.put, List.setIfInBounds_toArray, List.set_cons_zero, List.set_cons_succ]
           go_simp
         case rest =>
          intro s9 w9 hb hv
          have e26_ : s9 26 = _ := hv 26 (by decide)
          simp only [dsOf, List.map_cons, List.map_nil, Option.getD_some, putAll, Act.put, List.setIfInBounds_toArray, List.set_cons_zero, List.set_cons_succ]
          rw [e26_]
          clear hv e26_
          have HGn := Aside0.mk (grown_trans HGv.out hb.1)
          have HTn := Aside0.mk (hb.2 HTv.out)
          have HO9 := Aside0.mk (HOv.out.grown hb.1 (fun k hk e => own_ne (HOv.out.base k hk) hb3 e))
          have HGx9 := Aside0.mk (grown_trans HGx.out hb.1)
          clear hb
          have HGxn := Aside0.mk (HGx9.out)
          cases R0 with
          | true =>
           have hve : vq = v0 := by
            rcases Nat.lt_or_ge vq v0 with h | h
            ·exfalso
             have h3 := HPMv.out
             rw [HV2.out vq h] at h3
             cases h3
            ·exact Nat.le_antisymm HVQ.out h
           obtain rfl := hve
           have hlt := HLT.out
           have h64 := H64.out
           clear hand hor hsh3
           go_wp2_with (first | (at_builtin; refine app_own (w0 := w9) w3.heap.size rfl (.tmp 96) (.tmp 98) rfl _ (bestTo' n xs (pv - 1)) (vq : Int) rfl rfl HO9.out (Below.refl _ _) HGn.out.size HSL.out ?_; intro v1 w6 ho hb hg hat; have HO6 := Aside0.mk ho; have HG6 := Aside0.mk (grown_base HGn.out hb); have HT6 := Aside0.mk (HTn.out.grown' hg (fun e => absurd (HO9.out.base b e.symm) (Nat.not_le.2 hb3))); clear ho hb hg hat))
           go_roundw
           case rel => exact ⟨pv + 1, by go_num, Nat.succ_le_succ (Nat.zero_le _), hlt, by rw [HNX.out]; exact HO6, HG6, HT6⟩
           case measure => exact meas_int hlt
          | false =>
           have hlt2 : vq < v0 := by
            rcases Nat.lt_or_ge vq v0 with h | h
            ·exact h
            ·exfalso
             have e : vq = v0 := Nat.le_antisymm HVQ.out h
             have h3 := HPMv.out
             rw [e, HV3.out] at h3
             cases h3
           have HLT2 := Aside0.mk hlt2
           clear hlt2
           go_wp2
           go_roundw
           case rel => exact ⟨vq + 1, rfl, by go_num, HLT2.out, HGxn, HTn⟩
           case measure => exact meas_int HLT2.out
   ·have e : pv = N := by omega
    have HE := Aside0.mk e
    clear e
    go_wp2
    go_ret2
    refine ⟨_, by rw [HA.out]; rfl, ?_, ?_⟩
    ·rw [HA.out]
     show OwnI _ _ _ (bestTo' n xs (N - 1))
     rw [← HE.out]
     exact HO.out.lower (by have := HB2.out.size; have := HB3.out.size; omega)
    ·have h1 := HB.out.size
     have h2 := HB2.out.size
     have h3 := HB3.out.size
     exact HB.out.trans ((HB2.out.mono h1).trans ((HB3.out.mono (by omega)).trans (below_grown HGr.out (by omega) (by omega))))
end Go.Proofs.YtkggchklmpmgpaaGreat.H
