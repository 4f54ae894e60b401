/- TreeOfOrder of the reference. -/
import Derived.Test.YteeanddkkmelnaaOrdI
namespace Go.Proofs.Yteeanddkkmelnaa.H
open Go.RowKit Go.Proofs.YteeanddkkmelnaaW.PrintWords Go.Proofs.YteeanddkkmelnaaW.PrintLast Go.Proofs.YteeanddkkmelnaaW.PrintMore
set_option linter.unusedVariables false
set_option linter.unusedSimpArgs false

theorem own_empty0 {b : Nat} (w : World) (hb : b ≤ w.heap.size) : OwnI b (w.alloc (.cells #[] 2)) (.slice (some ⟨w.heap.size, 0, none⟩) 0 0) [] :=
  OwnI.of_row (xs := []) ⟨rfl, .inr ⟨w.heap.size, 0, #[], rfl, hb, heap_alloc_new w _, Nat.le_refl _, by decide, rfl, rfl⟩⟩ (Nat.le_refl _)
/-- the depth that the loop has before place p -/
def depB (p : Nat) : Int := if p ≤ 1 then -1 else (Nat.log2 (p - 1) : Nat)
theorem dep_all : ∀ p, p < 64 → (p == 0 || (if p &&& (p - 1) == 0 then depB p == (Nat.log2 p : Int) - 1 else depB p == (Nat.log2 p : Int))) = true := by decide +kernel
theorem dep_two {p : Nat} (h1 : 1 ≤ p) (h2 : p < 64) : if p &&& (p - 1) = 0 then depB p = (Nat.log2 p : Int) - 1 else depB p = (Nat.log2 p : Int) := by
  have h := dep_all p h2
  have h0 : (p == 0) = false := by simp; omega
  rw [h0, Bool.false_or] at h
  by_cases hq : p &&& (p - 1) = 0
  · rw [if_pos (by simp [hq])] at h
    rw [if_pos hq]; simpa using h
  · rw [if_neg (by simp [hq])] at h
    rw [if_neg hq]; simpa using h
theorem dep_succ {p : Nat} (h1 : 1 ≤ p) : depB (p + 1) = (Nat.log2 p : Int) := by
  unfold depB
  rw [if_neg (by omega), Nat.add_sub_cancel]

set_option maxRecDepth 100000 in
set_option maxHeartbeats 4000000 in
theorem specTreeOfOrder (a : Int) (v : Value) (o : List Int) (w : World) (hr : ReadI w v o) :
    Calls Try.prog 12 #[.int .i64 a, v] w fun e w' => ∃ u, e = .returned (.tuple #[u, .int .i64 (ansTreeOfOrder a o).2]) ∧ OwnI w.heap.size w' u (ansTreeOfOrder a o).1 ∧ Below w.heap.size w w' := by
  obtain ⟨A1, d1, rfl, hcc, hr⟩ := hr
  have HR := Aside0.mk hr
  have hlen := hr.2.1
  clear hr hcc
  cases hs : (decide (1 ≤ a) && decide (a ≤ 6)) with
  | false =>
    have HA : Aside0 (ansTreeOfOrder a o = ([], 2)) := ⟨by unfold ansTreeOfOrder; rw [hs, Bool.false_and, if_neg (by decide)]⟩
    go_enter Try.func12, Try.ntmps12
    go_wp2_with (first | (go_at_call 25; refine (specIn _ _ _ _).mono ?_; rintro e w2 ⟨rfl, hb⟩; rw [hs]; have HB2 := Aside0.mk hb; clear hb))
    go_ret2
    exact ⟨_, by rw [HA.out]; rfl, by rw [HA.out]; exact OwnI.nil _ _, HB2.out⟩
  | true =>
    have ha := hs
    simp only [Bool.and_eq_true, decide_eq_true_eq] at ha
    obtain ⟨n, rfl⟩ : ∃ n : Nat, a = n := ⟨a.toNat, by omega⟩
    have h1 : 1 ≤ n := by omega
    have hn : n ≤ 6 := by omega
    clear ha
    by_cases hol : o.length = n
    · have hlb : ((o.length : Int) != (n : Int)) = false := by simp; omega
      have HTO := Aside0.mk (tree_order h1 hn hol)
      have HLG : Aside0 (∀ p, 1 ≤ p → p < 2 ^ n → Nat.log2 p < o.length) := ⟨fun p hp1 hp2 => by rw [hol]; exact log2_lt hn hp1 hp2⟩
      have hb64 : 2 ≤ 2 ^ n ∧ 2 ^ n ≤ 64 := by
        rcases (by omega : n = 1 ∨ n = 2 ∨ n = 3 ∨ n = 4 ∨ n = 5 ∨ n = 6) with rfl | rfl | rfl | rfl | rfl | rfl <;> decide
      have hsh := pow_wrap n (by omega)
      have HA : Aside0 (ansTreeOfOrder n o = if ordOk n o then (treeTo o (2 ^ n - 1), 0) else ([], 2)) := ⟨by unfold ansTreeOfOrder; rw [Int.toNat_natCast, hs, Bool.true_and]⟩
      obtain ⟨N, hN⟩ : ∃ N : Nat, N = 2 ^ n := ⟨_, rfl⟩
      rw [← hN] at hb64 hsh HLG HA HTO
      clear hN hol
      go_enter Try.func12, Try.ntmps12
      go_wp2_with (first | (go_at_call 25; refine (specIn _ _ _ _).mono ?_; rintro e w2 ⟨rfl, hb⟩; rw [hs]; have HB2 := Aside0.mk hb; clear hb))
      go_loopw [6, 7, 8] (fun s6 s7 s8 wr => ∃ i : Nat, s8 = .int .i64 (i : Int) ∧ 1 ≤ i ∧ i ≤ N ∧ s7 = .int .i64 (depB i) ∧ Aside0 (OwnI w.heap.size wr s6 (treeTo o (i - 1))) ∧ Aside0 (Below w.heap.size w wr)) (fun _ _ s8 _ => N - (intOf s8).toNat)
      case atStart => exact ⟨1, rfl, Nat.le_refl _, by omega, rfl, ⟨(own_empty0 w2 (Nat.le_refl _)).lower HB2.out.size⟩, ⟨HB2.out.alloc HB2.out.size _⟩⟩
      case round =>
        obtain ⟨i, rfl, hi1, hiN, rfl, HO, HBw⟩ := hrel
        by_cases hlt : i < N
        · have hL := HLG.out i hi1 hlt
          have hdp := dep_two hi1 (by omega : i < 64)
          have HDS := Aside0.mk (dep_succ hi1)
          obtain ⟨L, hLe⟩ : ∃ L, L = Nat.log2 i := ⟨_, rfl⟩
          have HT : Aside0 (treeTo o i = treeTo o (i - 1) ++ [o.getD L 0]) := ⟨by have := treeTo_succ o (i - 1); rw [show i - 1 + 1 = i by omega] at this; rw [hLe]; exact this⟩
          rw [← hLe] at hL hdp HDS
          obtain ⟨ad, y, rfl, hcell, HY⟩ := ReadI.get (Kd.C_below HR.out HBw.out) hL
          have hll : (treeTo o (i - 1)).length ≤ 63 := by rw [treeTo_len]; omega
          have hand : bits .and .i64 (i : Int) ((i : Int) - 1) = ((i &&& (i - 1) : Nat) : Int) := by
            have := and_i64 i (i - 1) (by omega) (by omega)
            rwa [show ((i - 1 : Nat) : Int) = (i : Int) - 1 by omega] at this
          obtain ⟨q, hq⟩ : ∃ q, q = i &&& (i - 1) := ⟨_, rfl⟩
          rw [← hq] at hand hdp
          obtain ⟨D, hD⟩ : ∃ D, D = depB i := ⟨_, rfl⟩
          rw [← hD] at hdp ⊢
          clear hLe hq hD
          by_cases hq0 : q = 0
          · rw [if_pos hq0] at hdp
            subst hdp
            have hqb : (((q : Nat) : Int) == 0) = true := by simp [hq0]
            clear hq0
            go_wp2_with (first | (at_builtin; refine app_own (w0 := w) w.heap.size rfl (.tmp 33) (.tmp 38) rfl _ (treeTo o (i - 1)) y rfl rfl HO.out HBw.out HBw.out.size ?hl ?_; (case hl => omega); intro v1 w6 ho hb hg hat; have HO1 := Aside0.mk ho; have HB1 := Aside0.mk hb; clear ho hb hg hat))
            go_roundw
            case rel => exact ⟨i + 1, by go_num, by omega, by omega, by rw [HDS.out], ⟨by rw [Nat.add_sub_cancel, HT.out, HY.out]; exact HO1.out⟩, HB1⟩
            case measure => simp [intOf]; omega
          · rw [if_neg hq0] at hdp
            subst hdp
            have hqb : (((q : Nat) : Int) == 0) = false := by simp; omega
            clear hq0
            go_wp2_with (first | (at_builtin; refine app_own (w0 := w) w.heap.size rfl (.tmp 33) (.tmp 38) rfl _ (treeTo o (i - 1)) y rfl rfl HO.out HBw.out HBw.out.size ?hl ?_; (case hl => omega); intro v1 w6 ho hb hg hat; have HO1 := Aside0.mk ho; have HB1 := Aside0.mk hb; clear ho hb hg hat))
            go_roundw
            case rel => exact ⟨i + 1, by go_num, by omega, by omega, by rw [HDS.out], ⟨by rw [Nat.add_sub_cancel, HT.out, HY.out]; exact HO1.out⟩, HB1⟩
            case measure => simp [intOf]; omega
        · have e : i = N := by omega
          have HTR := Aside0.mk (specTree _ (treeTo o (i - 1)) n ⟨h1, hn⟩ wr HO.out.read)
          have HAA := HA.out
          rw [← HTO.out, ← e] at HAA
          have HAB := Aside0.mk HAA
          obtain ⟨Av, cv, rfl, -⟩ := HO.out.read
          clear HAA e
          cases hok : treeOk n (treeTo o (i - 1)) with
          | true =>
            go_wp2_with (first | (go_at_call 26; refine HTR.out.mono ?_; rintro e w5 ⟨rfl, hb⟩; rw [hok]; have HO5 := Aside0.mk (OwnI.below HO.out hb); have HB5 := Aside0.mk (HBw.out.trans (hb.mono HBw.out.size)); clear hb))
            go_ret2
            exact ⟨_, by rw [HAB.out, hok]; rfl, by rw [HAB.out, hok]; exact HO5.out, HB5.out⟩
          | false =>
            go_wp2_with (first | (go_at_call 26; refine HTR.out.mono ?_; rintro e w5 ⟨rfl, hb⟩; rw [hok]; have HB5 := Aside0.mk (HBw.out.trans (hb.mono HBw.out.size)); clear hb))
            go_ret2
            exact ⟨_, by rw [HAB.out, hok]; rfl, by rw [HAB.out, hok]; exact OwnI.nil _ _, HB5.out⟩
    · have hlb : ((o.length : Int) != (n : Int)) = true := by simp; omega
      have HA : Aside0 (ansTreeOfOrder n o = ([], 2)) := ⟨by unfold ansTreeOfOrder ordOk; rw [Int.toNat_natCast, decide_eq_false hol, Bool.false_and, Bool.and_false, Bool.and_false, if_neg (by decide)]⟩
      clear hol
      go_enter Try.func12, Try.ntmps12
      go_wp2_with (first | (go_at_call 25; refine (specIn _ _ _ _).mono ?_; rintro e w2 ⟨rfl, hb⟩; rw [hs]; have HB2 := Aside0.mk hb; clear hb))
      go_ret2
      exact ⟨_, by rw [HA.out]; rfl, by rw [HA.out]; exact OwnI.nil _ _, HB2.out⟩
end Go.Proofs.Yteeanddkkmelnaa.H
