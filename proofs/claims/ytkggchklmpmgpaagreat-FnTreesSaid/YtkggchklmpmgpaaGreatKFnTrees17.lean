/- TreeOfOrder of the program. LeastEvaders of the program and of the reference. What the answers about trees have in common (plain). -/
import Derived.Test.YtkggchklmpmgpaaGreatKFnTrees1
import Derived.Test.YtkggchklmpmgpaaGreatKFnTrees2
import Derived.Test.YtkggchklmpmgpaaGreatKFnTrees3
import Derived.Test.YtkggchklmpmgpaaGreatKFnTrees4
import Derived.Test.YtkggchklmpmgpaaGreatKFnTrees5
import Derived.Test.YtkggchklmpmgpaaGreatKFnTrees6
import Derived.Test.YtkggchklmpmgpaaGreatKFnTrees7
import Derived.Test.YtkggchklmpmgpaaGreatKFnTrees8
import Derived.Test.YtkggchklmpmgpaaGreatKFnTrees9
import Derived.Test.YtkggchklmpmgpaaGreatKFnTrees10
import Derived.Test.YtkggchklmpmgpaaGreatKFnTrees11
import Derived.Test.YtkggchklmpmgpaaGreatKFnTrees12
import Derived.Test.YtkggchklmpmgpaaGreatKFnTrees13
import Derived.Test.YtkggchklmpmgpaaGreatKFnTrees14
import Derived.Test.YtkggchklmpmgpaaGreatKFnTrees15
import Derived.Test.YtkggchklmpmgpaaGreatKFnTrees16

namespace Go.Proofs.YtkggchklmpmgpaaGreat.H
open Go.RowKit Go.Proofs.YtkggchklmpmgpaaGreatW.PrintWords Go.Proofs.YtkggchklmpmgpaaGreatW.PrintLast
set_option linter.unusedVariables false
set_option linter.unusedSimpArgs false
/-- what TreeOfOrder answers -/
def ansTreeOfOrder (a : Int) (o : List Int) : List Int × Int :=
 if decide (1 ≤ a) && decide (a ≤ 6) && ordOk a.toNat o then (treeTo o (2 ^ a.toNat - 1), 0) else ([], 2)
set_option maxRecDepth 100000 in
set_option maxHeartbeats 2000000 in
theorem implTreeOfOrder (a : Int) (v : Value) (o : List Int) (w : World) (hr : ReadI w v o) :
  Calls Tryz.prog 60 #[.int .i64 a, v] w fun e w' => ∃ u, e = .returned (.tuple #[u, .int .i64 (ansTreeOfOrder a o).2]) ∧ OwnI w.heap.size w' u (ansTreeOfOrder a o).1 ∧ Below w.heap.size w w' := by
 have HV := Aside0.mk hr
 obtain ⟨A1, d1, rfl, hcc, hr⟩ := hr
 have HR := Aside0.mk hr
 have hlen := hr.2.1
 clear hr hcc
 cases hs : (decide (1 ≤ a) && decide (a ≤ 6)) with
 | false =>
  have HA : Aside0 (ansTreeOfOrder a o = ([], 2)) := ⟨by unfold ansTreeOfOrder; rw [hs, Bool.false_and, if_neg (by decide)]⟩
  go_enter Tryz.func60, Tryz.ntmps60
  go_wp2_with (first | (go_at_call 151; refine (isSize _ _).mono ?_; rintro e w2 ⟨rfl, hb⟩; rw [hs]; have HB2 := Aside0.mk hb; clear hb))
  go_ret2
  exact ⟨_, by rw [HA.out]; rfl, by rw [HA.out]; exact OwnI.nil _ _, HB2.out⟩
 | true =>
  have ha := hs
  simp only [Bool.and_eq_true, decide_eq_true_eq] at ha
  obtain ⟨n, rfl⟩ : ∃ n : Nat, a = n := ⟨a.toNat, by omega⟩
  have h1 : 1 ≤ n := by omega
  have hn : n ≤ 6 := by omega
  clear ha
  cases ho : ordOk n o with
  | false =>
   have HA : Aside0 (ansTreeOfOrder n o = ([], 2)) := ⟨by unfold ansTreeOfOrder; rw [Int.toNat_natCast, ho, Bool.and_false, if_neg (by decide)]⟩
   go_enter Tryz.func60, Tryz.ntmps60
   go_wp2_with (first | (go_at_call 151; refine (isSize _ _).mono ?_; rintro e w2 ⟨rfl, hb⟩; rw [hs]; have HB2 := Aside0.mk hb; clear hb) | (go_at_call 218; refine (isOrder _ o n h1 hn _ (HV.out.below HB2.out)).mono ?_; rintro e w3 ⟨rfl, hb⟩; rw [ho]; have HB3 := Aside0.mk hb; clear hb))
   go_ret2
   exact ⟨_, by rw [HA.out]; rfl, by rw [HA.out]; exact OwnI.nil _ _, HB2.out.trans (HB3.out.mono HB2.out.size)⟩
  | true =>
   have HA : Aside0 (ansTreeOfOrder n o = (treeTo o (2 ^ n - 1), 0)) := ⟨by unfold ansTreeOfOrder; rw [Int.toNat_natCast, ho, hs, Bool.and_true, if_pos rfl]⟩
   have hol : o.length = n := by
    unfold ordOk at ho
    simp only [Bool.and_eq_true, decide_eq_true_eq] at ho
    exact ho.2.1
   have HLG : Aside0 (∀ p, 1 ≤ p → p < 2 ^ n → Nat.log2 p < o.length) := ⟨fun p hp1 hp2 => by rw [hol]; exact log2_lt hn hp1 hp2⟩
   have hb64 : 2 ≤ 2 ^ n ∧ 2 ^ n ≤ 64 := by
    rcases (by omega : n = 1 ∨ n = 2 ∨ n = 3 ∨ n = 4 ∨ n = 5 ∨ n = 6) with rfl | rfl | rfl | rfl | rfl | rfl <;> decide
   have hsh : IntKind.u64.wrap ((2 : Int) ^ n) = ((2 ^ n : Nat) : Int) := by
    rcases (by omega : n = 1 ∨ n = 2 ∨ n = 3 ∨ n = 4 ∨ n = 5 ∨ n = 6) with rfl | rfl | rfl | rfl | rfl | rfl <;> decide
   obtain ⟨N, hN⟩ : ∃ N : Nat, N = 2 ^ n := ⟨_, rfl⟩
   rw [← hN] at hb64 hsh HLG HA
   clear hN hol
   go_enter Tryz.func60, Tryz.ntmps60
   go_wp2_with (first | (go_at_call 151; refine (isSize _ _).mono ?_; rintro e w2 ⟨rfl, hb⟩; rw [hs]; have HB2 := Aside0.mk hb; clear hb) | (go_at_call 218; refine (isOrder _ o n h1 hn _ (HV.out.below HB2.out)).mono ?_; rintro e w3 ⟨rfl, hb⟩; rw [ho]; have HB3 := Aside0.mk (HB2.out.trans (hb.mono HB2.out.size)); clear hb))
   go_loopw [6, 7] (fun s6 s7 wr => ∃ i : Nat, s7 = .int .u64 (i : Int) ∧ 1 ≤ i ∧ i ≤ N ∧ Aside0 (OwnI w.heap.size wr s6 (treeTo o (i - 1))) ∧ Aside0 (Below w.heap.size w wr)) (fun _ s7 _ => N - (intOf s7).toNat)
   case atStart => exact ⟨1, rfl, Nat.le_refl _, by omega, ⟨OwnI.nil _ _⟩, HB3⟩
   case round =>
    obtain ⟨i, rfl, hi1, hiN, HO, HBw⟩ := hrel
    by_cases hlt : i < N
    ·have hL := HLG.out i hi1 hlt
     obtain ⟨L, hLe⟩ : ∃ L, L = Nat.log2 i := ⟨_, rfl⟩
     have HLN := Aside0.mk (len64 i hi1 (by omega))
     have HT : Aside0 (treeTo o i = treeTo o (i - 1) ++ [o.getD L 0]) := ⟨by have := treeTo_succ o (i - 1); rw [show i - 1 + 1 = i by omega] at this; rw [hLe]; exact this⟩
     rw [← hLe] at hL HLN
     obtain ⟨ad, y, rfl, hcell, HY⟩ := ReadI.get (Kd.C_below HR.out HBw.out) hL
     have hll : (treeTo o (i - 1)).length ≤ 63 := by rw [treeTo_len]; omega
     clear hLe
     go_wp2_with (first | (go_at_call 219; refine (HLN.out _).mono ?_; rintro e w5 ⟨rfl, hb⟩; have HO5 := Aside0.mk (OwnI.below HO.out hb); have HB5 := Aside0.mk (HBw.out.trans (hb.mono HBw.out.size)); have hcell := pw_cell_below hb hcell; clear hb) | (at_builtin; refine app_own (w0 := w) w.heap.size rfl (.tmp 23) (.tmp 30) rfl _ (treeTo o (i - 1)) y rfl rfl HO5.out HB5.out HB5.out.size ?hl ?_; (case hl => omega); intro v1 w6 ho hb hg hat; have HO1 := Aside0.mk ho; have HB1 := Aside0.mk hb; clear ho hb hg hat))
     go_roundw
     case rel => exact ⟨i + 1, by simp, by omega, by omega, ⟨by rw [Nat.add_sub_cancel, HT.out, HY.out]; exact HO1.out⟩, HB1⟩
     case measure => simp [intOf]; omega
    ·have e : i = N := by omega
     have HE := Aside0.mk e
     clear e
     go_wp2
     go_ret2
     exact ⟨_, by rw [HA.out]; rfl, by rw [HA.out, ← HE.out]; exact HO.out, HBw.out⟩
/-- what LeastEvaders answers -/
def ansLeastEvaders (a : Int) (xs : List Int) : Int × Int := if cxOk a xs then (leastV a.toNat xs 0 0, 0) else (0, 1)
set_option maxRecDepth 100000 in
set_option maxHeartbeats 2000000 in
theorem implLeastEvaders (a : Int) (ku : Value) (xs : List Int) (w : World) (hk : ReadI w ku xs) :
  Calls Tryz.prog 65 #[cx a ku] w fun e w' => e = .returned (.tuple #[.int .i64 (ansLeastEvaders a xs).1, .int .i64 (ansLeastEvaders a xs).2]) ∧ Below w.heap.size w w' := by
 obtain ⟨w1, hw1⟩ : ∃ w1, w1 = w.alloc (.cells #[.int .i64 a, ku] 26) := ⟨_, rfl⟩
 have hB : Below w.heap.size w w1 := by rw [hw1]; exact Below.alloc (Below.refl _ _) (Nat.le_refl _) _
 have c0 : w1.cell? ⟨w.heap.size, 0, none⟩ = some (.int .i64 a) := by rw [hw1]; simp
 have c1 : w1.cell? ⟨w.heap.size, 1, none⟩ = some ku := by rw [hw1]; simp
 have HB := Aside0.mk hB
 have HK := Aside0.mk (hk.below hB)
 have HM := Aside0.mk (complexCode2 a ku xs _ true w1 HK.out (fun _ => alwaysB w1) ⟨_, _, _, rfl⟩)
 obtain ⟨A1, d1, rfl, -⟩ := id hk
 clear hk hB
 cases hx : cxOk a xs with
 | false =>
  have HA : Aside0 (ansLeastEvaders a xs = (0, 1)) := ⟨by unfold ansLeastEvaders; rw [hx]; rfl⟩
  rw [hx] at HM
  clear hx
  go_enter Tryz.func65, Tryz.ntmps65
  go_wp2_with (first | (go_at_call 188; rw [← hw1]; clear hw1; refine HM.out.mono ?_; rintro e w2 ⟨rfl, hb⟩; have HB2 := Aside0.mk hb; clear hb))
  go_ret2
  exact ⟨by rw [HA.out]; rfl, HB.out.trans (HB2.out.mono HB.out.size)⟩
 | true =>
  obtain ⟨n, rfl, hc⟩ := cxOk_nat hx
  have HA : Aside0 (ansLeastEvaders (n : Int) xs = (leastV n xs 0 0, 0)) := ⟨by unfold ansLeastEvaders; rw [hx]; rfl⟩
  rw [hx] at HM
  clear hx
  have HC := Aside0.mk hc
  clear hc
  have hmm := @run_makeMap Tryz.prog
  go_enter Tryz.func65, Tryz.ntmps65
  go_wp2_with (first | (go_at_call 188; rw [← hw1]; clear hw1; refine HM.out.mono ?_; rintro e w2 ⟨rfl, hb⟩; have HB2 := Aside0.mk hb; replace c0 := pw_cell_below hb c0; replace c1 := pw_cell_below hb c1; clear hb) | (go_at_call 202; obtain ⟨w3, hw3⟩ : ∃ w3, w3 = w2.alloc (.map #[] 0) := ⟨_, rfl⟩; rw [← hw3]; have hB3 : Below w2.heap.size w2 w3 := (by rw [hw3]; exact Below.alloc (Below.refl _ _) (Nat.le_refl _) _); have HM3 : Aside0 (MapI n (leastV n xs) w2.heap.size w3) := ⟨(by rw [hw3]; exact MapI.made _ _ _)⟩; clear hw3; refine (evaders n (.slice A1 xs.length d1) xs HC.out w2.heap.size 7 0 0 0 w3 rfl (lefts_lt HC.out.hi) (pl_zero n) (RdK.mk' (HK.out.below HB2.out) hB3 (Nat.le_refl _)) HM3.out).mono ?_; rintro e w4 ⟨rfl, hg, -⟩; have HB3 := Aside0.mk (HB2.out.trans ((hB3.trans (below_grown hg (Nat.le_refl _) hB3.size)).mono HB2.out.size)); clear hg hB3))
  go_ret2
  exact ⟨by rw [HA.out]; rfl, HB.out.trans (HB3.out.mono HB.out.size)⟩
theorem evO_len64 (b : Int) (zs ts : List Int) : (ansEvadersOf b zs ts).1.length ≤ 64 := by
 unfold ansEvadersOf
 split
 ·next h1 =>
  obtain ⟨n, rfl, hc⟩ := cxOk_nat h1
  split
  ·have h2 := (pw6 hc.hi).2
   exact Nat.le_trans (evTo_len n zs ts (2 ^ n)) h2
  ·simp
 ·simp
theorem key_tp {b : Int} {zs ts : List Int} (h : (ansPairingOfTree b zs ts).2 = 0) :
  ansIsAcyclicPairing b zs (ansPairingOfTree b zs ts).1 = (true, 0) ∧ (ansEvadersOf b zs ts).2 = 0 ∧ (ansCriticalFaces b zs (ansPairingOfTree b zs ts).1).2 = 0 ∧
  (ansCriticalFaces b zs (ansPairingOfTree b zs ts).1).1.length ≤ 64 ∧
  ((ansCriticalFaces b zs (ansPairingOfTree b zs ts).1).1.filter fun c => !decide (c ∈ (ansEvadersOf b zs ts).1)).length ≤ 1 := by
 unfold ansPairingOfTree at h ⊢
 split at h
 ·next h1 =>
  obtain ⟨n, rfl, hc⟩ := cxOk_nat h1
  rw [if_pos h1]
  split at h
  ·next h2 =>
   rw [if_pos h2]
   rw [Int.toNat_natCast] at h2 ⊢
   have hk : codePg (n : Int) zs (sortL (potL n zs ts zs)) = 0 := by
    unfold codePg
    rw [if_pos h1, if_pos (pot_ok hc h2)]
   have e1 : ansEvadersOf (n : Int) zs ts = (evTo n zs ts (2 ^ n), 0) := by
    unfold ansEvadersOf
    rw [if_pos h1, Int.toNat_natCast, if_pos h2]
   have e2 : ansCriticalFaces (n : Int) zs (sortL (potL n zs ts zs)) = (critL zs (sortL (potL n zs ts zs)), 0) := by
    unfold ansCriticalFaces
    rw [if_pos hk]
   refine ⟨?_, ?_, ?_, ?_, ?_⟩
   ·unfold ansIsAcyclicPairing
    simp only
    rw [if_pos hk, pot_acy hc h2]
   ·rw [e1]
   ·simp only; rw [e2]
   ·simp only; rw [e2]
    unfold critL
    exact Nat.le_trans (List.length_filter_le _ _) (by have := hc.len; omega)
   ·simp only; rw [e1, e2]
    exact crit_few hc h2
  ·cases h
 ·cases h
theorem key_to {a : Int} {o : List Int} (h : (ansTreeOfOrder a o).2 = 0) : ansTree a (ansTreeOfOrder a o).1 = (true, 0) ∧ 0 < o.length ∧ 0 < (ansTreeOfOrder a o).1.length ∧ (ansTreeOfOrder a o).1.getD 0 0 = o.getD 0 0 := by
 unfold ansTreeOfOrder at h ⊢
 split at h
 ·next h1 =>
  rw [if_pos h1]
  simp only [Bool.and_eq_true, decide_eq_true_eq] at h1
  obtain ⟨⟨ha1, ha6⟩, ho⟩ := h1
  obtain ⟨n, rfl⟩ : ∃ n : Nat, a = n := ⟨a.toNat, by omega⟩
  rw [Int.toNat_natCast] at ho ⊢
  have hlen : o.length = n := by
   unfold ordOk at ho
   simp only [Bool.and_eq_true, decide_eq_true_eq] at ho
   exact ho.2.1
  have hp : 2 ≤ 2 ^ n := by
   have := Nat.pow_le_pow_right (n := 2) (by omega) (show 1 ≤ n by omega)
   omega
  have ht := tree_order (n := n) (o := o) (by omega) (by omega) hlen
  rw [ho] at ht
  refine ⟨?_, by omega, by show 0 < (treeTo o (2 ^ n - 1)).length; rw [treeTo_len]; omega, ?_⟩
  ·unfold ansTree
   rw [if_pos ⟨ha1, ha6⟩, Int.toNat_natCast]
   simp only
   rw [ht]
  ·have := qAt_tree o (k := 2 ^ n - 1) (p := 1) (by omega) (by omega)
   unfold qAt at this
   have e : Nat.log2 1 = 0 := by decide
   rw [e] at this
   exact this
 ·cases h
theorem key_btb {a : Int} {ys : List Int} (h : cxOk a ys = false) : ansBestTree a ys = ([], 1) := by
 unfold ansBestTree
 rw [h]; rfl
theorem key_bt {a : Int} {ys : List Int} (h : cxOk a ys = true) : ∃ (B E : List Int) (L : Int), ansBestTree a ys = (B, 0) ∧ ansTree a B = (true, 0) ∧ ansEvadersOf a ys B = (E, 0) ∧ ansLeastEvaders a ys = (L, 0) ∧ (E.length : Int) = L := by
 obtain ⟨n, rfl, hc⟩ := cxOk_nat h
 have hlo := hc.lo
 have hhi := hc.hi
 have ht := best_tree hlo hhi ys
 refine ⟨bestL n ys, evTo n ys (bestL n ys) (2 ^ n), leastV n ys 0 0, ?_, ?_, ?_, ?_, best_evaders hlo hhi ys⟩
 ·unfold ansBestTree; rw [if_pos h]; rfl
 ·unfold ansTree; rw [if_pos ⟨by omega, by omega⟩, Int.toNat_natCast, ht]
 ·unfold ansEvadersOf; rw [if_pos h, Int.toNat_natCast, if_pos ht]
 ·unfold ansLeastEvaders; rw [if_pos h]; rfl
end Go.Proofs.YtkggchklmpmgpaaGreat.H
