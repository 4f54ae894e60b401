/- Pairs in order. Sets of numbers: map[int64]bool. A region of open order: some operations reckon, the others turn memory and give nothing; what is known of memory is told by what has been done. Memory in which one block alone is turned. -/
import Derived.Test.YtomofijniefelaaGreatKFnFlows1
import Derived.Test.YtomofijniefelaaGreatKFnFlows2
import Derived.Test.YtomofijniefelaaGreatKFnFlows3
import Derived.Test.YtomofijniefelaaGreatKFnFlows4
import Derived.Test.YtomofijniefelaaGreatKFnFlows5
import Derived.Test.YtomofijniefelaaGreatKFnFlows6

namespace Go.Proofs.YtomofijniefelaaGreat.H
open Go.RowKit Go.Proofs.YtomofijniefelaaGreatW.PrintWords Go.Proofs.YtomofijniefelaaGreatW.PrintLast
set_option linter.unusedVariables false
set_option linter.unusedSimpArgs false
theorem cmpP_less (x y x' y' : Int) : decide (0 ≤ cmpP x y x' y') = !lessP x y x' y' := by
 have h : (0 ≤ cmpP x y x' y') ↔ ¬ (x < x' ∨ (x = x' ∧ y < y')) := by
  unfold cmpP cmpI
  split <;> split <;> (try split) <;> omega
 rw [Bool.eq_iff_iff, decide_eq_true_eq, h]
 unfold lessP
 simp only [Bool.not_eq_true', Bool.or_eq_false_iff, decide_eq_false_iff_not, Bool.and_eq_false_iff, beq_eq_false_iff_ne]
 omega
theorem cmpCompare (x y : Int) (w : World) : Calls Tryz.prog 321 #[.int .i64 x, .int .i64 y] w fun e w' => e = .returned (.int .i64 (cmpI x y)) ∧ Below w.heap.size w w' := by
 rcases (by omega : x < y ∨ x = y ∨ y < x) with h | h | h
 ·have HA : Aside0 (cmpI x y = -1) := ⟨by unfold cmpI; rw [if_pos h]⟩
  have h1 : decide (x < y) = true := decide_eq_true h
  go_enter Tryz.func321, Tryz.ntmps321
  go_wp2_with (first | (go_at_call 382; refine (cmpNaN _ w).mono ?_; rintro e w2 ⟨rfl, hb⟩) | (go_at_call 382; refine (cmpNaN _ w2).mono ?_; rintro e w3 ⟨rfl, hb2⟩))
  go_ret
  exact ⟨by rw [HA.out]; rfl, hb.trans (hb2.mono hb.size)⟩
 ·have HA : Aside0 (cmpI x y = 0) := ⟨by unfold cmpI; rw [if_neg (by omega), if_pos h]⟩
  have h1 : decide (x < y) = false := decide_eq_false (by omega)
  have h2 : decide (y < x) = false := decide_eq_false (by omega)
  go_enter Tryz.func321, Tryz.ntmps321
  go_wp2_with (first | (go_at_call 382; refine (cmpNaN _ w).mono ?_; rintro e w2 ⟨rfl, hb⟩) | (go_at_call 382; refine (cmpNaN _ w2).mono ?_; rintro e w3 ⟨rfl, hb2⟩))
  go_ret
  exact ⟨by rw [HA.out]; rfl, hb.trans (hb2.mono hb.size)⟩
 ·have HA : Aside0 (cmpI x y = 1) := ⟨by unfold cmpI; rw [if_neg (by omega), if_neg (by omega)]⟩
  have h1 : decide (x < y) = false := decide_eq_false (by omega)
  have h2 : decide (y < x) = true := decide_eq_true h
  go_enter Tryz.func321, Tryz.ntmps321
  go_wp2_with (first | (go_at_call 382; refine (cmpNaN _ w).mono ?_; rintro e w2 ⟨rfl, hb⟩) | (go_at_call 382; refine (cmpNaN _ w2).mono ?_; rintro e w3 ⟨rfl, hb2⟩))
  go_ret
  exact ⟨by rw [HA.out]; rfl, hb.trans (hb2.mono hb.size)⟩
set_option maxRecDepth 100000 in
set_option maxHeartbeats 4000000 in
theorem compare2 (g g' : Nat) (x y x' y' : Int) (w : World) (c0 : w.cell? ⟨g, 0, none⟩ = some (.int .i64 x)) (c1 : w.cell? ⟨g, 1, none⟩ = some (.int .i64 y)) (c2 : w.cell? ⟨g', 0, none⟩ = some (.int .i64 x')) (c3 : w.cell? ⟨g', 1, none⟩ = some (.int .i64 y')) :
  Calls Tryz.prog 220 #[.slice (some ⟨g, 0, none⟩) 2 2, .slice (some ⟨g', 0, none⟩) 2 2] w fun e w' => e = .returned (.int .i64 (cmpP x y x' y')) ∧ Below w.heap.size w w' := by
 have C0 := Aside0.mk c0
 have C1 := Aside0.mk c1
 have C2 := Aside0.mk c2
 have C3 := Aside0.mk c3
 clear c0 c1 c2 c3
 go_enter Tryz.func220, Tryz.ntmps220
 go_wp2
 go_loopw [11] (fun s wr => ∃ i : Nat, s = .int .i64 i ∧ i ≤ 2 ∧ Aside0 (0 < i → x = x') ∧ Aside0 (1 < i → y = y') ∧ Aside0 (Below w.heap.size w wr)) (fun s _ => 2 - (intOf s).toNat)
 case atStart => exact ⟨0, rfl, by decide, ⟨fun h => absurd h (by decide)⟩, ⟨fun h => absurd h (by decide)⟩, ⟨Below.refl _ _⟩⟩
 case round =>
  obtain ⟨i, rfl, hi, H0, H1, HBw⟩ := hrel
  have c0 := pw_cell_below HBw.out C0.out
  have c1 := pw_cell_below HBw.out C1.out
  have c2 := pw_cell_below HBw.out C2.out
  have c3 := pw_cell_below HBw.out C3.out
  rcases (by omega : i = 0 ∨ i = 1 ∨ i = 2) with rfl | rfl | rfl
  ·have HE : Aside0 ((cmpI x x' != 0) = false → x = x') := ⟨fun h => cmpI_zero (by simpa using h)⟩
   have HN : Aside0 ((cmpI x x' != 0) = true → cmpP x y x' y' = cmpI x x') := ⟨fun h => by unfold cmpP; rw [if_neg]; rintro rfl; rw [cmpI_self] at h; exact absurd h (by decide)⟩
   have HC := Aside0.mk (fun W => cmpCompare x x' W)
   obtain ⟨C, hC⟩ : ∃ C, C = cmpI x x' := ⟨_, rfl⟩
   rw [← hC] at HE HN HC
   clear hC
   cases hq : (C != 0) with
   | true =>
    have HA := Aside0.mk (HN.out hq)
    go_wp2_with (first | (go_at_call 321; refine (HC.out _).mono ?_; rintro e w3 ⟨rfl, hb⟩; have HB3 := Aside0.mk (HBw.out.trans (hb.mono HBw.out.size)); clear hb))
    go_ret
    exact ⟨by rw [HA.out]; rfl, HB3.out⟩
   | false =>
    have HX := Aside0.mk (HE.out hq)
    go_wp2_with (first | (go_at_call 321; refine (HC.out _).mono ?_; rintro e w3 ⟨rfl, hb⟩; have HB3 := Aside0.mk (HBw.out.trans (hb.mono HBw.out.size)); clear hb))
    go_roundw
    case rel => exact ⟨1, by go_num, by decide, ⟨fun _ => HX.out⟩, ⟨fun h => absurd h (by decide)⟩, HB3⟩
    case measure => simp [intOf]
  ·have HE : Aside0 ((cmpI y y' != 0) = false → y = y') := ⟨fun h => cmpI_zero (by simpa using h)⟩
   have HN : Aside0 (cmpP x y x' y' = cmpI y y') := ⟨by unfold cmpP; rw [if_pos (H0.out (by decide))]⟩
   have HC := Aside0.mk (fun W => cmpCompare y y' W)
   obtain ⟨C, hC⟩ : ∃ C, C = cmpI y y' := ⟨_, rfl⟩
   rw [← hC] at HE HN HC
   clear hC
   cases hq : (C != 0) with
   | true =>
    go_wp2_with (first | (go_at_call 321; refine (HC.out _).mono ?_; rintro e w3 ⟨rfl, hb⟩; have HB3 := Aside0.mk (HBw.out.trans (hb.mono HBw.out.size)); clear hb))
    go_ret
    exact ⟨by rw [HN.out]; rfl, HB3.out⟩
   | false =>
    have HX := Aside0.mk (HE.out hq)
    go_wp2_with (first | (go_at_call 321; refine (HC.out _).mono ?_; rintro e w3 ⟨rfl, hb⟩; have HB3 := Aside0.mk (HBw.out.trans (hb.mono HBw.out.size)); clear hb))
    go_roundw
    case rel => exact ⟨2, by go_num, by decide, ⟨fun _ => H0.out (by decide)⟩, ⟨fun _ => HX.out⟩, HB3⟩
    case measure => simp [intOf]
  ·have HA : Aside0 (cmpP x y x' y' = 0) := ⟨by unfold cmpP; rw [if_pos (H0.out (by decide)), H1.out (by decide)]; exact cmpI_self _⟩
   go_wp2
   go_ret
   exact ⟨by rw [HA.out]; rfl, HBw.out⟩
set_option maxRecDepth 100000 in
set_option maxHeartbeats 4000000 in
theorem comparePairs (x y x' y' : Int) (w : World) : Calls Tryz.prog 202 #[.agg #[.int .i64 x, .int .i64 y], .agg #[.int .i64 x', .int .i64 y']] w fun e w' => e = .returned (.int .i64 (cmpP x y x' y')) ∧ Below w.heap.size w w' := by
 obtain ⟨w1, hw1⟩ : ∃ w1, w1 = (w.alloc (.cells #[.int .i64 x, .int .i64 y] 72)).alloc (.cells #[.int .i64 x', .int .i64 y'] 72) := ⟨_, rfl⟩
 have hB : Below w.heap.size w w1 := by rw [hw1]; exact ((Below.refl _ w).alloc (Nat.le_refl _) _).alloc (by simp) _
 have c0 : w1.cell? ⟨w.heap.size, 0, none⟩ = some (.int .i64 x) := by rw [hw1]; simp
 have c1 : w1.cell? ⟨w.heap.size, 1, none⟩ = some (.int .i64 y) := by rw [hw1]; simp
 have c2 : w1.cell? ⟨w.heap.size + 1, 0, none⟩ = some (.int .i64 x') := by rw [hw1]; simp
 have c3 : w1.cell? ⟨w.heap.size + 1, 1, none⟩ = some (.int .i64 y') := by rw [hw1]; simp
 have HB := Aside0.mk hB
 have HC : Aside0 (∀ z : Ext w1, Calls Tryz.prog 220 #[.slice (some ⟨w.heap.size, 0, none⟩) 2 2, .slice (some ⟨w.heap.size + 1, 0, none⟩) 2 2] z.1 fun e w' => e = .returned (.int .i64 (cmpP x y x' y')) ∧ Below z.1.heap.size z.1 w') := ⟨fun z => compare2 _ _ x y x' y' z.1 (Ext.cell c0 z) (Ext.cell c1 z) (Ext.cell c2 z) (Ext.cell c3 z)⟩
 clear hB c0 c1 c2 c3
 go_enter Tryz.func202, Tryz.ntmps202
 go_wp2
 rw [← hw1]
 clear hw1
 refine wp_region_ext (by kernel_rfl) (by kernel_rfl) ?_
 repeat (go_big_quiet_step (first | (go_at_call 220; with_reducible exact Calls.ext_of (HC.out _))))
 refine wpQuiet_nil ?_
 rintro _ ⟨z, rfl⟩
 have hbz := z.2
 go_wp2
 go_ret
 exact ⟨rfl, HB.out.trans (hbz.mono HB.out.size)⟩
theorem i64Keyed : Go.Maps.Keyed Tryz.prog 2 := Go.Maps.int_keyed Tryz.underlying2
theorem zeroB (w : World) : (zeroValue 4).run Tryz.prog w = .ok (.bool false) w := by kernel_rfl
theorem wfI {x : Int} (h1 : -9223372036854775808 ≤ x) (h2 : x ≤ 9223372036854775807) : (Lit.int .i64 x).wf = true := WalkArith.wf_i64 (by omega)
/-- block b is a map of at most k entries that holds the numbers of S -/
def SetI (S : Int → Bool) (b k : Nat) (w : World) : Prop :=
 ∃ D : DataW Unit, w.ownsMap Tryz.prog 2 (plainElem Tryz.prog 4) b k D ∧ ∀ x l, keyOf Tryz.prog 2 (.int .i64 x) = some l → D.atKey l (.lit (.bool false)) = .lit (.bool (S x))
theorem SetI.lt {S : Int → Bool} {b k : Nat} {w : World} (h : SetI S b k w) : b < w.heap.size := by
 obtain ⟨D, h, -⟩ := h
 exact h.lt
theorem SetI.grown {S : Int → Bool} {b k : Nat} {w w' : World} {row : Option Nat} (h : SetI S b k w) (hg : w.grownBy w' row) (hne : some b ≠ row) : SetI S b k w' := by
 obtain ⟨D, h, hv⟩ := h
 exact ⟨D, h.kept hg hne, hv⟩
theorem below_none {w w' : World} (h : Below w.heap.size w w') : w.grownBy w' none := ⟨h.os, h.tape, h.output, h.size, fun k hk _ => h.block k hk⟩
theorem SetI.below {S : Int → Bool} {b k : Nat} {w w' : World} (h : SetI S b k w) (hb : Below w.heap.size w w') : SetI S b k w' := h.grown (below_none hb) (by simp)
theorem SetI.made (w : World) : SetI (fun _ => false) w.heap.size 0 (w.alloc (.map #[] 0)) :=
 ⟨_, World.ownsMap_made _ _ _ _, fun x l h => rfl⟩
theorem SetI.congr {S S' : Int → Bool} {b k : Nat} {w : World} (h : SetI S b k w) (e : ∀ x, S x = S' x) : SetI S' b k w := by
 obtain ⟨D, h, hv⟩ := h
 exact ⟨D, h, fun x l hl => by rw [← e x]; exact hv x l hl⟩
set_option maxRecDepth 100000 in
theorem SetI.look {S : Int → Bool} {b k : Nat} {w : World} (h : SetI S b k w) {x : Int} (hw : (Lit.int .i64 x).wf = true) :
  (Instr.lookup 175 (.map (some b)) (.int .i64 x) false).run Tryz.prog w = .ok (.bool (S x)) w := by
 obtain ⟨D, h, hv⟩ := h
 have hk := Go.Maps.keyOf_int_mk Tryz.underlying2 hw
 obtain ⟨v, ps, hrun, hR⟩ := h.lookup i64Keyed Tryz.underlying175 (zeroB w) (plainElem_bool Tryz.underlying4 false) hk
 rw [hv x _ hk] at hR
 have : v = .bool (S x) := by
  have he := Tryz.underlying4
  cases v with
  | bool y => rw [plainElem_bool he y] at hR; injection hR with hR; injection hR with hR _; injection hR with hR; injection hR with hR; rw [hR]
  | _ => simp [plainElem, he] at hR
 rw [← this]; exact hrun
set_option maxRecDepth 100000 in
theorem SetI.put {S : Int → Bool} {b k : Nat} {w : World} (h : SetI S b k w) {x : Int} (hw : (Lit.int .i64 x).wf = true) (hk9 : k < 100000) :
  ∃ w', (Instr.mapUpdate 175 (.map (some b)) (.int .i64 x) (.bool true)).run Tryz.prog w = .ok () w' ∧ SetI (fun z => z == x || S z) b (k + 1) w' ∧ w.grownBy w' (some b) := by
 obtain ⟨D, h, hv⟩ := h
 have hk := Go.Maps.keyOf_int_mk Tryz.underlying2 hw
 obtain ⟨w', hrun, ho, hg⟩ := h.update i64Keyed Tryz.underlying175 (by unfold maxLen; omega) hk (plainElem_bool Tryz.underlying4 true)
 refine ⟨w', hrun, ⟨_, ho, fun z l hl => ?_⟩, hg⟩
 by_cases e : z = x
 ·subst e
  rw [hk] at hl
  cases hl
  rw [Maps.atKey_put_same h.isMap (i64Keyed.key hk)]
  show _ = DataW.lit (Lit.bool (z == z || S z))
  rw [beq_self_eq_true, Bool.true_or]
 ·rw [Maps.atKey_put_other (fun e2 => e (by
   have := i64Keyed.inj hl (e2 ▸ hk)
   injection this)), hv z l hl]
  show _ = DataW.lit (Lit.bool (z == x || S z))
  rw [show (z == x) = false from by rw [beq_eq_false_iff_ne]; exact e, Bool.false_or]
def jOk (l : List Oper) (B : List Nat) (n k : Nat) : Bool :=
 decide (k ≤ l.length) && (l.take k).all (fun o => o.dst.isSome) && (l.drop k).all (fun o => o.dst.isNone) && l.all (fun o => o.guard.isNone) && decide (dsOf (l.take k)).Nodup && (dsOf (l.take k)).all (fun d => decide (d < n)) &&
 waitsOk (rtab .any l.toArray).2 B && baseOk (rtab .any l.toArray).2 (List.range l.length)
def mark (b : Nat → Bool) (i : Nat) (j : Nat) : Bool := j == i || b j
theorem wp_region_j {P : Program} {id : Nat} {Q : Exit → Act → World → Prop} {a : Act} {w : World} {l : List Oper} (k : Nat) (V : Nat → Value → Prop) (I : (Nat → Bool) → World → Prop) (B : List Nat) (hm : P.follows .mixedOrders = true) (hok : jOk l B a.tmps.size k = true)
  (h0 : ∀ b : Nat → Bool, (∀ i, b i = false) → I b w.drew)
  (hI : ∀ i b w1, i < k → I b w1 → I (mark b i) w1)
  (hc : ∀ b b' w1, (∀ i, b i = b' i) → I b w1 → I b' w1)
  (hs : ∀ i o, i < k → l[i]? = some o → ∀ s b w1, I b w1 → (∀ j, j < k → (B.getD i 0).testBit j = true → V j (s j)) → ∀ R : Value → World → Prop, (∀ v, V i v → R v w1) → opGives P o (putAll (dsOf (l.take k)) 0 s a).eval w1 R)
  (ht : ∀ i o, k ≤ i → i < l.length → l[i]? = some o → ∀ s b w1, I b w1 → b i = false → (∀ j, j < l.length → (B.getD i 0).testBit j = true → b j = true) → (∀ j, j < k → (B.getD i 0).testBit j = true → V j (s j)) → ∃ w', (execOp (putAll (dsOf (l.take k)) 0 s a).eval o).run P w1 = .ok .skip w' ∧ I (mark b i) w')
  (hend : ∀ s b w1, I b w1 → (∀ i, i < l.length → b i = true) → (∀ i, i < k → V i (s i)) → Q .normal (putAll (dsOf (l.take k)) 0 s a) w1) : (Code.region id l.toArray true).wp P Q a w := by
 simp only [jOk, Bool.and_eq_true] at hok
 obtain ⟨⟨⟨⟨⟨⟨⟨hk, h1⟩, hn1⟩, hg0⟩, h2⟩, h3⟩, h4⟩, h5⟩ := hok
 have hk : k ≤ l.length := of_decide_eq_true hk
 have hnd : (dsOf (l.take k)).Nodup := of_decide_eq_true h2
 have hTl : (rtab .any l.toArray).2.length = l.length := by rw [rtab_length]; simp
 have hdl : ∀ i, i < k → (l.take k)[i]? = l[i]? := fun i hi => by rw [List.getElem?_take_of_lt hi]
 have hds : ∀ (i : Nat) (o : Oper), i < k → l[i]? = some o → o.dst = some ((dsOf (l.take k))[i]?.getD 0) ∧ (dsOf (l.take k))[i]? = some (o.dst.getD 0) := by
  intro i o hi ho
  have ho' : (l.take k)[i]? = some o := (hdl i hi).trans ho
  have e : (dsOf (l.take k))[i]? = some (o.dst.getD 0) := by unfold dsOf; rw [List.getElem?_map, ho']; rfl
  refine ⟨?_, e⟩
  have := List.all_eq_true.1 h1 o (List.mem_of_getElem? ho')
  rw [e]
  cases hd : o.dst with
  | none => rw [hd] at this; cases this
  | some d => rfl
 have hrange : ∀ j, j < l.length → (List.range l.length).contains j = true := fun j hj => by simpa using hj
 refine wp_region_last_drew (S := fun _ => True) (ds := []) hm trivial (fun _ => ?_)
 refine inv_ (T := rtab .any l.toArray) (B := B) (List.range l.length) (fun b a' w' => I b w' ∧ ∃ s, a' = putAll (dsOf (l.take k)) 0 s a ∧ ∀ i, i < k → b i = true → V i (s i)) rfl h4 h5 ?_ ?_ ?_ ?_
 ·rw [hTl, Bool.and_eq_true, beq_iff_eq, beq_iff_eq]
  refine ⟨?_, by simp⟩
  apply List.ext_getElem
  ·simp [lof]
  ·intro i hi1 hi2
   have hi : i < l.length := by simpa [lof] using hi1
   simp [lof, hi]
 ·refine ⟨h0 _ (fun _ => rfl), fun k' => (a.tmps[(dsOf (l.take k))[k']?.getD 0]?).getD undef, ?_, fun _ _ h => by cases h⟩
  refine (putAll_self _ _ _ _ (fun j d hj => ?_)).symm
  have hd := List.all_eq_true.1 h3 d (List.mem_of_getElem? hj)
  have hd' : d < a.tmps.size := of_decide_eq_true hd
  simp [hj, hd']
 ·intro i hi b a' w' ⟨hIb, s, ha, hv⟩ hbi hon hoff
  subst ha
  have hil : i < l.length := List.mem_range.1 hi
  have ho : l[i]? = some l[i] := List.getElem?_eq_getElem hil
  refine ⟨l[i], by simp, fun K hK => ?_⟩
  have hK' := Shut.out hK
  have hg : l[i].guard = none := by
   have := List.all_eq_true.1 hg0 l[i] (List.mem_of_getElem? ho)
   cases hq : l[i].guard with
   | none => rfl
   | some g => rw [hq] at this; cases this
  rw [if_pos (by simp [Region.wanted, hg])]
  have hon' : ∀ j, j < l.length → (B.getD i 0).testBit j = true → b j = true := fun j hj hb => hon j (by rw [hrange j hj, hb]; rfl)
  by_cases hik : i < k
  ·refine opGives_wp (hs i _ hik ho s b w' hIb (fun j hj hb => hv j hj (hon' j (by omega) hb)) _ (fun v hvi => ?_))
   rw [(hds i _ hik ho).1, (hds i _ hik ho).2, Option.getD_some, putAll_put _ _ _ _ _ _ _ hnd (Nat.zero_le _) (by rw [Nat.sub_zero]; exact (hds i _ hik ho).2)]
   refine hK' _ _ ⟨hc _ _ _ (fun j => ?_) (hI i b w' hik hIb), upd s i v, rfl, fun j hj hbj => ?_⟩
   ·by_cases hji : j = i
    ·subst hji; rw [up_self]; simp [mark]
    ·rw [up_ne hji]; simp [mark, hji]
   ·by_cases hji : j = i
    ·subst hji; rw [show upd s j v j = v by simp [upd]]; exact hvi
    ·rw [up_ne hji] at hbj; rw [show upd s i v j = s j by simp [upd, hji]]
     exact hv j hj hbj
  ·obtain ⟨w2, hr, hI2⟩ := ht i _ (by omega) hil ho s b w' hIb hbi hon' (fun j hj hb => hv j hj (hon' j (by omega) hb))
   have hdn : l[i].dst = none := by
    have hm2 : l[i] ∈ l.drop k := by
     rw [List.mem_iff_getElem?]
     exact ⟨i - k, by rw [List.getElem?_drop, show k + (i - k) = i by omega]; exact ho⟩
    have := List.all_eq_true.1 hn1 _ hm2
    cases hd : l[i].dst with
    | none => rfl
    | some d => rw [hd] at this; cases this
   unfold Oper.wp
   rw [hr]
   show K ((putAll (dsOf (l.take k)) 0 s a).put l[i].dst undef) w2
   rw [hdn]
   refine hK' _ _ ⟨hc _ _ _ (fun j => ?_) hI2, s, rfl, fun j hj hbj => ?_⟩
   ·by_cases hji : j = i
    ·subst hji; rw [up_self]; simp [mark]
    ·rw [up_ne hji]; simp [mark, hji]
   ·rw [up_ne (by omega)] at hbj
    exact hv j hj hbj
 ·intro b a' w' hall ⟨hIb, s, ha, hv⟩
  subst ha
  exact hend s b w' hIb (fun i hi => hall i (hrange i hi)) (fun i hi => hv i hi (hall i (hrange i (by omega))))
theorem grown_below {w w' : World} (h : Below w.heap.size w w') (row : Option Nat) : w.grownBy w' row := ⟨h.os, h.tape, h.output, h.size, fun k hk _ => h.block k hk⟩
theorem grown_drew (w : World) (row : Option Nat) : w.grownBy w.drew row := grown_below (Below.refl _ _).drew row
theorem grown_cell {w w' : World} {b : Nat} (hg : w.grownBy w' (some b)) {a : Addr} {v : Value} (h : w.cell? a = some v) (hne : a.block ≠ b) : w'.cell? a = some v := hg.cell h (fun e => hne (by injection e))
/-- what lay below a block that is turned -/
theorem below_grown {B b : Nat} {w w' : World} (hg : w.grownBy w' (some b)) (h1 : B ≤ b) (h2 : B ≤ w.heap.size) : Below B w w' :=
 ⟨hg.os, hg.tape, hg.output, hg.size, fun k hk => hg.block k (by omega) (fun e => by injection e; omega)⟩
/-- reads, whatever becomes of block b -/
def RdK (b : Nat) (w : World) (v : Value) (xs : List Int) : Prop := ∀ w', w.grownBy w' (some b) → ReadI w' v xs
theorem RdK.read {b : Nat} {w : World} {v : Value} {xs : List Int} (h : RdK b w v xs) : ReadI w v xs := h w (grown_below (Below.refl _ _) _)
theorem RdK.go {b : Nat} {w w' : World} {v : Value} {xs : List Int} (h : RdK b w v xs) (hg : w.grownBy w' (some b)) : RdK b w' v xs := fun w2 h2 => h w2 (grown_trans hg h2)
/-- block b alone is turned, and what is known of it stays -/
def Gm (b : Nat) (I : World → Prop) (w w' : World) : Prop := w.grownBy w' (some b) ∧ (I w → I w')
theorem Gm.refl (b : Nat) (I : World → Prop) (w : World) : Gm b I w w := ⟨grown_below (Below.refl _ _) _, id⟩
theorem Gm.trans {b : Nat} {I : World → Prop} {w1 w2 w3 : World} (h : Gm b I w1 w2) (k : Gm b I w2 w3) : Gm b I w1 w3 := ⟨grown_trans h.1 k.1, fun x => k.2 (h.2 x)⟩
end Go.Proofs.YtomofijniefelaaGreat.H
