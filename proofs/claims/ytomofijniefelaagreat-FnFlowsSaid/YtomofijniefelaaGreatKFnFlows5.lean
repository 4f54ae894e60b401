/- A region of open order whose calls turn memory in a way that is told by a relation. A region of open order, some of its operations guarded, whose calls turn memory in a way that is told by a relation. Pairs of a complex, of the reference. Pairings, of the reference. Pairs in order, told with what was drawn. part: the complex of the faces that are as told. Chains as sums of bits and as ascending lists: the plain law. -/
import Derived.Test.YtomofijniefelaaGreatKFnFlows1
import Derived.Test.YtomofijniefelaaGreatKFnFlows2
import Derived.Test.YtomofijniefelaaGreatKFnFlows3
import Derived.Test.YtomofijniefelaaGreatKFnFlows4

namespace Go.Proofs.YtomofijniefelaaGreat.H
open Go.RowKit Go.Proofs.YtomofijniefelaaGreatW.PrintWords Go.Proofs.YtomofijniefelaaGreatW.PrintLast
set_option linter.unusedVariables false
set_option linter.unusedSimpArgs false
/-- each step -/
def gSteps (G : World → World → Prop) (P : Program) (l : List Oper) (B : List Nat) (V : Nat → Value → World → Prop) (a : Act) (w : World) : Nat → List Oper → Prop
 | _, [] => True
 | i, o :: r => (∀ s w1, G w w1 → (∀ j, ((List.range l.length).contains j && (B.getD i 0).testBit j) = true → V j (s j) w1) → (∀ j, (decide (j < l.length) && (B.getD j 0).testBit i) = true → s j = (a.tmps[(dsOf l)[j]?.getD 0]?).getD undef) →
   ∀ R : Value → World → Prop, (∀ v w', G w1 w' → V i v w' → R v w') → opGives P o (putAll (dsOf l) 0 s a).eval w1 R) ∧ gSteps G P l B V a w (i + 1) r
theorem gSteps_at {G : World → World → Prop} {P : Program} {l : List Oper} {B : List Nat} {V : Nat → Value → World → Prop} {a : Act} {w : World} : ∀ (r : List Oper) (k : Nat), gSteps G P l B V a w k r → ∀ i o, r[i]? = some o →
  ∀ s w1, G w w1 → (∀ j, ((List.range l.length).contains j && (B.getD (k + i) 0).testBit j) = true → V j (s j) w1) → (∀ j, (decide (j < l.length) && (B.getD j 0).testBit (k + i)) = true → s j = (a.tmps[(dsOf l)[j]?.getD 0]?).getD undef) →
   ∀ R : Value → World → Prop, (∀ v w', G w1 w' → V (k + i) v w' → R v w') → opGives P o (putAll (dsOf l) 0 s a).eval w1 R
 | [], _, _, _, _, h => by cases h
 | x :: r, k, h, 0, o, ho => by cases ho; exact h.1
 | x :: r, k, h, i + 1, o, ho => by
  have := gSteps_at r (k + 1) h.2 i o ho
  rwa [show k + 1 + i = k + (i + 1) by omega] at this
theorem wp_region_g (G : World → World → Prop) (hGr : ∀ w, G w w.drew) (hGt : ∀ w1 w2 w3, G w1 w2 → G w2 w3 → G w1 w3) {P : Program} {id : Nat} {Q : Exit → Act → World → Prop} {a : Act} {w : World} {l : List Oper} (V : Nat → Value → World → Prop) (B : List Nat) (hm : P.follows .mixedOrders = true) (hok : phiOk l B a.tmps.size = true)
  (hV : ∀ i v w1 w2, G w1 w2 → V i v w1 → V i v w2)
  (hs : gSteps G P l B V a w 0 l)
  (hend : ∀ s w1, G w w1 → (∀ i, i < l.length → V i (s i) w1) → Q .normal (putAll (dsOf l) 0 s a) w1) : (Code.region id l.toArray true).wp P Q a w := by
 simp only [phiOk, Bool.and_eq_true] at hok
 obtain ⟨⟨⟨⟨⟨h1, h0⟩, h2⟩, h3⟩, h4⟩, h5⟩ := hok
 have hnd : (dsOf l).Nodup := of_decide_eq_true h2
 have hTl : (rtab .any l.toArray).2.length = l.length := by rw [rtab_length]; simp
 have hds : ∀ (i : Nat) (o : Oper), l[i]? = some o → o.dst = some ((dsOf l)[i]?.getD 0) ∧ (dsOf l)[i]? = some (o.dst.getD 0) := by
  intro i o ho
  have e : (dsOf l)[i]? = some (o.dst.getD 0) := by simp [dsOf, ho]
  refine ⟨?_, e⟩
  have := List.all_eq_true.1 h1 o (List.mem_of_getElem? ho)
  rw [e]
  cases hd : o.dst with
  | none => rw [hd] at this; cases this
  | some d => rfl
 refine wp_region_last_drew (S := fun _ => True) (ds := []) hm trivial (fun _ => ?_)
 refine inv_ (T := rtab .any l.toArray) (B := B) (List.range l.length) (fun b a' w' => ∃ s, a' = putAll (dsOf l) 0 s a ∧ G w w' ∧ (∀ i, i < l.length → b i = true → V i (s i) w') ∧ ∀ i, i < l.length → b i = false → s i = (a.tmps[(dsOf l)[i]?.getD 0]?).getD undef) rfl h4 h5 ?_ ?_ ?_ ?_
 ·rw [hTl, Bool.and_eq_true, beq_iff_eq, beq_iff_eq]
  refine ⟨?_, by simp⟩
  apply List.ext_getElem
  ·simp [lof]
  ·intro i hi1 hi2
   have hi : i < l.length := by simpa [lof] using hi1
   simp [lof, hi]
 ·refine ⟨fun k => (a.tmps[(dsOf l)[k]?.getD 0]?).getD undef, ?_, hGr _, (fun _ _ h => by cases h), fun _ _ _ => rfl⟩
  refine (putAll_self _ _ _ _ (fun j d hj => ?_)).symm
  have hd := List.all_eq_true.1 h3 d (List.mem_of_getElem? hj)
  have hd' : d < a.tmps.size := of_decide_eq_true hd
  simp [hj, hd']
 ·intro i hi b a' w' ⟨s, ha, hb, hv, hq⟩ hbi hon hoff
  subst ha
  have hil : i < l.length := List.mem_range.1 hi
  have ho : l[i]? = some l[i] := List.getElem?_eq_getElem hil
  refine ⟨l[i], by simp, fun K hK => ?_⟩
  have hK' := Shut.out hK
  have hg : l[i].guard = none := by
   have := List.all_eq_true.1 h0 l[i] (List.mem_of_getElem? ho)
   cases hq : l[i].guard with
   | none => rfl
   | some g => rw [hq] at this; cases this
  rw [if_pos (by simp [Region.wanted, hg])]
  refine opGives_wp (gSteps_at l 0 hs i _ ho s w' hb (fun j hj => hv j (by have h6 := (Bool.and_eq_true _ _ ▸ hj : _ ∧ _).1; simpa using h6) (hon j (by simpa using hj))) (fun j hj => hq j (of_decide_eq_true (Bool.and_eq_true _ _ ▸ hj : _ ∧ _).1) (hoff j (by simpa using hj))) _ (fun v w2 hb2 hv2 => hK' _ _ ?_))
  refine ⟨upd s i v, ?_, hGt _ _ _ hb hb2, fun j hj hbj => ?_, fun j hj hbj => ?_⟩
  ·rw [(hds i _ ho).1, (hds i _ ho).2, Option.getD_some]
   exact putAll_put _ _ _ _ _ _ _ hnd (Nat.zero_le _) (by rw [Nat.sub_zero]; exact (hds i _ ho).2)
  ·by_cases hji : j = i
   ·subst hji
    have : upd s j v j = v := by simp [upd]
    rw [this]
    rw [Nat.zero_add] at hv2
    exact hv2
   ·have : upd s i v j = s j := by simp [upd, hji]
    rw [this]
    rw [up_ne hji] at hbj
    exact hV _ _ _ _ hb2 (hv j hj hbj)
  ·have hji : j ≠ i := by
    rintro rfl
    rw [up_self] at hbj
    cases hbj
   have : upd s i v j = s j := by simp [upd, hji]
   rw [this]
   rw [up_ne hji] at hbj
   exact hq j hj hbj
 ·intro b a' w' hall ⟨s, ha, hb, hv, hq⟩
  subst ha
  exact hend s w' hb (fun i hi => hv i hi (hall i (by simpa using hi)))
/-- an operation that may be struck by its guard -/
def stepG (P : Program) (l : List Oper) (o : Oper) (A : Act) (w : World) (R : Value → World → Prop) : Prop :=
 if Region.wanted o (yielded l.toArray A.tmps) = true then opGives P o A.eval w R else R undef w
theorem stepG_on {P : Program} {l : List Oper} {o : Oper} {A : Act} {w : World} {R : Value → World → Prop} (h : Region.wanted o (yielded l.toArray A.tmps) = true) (hR : opGives P o A.eval w R) : stepG P l o A w R := by
 unfold stepG; rw [if_pos h]; exact hR
theorem stepG_off {P : Program} {l : List Oper} {o : Oper} {A : Act} {w : World} {R : Value → World → Prop} (h : Region.wanted o (yielded l.toArray A.tmps) = false) (hR : R undef w) : stepG P l o A w R := by
 unfold stepG; rw [if_neg (by rw [h]; decide)]; exact hR
def ggOk (l : List Oper) (B : List Nat) (n : Nat) : Bool :=
 l.all (fun o => o.dst.isSome) && decide (dsOf l).Nodup && (dsOf l).all (fun d => decide (d < n)) && waitsOk (rtab .any l.toArray).2 B && baseOk (rtab .any l.toArray).2 (List.range l.length)
/-- each step -/
def ggSteps (G : World → World → Prop) (P : Program) (l : List Oper) (B : List Nat) (V : Nat → Value → World → Prop) (a : Act) (w : World) : Nat → List Oper → Prop
 | _, [] => True
 | i, o :: r => (∀ s w1, G w w1 → (∀ j, ((List.range l.length).contains j && (B.getD i 0).testBit j) = true → V j (s j) w1) → (∀ j, (decide (j < l.length) && (B.getD j 0).testBit i) = true → s j = (a.tmps[(dsOf l)[j]?.getD 0]?).getD undef) →
   ∀ R : Value → World → Prop, (∀ v w', G w1 w' → V i v w' → R v w') → stepG P l o (putAll (dsOf l) 0 s a) w1 R) ∧ ggSteps G P l B V a w (i + 1) r
theorem ggSteps_at {G : World → World → Prop} {P : Program} {l : List Oper} {B : List Nat} {V : Nat → Value → World → Prop} {a : Act} {w : World} : ∀ (r : List Oper) (k : Nat), ggSteps G P l B V a w k r → ∀ i o, r[i]? = some o →
  ∀ s w1, G w w1 → (∀ j, ((List.range l.length).contains j && (B.getD (k + i) 0).testBit j) = true → V j (s j) w1) → (∀ j, (decide (j < l.length) && (B.getD j 0).testBit (k + i)) = true → s j = (a.tmps[(dsOf l)[j]?.getD 0]?).getD undef) →
   ∀ R : Value → World → Prop, (∀ v w', G w1 w' → V (k + i) v w' → R v w') → stepG P l o (putAll (dsOf l) 0 s a) w1 R
 | [], _, _, _, _, h => by cases h
 | x :: r, k, h, 0, o, ho => by cases ho; exact h.1
 | x :: r, k, h, i + 1, o, ho => by
  have := ggSteps_at r (k + 1) h.2 i o ho
  rwa [show k + 1 + i = k + (i + 1) by omega] at this
theorem wp_region_gg (G : World → World → Prop) (hGr : ∀ w, G w w.drew) (hGt : ∀ w1 w2 w3, G w1 w2 → G w2 w3 → G w1 w3) {P : Program} {id : Nat} {Q : Exit → Act → World → Prop} {a : Act} {w : World} {l : List Oper} (V : Nat → Value → World → Prop) (B : List Nat) (hm : P.follows .mixedOrders = true) (hok : ggOk l B a.tmps.size = true)
  (hV : ∀ i v w1 w2, G w1 w2 → V i v w1 → V i v w2)
  (hs : ggSteps G P l B V a w 0 l)
  (hend : ∀ s w1, G w w1 → (∀ i, i < l.length → V i (s i) w1) → Q .normal (putAll (dsOf l) 0 s a) w1) : (Code.region id l.toArray true).wp P Q a w := by
 simp only [ggOk, Bool.and_eq_true] at hok
 obtain ⟨⟨⟨⟨h1, h2⟩, h3⟩, h4⟩, h5⟩ := hok
 have hnd : (dsOf l).Nodup := of_decide_eq_true h2
 have hTl : (rtab .any l.toArray).2.length = l.length := by rw [rtab_length]; simp
 have hds : ∀ (i : Nat) (o : Oper), l[i]? = some o → o.dst = some ((dsOf l)[i]?.getD 0) ∧ (dsOf l)[i]? = some (o.dst.getD 0) := by
  intro i o ho
  have e : (dsOf l)[i]? = some (o.dst.getD 0) := by simp [dsOf, ho]
  refine ⟨?_, e⟩
  have := List.all_eq_true.1 h1 o (List.mem_of_getElem? ho)
  rw [e]
  cases hd : o.dst with
  | none => rw [hd] at this; cases this
  | some d => rfl
 refine wp_region_last_drew (S := fun _ => True) (ds := []) hm trivial (fun _ => ?_)
 refine inv_ (T := rtab .any l.toArray) (B := B) (List.range l.length) (fun b a' w' => ∃ s, a' = putAll (dsOf l) 0 s a ∧ G w w' ∧ (∀ i, i < l.length → b i = true → V i (s i) w') ∧ ∀ i, i < l.length → b i = false → s i = (a.tmps[(dsOf l)[i]?.getD 0]?).getD undef) rfl h4 h5 ?_ ?_ ?_ ?_
 ·rw [hTl, Bool.and_eq_true, beq_iff_eq, beq_iff_eq]
  refine ⟨?_, by simp⟩
  apply List.ext_getElem
  ·simp [lof]
  ·intro i hi1 hi2
   have hi : i < l.length := by simpa [lof] using hi1
   simp [lof, hi]
 ·refine ⟨fun k => (a.tmps[(dsOf l)[k]?.getD 0]?).getD undef, ?_, hGr _, (fun _ _ h => by cases h), fun _ _ _ => rfl⟩
  refine (putAll_self _ _ _ _ (fun j d hj => ?_)).symm
  have hd := List.all_eq_true.1 h3 d (List.mem_of_getElem? hj)
  have hd' : d < a.tmps.size := of_decide_eq_true hd
  simp [hj, hd']
 ·intro i hi b a' w' ⟨s, ha, hb, hv, hq⟩ hbi hon hoff
  subst ha
  have hil : i < l.length := List.mem_range.1 hi
  have ho : l[i]? = some l[i] := List.getElem?_eq_getElem hil
  refine ⟨l[i], by simp, fun K hK => ?_⟩
  have hK' := Shut.out hK
  have hfin : ∀ v w2, G w' w2 → V (0 + i) v w2 → K ((putAll (dsOf l) 0 s a).put l[i].dst v) w2 := by
   intro v w2 hb2 hv2
   refine hK' _ _ ?_
   refine ⟨upd s i v, ?_, hGt _ _ _ hb hb2, fun j hj hbj => ?_, fun j hj hbj => ?_⟩
   ·rw [(hds i _ ho).1, (hds i _ ho).2, Option.getD_some]
    exact putAll_put _ _ _ _ _ _ _ hnd (Nat.zero_le _) (by rw [Nat.sub_zero]; exact (hds i _ ho).2)
   ·by_cases hji : j = i
    ·subst hji
     have : upd s j v j = v := by simp [upd]
     rw [this]
     rw [Nat.zero_add] at hv2
     exact hv2
    ·have : upd s i v j = s j := by simp [upd, hji]
     rw [this]
     rw [up_ne hji] at hbj
     exact hV _ _ _ _ hb2 (hv j hj hbj)
   ·have hji : j ≠ i := by
     rintro rfl
     rw [up_self] at hbj
     cases hbj
    have : upd s i v j = s j := by simp [upd, hji]
    rw [this]
    rw [up_ne hji] at hbj
    exact hq j hj hbj
  have hst := ggSteps_at l 0 hs i _ ho s w' hb (fun j hj => hv j (by have h6 := (Bool.and_eq_true _ _ ▸ hj : _ ∧ _).1; simpa using h6) (hon j (by simpa using hj))) (fun j hj => hq j (of_decide_eq_true (Bool.and_eq_true _ _ ▸ hj : _ ∧ _).1) (hoff j (by simpa using hj))) _ hfin
  unfold stepG at hst
  split
  ·next h7 => rw [if_pos h7] at hst; exact opGives_wp hst
  ·next h7 => rw [if_neg h7] at hst; exact hst
 ·intro b a' w' hall ⟨s, ha, hb, hv, hq⟩
  subst ha
  exact hend s w' hb (fun i hi => hv i hi (hall i (by simpa using hi)))
def pairAt (xs : List Int) (x y : Int) : Bool := decide (x ∈ xs) && (decide (y ∈ xs) && (decide (x.toNat &&& y.toNat = x.toNat) && (ones y.toNat == ones x.toNat + 1)))
def lessP (x y x' y' : Int) : Bool := decide (x < x') || ((x == x') && decide (y < y'))
set_option maxRecDepth 100000 in
set_option maxHeartbeats 4000000 in
theorem specPair (n : Nat) (ku : Value) (xs : List Int) (x y : Int) (w : World) (hk : ReadI w ku xs) (hc : Cx n xs) :
  Calls Tryz.prog 241 #[cx n ku, .agg #[.int .i64 x, .int .i64 y]] w fun e w' => e = .returned (.bool (pairAt xs x y)) ∧ Below w.heap.size w w' := by
 obtain ⟨w1, hw1⟩ : ∃ w1, w1 = (w.alloc (.cells #[.int .i64 n, ku] 26)).alloc (.cells #[.int .i64 x, .int .i64 y] 72) := ⟨_, rfl⟩
 have hB : Below w.heap.size w w1 := by rw [hw1]; exact ((Below.refl _ w).alloc (Nat.le_refl _) _).alloc (by simp) _
 have c0 : w1.cell? ⟨w.heap.size, 0, none⟩ = some (.int .i64 n) := by rw [hw1]; simp
 have c1 : w1.cell? ⟨w.heap.size, 1, none⟩ = some ku := by rw [hw1]; simp
 have c2 : w1.cell? ⟨w.heap.size + 1, 0, none⟩ = some (.int .i64 x) := by rw [hw1]; simp
 have c3 : w1.cell? ⟨w.heap.size + 1, 1, none⟩ = some (.int .i64 y) := by rw [hw1]; simp
 have HB := Aside0.mk hB
 have HK := Aside0.mk (hk.below hB)
 have HC := Aside0.mk hc
 obtain ⟨A1, d1, rfl, -⟩ := id hk
 have x0 : ∀ z : Ext w1, z.1.cell? ⟨w.heap.size, 0, none⟩ = some (.int .i64 n) := fun z => Ext.cell c0 z
 have x1 : ∀ z : Ext w1, z.1.cell? ⟨w.heap.size, 1, none⟩ = some (.slice A1 xs.length d1) := fun z => Ext.cell c1 z
 have x2 : ∀ z : Ext w1, z.1.cell? ⟨w.heap.size + 1, 0, none⟩ = some (.int .i64 x) := fun z => Ext.cell c2 z
 have x3 : ∀ z : Ext w1, z.1.cell? ⟨w.heap.size + 1, 1, none⟩ = some (.int .i64 y) := fun z => Ext.cell c3 z
 obtain ⟨b1, hb1⟩ : ∃ b, b = decide (x ∈ xs) := ⟨_, rfl⟩
 obtain ⟨b2, hb2⟩ : ∃ b, b = decide (y ∈ xs) := ⟨_, rfl⟩
 have HHX : Aside0 (∀ z : Ext w1, Calls Tryz.prog 154 #[cx n (.slice A1 xs.length d1), .int .i64 x] z.1 fun e w' => e = .returned (.bool b1) ∧ Below z.1.heap.size z.1 w') := ⟨fun z => by rw [hb1]; exact specHas n _ xs x z.1 (HK.out.below z.2)⟩
 have HHY : Aside0 (∀ z : Ext w1, Calls Tryz.prog 154 #[cx n (.slice A1 xs.length d1), .int .i64 y] z.1 fun e w' => e = .returned (.bool b2) ∧ Below z.1.heap.size z.1 w') := ⟨fun z => by rw [hb2]; exact specHas n _ xs y z.1 (HK.out.below z.2)⟩
 clear hk hB hc c0 c1 c2 c3
 cases b1 with
 | false =>
  have HA : Aside0 (pairAt xs x y = false) := ⟨by unfold pairAt; rw [← hb1]; rfl⟩
  clear hb1 hb2
  go_enter Tryz.func241, Tryz.ntmps241
  go_wp2
  rw [← hw1]
  clear hw1
  refine wp_region_ext (by kernel_rfl) (by kernel_rfl) ?_
  repeat (go_big_quiet_step ((first | (go_at_call 154; with_reducible exact Calls.ext_of (HHX.out _)) | (go_at_call 154; with_reducible exact Calls.ext_of (HHY.out _)))))
  refine wpQuiet_nil ?_
  rintro _ ⟨z, rfl⟩
  have hbz := z.2
  go_wp2
  go_ret
  exact ⟨by rw [HA.out]; rfl, HB.out.trans (hbz.mono HB.out.size)⟩
 | true =>
  cases b2 with
  | false =>
   have HA : Aside0 (pairAt xs x y = false) := ⟨by unfold pairAt; rw [← hb1, ← hb2]; rfl⟩
   clear hb1 hb2
   go_enter Tryz.func241, Tryz.ntmps241
   go_wp2
   rw [← hw1]
   clear hw1
   refine wp_region_ext (by kernel_rfl) (by kernel_rfl) ?_
   repeat (go_big_quiet_step ((first | (go_at_call 154; with_reducible exact Calls.ext_of (HHX.out _)) | (go_at_call 154; with_reducible exact Calls.ext_of (HHY.out _)))))
   refine wpQuiet_nil ?_
   rintro _ ⟨z, rfl⟩
   have hbz := z.2
   go_wp2
   go_ret
   exact ⟨by rw [HA.out]; rfl, HB.out.trans (hbz.mono HB.out.size)⟩
  | true =>
   obtain ⟨zx, rfl, hx1, hx2⟩ := HC.out.nat (of_decide_eq_true hb1.symm)
   obtain ⟨zy, rfl, hy1, hy2⟩ := HC.out.nat (of_decide_eq_true hb2.symm)
   obtain ⟨I0, hI0⟩ : ∃ b, b = decide (zx &&& zy = zx) := ⟨_, rfl⟩
   obtain ⟨sx, hsx⟩ : ∃ s, s = ones zx := ⟨_, rfl⟩
   obtain ⟨sy, hsy⟩ : ∃ s, s = ones zy := ⟨_, rfl⟩
   have hle := ones_le zx (by omega)
   rw [← hsx] at hle
   have HA : Aside0 (pairAt xs zx zy = (I0 && ((sy : Int) == (sx : Int) + 1))) := ⟨by unfold pairAt; rw [← hb1, ← hb2, Int.toNat_natCast, Int.toNat_natCast, ← hI0, ← hsx, ← hsy, Bool.true_and, Bool.true_and]; congr 1; rw [Bool.eq_iff_iff, beq_iff_eq, beq_iff_eq]; omega⟩
   have hand := and_i64 zx zy (by omega) (by omega)
   have hin : (((zx &&& zy : Nat) : Int) == (zx : Int)) = I0 := by rw [hI0, Bool.eq_iff_iff, beq_iff_eq, decide_eq_true_eq]; omega
   have HSX : Aside0 (∀ z : Ext w1, Calls Tryz.prog 213 #[.int .i64 (zx : Nat)] z.1 fun e w' => e = .returned (.int .i64 (sx : Nat)) ∧ Below z.1.heap.size z.1 w') := ⟨fun z => by rw [hsx]; exact specOnes zx (by omega) z.1⟩
   have HSY : Aside0 (∀ z : Ext w1, Calls Tryz.prog 213 #[.int .i64 (zy : Nat)] z.1 fun e w' => e = .returned (.int .i64 (sy : Nat)) ∧ Below z.1.heap.size z.1 w') := ⟨fun z => by rw [hsy]; exact specOnes zy (by omega) z.1⟩
   clear hb1 hb2 hI0 hsx hsy hx1 hx2 hy1 hy2
   cases I0 with
   | false =>
    rw [Bool.false_and] at HA
    go_enter Tryz.func241, Tryz.ntmps241
    go_wp2
    rw [← hw1]
    clear hw1
    refine wp_region_ext (by kernel_rfl) (by kernel_rfl) ?_
    repeat (go_big_quiet_step ((first | (go_at_call 154; with_reducible exact Calls.ext_of (HHX.out _)) | (go_at_call 154; with_reducible exact Calls.ext_of (HHY.out _)))))
    refine wpQuiet_nil ?_
    rintro _ ⟨z, rfl⟩
    have hbz := z.2
    go_wp2
    go_ret
    exact ⟨by rw [HA.out]; rfl, HB.out.trans (hbz.mono HB.out.size)⟩
   | true =>
    rw [Bool.true_and] at HA
    have hsw : IntKind.i64.wrap ((sx : Int) + 1) = (sx : Int) + 1 := IntWalk.i64_in _ (by omega)
    go_enter Tryz.func241, Tryz.ntmps241
    go_wp2
    rw [← hw1]
    clear hw1
    refine wp_region_ext (by kernel_rfl) (by kernel_rfl) ?_
    repeat (go_big_quiet_step ((first | (go_at_call 154; with_reducible exact Calls.ext_of (HHX.out _)) | (go_at_call 154; with_reducible exact Calls.ext_of (HHY.out _)) | (go_at_call 213; with_reducible exact Calls.ext_of (HSY.out _)) | (go_at_call 213; with_reducible exact Calls.ext_of (HSX.out _)))))
    refine wpQuiet_nil ?_
    rintro _ ⟨z, rfl⟩
    have hbz := z.2
    go_wp2
    go_ret
    exact ⟨by rw [HA.out]; rfl, HB.out.trans (hbz.mono HB.out.size)⟩
set_option maxRecDepth 100000 in
set_option maxHeartbeats 4000000 in
theorem specLess (x y x' y' : Int) (w : World) : Calls Tryz.prog 338 #[.agg #[.int .i64 x, .int .i64 y], .agg #[.int .i64 x', .int .i64 y']] w fun e w' => e = .returned (.bool (lessP x y x' y')) ∧ Below w.heap.size w w' := by
 obtain ⟨w1, hw1⟩ : ∃ w1, w1 = (w.alloc (.cells #[.int .i64 x, .int .i64 y] 72)).alloc (.cells #[.int .i64 x', .int .i64 y'] 72) := ⟨_, rfl⟩
 have hB : Below w.heap.size w w1 := by rw [hw1]; exact ((Below.refl _ w).alloc (Nat.le_refl _) _).alloc (by simp) _
 have c0 : w1.cell? ⟨w.heap.size, 0, none⟩ = some (.int .i64 x) := by rw [hw1]; simp
 have c1 : w1.cell? ⟨w.heap.size, 1, none⟩ = some (.int .i64 y) := by rw [hw1]; simp
 have c2 : w1.cell? ⟨w.heap.size + 1, 0, none⟩ = some (.int .i64 x') := by rw [hw1]; simp
 have c3 : w1.cell? ⟨w.heap.size + 1, 1, none⟩ = some (.int .i64 y') := by rw [hw1]; simp
 have HB := Aside0.mk hB
 clear hB
 have HL : Aside0 (lessP x y x' y' = (decide (x < x') || ((x == x') && decide (y < y')))) := ⟨rfl⟩
 cases h1 : decide (x < x') with
 | true =>
  rw [h1, Bool.true_or] at HL
  go_enter Tryz.func338, Tryz.ntmps338
  go_wp2
  rw [← hw1]
  clear hw1
  go_wp2
  go_ret
  exact ⟨by rw [HL.out]; rfl, HB.out⟩
 | false =>
  rw [h1, Bool.false_or] at HL
  cases h2 : (x == x') with
  | false =>
   rw [h2, Bool.false_and] at HL
   go_enter Tryz.func338, Tryz.ntmps338
   go_wp2
   rw [← hw1]
   clear hw1
   go_wp2
   go_ret
   exact ⟨by rw [HL.out]; rfl, HB.out⟩
  | true =>
   rw [h2, Bool.true_and] at HL
   go_enter Tryz.func338, Tryz.ntmps338
   go_wp2
   rw [← hw1]
   clear hw1
   go_wp2
   go_ret
   exact ⟨by rw [HL.out]; rfl, HB.out⟩
def shares (p q : Int × Int) : Bool := (p.1 == q.1) || ((p.1 == q.2) || ((p.2 == q.1) || (p.2 == q.2)))
/-- pair i is a pair of the complex, behind the one ahead, and shares no face with those ahead -/
def pOkAt (xs : List Int) (ps : List (Int × Int)) (i : Nat) : Bool :=
 pairAt xs (ps.getD i (0, 0)).1 (ps.getD i (0, 0)).2 && ((decide (i = 0) || lessP (ps.getD (i - 1) (0, 0)).1 (ps.getD (i - 1) (0, 0)).2 (ps.getD i (0, 0)).1 (ps.getD i (0, 0)).2) && (List.range i).all fun j => !shares (ps.getD i (0, 0)) (ps.getD j (0, 0)))
def pOk (xs : List Int) (ps : List (Int × Int)) : Bool := (List.range ps.length).all (pOkAt xs ps)
theorem pOk_false {xs : List Int} {ps : List (Int × Int)} {i : Nat} (hi : i < ps.length) (h : pOkAt xs ps i = false) : pOk xs ps = false := List.all_eq_false.2 ⟨i, List.mem_range.2 hi, by rw [h]; decide⟩
theorem pOk_true {xs : List Int} {ps : List (Int × Int)} (h : ∀ i, i < ps.length → pOkAt xs ps i = true) : pOk xs ps = true := List.all_eq_true.2 (fun i hi => h i (List.mem_range.1 hi))
theorem pOkAt_share {xs : List Int} {ps : List (Int × Int)} {i j : Nat} (hj : j < i) (h : shares (ps.getD i (0, 0)) (ps.getD j (0, 0)) = true) : pOkAt xs ps i = false := by
 unfold pOkAt
 have : ((List.range i).all fun j => !shares (ps.getD i (0, 0)) (ps.getD j (0, 0))) = false := List.all_eq_false.2 ⟨j, List.mem_range.2 hj, by rw [h]; decide⟩
 rw [this, Bool.and_false, Bool.and_false]
theorem pOkAt_pair {xs : List Int} {ps : List (Int × Int)} {i : Nat} {x y : Int} (e : ps[i]? = some (x, y)) (h : pairAt xs x y = false) : pOkAt xs ps i = false := by
 unfold pOkAt
 rw [show ps.getD i (0, 0) = (x, y) by rw [List.getD_eq_getElem?_getD, e]; rfl, h, Bool.false_and]
theorem pOkAt_less {xs : List Int} {ps : List (Int × Int)} {i : Nat} {x y x' y' : Int} (hi : i ≠ 0) (e : ps[i]? = some (x, y)) (e' : ps[i - 1]? = some (x', y')) (h : lessP x' y' x y = false) : pOkAt xs ps i = false := by
 unfold pOkAt
 rw [show ps.getD i (0, 0) = (x, y) by rw [List.getD_eq_getElem?_getD, e]; rfl, show ps.getD (i - 1) (0, 0) = (x', y') by rw [List.getD_eq_getElem?_getD, e']; rfl, h, decide_eq_false hi, Bool.or_false, Bool.false_and, Bool.and_false]
theorem pOkAt_all {xs : List Int} {ps : List (Int × Int)} {i : Nat} (h1 : pairAt xs (ps.getD i (0, 0)).1 (ps.getD i (0, 0)).2 = true) (h2 : (decide (i = 0) || lessP (ps.getD (i - 1) (0, 0)).1 (ps.getD (i - 1) (0, 0)).2 (ps.getD i (0, 0)).1 (ps.getD i (0, 0)).2) = true) (h3 : ∀ j, j < i → shares (ps.getD i (0, 0)) (ps.getD j (0, 0)) = false) : pOkAt xs ps i = true := by
 unfold pOkAt
 rw [h1, h2, Bool.true_and, Bool.true_and]
 exact List.all_eq_true.2 (fun j hj => by rw [h3 j (List.mem_range.1 hj)]; rfl)
set_option maxRecDepth 100000 in
set_option maxHeartbeats 8000000 in
theorem specIs2 (n : Nat) (ku : Value) (xs : List Int) (v : Value) (ps : List (Int × Int)) (w : World) (hk : ReadI w ku xs) (hv : ReadP w v ps) (hc : Cx n xs) :
  Calls Tryz.prog 301 #[cx n ku, v] w fun e w' => e = .returned (.bool (pOk xs ps)) ∧ Below w.heap.size w w' := by
 obtain ⟨w1, hw1⟩ : ∃ w1, w1 = w.alloc (.cells #[.int .i64 n, ku] 26) := ⟨_, rfl⟩
 have hB : Below w.heap.size w w1 := by rw [hw1]; exact Below.alloc (Below.refl _ _) (Nat.le_refl _) _
 have c0 : w1.cell? ⟨w.heap.size, 0, none⟩ = some (.int .i64 n) := by rw [hw1]; simp
 have c1 : w1.cell? ⟨w.heap.size, 1, none⟩ = some ku := by rw [hw1]; simp
 have HB := Aside0.mk hB
 have HK := Aside0.mk (hk.below hB)
 have HV := Aside0.mk (hv.below hB)
 have HC := Aside0.mk hc
 obtain ⟨A1, d1, rfl, -⟩ := id hk
 obtain ⟨A2, d2, rfl, hl9, -⟩ := id hv
 clear hk hv hB hc
 go_enter Tryz.func301, Tryz.ntmps301
 go_wp2
 rw [← hw1]
 clear hw1
 go_loopw [5] (fun s5 wr => ∃ i : Nat, s5 = .int .i64 i ∧ i ≤ ps.length ∧ Aside0 (∀ t, t < i → pOkAt xs ps t = true) ∧ Aside0 (Below w1.heap.size w1 wr)) (fun s5 _ => ps.length - (intOf s5).toNat)
 case atStart => exact ⟨0, rfl, Nat.zero_le _, ⟨fun t h => absurd h (Nat.not_lt_zero _)⟩, ⟨Below.refl _ _⟩⟩
 case round =>
  obtain ⟨i, rfl, hi, HI, HBr⟩ := hrel
  have c0 := pw_cell_below HBr.out c0
  have c1 := pw_cell_below HBr.out c1
  by_cases hlt : i < ps.length
  ·obtain ⟨g, x, y, rfl, hxy, hc0, hc1⟩ := ReadP.get (HV.out.below HBr.out) hlt
   have HXY := Aside0.mk hxy
   have b0 : ∀ z : Ext wr, z.1.cell? ⟨w.heap.size, 0, none⟩ = some (.int .i64 n) := fun z => Ext.cell c0 z
   have b1 : ∀ z : Ext wr, z.1.cell? ⟨w.heap.size, 1, none⟩ = some (.slice A1 xs.length d1) := fun z => Ext.cell c1 z
   have b2 : ∀ z : Ext wr, z.1.cell? ⟨g, i * 2, none⟩ = some (.int .i64 x) := fun z => Ext.cell hc0 z
   have b3 : ∀ z : Ext wr, z.1.cell? ⟨g, i * 2 + 1, none⟩ = some (.int .i64 y) := fun z => Ext.cell hc1 z
   have hiI : (i : Int) < (ps.length : Int) := by omega
   obtain ⟨P0, hP0⟩ : ∃ P0, P0 = pairAt xs x y := ⟨_, rfl⟩
   have HPA : Aside0 (∀ z : Ext wr, Calls Tryz.prog 241 #[cx n (.slice A1 xs.length d1), .agg #[.int .i64 x, .int .i64 y]] z.1 fun e w' => e = .returned (.bool P0) ∧ Below z.1.heap.size z.1 w') := ⟨fun z => by rw [hP0]; exact specPair n _ xs x y z.1 ((HK.out.below HBr.out).below z.2) HC.out⟩
   cases P0 with
   | false =>
    have HA : Aside0 (pOk xs ps = false) := ⟨pOk_false hlt (pOkAt_pair hxy hP0.symm)⟩
    clear hP0 hxy hlt hc0 hc1
    go_wp2
    refine wp_region_ext (by kernel_rfl) (by kernel_rfl) ?_
    repeat (go_big_quiet_step (first | (go_at_call 241; with_reducible exact Calls.ext_of (HPA.out _))))
    refine wpQuiet_nil ?_
    rintro _ ⟨z, rfl⟩
    have hbz := z.2
    go_wp2
    go_ret
    exact ⟨by rw [HA.out]; rfl, HB.out.trans ((HBr.out.trans (hbz.mono HBr.out.size)).mono HB.out.size)⟩
   | true =>
    have HPT : Aside0 (pairAt xs (ps.getD i (0, 0)).1 (ps.getD i (0, 0)).2 = true) := ⟨by rw [List.getD_eq_getElem?_getD, hxy]; exact hP0.symm⟩
    clear hP0
    by_cases h0 : i = 0
    ·have HLT : Aside0 ((decide (i = 0) || lessP (ps.getD (i - 1) (0, 0)).1 (ps.getD (i - 1) (0, 0)).2 (ps.getD i (0, 0)).1 (ps.getD i (0, 0)).2) = true) := ⟨by rw [decide_eq_true h0, Bool.true_or]⟩
     have h0' : decide (0 < i) = false := decide_eq_false (by omega)
     clear h0 hxy hc0 hc1
     go_wp2
     refine wp_region_ext (by kernel_rfl) (by kernel_rfl) ?_
     repeat (go_big_quiet_step (first | (go_at_call 241; with_reducible exact Calls.ext_of (HPA.out _))))
     refine wpQuiet_nil ?_
     rintro _ ⟨z, rfl⟩
     have hbz := z.2
     have HBz := Aside0.mk (HBr.out.trans (hbz.mono HBr.out.size))
     clear hbz
     go_wp2
     go_loopw [6] (fun s6 wj => ∃ j : Nat, s6 = .int .i64 j ∧ j ≤ i ∧ Aside0 (∀ t, t < j → shares (ps.getD i (0, 0)) (ps.getD t (0, 0)) = false) ∧ Aside0 (Below w1.heap.size w1 wj)) (fun s6 _ => i - (intOf s6).toNat)
     case atStart => exact ⟨0, rfl, Nat.zero_le _, ⟨fun t h => absurd h (Nat.not_lt_zero _)⟩, HBz⟩
     case round =>
      obtain ⟨j, rfl, hj, HS, HBj⟩ := hrel
      by_cases hji : j < i
      ·obtain ⟨g1, x1, y1, e1, hxy1, hc0, hc1⟩ := ReadP.get (HV.out.below HBj.out) hlt
       rw [HXY.out] at hxy1
       cases hxy1
       cases e1
       obtain ⟨g2, x2, y2, e2, hxy2, hd0, hd1⟩ := ReadP.get (HV.out.below HBj.out) (i := j) (by omega)
       cases e2
       have a0 : ∀ z : Ext wr, z.1.cell? ⟨g, i * 2, none⟩ = some (.int .i64 x) := fun z => Ext.cell hc0 z
       have a1 : ∀ z : Ext wr, z.1.cell? ⟨g, i * 2 + 1, none⟩ = some (.int .i64 y) := fun z => Ext.cell hc1 z
       have a2 : ∀ z : Ext wr, z.1.cell? ⟨g, j * 2, none⟩ = some (.int .i64 x2) := fun z => Ext.cell hd0 z
       have a3 : ∀ z : Ext wr, z.1.cell? ⟨g, j * 2 + 1, none⟩ = some (.int .i64 y2) := fun z => Ext.cell hd1 z
       have hiI : (i : Int) < (ps.length : Int) := by omega
       have hjI : (j : Int) < (ps.length : Int) := by omega
       have HSH : Aside0 (shares (ps.getD i (0, 0)) (ps.getD j (0, 0)) = ((x == x2) || ((x == y2) || ((y == x2) || (y == y2))))) := ⟨by rw [List.getD_eq_getElem?_getD, List.getD_eq_getElem?_getD, HXY.out, hxy2]; rfl⟩
       clear hc0 hc1 hd0 hd1 hxy2
       cases q0 : (x == x2) with
       | true =>
        have HA : Aside0 (pOk xs ps = false) := ⟨pOk_false hlt (pOkAt_share hji (by rw [HSH.out, q0]; rfl))⟩
        clear hlt
        go_wp2
        refine wp_region_ext (by kernel_rfl) (by kernel_rfl) ?_
        repeat (go_big_quiet_step (fail))
        refine wpQuiet_nil ?_
        rintro _ ⟨z, rfl⟩
        have hbz := z.2
        go_wp2
        go_ret
        exact ⟨by rw [HA.out]; rfl, HB.out.trans ((HBj.out.trans (hbz.mono HBj.out.size)).mono HB.out.size)⟩
       | false =>
        cases q1 : (x == y2) with
        | true =>
         have HA : Aside0 (pOk xs ps = false) := ⟨pOk_false hlt (pOkAt_share hji (by rw [HSH.out, q0, q1]; rfl))⟩
         clear hlt
         go_wp2
         refine wp_region_ext (by kernel_rfl) (by kernel_rfl) ?_
         repeat (go_big_quiet_step (fail))
         refine wpQuiet_nil ?_
         rintro _ ⟨z, rfl⟩
         have hbz := z.2
         go_wp2
         go_ret
         exact ⟨by rw [HA.out]; rfl, HB.out.trans ((HBj.out.trans (hbz.mono HBj.out.size)).mono HB.out.size)⟩
        | false =>
         cases q2 : (y == x2) with
         | true =>
          have HA : Aside0 (pOk xs ps = false) := ⟨pOk_false hlt (pOkAt_share hji (by rw [HSH.out, q0, q1, q2]; rfl))⟩
          clear hlt
          go_wp2
          refine wp_region_ext (by kernel_rfl) (by kernel_rfl) ?_
          repeat (go_big_quiet_step (fail))
          refine wpQuiet_nil ?_
          rintro _ ⟨z, rfl⟩
          have hbz := z.2
          go_wp2
          go_ret
          exact ⟨by rw [HA.out]; rfl, HB.out.trans ((HBj.out.trans (hbz.mono HBj.out.size)).mono HB.out.size)⟩
         | false =>
          cases q3 : (y == y2) with
          | true =>
           have HA : Aside0 (pOk xs ps = false) := ⟨pOk_false hlt (pOkAt_share hji (by rw [HSH.out, q0, q1, q2, q3]; rfl))⟩
           clear hlt
           go_wp2
           refine wp_region_ext (by kernel_rfl) (by kernel_rfl) ?_
           repeat (go_big_quiet_step (fail))
           refine wpQuiet_nil ?_
           rintro _ ⟨z, rfl⟩
           have hbz := z.2
           go_wp2
           go_ret
           exact ⟨by rw [HA.out]; rfl, HB.out.trans ((HBj.out.trans (hbz.mono HBj.out.size)).mono HB.out.size)⟩
          | false =>
           have HS2 : Aside0 (∀ t, t < j + 1 → shares (ps.getD i (0, 0)) (ps.getD t (0, 0)) = false) := ⟨fun t ht => by
            rcases Nat.lt_succ_iff_lt_or_eq.1 ht with h | h
            ·exact HS.out t h
            ·rw [h, HSH.out, q0, q1, q2, q3]; rfl⟩
           go_wp2
           refine wp_region_ext (by kernel_rfl) (by kernel_rfl) ?_
           repeat (go_big_quiet_step (fail))
           refine wpQuiet_nil ?_
           rintro _ ⟨z, rfl⟩
           have hbz := z.2
           have HBn := Aside0.mk (HBj.out.trans (hbz.mono HBj.out.size))
           clear hbz
           go_wp2
           go_roundw
           case rel => exact ⟨j + 1, by go_num, by omega, HS2, HBn⟩
           case measure => simp [intOf]; omega
      ·have e : j = i := by omega
       have HI2 : Aside0 (∀ t, t < i + 1 → pOkAt xs ps t = true) := ⟨fun t ht => by
        rcases Nat.lt_succ_iff_lt_or_eq.1 ht with h | h
        ·exact HI.out t h
        ·rw [h]; exact pOkAt_all HPT.out HLT.out (fun u hu => HS.out u (by omega))⟩
       clear e
       go_wp2
       go_roundw
       case rel => exact ⟨i + 1, by go_num, by omega, HI2, HBj⟩
       case measure => simp [intOf]; omega
    ·have h0' : decide (0 < i) = true := decide_eq_true (by omega)
     have h1i : (0 : Int) ≤ (i : Int) - 1 := by omega
     have h2i : (i : Int) - 1 < ps.length := by omega
     have h3i : ((i : Int) - 1).toNat = i - 1 := by omega
     obtain ⟨g2, x', y', e2, hxy', hd0, hd1⟩ := ReadP.get (HV.out.below HBr.out) (i := i - 1) (by omega)
     cases e2
     have b4 : ∀ z : Ext wr, z.1.cell? ⟨g, (i - 1) * 2, none⟩ = some (.int .i64 x') := fun z => Ext.cell hd0 z
     have b5 : ∀ z : Ext wr, z.1.cell? ⟨g, (i - 1) * 2 + 1, none⟩ = some (.int .i64 y') := fun z => Ext.cell hd1 z
     obtain ⟨L0, hL0⟩ : ∃ L0, L0 = lessP x' y' x y := ⟨_, rfl⟩
     have HLE : Aside0 (∀ z : Ext wr, Calls Tryz.prog 338 #[.agg #[.int .i64 x', .int .i64 y'], .agg #[.int .i64 x, .int .i64 y]] z.1 fun e w' => e = .returned (.bool L0) ∧ Below z.1.heap.size z.1 w') := ⟨fun z => by rw [hL0]; exact specLess x' y' x y z.1⟩
     cases L0 with
     | false =>
      have HA : Aside0 (pOk xs ps = false) := ⟨pOk_false hlt (pOkAt_less h0 hxy hxy' hL0.symm)⟩
      clear hL0 h0 hxy hxy' hlt hc0 hc1 hd0 hd1
      go_wp2
      refine wp_region_ext (by kernel_rfl) (by kernel_rfl) ?_
      repeat (go_big_quiet_step (first | (go_at_call 241; with_reducible exact Calls.ext_of (HPA.out _)) | (go_at_call 338; with_reducible exact Calls.ext_of (HLE.out _))))
      refine wpQuiet_nil ?_
      rintro _ ⟨z, rfl⟩
      have hbz := z.2
      go_wp2
      go_ret
      exact ⟨by rw [HA.out]; rfl, HB.out.trans ((HBr.out.trans (hbz.mono HBr.out.size)).mono HB.out.size)⟩
     | true =>
      have HLT : Aside0 ((decide (i = 0) || lessP (ps.getD (i - 1) (0, 0)).1 (ps.getD (i - 1) (0, 0)).2 (ps.getD i (0, 0)).1 (ps.getD i (0, 0)).2) = true) := ⟨by rw [List.getD_eq_getElem?_getD, hxy', List.getD_eq_getElem?_getD, hxy]; show (_ || lessP x' y' x y) = true; rw [← hL0, Bool.or_true]⟩
      clear hL0 h0 hxy hxy' hc0 hc1 hd0 hd1
      go_wp2
      refine wp_region_ext (by kernel_rfl) (by kernel_rfl) ?_
      repeat (go_big_quiet_step (first | (go_at_call 241; with_reducible exact Calls.ext_of (HPA.out _)) | (go_at_call 338; with_reducible exact Calls.ext_of (HLE.out _))))
      refine wpQuiet_nil ?_
      rintro _ ⟨z, rfl⟩
      have hbz := z.2
      have HBz := Aside0.mk (HBr.out.trans (hbz.mono HBr.out.size))
      clear hbz
      go_wp2
      go_loopw [6] (fun s6 wj => ∃ j : Nat, s6 = .int .i64 j ∧ j ≤ i ∧ Aside0 (∀ t, t < j → shares (ps.getD i (0, 0)) (ps.getD t (0, 0)) = false) ∧ Aside0 (Below w1.heap.size w1 wj)) (fun s6 _ => i - (intOf s6).toNat)
      case atStart => exact ⟨0, rfl, Nat.zero_le _, ⟨fun t h => absurd h (Nat.not_lt_zero _)⟩, HBz⟩
      case round =>
       obtain ⟨j, rfl, hj, HS, HBj⟩ := hrel
       by_cases hji : j < i
       ·obtain ⟨g1, x1, y1, e1, hxy1, hc0, hc1⟩ := ReadP.get (HV.out.below HBj.out) hlt
        rw [HXY.out] at hxy1
        cases hxy1
        cases e1
        obtain ⟨g2, x2, y2, e2, hxy2, hd0, hd1⟩ := ReadP.get (HV.out.below HBj.out) (i := j) (by omega)
        cases e2
        have a0 : ∀ z : Ext wr, z.1.cell? ⟨g, i * 2, none⟩ = some (.int .i64 x) := fun z => Ext.cell hc0 z
        have a1 : ∀ z : Ext wr, z.1.cell? ⟨g, i * 2 + 1, none⟩ = some (.int .i64 y) := fun z => Ext.cell hc1 z
        have a2 : ∀ z : Ext wr, z.1.cell? ⟨g, j * 2, none⟩ = some (.int .i64 x2) := fun z => Ext.cell hd0 z
        have a3 : ∀ z : Ext wr, z.1.cell? ⟨g, j * 2 + 1, none⟩ = some (.int .i64 y2) := fun z => Ext.cell hd1 z
        have hiI : (i : Int) < (ps.length : Int) := by omega
        have hjI : (j : Int) < (ps.length : Int) := by omega
        have HSH : Aside0 (shares (ps.getD i (0, 0)) (ps.getD j (0, 0)) = ((x == x2) || ((x == y2) || ((y == x2) || (y == y2))))) := ⟨by rw [List.getD_eq_getElem?_getD, List.getD_eq_getElem?_getD, HXY.out, hxy2]; rfl⟩
        clear hc0 hc1 hd0 hd1 hxy2
        cases q0 : (x == x2) with
        | true =>
         have HA : Aside0 (pOk xs ps = false) := ⟨pOk_false hlt (pOkAt_share hji (by rw [HSH.out, q0]; rfl))⟩
         clear hlt
         go_wp2
         refine wp_region_ext (by kernel_rfl) (by kernel_rfl) ?_
         repeat (go_big_quiet_step (fail))
         refine wpQuiet_nil ?_
         rintro _ ⟨z, rfl⟩
         have hbz := z.2
         go_wp2
         go_ret
         exact ⟨by rw [HA.out]; rfl, HB.out.trans ((HBj.out.trans (hbz.mono HBj.out.size)).mono HB.out.size)⟩
        | false =>
         cases q1 : (x == y2) with
         | true =>
          have HA : Aside0 (pOk xs ps = false) := ⟨pOk_false hlt (pOkAt_share hji (by rw [HSH.out, q0, q1]; rfl))⟩
          clear hlt
          go_wp2
          refine wp_region_ext (by kernel_rfl) (by kernel_rfl) ?_
          repeat (go_big_quiet_step (fail))
          refine wpQuiet_nil ?_
          rintro _ ⟨z, rfl⟩
          have hbz := z.2
          go_wp2
          go_ret
          exact ⟨by rw [HA.out]; rfl, HB.out.trans ((HBj.out.trans (hbz.mono HBj.out.size)).mono HB.out.size)⟩
         | false =>
          cases q2 : (y == x2) with
          | true =>
           have HA : Aside0 (pOk xs ps = false) := ⟨pOk_false hlt (pOkAt_share hji (by rw [HSH.out, q0, q1, q2]; rfl))⟩
           clear hlt
           go_wp2
           refine wp_region_ext (by kernel_rfl) (by kernel_rfl) ?_
           repeat (go_big_quiet_step (fail))
           refine wpQuiet_nil ?_
           rintro _ ⟨z, rfl⟩
           have hbz := z.2
           go_wp2
           go_ret
           exact ⟨by rw [HA.out]; rfl, HB.out.trans ((HBj.out.trans (hbz.mono HBj.out.size)).mono HB.out.size)⟩
          | false =>
           cases q3 : (y == y2) with
           | true =>
            have HA : Aside0 (pOk xs ps = false) := ⟨pOk_false hlt (pOkAt_share hji (by rw [HSH.out, q0, q1, q2, q3]; rfl))⟩
            clear hlt
            go_wp2
            refine wp_region_ext (by kernel_rfl) (by kernel_rfl) ?_
            repeat (go_big_quiet_step (fail))
            refine wpQuiet_nil ?_
            rintro _ ⟨z, rfl⟩
            have hbz := z.2
            go_wp2
            go_ret
            exact ⟨by rw [HA.out]; rfl, HB.out.trans ((HBj.out.trans (hbz.mono HBj.out.size)).mono HB.out.size)⟩
           | false =>
            have HS2 : Aside0 (∀ t, t < j + 1 → shares (ps.getD i (0, 0)) (ps.getD t (0, 0)) = false) := ⟨fun t ht => by
             rcases Nat.lt_succ_iff_lt_or_eq.1 ht with h | h
             ·exact HS.out t h
             ·rw [h, HSH.out, q0, q1, q2, q3]; rfl⟩
            go_wp2
            refine wp_region_ext (by kernel_rfl) (by kernel_rfl) ?_
            repeat (go_big_quiet_step (fail))
            refine wpQuiet_nil ?_
            rintro _ ⟨z, rfl⟩
            have hbz := z.2
            have HBn := Aside0.mk (HBj.out.trans (hbz.mono HBj.out.size))
            clear hbz
            go_wp2
            go_roundw
            case rel => exact ⟨j + 1, by go_num, by omega, HS2, HBn⟩
            case measure => simp [intOf]; omega
       ·have e : j = i := by omega
        have HI2 : Aside0 (∀ t, t < i + 1 → pOkAt xs ps t = true) := ⟨fun t ht => by
         rcases Nat.lt_succ_iff_lt_or_eq.1 ht with h | h
         ·exact HI.out t h
         ·rw [h]; exact pOkAt_all HPT.out HLT.out (fun u hu => HS.out u (by omega))⟩
        clear e
        go_wp2
        go_roundw
        case rel => exact ⟨i + 1, by go_num, by omega, HI2, HBj⟩
        case measure => simp [intOf]; omega
  ·have HA : Aside0 (pOk xs ps = true) := ⟨pOk_true (fun t ht => HI.out t (by omega))⟩
   go_wp2
   go_ret
   exact ⟨by rw [HA.out]; rfl, HB.out.trans (HBr.out.mono HB.out.size)⟩
def cmpI (x y : Int) : Int := if x < y then -1 else if x = y then 0 else 1
def cmpP (x y x' y' : Int) : Int := if x = x' then cmpI y y' else cmpI x x'
theorem cmpI_zero {x y : Int} (h : cmpI x y = 0) : x = y := by unfold cmpI at h; split at h <;> (try split at h) <;> omega
theorem cmpI_self (x : Int) : cmpI x x = 0 := by unfold cmpI; rw [if_neg (by omega), if_pos rfl]
/-- two ascending lists of the same numbers -/
theorem asc_ext : ∀ {l l' : List Int}, l.Pairwise (· < ·) → l'.Pairwise (· < ·) → (∀ x, x ∈ l ↔ x ∈ l') → l = l'
 | [], [], _, _, _ => rfl
 | [], b :: l', _, _, h => by have := (h b).2 List.mem_cons_self; cases this
 | a :: l, [], _, _, h => by have := (h a).1 List.mem_cons_self; cases this
 | a :: l, b :: l', h1, h2, h => by
  rw [List.pairwise_cons] at h1 h2
  have hab : a = b := by
   have e1 := (h a).1 List.mem_cons_self
   have e2 := (h b).2 List.mem_cons_self
   rcases List.mem_cons.1 e1 with e1 | e1
   ·exact e1
   ·rcases List.mem_cons.1 e2 with e2 | e2
    ·exact e2.symm
    ·have := h2.1 a e1; have := h1.1 b e2; omega
  subst hab
  rw [asc_ext h1.2 h2.2 (fun x => ?_)]
  constructor
  ·intro hx
   have h3 := h1.1 x hx
   rcases List.mem_cons.1 ((h x).1 (List.mem_cons_of_mem _ hx)) with e | e
   ·omega
   ·exact e
  ·intro hx
   have h3 := h2.1 x hx
   rcases List.mem_cons.1 ((h x).2 (List.mem_cons_of_mem _ hx)) with e | e
   ·omega
   ·exact e
/-- the bits of a list, each turned -/
def bitsI (l : List Int) : Nat := l.foldl (fun m x => m ^^^ 2 ^ x.toNat) 0
/-- the list of a number's bits -/
def listI (m : Nat) : List Int := ((List.range 64).filter fun v => m.testBit v).map fun (v : Nat) => (v : Int)
theorem listI_mem {m : Nat} {x : Int} : x ∈ listI m ↔ ∃ v : Nat, x = v ∧ v < 64 ∧ m.testBit v = true := by
 unfold listI
 rw [List.mem_map]
 constructor
 ·rintro ⟨v, hv, rfl⟩
  rw [List.mem_filter, List.mem_range] at hv
  exact ⟨v, rfl, hv.1, hv.2⟩
 ·rintro ⟨v, rfl, h1, h2⟩
  exact ⟨v, List.mem_filter.2 ⟨List.mem_range.2 h1, h2⟩, rfl⟩
theorem listI_asc (m : Nat) : (listI m).Pairwise (· < ·) := by
 unfold listI
 rw [List.pairwise_map]
 refine List.Pairwise.sublist List.filter_sublist ?_
 exact List.Pairwise.imp (fun h => by omega) List.pairwise_lt_range
theorem bits_fold : ∀ (l : List Int), l.Pairwise (· < ·) → (∀ x ∈ l, 0 ≤ x) → ∀ (m v : Nat), (l.foldl (fun m x => m ^^^ 2 ^ x.toNat) m).testBit v = (m.testBit v != decide ((v : Int) ∈ l))
 | [], _, _, m, v => by simp
 | a :: r, h1, h2, m, v => by
  rw [List.pairwise_cons] at h1
  rw [List.foldl_cons, bits_fold r h1.2 (fun x hx => h2 x (List.mem_cons_of_mem _ hx)) _ v, Nat.testBit_xor, Nat.testBit_two_pow]
  have ha := h2 a List.mem_cons_self
  by_cases hav : a.toNat = v
  ·have e : (v : Int) = a := by omega
   have hnr : (v : Int) ∉ r := fun h => by have := h1.1 _ h; omega
   rw [decide_eq_true hav, decide_eq_false hnr, decide_eq_true (show (v : Int) ∈ a :: r by rw [e]; exact List.mem_cons_self)]
   cases m.testBit v <;> rfl
  ·have hne : (v : Int) ≠ a := by omega
   have e : decide ((v : Int) ∈ a :: r) = decide ((v : Int) ∈ r) := by
    rw [Bool.eq_iff_iff, decide_eq_true_eq, decide_eq_true_eq, List.mem_cons]
    exact ⟨fun h => h.resolve_left hne, Or.inr⟩
   rw [decide_eq_false hav, e]
   cases m.testBit v <;> rfl
theorem bits_test {l : List Int} (h1 : l.Pairwise (· < ·)) (h2 : ∀ x ∈ l, 0 ≤ x) (v : Nat) : (bitsI l).testBit v = decide ((v : Int) ∈ l) := by
 unfold bitsI
 rw [bits_fold l h1 h2 0 v, Nat.zero_testBit]
 cases decide ((v : Int) ∈ l) <;> rfl
theorem list_bits {l : List Int} (h1 : l.Pairwise (· < ·)) (h2 : ∀ x ∈ l, 0 ≤ x ∧ x ≤ 63) : listI (bitsI l) = l := by
 refine asc_ext (listI_asc _) h1 (fun x => ?_)
 rw [listI_mem]
 constructor
 ·rintro ⟨v, rfl, _, h⟩
  rw [bits_test h1 (fun x hx => (h2 x hx).1), decide_eq_true_eq] at h
  exact h
 ·intro hx
  have := h2 x hx
  have e : ((x.toNat : Nat) : Int) = x := by omega
  exact ⟨x.toNat, e.symm, by omega, by rw [bits_test h1 (fun x hx => (h2 x hx).1), e, decide_eq_true hx]⟩
/-- the numbers in just one of two ascending lists -/
def symd : List Int → List Int → List Int
 | [], b => b
 | x :: a, [] => x :: a
 | x :: a, y :: b => if x < y then x :: symd a (y :: b) else if y < x then y :: symd (x :: a) b else symd a b
termination_by a b => a.length + b.length
theorem symd_nil (a : List Int) : symd a [] = a := by cases a <;> simp [symd]
theorem symd_mem : ∀ (a b : List Int), a.Pairwise (· < ·) → b.Pairwise (· < ·) → ∀ z, z ∈ symd a b ↔ ((z ∈ a ∧ z ∉ b) ∨ (z ∉ a ∧ z ∈ b))
 | [], b, _, _, z => by simp [symd]
 | x :: a, [], _, _, z => by simp [symd]
 | x :: a, y :: b, h1, h2, z => by
  have g1 := List.pairwise_cons.1 h1
  have g2 := List.pairwise_cons.1 h2
  unfold symd
  split
  ·next hxy =>
   rw [List.mem_cons, symd_mem a (y :: b) g1.2 h2 z]
   have hxb : x ∉ y :: b := fun h => by
    rcases List.mem_cons.1 h with h | h
    ·omega
    ·have := g2.1 x h; omega
   have hxa : x ∉ a := fun h => by have := g1.1 x h; omega
   by_cases hz : z = x
   ·subst hz
    simp only [true_or, true_iff, List.mem_cons, true_and, not_true, false_and, or_false]
    exact fun h => hxb (List.mem_cons.2 h)
   ·simp only [hz, false_or, List.mem_cons, false_or]
  ·split
   ·next hnx hyx =>
    rw [List.mem_cons, symd_mem (x :: a) b h1 g2.2 z]
    have hya : y ∉ x :: a := fun h => by
     rcases List.mem_cons.1 h with h | h
     ·omega
     ·have := g1.1 y h; omega
    by_cases hz : z = y
    ·subst hz
     simp only [true_or, true_iff]
     exact .inr ⟨hya, List.mem_cons_self⟩
    ·have e : z ∈ y :: b ↔ z ∈ b := by rw [List.mem_cons]; exact ⟨fun h => h.resolve_left hz, Or.inr⟩
     rw [e]
     simp only [hz, false_or]
   ·next hnx hny =>
    obtain rfl : x = y := by omega
    rw [symd_mem a b g1.2 g2.2 z]
    have hxa : x ∉ a := fun h => by have := g1.1 x h; omega
    have hxb : x ∉ b := fun h => by have := g2.1 x h; omega
    by_cases hz : z = x
    ·subst hz
     constructor
     ·rintro (⟨h, _⟩ | ⟨_, h⟩)
      ·exact absurd h hxa
      ·exact absurd h hxb
     ·rintro (⟨_, h⟩ | ⟨h, _⟩)
      ·exact absurd List.mem_cons_self h
      ·exact absurd List.mem_cons_self h
    ·have e1 : z ∈ x :: a ↔ z ∈ a := by rw [List.mem_cons]; exact ⟨fun h => h.resolve_left hz, Or.inr⟩
     have e2 : z ∈ x :: b ↔ z ∈ b := by rw [List.mem_cons]; exact ⟨fun h => h.resolve_left hz, Or.inr⟩
     rw [e1, e2]
termination_by a b => a.length + b.length
theorem symd_asc : ∀ (a b : List Int), a.Pairwise (· < ·) → b.Pairwise (· < ·) → (symd a b).Pairwise (· < ·)
 | [], b, _, h => by unfold symd; exact h
 | x :: a, [], h, _ => by unfold symd; exact h
 | x :: a, y :: b, h1, h2 => by
  have g1 := List.pairwise_cons.1 h1
  have g2 := List.pairwise_cons.1 h2
  unfold symd
  split
  ·next hxy =>
   rw [List.pairwise_cons]
   refine ⟨fun z hz => ?_, symd_asc a (y :: b) g1.2 h2⟩
   rcases (symd_mem a (y :: b) g1.2 h2 z).1 hz with ⟨h, _⟩ | ⟨_, h⟩
   ·exact g1.1 z h
   ·rcases List.mem_cons.1 h with h | h
    ·omega
    ·have := g2.1 z h; omega
  ·split
   ·next hnx hyx =>
    rw [List.pairwise_cons]
    refine ⟨fun z hz => ?_, symd_asc (x :: a) b h1 g2.2⟩
    rcases (symd_mem (x :: a) b h1 g2.2 z).1 hz with ⟨h, _⟩ | ⟨_, h⟩
    ·rcases List.mem_cons.1 h with h | h
     ·omega
     ·have := g1.1 z h; omega
    ·exact g2.1 z h
   ·exact symd_asc a b g1.2 g2.2
termination_by a b => a.length + b.length
theorem symd_list (m : Nat) {b : List Int} (h1 : b.Pairwise (· < ·)) (h2 : ∀ x ∈ b, 0 ≤ x ∧ x ≤ 63) : symd (listI m) b = listI (m ^^^ bitsI b) := by
 refine asc_ext (symd_asc _ _ (listI_asc m) h1) (listI_asc _) (fun x => ?_)
 rw [symd_mem _ _ (listI_asc m) h1, listI_mem, listI_mem]
 by_cases hx : 0 ≤ x ∧ x ≤ 63
 ·obtain ⟨v, rfl⟩ : ∃ v : Nat, x = v := ⟨x.toNat, by omega⟩
  have hv : v < 64 := by omega
  have e1 : (∃ u : Nat, (v : Int) = u ∧ u < 64 ∧ m.testBit u = true) ↔ m.testBit v = true :=
   ⟨fun ⟨u, h, _, h3⟩ => by have : v = u := by omega
                            rw [this]; exact h3, fun h => ⟨v, rfl, hv, h⟩⟩
  have e2 : (∃ u : Nat, (v : Int) = u ∧ u < 64 ∧ (m ^^^ bitsI b).testBit u = true) ↔ (m ^^^ bitsI b).testBit v = true :=
   ⟨fun ⟨u, h, _, h3⟩ => by have : v = u := by omega
                            rw [this]; exact h3, fun h => ⟨v, rfl, hv, h⟩⟩
  rw [e1, e2, Nat.testBit_xor, bits_test h1 (fun x hx => (h2 x hx).1)]
  by_cases hb : (v : Int) ∈ b <;> cases m.testBit v <;> simp [hb]
 ·constructor
  ·rintro (⟨⟨u, rfl, h, _⟩, _⟩ | ⟨_, h⟩)
   ·exact absurd ⟨by omega, by omega⟩ hx
   ·exact absurd (h2 x h) hx
  ·rintro ⟨u, rfl, h, _⟩
   exact absurd ⟨by omega, by omega⟩ hx
/-- the boundary as bits -/
def bndB (l : List Int) : Nat := l.foldl (fun m x => m ^^^ bitsI (below x.toNat)) 0
/-- the boundary as a list -/
def bndL (l : List Int) : List Int := l.foldl (fun o x => symd o (below x.toNat)) []
theorem below_asc : ∀ f, f < 64 → (below f).Pairwise (· < ·) := by decide +kernel
theorem below_bd : ∀ f, f < 64 → ∀ x ∈ below f, 0 ≤ x ∧ x ≤ 63 := by decide +kernel
theorem bnd_law {l : List Int} (h : ∀ x ∈ l, 0 ≤ x ∧ x ≤ 63) : bndL l = listI (bndB l) := by
 have key : ∀ (l : List Int) (m : Nat), (∀ x ∈ l, 0 ≤ x ∧ x ≤ 63) → l.foldl (fun o x => symd o (below x.toNat)) (listI m) = listI (l.foldl (fun m x => m ^^^ bitsI (below x.toNat)) m) := by
  intro l
  induction l with
  | nil => intro m _; rfl
  | cons a r ih =>
   intro m h
   have ha := h a List.mem_cons_self
   rw [List.foldl_cons, List.foldl_cons, symd_list m (below_asc _ (by omega)) (below_bd _ (by omega))]
   exact ih _ (fun x hx => h x (List.mem_cons_of_mem _ hx))
 have h0 : listI 0 = [] := by decide
 unfold bndL bndB
 rw [← h0]
 exact key l 0 h
theorem bits_lt : ∀ (l : List Int), (∀ x ∈ l, 0 ≤ x ∧ x ≤ 63) → ∀ m, m < 2 ^ 64 → l.foldl (fun m x => m ^^^ 2 ^ x.toNat) m < 2 ^ 64
 | [], _, m, hm => hm
 | a :: r, h, m, hm => by
  have ha := h a List.mem_cons_self
  exact bits_lt r (fun x hx => h x (List.mem_cons_of_mem _ hx)) _ (Nat.xor_lt_two_pow hm (Nat.pow_lt_pow_right (by decide) (by omega)))
theorem bnd_lt : ∀ (l : List Int), (∀ x ∈ l, 0 ≤ x ∧ x ≤ 63) → ∀ m, m < 2 ^ 64 → l.foldl (fun m x => m ^^^ bitsI (below x.toNat)) m < 2 ^ 64
 | [], _, m, hm => hm
 | a :: r, h, m, hm => by
  have ha := h a List.mem_cons_self
  exact bnd_lt r (fun x hx => h x (List.mem_cons_of_mem _ hx)) _ (Nat.xor_lt_two_pow hm (bits_lt _ (below_bd _ (by omega)) 0 (by decide)))
end Go.Proofs.YtomofijniefelaaGreat.H
