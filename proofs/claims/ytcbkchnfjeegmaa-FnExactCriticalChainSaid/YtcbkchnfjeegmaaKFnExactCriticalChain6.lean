/- A region of open order whose calls turn memory in a way that is told by a relation. A region of open order, some of its operations guarded, whose calls turn memory in a way that is told by a relation. A region of open order whose last operations come one behind the other. A region of open order: some operations reckon, the others turn memory and give nothing; what is known of memory is told by what has been done. Memory in which one block alone is turned. -/
import Derived.Test.YtcbkchnfjeegmaaKFnExactCriticalChain1
import Derived.Test.YtcbkchnfjeegmaaKFnExactCriticalChain2
import Derived.Test.YtcbkchnfjeegmaaKFnExactCriticalChain3
import Derived.Test.YtcbkchnfjeegmaaKFnExactCriticalChain4
import Derived.Test.YtcbkchnfjeegmaaKFnExactCriticalChain5

namespace Go.Proofs.Ytcbkchnfjeegmaa.H
open Go.RowKit Go.Proofs.YtcbkchnfjeegmaaW.PrintWords Go.Proofs.YtcbkchnfjeegmaaW.PrintLast Go.Proofs.YtcbkchnfjeegmaaW.PrintMore
set_option linter.unusedVariables false
set_option linter.unusedSimpArgs false

/-- each step -/
def gSteps (G : World → World → Prop) (P : Program) (l : List Oper) (B : List Nat) (V : Nat → Value → World → Prop) (a : Act) (w : World) : Nat → List Oper → Prop
  | _, [] => True
  | i, o :: r => (∀ s w1, G w w1 → (∀ j, ((List.range l.length).contains j && (B.getD i 0).testBit j) = true → V j (s j) w1) → (∀ j, (decide (j < l.length) && (B.getD j 0).testBit i) = true → s j = (a.tmps[(dsOf l)[j]?.getD 0]?).getD undef) →
      ∀ R : Value → World → Prop, (∀ v w', G w1 w' → V i v w' → R v w') → opGives P o (putAll (dsOf l) 0 s a).eval w1 R) ∧ gSteps G P l B V a w (i + 1) r

theorem gSteps_at {G : World → World → Prop} {P : Program} {l : List Oper} {B : List Nat} {V : Nat → Value → World → Prop} {a : Act} {w : World} : ∀ (r : List Oper) (k : Nat), gSteps G P l B V a w k r → ∀ i o, r[i]? = some o →
    ∀ s w1, G w w1 → (∀ j, ((List.range l.length).contains j && (B.getD (k + i) 0).testBit j) = true → V j (s j) w1) → (∀ j, (decide (j < l.length) && (B.getD j 0).testBit (k + i)) = true → s j = (a.tmps[(dsOf l)[j]?.getD 0]?).getD undef) →
      ∀ R : Value → World → Prop, (∀ v w', G w1 w' → V (k + i) v w' → R v w') → opGives P o (putAll (dsOf l) 0 s a).eval w1 R
  | [], _, _, _, _, h => by cases h
  | x :: r, k, h, 0, o, ho => by cases ho; exact h.1
  | x :: r, k, h, i + 1, o, ho => by
    have := gSteps_at r (k + 1) h.2 i o ho
    rwa [show k + 1 + i = k + (i + 1) by omega] at this

theorem wp_region_g (G : World → World → Prop) (hGr : ∀ w, G w w.drew) (hGt : ∀ w1 w2 w3, G w1 w2 → G w2 w3 → G w1 w3) {P : Program} {id : Nat} {Q : Exit → Act → World → Prop} {a : Act} {w : World} {l : List Oper} (V : Nat → Value → World → Prop) (B : List Nat) (hm : P.follows .mixedOrders = true) (hok : phiOk l B a.tmps.size = true)
    (hV : ∀ i v w1 w2, G w1 w2 → V i v w1 → V i v w2)
    (hs : gSteps G P l B V a w 0 l)
    (hend : ∀ s w1, G w w1 → (∀ i, i < l.length → V i (s i) w1) → Q .normal (putAll (dsOf l) 0 s a) w1) : (Code.region id l.toArray true).wp P Q a w := by
  simp only [phiOk, Bool.and_eq_true] at hok
  obtain ⟨⟨⟨⟨⟨h1, h0⟩, h2⟩, h3⟩, h4⟩, h5⟩ := hok
  have hnd : (dsOf l).Nodup := of_decide_eq_true h2
  have hTl : (rtab .any l.toArray).2.length = l.length := by rw [rtab_length]; simp
  have hds : ∀ (i : Nat) (o : Oper), l[i]? = some o → o.dst = some ((dsOf l)[i]?.getD 0) ∧ (dsOf l)[i]? = some (o.dst.getD 0) := by
    intro i o ho
    have e : (dsOf l)[i]? = some (o.dst.getD 0) := by simp [dsOf, ho]
    refine ⟨?_, e⟩
    have := List.all_eq_true.1 h1 o (List.mem_of_getElem? ho)
    rw [e]
    cases hd : o.dst with
    | none => rw [hd] at this; cases this
    | some d => rfl
  refine wp_region_last_drew (S := fun _ => True) (ds := []) hm trivial (fun _ => ?_)
  refine inv_ (T := rtab .any l.toArray) (B := B) (List.range l.length) (fun b a' w' => ∃ s, a' = putAll (dsOf l) 0 s a ∧ G w w' ∧ (∀ i, i < l.length → b i = true → V i (s i) w') ∧ ∀ i, i < l.length → b i = false → s i = (a.tmps[(dsOf l)[i]?.getD 0]?).getD undef) rfl h4 h5 ?_ ?_ ?_ ?_
  · rw [hTl, Bool.and_eq_true, beq_iff_eq, beq_iff_eq]
    refine ⟨?_, by simp⟩
    apply List.ext_getElem
    · simp [lof]
    · intro i hi1 hi2
      have hi : i < l.length := by simpa [lof] using hi1
      simp [lof, hi]
  · refine ⟨fun k => (a.tmps[(dsOf l)[k]?.getD 0]?).getD undef, ?_, hGr _, (fun _ _ h => by cases h), fun _ _ _ => rfl⟩
    refine (putAll_self _ _ _ _ (fun j d hj => ?_)).symm
    have hd := List.all_eq_true.1 h3 d (List.mem_of_getElem? hj)
    have hd' : d < a.tmps.size := of_decide_eq_true hd
    simp [hj, hd']
  · intro i hi b a' w' ⟨s, ha, hb, hv, hq⟩ hbi hon hoff
    subst ha
    have hil : i < l.length := List.mem_range.1 hi
    have ho : l[i]? = some l[i] := List.getElem?_eq_getElem hil
    refine ⟨l[i], by simp, fun K hK => ?_⟩
    have hK' := Shut.out hK
    have hg : l[i].guard = none := by
      have := List.all_eq_true.1 h0 l[i] (List.mem_of_getElem? ho)
      cases hq : l[i].guard with
      | none => rfl
      | some g => rw [hq] at this; cases this
    rw [if_pos (by simp [Region.wanted, hg])]
    refine opGives_wp (gSteps_at l 0 hs i _ ho s w' hb (fun j hj => hv j (by have h6 := (Bool.and_eq_true _ _ ▸ hj : _ ∧ _).1; simpa using h6) (hon j (by simpa using hj))) (fun j hj => hq j (of_decide_eq_true (Bool.and_eq_true _ _ ▸ hj : _ ∧ _).1) (hoff j (by simpa using hj))) _ (fun v w2 hb2 hv2 => hK' _ _ ?_))
    refine ⟨upd s i v, ?_, hGt _ _ _ hb hb2, fun j hj hbj => ?_, fun j hj hbj => ?_⟩
    · rw [(hds i _ ho).1, (hds i _ ho).2, Option.getD_some]
      exact putAll_put _ _ _ _ _ _ _ hnd (Nat.zero_le _) (by rw [Nat.sub_zero]; exact (hds i _ ho).2)
    · by_cases hji : j = i
      · subst hji
        have : upd s j v j = v := by simp [upd]
        rw [this]
        rw [Nat.zero_add] at hv2
        exact hv2
      · have : upd s i v j = s j := by simp [upd, hji]
        rw [this]
        rw [up_ne hji] at hbj
        exact hV _ _ _ _ hb2 (hv j hj hbj)
    · have hji : j ≠ i := by
        rintro rfl
        rw [up_self] at hbj
        cases hbj
      have : upd s i v j = s j := by simp [upd, hji]
      rw [this]
      rw [up_ne hji] at hbj
      exact hq j hj hbj
  · intro b a' w' hall ⟨s, ha, hb, hv, hq⟩
    subst ha
    exact hend s w' hb (fun i hi => hv i hi (hall i (by simpa using hi)))
end Go.Proofs.Ytcbkchnfjeegmaa.H

namespace Go.Proofs.Ytcbkchnfjeegmaa.H
open Go.RowKit Go.Proofs.YtcbkchnfjeegmaaW.PrintWords Go.Proofs.YtcbkchnfjeegmaaW.PrintLast Go.Proofs.YtcbkchnfjeegmaaW.PrintMore
set_option linter.unusedVariables false
set_option linter.unusedSimpArgs false

/-- an operation that may be struck by its guard -/
def stepG (P : Program) (l : List Oper) (o : Oper) (A : Act) (w : World) (R : Value → World → Prop) : Prop :=
  if Region.wanted o (yielded l.toArray A.tmps) = true then opGives P o A.eval w R else R undef w
theorem stepG_on {P : Program} {l : List Oper} {o : Oper} {A : Act} {w : World} {R : Value → World → Prop} (h : Region.wanted o (yielded l.toArray A.tmps) = true) (hR : opGives P o A.eval w R) : stepG P l o A w R := by
  unfold stepG; rw [if_pos h]; exact hR
theorem stepG_off {P : Program} {l : List Oper} {o : Oper} {A : Act} {w : World} {R : Value → World → Prop} (h : Region.wanted o (yielded l.toArray A.tmps) = false) (hR : R undef w) : stepG P l o A w R := by
  unfold stepG; rw [if_neg (by rw [h]; decide)]; exact hR
def ggOk (l : List Oper) (B : List Nat) (n : Nat) : Bool :=
  l.all (fun o => o.dst.isSome) && decide (dsOf l).Nodup && (dsOf l).all (fun d => decide (d < n)) && waitsOk (rtab .any l.toArray).2 B && baseOk (rtab .any l.toArray).2 (List.range l.length)
/-- each step -/
def ggSteps (G : World → World → Prop) (P : Program) (l : List Oper) (B : List Nat) (V : Nat → Value → World → Prop) (a : Act) (w : World) : Nat → List Oper → Prop
  | _, [] => True
  | i, o :: r => (∀ s w1, G w w1 → (∀ j, ((List.range l.length).contains j && (B.getD i 0).testBit j) = true → V j (s j) w1) → (∀ j, (decide (j < l.length) && (B.getD j 0).testBit i) = true → s j = (a.tmps[(dsOf l)[j]?.getD 0]?).getD undef) →
      ∀ R : Value → World → Prop, (∀ v w', G w1 w' → V i v w' → R v w') → stepG P l o (putAll (dsOf l) 0 s a) w1 R) ∧ ggSteps G P l B V a w (i + 1) r

theorem ggSteps_at {G : World → World → Prop} {P : Program} {l : List Oper} {B : List Nat} {V : Nat → Value → World → Prop} {a : Act} {w : World} : ∀ (r : List Oper) (k : Nat), ggSteps G P l B V a w k r → ∀ i o, r[i]? = some o →
    ∀ s w1, G w w1 → (∀ j, ((List.range l.length).contains j && (B.getD (k + i) 0).testBit j) = true → V j (s j) w1) → (∀ j, (decide (j < l.length) && (B.getD j 0).testBit (k + i)) = true → s j = (a.tmps[(dsOf l)[j]?.getD 0]?).getD undef) →
      ∀ R : Value → World → Prop, (∀ v w', G w1 w' → V (k + i) v w' → R v w') → stepG P l o (putAll (dsOf l) 0 s a) w1 R
  | [], _, _, _, _, h => by cases h
  | x :: r, k, h, 0, o, ho => by cases ho; exact h.1
  | x :: r, k, h, i + 1, o, ho => by
    have := ggSteps_at r (k + 1) h.2 i o ho
    rwa [show k + 1 + i = k + (i + 1) by omega] at this

theorem wp_region_gg (G : World → World → Prop) (hGr : ∀ w, G w w.drew) (hGt : ∀ w1 w2 w3, G w1 w2 → G w2 w3 → G w1 w3) {P : Program} {id : Nat} {Q : Exit → Act → World → Prop} {a : Act} {w : World} {l : List Oper} (V : Nat → Value → World → Prop) (B : List Nat) (hm : P.follows .mixedOrders = true) (hok : ggOk l B a.tmps.size = true)
    (hV : ∀ i v w1 w2, G w1 w2 → V i v w1 → V i v w2)
    (hs : ggSteps G P l B V a w 0 l)
    (hend : ∀ s w1, G w w1 → (∀ i, i < l.length → V i (s i) w1) → Q .normal (putAll (dsOf l) 0 s a) w1) : (Code.region id l.toArray true).wp P Q a w := by
  simp only [ggOk, Bool.and_eq_true] at hok
  obtain ⟨⟨⟨⟨h1, h2⟩, h3⟩, h4⟩, h5⟩ := hok
  have hnd : (dsOf l).Nodup := of_decide_eq_true h2
  have hTl : (rtab .any l.toArray).2.length = l.length := by rw [rtab_length]; simp
  have hds : ∀ (i : Nat) (o : Oper), l[i]? = some o → o.dst = some ((dsOf l)[i]?.getD 0) ∧ (dsOf l)[i]? = some (o.dst.getD 0) := by
    intro i o ho
    have e : (dsOf l)[i]? = some (o.dst.getD 0) := by simp [dsOf, ho]
    refine ⟨?_, e⟩
    have := List.all_eq_true.1 h1 o (List.mem_of_getElem? ho)
    rw [e]
    cases hd : o.dst with
    | none => rw [hd] at this; cases this
    | some d => rfl
  refine wp_region_last_drew (S := fun _ => True) (ds := []) hm trivial (fun _ => ?_)
  refine inv_ (T := rtab .any l.toArray) (B := B) (List.range l.length) (fun b a' w' => ∃ s, a' = putAll (dsOf l) 0 s a ∧ G w w' ∧ (∀ i, i < l.length → b i = true → V i (s i) w') ∧ ∀ i, i < l.length → b i = false → s i = (a.tmps[(dsOf l)[i]?.getD 0]?).getD undef) rfl h4 h5 ?_ ?_ ?_ ?_
  · rw [hTl, Bool.and_eq_true, beq_iff_eq, beq_iff_eq]
    refine ⟨?_, by simp⟩
    apply List.ext_getElem
    · simp [lof]
    · intro i hi1 hi2
      have hi : i < l.length := by simpa [lof] using hi1
      simp [lof, hi]
  · refine ⟨fun k => (a.tmps[(dsOf l)[k]?.getD 0]?).getD undef, ?_, hGr _, (fun _ _ h => by cases h), fun _ _ _ => rfl⟩
    refine (putAll_self _ _ _ _ (fun j d hj => ?_)).symm
    have hd := List.all_eq_true.1 h3 d (List.mem_of_getElem? hj)
    have hd' : d < a.tmps.size := of_decide_eq_true hd
    simp [hj, hd']
  · intro i hi b a' w' ⟨s, ha, hb, hv, hq⟩ hbi hon hoff
    subst ha
    have hil : i < l.length := List.mem_range.1 hi
    have ho : l[i]? = some l[i] := List.getElem?_eq_getElem hil
    refine ⟨l[i], by simp, fun K hK => ?_⟩
    have hK' := Shut.out hK
    have hfin : ∀ v w2, G w' w2 → V (0 + i) v w2 → K ((putAll (dsOf l) 0 s a).put l[i].dst v) w2 := by
      intro v w2 hb2 hv2
      refine hK' _ _ ?_
      refine ⟨upd s i v, ?_, hGt _ _ _ hb hb2, fun j hj hbj => ?_, fun j hj hbj => ?_⟩
      · rw [(hds i _ ho).1, (hds i _ ho).2, Option.getD_some]
        exact putAll_put _ _ _ _ _ _ _ hnd (Nat.zero_le _) (by rw [Nat.sub_zero]; exact (hds i _ ho).2)
      · by_cases hji : j = i
        · subst hji
          have : upd s j v j = v := by simp [upd]
          rw [this]
          rw [Nat.zero_add] at hv2
          exact hv2
        · have : upd s i v j = s j := by simp [upd, hji]
          rw [this]
          rw [up_ne hji] at hbj
          exact hV _ _ _ _ hb2 (hv j hj hbj)
      · have hji : j ≠ i := by
          rintro rfl
          rw [up_self] at hbj
          cases hbj
        have : upd s i v j = s j := by simp [upd, hji]
        rw [this]
        rw [up_ne hji] at hbj
        exact hq j hj hbj
    have hst := ggSteps_at l 0 hs i _ ho s w' hb (fun j hj => hv j (by have h6 := (Bool.and_eq_true _ _ ▸ hj : _ ∧ _).1; simpa using h6) (hon j (by simpa using hj))) (fun j hj => hq j (of_decide_eq_true (Bool.and_eq_true _ _ ▸ hj : _ ∧ _).1) (hoff j (by simpa using hj))) _ hfin
    unfold stepG at hst
    split
    · next h7 => rw [if_pos h7] at hst; exact opGives_wp hst
    · next h7 => rw [if_neg h7] at hst; exact hst
  · intro b a' w' hall ⟨s, ha, hb, hv, hq⟩
    subst ha
    exact hend s w' hb (fun i hi => hv i hi (hall i (by simpa using hi)))
end Go.Proofs.Ytcbkchnfjeegmaa.H

namespace Go.Proofs.Ytcbkchnfjeegmaa.H
open Go.RowKit Go.Proofs.YtcbkchnfjeegmaaW.PrintWords Go.Proofs.YtcbkchnfjeegmaaW.PrintLast Go.Proofs.YtcbkchnfjeegmaaW.PrintMore
set_option linter.unusedVariables false
set_option linter.unusedSimpArgs false

/-- the operations one behind the other -/
def tailList (P : Program) (Q : Exit → Act → World → Prop) : List Oper → Act → World → Prop
  | [], a, w => Q .normal a w
  | o :: r, a, w => opGives P o a.eval w (fun v w' => tailList P Q r (a.put o.dst v) w') ∨ ∃ w', (execOp a.eval o).run P w = .ok .skip w' ∧ tailList P Q r (a.put o.dst undef) w'
def tailOk (l : List Oper) (B : List Nat) (n k : Nat) : Bool :=
  decide (k < l.length) && (l.take k).all (fun o => o.dst.isSome) && l.all (fun o => o.guard.isNone) && decide (dsOf (l.take k)).Nodup && (dsOf (l.take k)).all (fun d => decide (d < n)) &&
  waitsOk (rtab .any l.toArray).2 B && baseOk (rtab .any l.toArray).2 (List.range l.length) &&
  (List.range l.length).all (fun i => decide (i < k) || (List.range i).all fun j => (B.getD i 0).testBit j) &&
  (List.range k).all (fun i => (List.range l.length).all fun j => decide (j < i) || !(B.getD i 0).testBit j)

theorem opGives_mono {P : Program} {o : Oper} {A : Act} {w : World} {R : Value → World → Prop} {K : Act → World → Prop} (h : opGives P o A.eval w R) (hR : ∀ v w', R v w' → K (A.put o.dst v) w') : opGives P o A.eval w fun v w' => K (A.put o.dst v) w' := by
  unfold opGives at h ⊢
  split
  · next h1 => rw [h1] at h; exact hR _ _ h
  · next f args w' h1 =>
    rw [h1] at h
    exact Calls.mono h fun e w'' ⟨v, e1, e2⟩ => ⟨v, e1, hR _ _ e2⟩
  · next h1 h2 =>
    split at h
    · next v w' h3 => exact (h1 _ _ h3).elim
    · next f args w' h3 => exact (h2 _ _ _ h3).elim
    · exact h

theorem wp_region_tail {P : Program} {id : Nat} {Q : Exit → Act → World → Prop} {a : Act} {w : World} {l : List Oper} (k : Nat) (V : Nat → Value → World → Prop) (B : List Nat) (hm : P.follows .mixedOrders = true) (hok : tailOk l B a.tmps.size k = true)
    (hV : ∀ i v w1 w2, Below w1.heap.size w1 w2 → V i v w1 → V i v w2)
    (hs : phiSteps P (l.take k) B V a w 0 (l.take k))
    (hend : ∀ s w1, Below w.heap.size w w1 → (∀ i, i < k → V i (s i) w1) → tailList P Q (l.drop k) (putAll (dsOf (l.take k)) 0 s a) w1) : (Code.region id l.toArray true).wp P Q a w := by
  simp only [tailOk, Bool.and_eq_true] at hok
  obtain ⟨⟨⟨⟨⟨⟨⟨⟨hk, h1⟩, h0⟩, h2⟩, h3⟩, h4⟩, h5⟩, hBt⟩, hBd⟩ := hok
  have hk : k < l.length := of_decide_eq_true hk
  have hnd : (dsOf (l.take k)).Nodup := of_decide_eq_true h2
  have hBt : ∀ i j, i < l.length → k ≤ i → j < i → (B.getD i 0).testBit j = true := by
    intro i j hi hki hj
    have := List.all_eq_true.1 hBt i (List.mem_range.2 hi)
    rw [decide_eq_false (by omega), Bool.false_or] at this
    exact List.all_eq_true.1 this j (List.mem_range.2 hj)
  have hBd : ∀ i j, i < k → j < l.length → (B.getD i 0).testBit j = true → j < i := by
    intro i j hi hj hij
    have := List.all_eq_true.1 (List.all_eq_true.1 hBd i (List.mem_range.2 hi)) j (List.mem_range.2 hj)
    rw [hij, Bool.not_true, Bool.or_false] at this
    exact of_decide_eq_true this
  have hTl : (rtab .any l.toArray).2.length = l.length := by rw [rtab_length]; simp
  have hdl : ∀ i, i < k → (l.take k)[i]? = l[i]? := fun i hi => by rw [List.getElem?_take_of_lt hi]
  have hlt : (l.take k).length = k := by rw [List.length_take]; omega
  have hds : ∀ (i : Nat) (o : Oper), i < k → l[i]? = some o → o.dst = some ((dsOf (l.take k))[i]?.getD 0) ∧ (dsOf (l.take k))[i]? = some (o.dst.getD 0) := by
    intro i o hi ho
    have ho' : (l.take k)[i]? = some o := (hdl i hi).trans ho
    have e : (dsOf (l.take k))[i]? = some (o.dst.getD 0) := by unfold dsOf; rw [List.getElem?_map, ho']; rfl
    refine ⟨?_, e⟩
    have := List.all_eq_true.1 h1 o (List.mem_of_getElem? ho')
    rw [e]
    cases hd : o.dst with
    | none => rw [hd] at this; cases this
    | some d => rfl
  have hrange : ∀ j, j < l.length → (List.range l.length).contains j = true := fun j hj => by simpa using hj
  refine wp_region_last_drew (S := fun _ => True) (ds := []) hm trivial (fun _ => ?_)
  refine inv_ (T := rtab .any l.toArray) (B := B) (List.range l.length) (fun b a' w' => (b k = false → ∃ s, a' = putAll (dsOf (l.take k)) 0 s a ∧ Below w.heap.size w w' ∧ ∀ i, i < k → b i = true → V i (s i) w') ∧ (∀ n, k < n → n ≤ l.length → (∀ j, j < n → b j = true) → (∀ j, n ≤ j → j < l.length → b j = false) → tailList P Q (l.drop n) a' w')) rfl h4 h5 ?_ ?_ ?_ ?_
  · rw [hTl, Bool.and_eq_true, beq_iff_eq, beq_iff_eq]
    refine ⟨?_, by simp⟩
    apply List.ext_getElem
    · simp [lof]
    · intro i hi1 hi2
      have hi : i < l.length := by simpa [lof] using hi1
      simp [lof, hi]
  · refine ⟨fun _ => ⟨fun k' => (a.tmps[(dsOf (l.take k))[k']?.getD 0]?).getD undef, ?_, (Below.refl _ _).drew, fun _ _ h => by cases h⟩, fun n hn _ hj _ => by have := hj 0 (by omega); cases this⟩
    refine (putAll_self _ _ _ _ (fun j d hj => ?_)).symm
    have hd := List.all_eq_true.1 h3 d (List.mem_of_getElem? hj)
    have hd' : d < a.tmps.size := of_decide_eq_true hd
    simp [hj, hd']
  · intro i hi b a' w' ⟨hA, hT⟩ hbi hon hoff
    have hil : i < l.length := List.mem_range.1 hi
    have ho : l[i]? = some l[i] := List.getElem?_eq_getElem hil
    refine ⟨l[i], by simp, fun K hK => ?_⟩
    have hK' := Shut.out hK
    have hg : l[i].guard = none := by
      have := List.all_eq_true.1 h0 l[i] (List.mem_of_getElem? ho)
      cases hq : l[i].guard with
      | none => rfl
      | some g => rw [hq] at this; cases this
    rw [if_pos (by simp [Region.wanted, hg])]
    have hon' : ∀ j, j < l.length → (B.getD i 0).testBit j = true → b j = true := fun j hj hb => hon j (by rw [hrange j hj, hb]; rfl)
    have hoff' : ∀ d, d < l.length → (B.getD d 0).testBit i = true → b d = false := fun d hd hb => hoff d (by rw [hrange d hd, hb]; rfl)
    by_cases hik : i < k
    · have hbk : b k = false := hoff' k hk (hBt k i hk (Nat.le_refl _) hik)
      obtain ⟨s, rfl, hbw, hvs⟩ := hA hbk
      have hst := phiSteps_at (l.take k) 0 hs i _ ((hdl i hik).trans ho)
      rw [Nat.zero_add] at hst
      refine opGives_wp (hst s w' hbw (fun j hj => ?_) _ (fun v w2 hb2 hv => ?_))
      · have hj1 := (Bool.and_eq_true _ _ ▸ hj : _ ∧ _)
        have hjk : j < k := by have := hj1.1; rw [hlt] at this; simpa using this
        exact hvs j hjk (hon' j (by omega) hj1.2)
      · rw [(hds i _ hik ho).1, (hds i _ hik ho).2, Option.getD_some, putAll_put _ _ _ _ _ _ _ hnd (Nat.zero_le _) (by rw [Nat.sub_zero]; exact (hds i _ hik ho).2)]
        refine hK' _ _ ⟨fun _ => ⟨upd s i v, rfl, hbw.trans (hb2.mono hbw.size), fun j hj hbj => ?_⟩, fun n hn hnl hj _ => ?_⟩
        · by_cases hji : j = i
          · subst hji; rw [show upd s j v j = v by simp [upd]]; exact hv
          · rw [up_ne hji] at hbj; rw [show upd s i v j = s j by simp [upd, hji]]
            exact hV _ _ _ _ hb2 (hvs j hj hbj)
        · have := hj k hn
          rw [up_ne (by omega), hbk] at this
          cases this
    · have hall : ∀ j, j < i → b j = true := fun j hj => hon' j (by omega) (hBt i j hil (by omega) hj)
      have hnone : ∀ j, i ≤ j → j < l.length → b j = false := by
        intro j hj hjl
        by_cases hji : j = i
        · subst hji; exact hbi
        · exact hoff' j hjl (hBt j i hjl (by omega) (by omega))
      have htl : tailList P Q (l.drop i) a' w' := by
        by_cases hki : i = k
        · subst hki
          obtain ⟨s, rfl, hbw, hvs⟩ := hA hbi
          exact hend s w' hbw (fun j hj => hvs j hj (hall j hj))
        · exact hT i (by omega) (by omega) hall hnone
      rw [List.drop_eq_getElem_cons hil] at htl
      have hnext : ∀ a2 w2, tailList P Q (l.drop (i + 1)) a2 w2 → K a2 w2 := by
        intro a2 w2 hq
        refine hK' _ _ ⟨fun h => ?_, fun n hn hnl hj hj2 => ?_⟩
        · by_cases hki : i = k
          · subst hki; rw [up_self] at h; cases h
          · rw [up_ne (by omega)] at h
            have := hall k (by omega)
            rw [h] at this; cases this
        · have hni : n = i + 1 := by
            by_cases h6 : n ≤ i
            · have := hj2 i h6 hil
              rw [up_self] at this; cases this
            · by_cases h7 : i + 1 < n
              · have := hj (i + 1) h7
                rw [up_ne (by omega), hnone (i + 1) (by omega) (by omega)] at this
                cases this
              · omega
          subst hni
          exact hq
      rcases htl with htl | ⟨w2, h1, h2⟩
      · refine opGives_wp (opGives_mono htl (fun v w2 hq => hnext _ _ hq))
      · unfold Oper.wp
        rw [h1]
        exact hnext _ _ h2
  · intro b a' w' hall ⟨hA, hT⟩
    have := hT l.length hk (Nat.le_refl _) (fun j hj => hall j (hrange j hj)) (fun j h1 h2 => by omega)
    rw [List.drop_length] at this
    exact this
end Go.Proofs.Ytcbkchnfjeegmaa.H

namespace Go.Proofs.Ytcbkchnfjeegmaa.H
open Go.RowKit Go.Proofs.YtcbkchnfjeegmaaW.PrintWords Go.Proofs.YtcbkchnfjeegmaaW.PrintLast Go.Proofs.YtcbkchnfjeegmaaW.PrintMore
set_option linter.unusedVariables false
set_option linter.unusedSimpArgs false

def jOk (l : List Oper) (B : List Nat) (n k : Nat) : Bool :=
  decide (k ≤ l.length) && (l.take k).all (fun o => o.dst.isSome) && (l.drop k).all (fun o => o.dst.isNone) && l.all (fun o => o.guard.isNone) && decide (dsOf (l.take k)).Nodup && (dsOf (l.take k)).all (fun d => decide (d < n)) &&
  waitsOk (rtab .any l.toArray).2 B && baseOk (rtab .any l.toArray).2 (List.range l.length)
def mark (b : Nat → Bool) (i : Nat) (j : Nat) : Bool := j == i || b j
theorem wp_region_j {P : Program} {id : Nat} {Q : Exit → Act → World → Prop} {a : Act} {w : World} {l : List Oper} (k : Nat) (V : Nat → Value → Prop) (I : (Nat → Bool) → World → Prop) (B : List Nat) (hm : P.follows .mixedOrders = true) (hok : jOk l B a.tmps.size k = true)
    (h0 : ∀ b : Nat → Bool, (∀ i, b i = false) → I b w.drew)
    (hI : ∀ i b w1, i < k → I b w1 → I (mark b i) w1)
    (hc : ∀ b b' w1, (∀ i, b i = b' i) → I b w1 → I b' w1)
    (hs : ∀ i o, i < k → l[i]? = some o → ∀ s b w1, I b w1 → (∀ j, j < k → (B.getD i 0).testBit j = true → V j (s j)) → ∀ R : Value → World → Prop, (∀ v, V i v → R v w1) → opGives P o (putAll (dsOf (l.take k)) 0 s a).eval w1 R)
    (ht : ∀ i o, k ≤ i → i < l.length → l[i]? = some o → ∀ s b w1, I b w1 → b i = false → (∀ j, j < l.length → (B.getD i 0).testBit j = true → b j = true) → (∀ j, j < k → (B.getD i 0).testBit j = true → V j (s j)) → ∃ w', (execOp (putAll (dsOf (l.take k)) 0 s a).eval o).run P w1 = .ok .skip w' ∧ I (mark b i) w')
    (hend : ∀ s b w1, I b w1 → (∀ i, i < l.length → b i = true) → (∀ i, i < k → V i (s i)) → Q .normal (putAll (dsOf (l.take k)) 0 s a) w1) : (Code.region id l.toArray true).wp P Q a w := by
  simp only [jOk, Bool.and_eq_true] at hok
  obtain ⟨⟨⟨⟨⟨⟨⟨hk, h1⟩, hn1⟩, hg0⟩, h2⟩, h3⟩, h4⟩, h5⟩ := hok
  have hk : k ≤ l.length := of_decide_eq_true hk
  have hnd : (dsOf (l.take k)).Nodup := of_decide_eq_true h2
  have hTl : (rtab .any l.toArray).2.length = l.length := by rw [rtab_length]; simp
  have hdl : ∀ i, i < k → (l.take k)[i]? = l[i]? := fun i hi => by rw [List.getElem?_take_of_lt hi]
  have hds : ∀ (i : Nat) (o : Oper), i < k → l[i]? = some o → o.dst = some ((dsOf (l.take k))[i]?.getD 0) ∧ (dsOf (l.take k))[i]? = some (o.dst.getD 0) := by
    intro i o hi ho
    have ho' : (l.take k)[i]? = some o := (hdl i hi).trans ho
    have e : (dsOf (l.take k))[i]? = some (o.dst.getD 0) := by unfold dsOf; rw [List.getElem?_map, ho']; rfl
    refine ⟨?_, e⟩
    have := List.all_eq_true.1 h1 o (List.mem_of_getElem? ho')
    rw [e]
    cases hd : o.dst with
    | none => rw [hd] at this; cases this
    | some d => rfl
  have hrange : ∀ j, j < l.length → (List.range l.length).contains j = true := fun j hj => by simpa using hj
  refine wp_region_last_drew (S := fun _ => True) (ds := []) hm trivial (fun _ => ?_)
  refine inv_ (T := rtab .any l.toArray) (B := B) (List.range l.length) (fun b a' w' => I b w' ∧ ∃ s, a' = putAll (dsOf (l.take k)) 0 s a ∧ ∀ i, i < k → b i = true → V i (s i)) rfl h4 h5 ?_ ?_ ?_ ?_
  · rw [hTl, Bool.and_eq_true, beq_iff_eq, beq_iff_eq]
    refine ⟨?_, by simp⟩
    apply List.ext_getElem
    · simp [lof]
    · intro i hi1 hi2
      have hi : i < l.length := by simpa [lof] using hi1
      simp [lof, hi]
  · refine ⟨h0 _ (fun _ => rfl), fun k' => (a.tmps[(dsOf (l.take k))[k']?.getD 0]?).getD undef, ?_, fun _ _ h => by cases h⟩
    refine (putAll_self _ _ _ _ (fun j d hj => ?_)).symm
    have hd := List.all_eq_true.1 h3 d (List.mem_of_getElem? hj)
    have hd' : d < a.tmps.size := of_decide_eq_true hd
    simp [hj, hd']
  · intro i hi b a' w' ⟨hIb, s, ha, hv⟩ hbi hon hoff
    subst ha
    have hil : i < l.length := List.mem_range.1 hi
    have ho : l[i]? = some l[i] := List.getElem?_eq_getElem hil
    refine ⟨l[i], by simp, fun K hK => ?_⟩
    have hK' := Shut.out hK
    have hg : l[i].guard = none := by
      have := List.all_eq_true.1 hg0 l[i] (List.mem_of_getElem? ho)
      cases hq : l[i].guard with
      | none => rfl
      | some g => rw [hq] at this; cases this
    rw [if_pos (by simp [Region.wanted, hg])]
    have hon' : ∀ j, j < l.length → (B.getD i 0).testBit j = true → b j = true := fun j hj hb => hon j (by rw [hrange j hj, hb]; rfl)
    by_cases hik : i < k
    · refine opGives_wp (hs i _ hik ho s b w' hIb (fun j hj hb => hv j hj (hon' j (by omega) hb)) _ (fun v hvi => ?_))
      rw [(hds i _ hik ho).1, (hds i _ hik ho).2, Option.getD_some, putAll_put _ _ _ _ _ _ _ hnd (Nat.zero_le _) (by rw [Nat.sub_zero]; exact (hds i _ hik ho).2)]
      refine hK' _ _ ⟨hc _ _ _ (fun j => ?_) (hI i b w' hik hIb), upd s i v, rfl, fun j hj hbj => ?_⟩
      · by_cases hji : j = i
        · subst hji; rw [up_self]; simp [mark]
        · rw [up_ne hji]; simp [mark, hji]
      · by_cases hji : j = i
        · subst hji; rw [show upd s j v j = v by simp [upd]]; exact hvi
        · rw [up_ne hji] at hbj; rw [show upd s i v j = s j by simp [upd, hji]]
          exact hv j hj hbj
    · obtain ⟨w2, hr, hI2⟩ := ht i _ (by omega) hil ho s b w' hIb hbi hon' (fun j hj hb => hv j hj (hon' j (by omega) hb))
      have hdn : l[i].dst = none := by
        have hm2 : l[i] ∈ l.drop k := by
          rw [List.mem_iff_getElem?]
          exact ⟨i - k, by rw [List.getElem?_drop, show k + (i - k) = i by omega]; exact ho⟩
        have := List.all_eq_true.1 hn1 _ hm2
        cases hd : l[i].dst with
        | none => rfl
        | some d => rw [hd] at this; cases this
      unfold Oper.wp
      rw [hr]
      show K ((putAll (dsOf (l.take k)) 0 s a).put l[i].dst undef) w2
      rw [hdn]
      refine hK' _ _ ⟨hc _ _ _ (fun j => ?_) hI2, s, rfl, fun j hj hbj => ?_⟩
      · by_cases hji : j = i
        · subst hji; rw [up_self]; simp [mark]
        · rw [up_ne hji]; simp [mark, hji]
      · rw [up_ne (by omega)] at hbj
        exact hv j hj hbj
  · intro b a' w' hall ⟨hIb, s, ha, hv⟩
    subst ha
    exact hend s b w' hIb (fun i hi => hall i (hrange i hi)) (fun i hi => hv i hi (hall i (hrange i (by omega))))
end Go.Proofs.Ytcbkchnfjeegmaa.H

namespace Go.Proofs.Ytcbkchnfjeegmaa.H
open Go.RowKit Go.Proofs.YtcbkchnfjeegmaaW.PrintWords Go.Proofs.YtcbkchnfjeegmaaW.PrintLast Go.Proofs.YtcbkchnfjeegmaaW.PrintMore
set_option linter.unusedVariables false
set_option linter.unusedSimpArgs false

theorem grown_below {w w' : World} (h : Below w.heap.size w w') (row : Option Nat) : w.grownBy w' row := ⟨h.os, h.tape, h.output, h.size, fun k hk _ => h.block k hk⟩
theorem grown_drew (w : World) (row : Option Nat) : w.grownBy w.drew row := grown_below (Below.refl _ _).drew row
theorem grown_cell {w w' : World} {b : Nat} (hg : w.grownBy w' (some b)) {a : Addr} {v : Value} (h : w.cell? a = some v) (hne : a.block ≠ b) : w'.cell? a = some v := hg.cell h (fun e => hne (by injection e))
/-- what lay below a block that is turned -/
theorem below_grown {B b : Nat} {w w' : World} (hg : w.grownBy w' (some b)) (h1 : B ≤ b) (h2 : B ≤ w.heap.size) : Below B w w' :=
  ⟨hg.os, hg.tape, hg.output, hg.size, fun k hk => hg.block k (by omega) (fun e => by injection e; omega)⟩
/-- reads, whatever becomes of block b -/
def RdK (b : Nat) (w : World) (v : Value) (xs : List Int) : Prop := ∀ w', w.grownBy w' (some b) → ReadI w' v xs
theorem RdK.read {b : Nat} {w : World} {v : Value} {xs : List Int} (h : RdK b w v xs) : ReadI w v xs := h w (grown_below (Below.refl _ _) _)
theorem RdK.go {b : Nat} {w w' : World} {v : Value} {xs : List Int} (h : RdK b w v xs) (hg : w.grownBy w' (some b)) : RdK b w' v xs := fun w2 h2 => h w2 (grown_trans hg h2)
theorem RdK.below {b : Nat} {w w' : World} {v : Value} {xs : List Int} (h : RdK b w v xs) (hb : Below w.heap.size w w') : RdK b w' v xs := h.go (grown_below hb _)
theorem RdK.mk' {b : Nat} {w0 w : World} {v : Value} {xs : List Int} (h : ReadI w0 v xs) (hb : Below w0.heap.size w0 w) (h1 : w0.heap.size ≤ b) : RdK b w v xs :=
  fun w' hg => h.below (hb.trans (below_grown hg h1 hb.size))
theorem Aside0.rdk {b : Nat} {w w' : World} {v : Value} {xs : List Int} (h : Aside0 (RdK b w v xs)) (hg : w.grownBy w' (some b)) : Aside0 (RdK b w' v xs) := ⟨h.out.go hg⟩

/-- block b alone is turned, and what is known of it stays -/
def Gm (b : Nat) (I : World → Prop) (w w' : World) : Prop := w.grownBy w' (some b) ∧ (I w → I w')
theorem Gm.refl (b : Nat) (I : World → Prop) (w : World) : Gm b I w w := ⟨grown_below (Below.refl _ _) _, id⟩
theorem Gm.trans {b : Nat} {I : World → Prop} {w1 w2 w3 : World} (h : Gm b I w1 w2) (k : Gm b I w2 w3) : Gm b I w1 w3 := ⟨grown_trans h.1 k.1, fun x => k.2 (h.2 x)⟩

end Go.Proofs.Ytcbkchnfjeegmaa.H
