/- A region of open order, some of its operations guarded, whose calls turn memory in a way that is told by a relation. -/
import Derived.Test.YtpcjbdkdpcgdiaaGReg
namespace Go.Proofs.Ytpcjbdkdpcgdiaa.H
open Go.RowKit Go.Proofs.YtpcjbdkdpcgdiaaW.PrintWords Go.Proofs.YtpcjbdkdpcgdiaaW.PrintLast Go.Proofs.YtpcjbdkdpcgdiaaW.PrintMore
set_option linter.unusedVariables false
set_option linter.unusedSimpArgs false

/-- an operation that may be struck by its guard -/
def stepG (P : Program) (l : List Oper) (o : Oper) (A : Act) (w : World) (R : Value → World → Prop) : Prop :=
  if Region.wanted o (yielded l.toArray A.tmps) = true then opGives P o A.eval w R else R undef w
theorem stepG_on {P : Program} {l : List Oper} {o : Oper} {A : Act} {w : World} {R : Value → World → Prop} (h : Region.wanted o (yielded l.toArray A.tmps) = true) (hR : opGives P o A.eval w R) : stepG P l o A w R := by
  unfold stepG; rw [if_pos h]; exact hR
theorem stepG_off {P : Program} {l : List Oper} {o : Oper} {A : Act} {w : World} {R : Value → World → Prop} (h : Region.wanted o (yielded l.toArray A.tmps) = false) (hR : R undef w) : stepG P l o A w R := by
  unfold stepG; rw [if_neg (by rw [h]; decide)]; exact hR
def ggOk (l : List Oper) (B : List Nat) (n : Nat) : Bool :=
  l.all (fun o => o.dst.isSome) && decide (dsOf l).Nodup && (dsOf l).all (fun d => decide (d < n)) && waitsOk (rtab .any l.toArray).2 B && baseOk (rtab .any l.toArray).2 (List.range l.length)
/-- each step -/
def ggSteps (G : World → World → Prop) (P : Program) (l : List Oper) (B : List Nat) (V : Nat → Value → World → Prop) (a : Act) (w : World) : Nat → List Oper → Prop
  | _, [] => True
  | i, o :: r => (∀ s w1, G w w1 → (∀ j, ((List.range l.length).contains j && (B.getD i 0).testBit j) = true → V j (s j) w1) → (∀ j, (decide (j < l.length) && (B.getD j 0).testBit i) = true → s j = (a.tmps[(dsOf l)[j]?.getD 0]?).getD undef) →
      ∀ R : Value → World → Prop, (∀ v w', G w1 w' → V i v w' → R v w') → stepG P l o (putAll (dsOf l) 0 s a) w1 R) ∧ ggSteps G P l B V a w (i + 1) r

theorem ggSteps_at {G : World → World → Prop} {P : Program} {l : List Oper} {B : List Nat} {V : Nat → Value → World → Prop} {a : Act} {w : World} : ∀ (r : List Oper) (k : Nat), ggSteps G P l B V a w k r → ∀ i o, r[i]? = some o →
    ∀ s w1, G w w1 → (∀ j, ((List.range l.length).contains j && (B.getD (k + i) 0).testBit j) = true → V j (s j) w1) → (∀ j, (decide (j < l.length) && (B.getD j 0).testBit (k + i)) = true → s j = (a.tmps[(dsOf l)[j]?.getD 0]?).getD undef) →
      ∀ R : Value → World → Prop, (∀ v w', G w1 w' → V (k + i) v w' → R v w') → stepG P l o (putAll (dsOf l) 0 s a) w1 R
  | [], _, _, _, _, h => by cases h
  | x :: r, k, h, 0, o, ho => by cases ho; exact h.1
  | x :: r, k, h, i + 1, o, ho => by
    have := ggSteps_at r (k + 1) h.2 i o ho
    rwa [show k + 1 + i = k + (i + 1) by omega] at this

theorem wp_region_gg (G : World → World → Prop) (hGr : ∀ w, G w w.drew) (hGt : ∀ w1 w2 w3, G w1 w2 → G w2 w3 → G w1 w3) {P : Program} {id : Nat} {Q : Exit → Act → World → Prop} {a : Act} {w : World} {l : List Oper} (V : Nat → Value → World → Prop) (B : List Nat) (hm : P.follows .mixedOrders = true) (hok : ggOk l B a.tmps.size = true)
    (hV : ∀ i v w1 w2, G w1 w2 → V i v w1 → V i v w2)
    (hs : ggSteps G P l B V a w 0 l)
    (hend : ∀ s w1, G w w1 → (∀ i, i < l.length → V i (s i) w1) → Q .normal (putAll (dsOf l) 0 s a) w1) : (Code.region id l.toArray true).wp P Q a w := by
  simp only [ggOk, Bool.and_eq_true] at hok
  obtain ⟨⟨⟨⟨h1, h2⟩, h3⟩, h4⟩, h5⟩ := hok
  have hnd : (dsOf l).Nodup := of_decide_eq_true h2
  have hTl : (rtab .any l.toArray).2.length = l.length := by rw [rtab_length]; simp
  have hds : ∀ (i : Nat) (o : Oper), l[i]? = some o → o.dst = some ((dsOf l)[i]?.getD 0) ∧ (dsOf l)[i]? = some (o.dst.getD 0) := by
    intro i o ho
    have e : (dsOf l)[i]? = some (o.dst.getD 0) := by simp [dsOf, ho]
    refine ⟨?_, e⟩
    have := List.all_eq_true.1 h1 o (List.mem_of_getElem? ho)
    rw [e]
    cases hd : o.dst with
    | none => rw [hd] at this; cases this
    | some d => rfl
  refine wp_region_last_drew (S := fun _ => True) (ds := []) hm trivial (fun _ => ?_)
  refine inv_ (T := rtab .any l.toArray) (B := B) (List.range l.length) (fun b a' w' => ∃ s, a' = putAll (dsOf l) 0 s a ∧ G w w' ∧ (∀ i, i < l.length → b i = true → V i (s i) w') ∧ ∀ i, i < l.length → b i = false → s i = (a.tmps[(dsOf l)[i]?.getD 0]?).getD undef) rfl h4 h5 ?_ ?_ ?_ ?_
  · rw [hTl, Bool.and_eq_true, beq_iff_eq, beq_iff_eq]
    refine ⟨?_, by simp⟩
    apply List.ext_getElem
    · simp [lof]
    · intro i hi1 hi2
      have hi : i < l.length := by simpa [lof] using hi1
      simp [lof, hi]
  · refine ⟨fun k => (a.tmps[(dsOf l)[k]?.getD 0]?).getD undef, ?_, hGr _, (fun _ _ h => by cases h), fun _ _ _ => rfl⟩
    refine (putAll_self _ _ _ _ (fun j d hj => ?_)).symm
    have hd := List.all_eq_true.1 h3 d (List.mem_of_getElem? hj)
    have hd' : d < a.tmps.size := of_decide_eq_true hd
    simp [hj, hd']
  · intro i hi b a' w' ⟨s, ha, hb, hv, hq⟩ hbi hon hoff
    subst ha
    have hil : i < l.length := List.mem_range.1 hi
    have ho : l[i]? = some l[i] := List.getElem?_eq_getElem hil
    refine ⟨l[i], by simp, fun K hK => ?_⟩
    have hK' := Shut.out hK
    have hfin : ∀ v w2, G w' w2 → V (0 + i) v w2 → K ((putAll (dsOf l) 0 s a).put l[i].dst v) w2 := by
      intro v w2 hb2 hv2
      refine hK' _ _ ?_
      refine ⟨upd s i v, ?_, hGt _ _ _ hb hb2, fun j hj hbj => ?_, fun j hj hbj => ?_⟩
      · rw [(hds i _ ho).1, (hds i _ ho).2, Option.getD_some]
        exact putAll_put _ _ _ _ _ _ _ hnd (Nat.zero_le _) (by rw [Nat.sub_zero]; exact (hds i _ ho).2)
      · by_cases hji : j = i
        · subst hji
          have : upd s j v j = v := by simp [upd]
          rw [this]
          rw [Nat.zero_add] at hv2
          exact hv2
        · have : upd s i v j = s j := by simp [upd, hji]
          rw [this]
          rw [up_ne hji] at hbj
          exact hV _ _ _ _ hb2 (hv j hj hbj)
      · have hji : j ≠ i := by
          rintro rfl
          rw [up_self] at hbj
          cases hbj
        have : upd s i v j = s j := by simp [upd, hji]
        rw [this]
        rw [up_ne hji] at hbj
        exact hq j hj hbj
    have hst := ggSteps_at l 0 hs i _ ho s w' hb (fun j hj => hv j (by have h6 := (Bool.and_eq_true _ _ ▸ hj : _ ∧ _).1; simpa using h6) (hon j (by simpa using hj))) (fun j hj => hq j (of_decide_eq_true (Bool.and_eq_true _ _ ▸ hj : _ ∧ _).1) (hoff j (by simpa using hj))) _ hfin
    unfold stepG at hst
    split
    · next h7 => rw [if_pos h7] at hst; exact opGives_wp hst
    · next h7 => rw [if_neg h7] at hst; exact hst
  · intro b a' w' hall ⟨s, ha, hb, hv, hq⟩
    subst ha
    exact hend s w' hb (fun i hi => hv i hi (hall i (by simpa using hi)))
end Go.Proofs.Ytpcjbdkdpcgdiaa.H
