/- A region of open order whose last operations come one behind the other. -/
import Derived.Test.YtpcjbdkdpcgdiaaPhi
namespace Go.Proofs.Ytpcjbdkdpcgdiaa.H
open Go.RowKit Go.Proofs.YtpcjbdkdpcgdiaaW.PrintWords Go.Proofs.YtpcjbdkdpcgdiaaW.PrintLast Go.Proofs.YtpcjbdkdpcgdiaaW.PrintMore
set_option linter.unusedVariables false
set_option linter.unusedSimpArgs false

/-- the operations one behind the other -/
def tailList (P : Program) (Q : Exit → Act → World → Prop) : List Oper → Act → World → Prop
  | [], a, w => Q .normal a w
  | o :: r, a, w => opGives P o a.eval w (fun v w' => tailList P Q r (a.put o.dst v) w') ∨ ∃ w', (execOp a.eval o).run P w = .ok .skip w' ∧ tailList P Q r (a.put o.dst undef) w'
def tailOk (l : List Oper) (B : List Nat) (n k : Nat) : Bool :=
  decide (k < l.length) && (l.take k).all (fun o => o.dst.isSome) && l.all (fun o => o.guard.isNone) && decide (dsOf (l.take k)).Nodup && (dsOf (l.take k)).all (fun d => decide (d < n)) &&
  waitsOk (rtab .any l.toArray).2 B && baseOk (rtab .any l.toArray).2 (List.range l.length) &&
  (List.range l.length).all (fun i => decide (i < k) || (List.range i).all fun j => (B.getD i 0).testBit j) &&
  (List.range k).all (fun i => (List.range l.length).all fun j => decide (j < i) || !(B.getD i 0).testBit j)

theorem opGives_mono {P : Program} {o : Oper} {A : Act} {w : World} {R : Value → World → Prop} {K : Act → World → Prop} (h : opGives P o A.eval w R) (hR : ∀ v w', R v w' → K (A.put o.dst v) w') : opGives P o A.eval w fun v w' => K (A.put o.dst v) w' := by
  unfold opGives at h ⊢
  split
  · next h1 => rw [h1] at h; exact hR _ _ h
  · next f args w' h1 =>
    rw [h1] at h
    exact Calls.mono h fun e w'' ⟨v, e1, e2⟩ => ⟨v, e1, hR _ _ e2⟩
  · next h1 h2 =>
    split at h
    · next v w' h3 => exact (h1 _ _ h3).elim
    · next f args w' h3 => exact (h2 _ _ _ h3).elim
    · exact h

theorem wp_region_tail {P : Program} {id : Nat} {Q : Exit → Act → World → Prop} {a : Act} {w : World} {l : List Oper} (k : Nat) (V : Nat → Value → World → Prop) (B : List Nat) (hm : P.follows .mixedOrders = true) (hok : tailOk l B a.tmps.size k = true)
    (hV : ∀ i v w1 w2, Below w1.heap.size w1 w2 → V i v w1 → V i v w2)
    (hs : phiSteps P (l.take k) B V a w 0 (l.take k))
    (hend : ∀ s w1, Below w.heap.size w w1 → (∀ i, i < k → V i (s i) w1) → tailList P Q (l.drop k) (putAll (dsOf (l.take k)) 0 s a) w1) : (Code.region id l.toArray true).wp P Q a w := by
  simp only [tailOk, Bool.and_eq_true] at hok
  obtain ⟨⟨⟨⟨⟨⟨⟨⟨hk, h1⟩, h0⟩, h2⟩, h3⟩, h4⟩, h5⟩, hBt⟩, hBd⟩ := hok
  have hk : k < l.length := of_decide_eq_true hk
  have hnd : (dsOf (l.take k)).Nodup := of_decide_eq_true h2
  have hBt : ∀ i j, i < l.length → k ≤ i → j < i → (B.getD i 0).testBit j = true := by
    intro i j hi hki hj
    have := List.all_eq_true.1 hBt i (List.mem_range.2 hi)
    rw [decide_eq_false (by omega), Bool.false_or] at this
    exact List.all_eq_true.1 this j (List.mem_range.2 hj)
  have hBd : ∀ i j, i < k → j < l.length → (B.getD i 0).testBit j = true → j < i := by
    intro i j hi hj hij
    have := List.all_eq_true.1 (List.all_eq_true.1 hBd i (List.mem_range.2 hi)) j (List.mem_range.2 hj)
    rw [hij, Bool.not_true, Bool.or_false] at this
    exact of_decide_eq_true this
  have hTl : (rtab .any l.toArray).2.length = l.length := by rw [rtab_length]; simp
  have hdl : ∀ i, i < k → (l.take k)[i]? = l[i]? := fun i hi => by rw [List.getElem?_take_of_lt hi]
  have hlt : (l.take k).length = k := by rw [List.length_take]; omega
  have hds : ∀ (i : Nat) (o : Oper), i < k → l[i]? = some o → o.dst = some ((dsOf (l.take k))[i]?.getD 0) ∧ (dsOf (l.take k))[i]? = some (o.dst.getD 0) := by
    intro i o hi ho
    have ho' : (l.take k)[i]? = some o := (hdl i hi).trans ho
    have e : (dsOf (l.take k))[i]? = some (o.dst.getD 0) := by unfold dsOf; rw [List.getElem?_map, ho']; rfl
    refine ⟨?_, e⟩
    have := List.all_eq_true.1 h1 o (List.mem_of_getElem? ho')
    rw [e]
    cases hd : o.dst with
    | none => rw [hd] at this; cases this
    | some d => rfl
  have hrange : ∀ j, j < l.length → (List.range l.length).contains j = true := fun j hj => by simpa using hj
  refine wp_region_last_drew (S := fun _ => True) (ds := []) hm trivial (fun _ => ?_)
  refine inv_ (T := rtab .any l.toArray) (B := B) (List.range l.length) (fun b a' w' => (b k = false → ∃ s, a' = putAll (dsOf (l.take k)) 0 s a ∧ Below w.heap.size w w' ∧ ∀ i, i < k → b i = true → V i (s i) w') ∧ (∀ n, k < n → n ≤ l.length → (∀ j, j < n → b j = true) → (∀ j, n ≤ j → j < l.length → b j = false) → tailList P Q (l.drop n) a' w')) rfl h4 h5 ?_ ?_ ?_ ?_
  · rw [hTl, Bool.and_eq_true, beq_iff_eq, beq_iff_eq]
    refine ⟨?_, by simp⟩
    apply List.ext_getElem
    · simp [lof]
    · intro i hi1 hi2
      have hi : i < l.length := by simpa [lof] using hi1
      simp [lof, hi]
  · refine ⟨fun _ => ⟨fun k' => (a.tmps[(dsOf (l.take k))[k']?.getD 0]?).getD undef, ?_, (Below.refl _ _).drew, fun _ _ h => by cases h⟩, fun n hn _ hj _ => by have := hj 0 (by omega); cases this⟩
    refine (putAll_self _ _ _ _ (fun j d hj => ?_)).symm
    have hd := List.all_eq_true.1 h3 d (List.mem_of_getElem? hj)
    have hd' : d < a.tmps.size := of_decide_eq_true hd
    simp [hj, hd']
  · intro i hi b a' w' ⟨hA, hT⟩ hbi hon hoff
    have hil : i < l.length := List.mem_range.1 hi
    have ho : l[i]? = some l[i] := List.getElem?_eq_getElem hil
    refine ⟨l[i], by simp, fun K hK => ?_⟩
    have hK' := Shut.out hK
    have hg : l[i].guard = none := by
      have := List.all_eq_true.1 h0 l[i] (List.mem_of_getElem? ho)
      cases hq : l[i].guard with
      | none => rfl
      | some g => rw [hq] at this; cases this
    rw [if_pos (by simp [Region.wanted, hg])]
    have hon' : ∀ j, j < l.length → (B.getD i 0).testBit j = true → b j = true := fun j hj hb => hon j (by rw [hrange j hj, hb]; rfl)
    have hoff' : ∀ d, d < l.length → (B.getD d 0).testBit i = true → b d = false := fun d hd hb => hoff d (by rw [hrange d hd, hb]; rfl)
    by_cases hik : i < k
    · have hbk : b k = false := hoff' k hk (hBt k i hk (Nat.le_refl _) hik)
      obtain ⟨s, rfl, hbw, hvs⟩ := hA hbk
      have hst := phiSteps_at (l.take k) 0 hs i _ ((hdl i hik).trans ho)
      rw [Nat.zero_add] at hst
      refine opGives_wp (hst s w' hbw (fun j hj => ?_) _ (fun v w2 hb2 hv => ?_))
      · have hj1 := (Bool.and_eq_true _ _ ▸ hj : _ ∧ _)
        have hjk : j < k := by have := hj1.1; rw [hlt] at this; simpa using this
        exact hvs j hjk (hon' j (by omega) hj1.2)
      · rw [(hds i _ hik ho).1, (hds i _ hik ho).2, Option.getD_some, putAll_put _ _ _ _ _ _ _ hnd (Nat.zero_le _) (by rw [Nat.sub_zero]; exact (hds i _ hik ho).2)]
        refine hK' _ _ ⟨fun _ => ⟨upd s i v, rfl, hbw.trans (hb2.mono hbw.size), fun j hj hbj => ?_⟩, fun n hn hnl hj _ => ?_⟩
        · by_cases hji : j = i
          · subst hji; rw [show upd s j v j = v by simp [upd]]; exact hv
          · rw [up_ne hji] at hbj; rw [show upd s i v j = s j by simp [upd, hji]]
            exact hV _ _ _ _ hb2 (hvs j hj hbj)
        · have := hj k hn
          rw [up_ne (by omega), hbk] at this
          cases this
    · have hall : ∀ j, j < i → b j = true := fun j hj => hon' j (by omega) (hBt i j hil (by omega) hj)
      have hnone : ∀ j, i ≤ j → j < l.length → b j = false := by
        intro j hj hjl
        by_cases hji : j = i
        · subst hji; exact hbi
        · exact hoff' j hjl (hBt j i hjl (by omega) (by omega))
      have htl : tailList P Q (l.drop i) a' w' := by
        by_cases hki : i = k
        · subst hki
          obtain ⟨s, rfl, hbw, hvs⟩ := hA hbi
          exact hend s w' hbw (fun j hj => hvs j hj (hall j hj))
        · exact hT i (by omega) (by omega) hall hnone
      rw [List.drop_eq_getElem_cons hil] at htl
      have hnext : ∀ a2 w2, tailList P Q (l.drop (i + 1)) a2 w2 → K a2 w2 := by
        intro a2 w2 hq
        refine hK' _ _ ⟨fun h => ?_, fun n hn hnl hj hj2 => ?_⟩
        · by_cases hki : i = k
          · subst hki; rw [up_self] at h; cases h
          · rw [up_ne (by omega)] at h
            have := hall k (by omega)
            rw [h] at this; cases this
        · have hni : n = i + 1 := by
            by_cases h6 : n ≤ i
            · have := hj2 i h6 hil
              rw [up_self] at this; cases this
            · by_cases h7 : i + 1 < n
              · have := hj (i + 1) h7
                rw [up_ne (by omega), hnone (i + 1) (by omega) (by omega)] at this
                cases this
              · omega
          subst hni
          exact hq
      rcases htl with htl | ⟨w2, h1, h2⟩
      · refine opGives_wp (opGives_mono htl (fun v w2 hq => hnext _ _ hq))
      · unfold Oper.wp
        rw [h1]
        exact hnext _ _ h2
  · intro b a' w' hall ⟨hA, hT⟩
    have := hT l.length hk (Nat.le_refl _) (fun j hj => hall j (hrange j hj)) (fun j h1 h2 => by omega)
    rw [List.drop_length] at this
    exact this
end Go.Proofs.Ytpcjbdkdpcgdiaa.H
