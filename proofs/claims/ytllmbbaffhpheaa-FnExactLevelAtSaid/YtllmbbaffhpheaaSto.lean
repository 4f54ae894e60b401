/- A region of open order with one store beside what only reckons. -/
import Derived.Test.YtllmbbaffhpheaaPhi
import Derived.Test.YtllmbbaffhpheaaThose
namespace Go.Proofs.Ytllmbbaffhpheaa.H
open Go.RowKit Go.Proofs.YtllmbbaffhpheaaW.PrintWords Go.Proofs.YtllmbbaffhpheaaW.PrintLast Go.Proofs.YtllmbbaffhpheaaW.PrintMore
set_option linter.unusedVariables false
set_option linter.unusedSimpArgs false

/-- the slots; an operation without one has a number out of range -/
def dsB (l : List Oper) : List Tmp := l.map fun o => o.dst.getD 1000000
/-- operation i neither is the store nor goes ahead of it -/
def stoFree (B : List Nat) (la i : Nat) : Bool := i != la && !(B.getD la 0).testBit i
def stoOk (l : List Oper) (B : List Nat) (n la m : Nat) : Bool :=
  decide (l.length = m + 1) && decide (la < m) && ((l[la]?.map fun o => o.dst.isNone) == some true) && decide (n ≤ 1000000) &&
  (List.range l.length).all (fun i => i == la || (l[i]?.map fun o => o.dst.isSome) == some true) && l.all (fun o => o.guard.isNone) && decide (dsB l).Nodup && (dsB l).all (fun d => decide (d < n) || d == 1000000) &&
  waitsOk (rtab .any l.toArray).2 B && baseOk (rtab .any l.toArray).2 (List.range l.length) &&
  (List.range m).all (fun i => (B.getD m 0).testBit i) &&
  (List.range m).all (fun i => !(B.getD la 0).testBit i || (List.range m).all fun j => !(B.getD i 0).testBit j || (B.getD la 0).testBit j) &&
  (List.range m).all (fun i => (List.range m).all fun j => !(stoFree B la i) || !(B.getD i 0).testBit j || j != la) &&
  (List.range m).all (fun i => !(B.getD i 0).testBit m) && !(B.getD la 0).testBit la

def stoSteps (P : Program) (l : List Oper) (B : List Nat) (la m : Nat) (V : Nat → Value → World → Prop) (Vp : Nat → Value → Prop) (a : Act) (w : World) : Nat → List Oper → Prop
  | _, [] => True
  | i, o :: r => (i ≠ la → ∀ s w1, (stoFree B la i = false → Below w.heap.size w w1) → (stoFree B la i = false → ∀ j, (decide (j < m) && (B.getD i 0).testBit j) = true → V j (s j) w1) → (∀ j, (decide (j < m) && (B.getD i 0).testBit j) = true → Vp j (s j)) →
      ∀ R : Value → World → Prop, (∀ v w', Below w1.heap.size w1 w' → (stoFree B la i = true → w' = w1) → (stoFree B la i = false → V i v w') → (stoFree B la i = true → Vp i v) → R v w') → opGives P o (putAll (dsB l) 0 s a).eval w1 R) ∧ stoSteps P l B la m V Vp a w (i + 1) r
theorem sto_head {f : Bool} (hf : f = false) {w1 : World} {V R : Value → World → Prop} {Vp : Value → Prop} (hR : ∀ v w', Below w1.heap.size w1 w' → (f = true → w' = w1) → (f = false → V v w') → (f = true → Vp v) → R v w') : ∀ v w', Below w1.heap.size w1 w' → V v w' → R v w' :=
  fun v w' h1 h2 => hR v w' h1 (fun h => by rw [hf] at h; cases h) (fun _ => h2) (fun h => by rw [hf] at h; cases h)
theorem sto_free {f : Bool} (hf : f = true) {w1 : World} {V R : Value → World → Prop} {Vp : Value → Prop} (hR : ∀ v w', Below w1.heap.size w1 w' → (f = true → w' = w1) → (f = false → V v w') → (f = true → Vp v) → R v w') : ∀ v, Vp v → R v w1 :=
  fun v h2 => hR v w1 (Below.refl _ _) (fun _ => rfl) (fun h => by rw [hf] at h; cases h) (fun _ => h2)
theorem stoSteps_at {P : Program} {l : List Oper} {B : List Nat} {la m : Nat} {V : Nat → Value → World → Prop} {Vp : Nat → Value → Prop} {a : Act} {w : World} : ∀ (r : List Oper) (k : Nat), stoSteps P l B la m V Vp a w k r → ∀ i o, r[i]? = some o → k + i ≠ la →
    ∀ s w1, (stoFree B la (k + i) = false → Below w.heap.size w w1) → (stoFree B la (k + i) = false → ∀ j, (decide (j < m) && (B.getD (k + i) 0).testBit j) = true → V j (s j) w1) → (∀ j, (decide (j < m) && (B.getD (k + i) 0).testBit j) = true → Vp j (s j)) →
      ∀ R : Value → World → Prop, (∀ v w', Below w1.heap.size w1 w' → (stoFree B la (k + i) = true → w' = w1) → (stoFree B la (k + i) = false → V (k + i) v w') → (stoFree B la (k + i) = true → Vp (k + i) v) → R v w') → opGives P o (putAll (dsB l) 0 s a).eval w1 R
  | [], _, _, _, _, h => by cases h
  | x :: r, k, h, 0, o, ho => by cases ho; exact h.1
  | x :: r, k, h, i + 1, o, ho => by
    have := stoSteps_at r (k + 1) h.2 i o ho
    rwa [show k + 1 + i = k + (i + 1) by omega] at this
theorem putAll_self2 : ∀ (ds : List Tmp) (k : Nat) (s : Nat → Value) (a : Act), (∀ j d, ds[j]? = some d → a.tmps[d]? = some (s (k + j)) ∨ a.tmps.size ≤ d) → putAll ds k s a = a
  | [], _, _, _, _ => rfl
  | d :: r, k, s, a, h => by
    unfold putAll
    have e : a.put (some d) (s k) = a := by
      rcases h 0 d rfl with h0 | h0
      · obtain ⟨hd, he⟩ := Array.getElem?_eq_some_iff.1 h0
        rw [Nat.add_zero] at he
        have e2 : a.tmps.setIfInBounds d a.tmps[d] = a.tmps := by
          refine Array.ext (by rw [Array.size_setIfInBounds]) (fun i h1 h2 => ?_)
          by_cases hi : d = i
          · subst hi; exact Array.getElem_setIfInBounds_self _
          · exact Array.getElem_setIfInBounds_ne _ hi
        rw [he] at e2
        show ({ tmps := a.tmps.setIfInBounds d (s k), defers := a.defers } : Act) = a
        rw [e2]
      · show ({ tmps := a.tmps.setIfInBounds d (s k), defers := a.defers } : Act) = a
        rw [Array.setIfInBounds_eq_of_size_le h0]
    rw [e]
    exact putAll_self2 r (k + 1) s a (fun j d' hj => by have := h (j + 1) d' hj; rwa [show k + (j + 1) = k + 1 + j by omega] at this)

theorem wp_region_sto {P : Program} {id : Nat} {Q : Exit → Act → World → Prop} {a : Act} {w : World} {l : List Oper} (la m : Nat) (V : Nat → Value → World → Prop) (Vp : Nat → Value → Prop) (F : (Nat → Value) → World → Prop) (B : List Nat) (hm : P.follows .mixedOrders = true) (hok : stoOk l B a.tmps.size la m = true)
    (hV : ∀ i v w1 w2, Below w1.heap.size w1 w2 → V i v w1 → V i v w2) (hVp : ∀ i v w1, V i v w1 → Vp i v)
    (hF : ∀ s s' w1, (∀ i, (decide (i < m) && (B.getD la 0).testBit i) = true → s' i = s i) → F s w1 → F s' w1)
    (hs : stoSteps P l B la m V Vp a w 0 l.dropLast)
    (hst : ∀ s w1 o, l[la]? = some o → Below w.heap.size w w1 → (∀ j, (decide (j < m) && (B.getD la 0).testBit j) = true → V j (s j) w1) → ∃ w2, (execOp (putAll (dsB l) 0 s a).eval o).run P w1 = .ok .skip w2 ∧ F s w2)
    (hz : ∀ s w1 o, l[m]? = some o → F s w1 → (∀ i, (decide (i < m) && i != la) = true → Vp i (s i)) → opGives P o (putAll (dsB l) 0 s a).eval w1 fun v w2 => Q .normal (putAll (dsB l) 0 (upd s m v) a) w2) : (Code.region id l.toArray true).wp P Q a w := by
  simp only [stoOk, Bool.and_eq_true] at hok
  obtain ⟨⟨⟨⟨⟨⟨⟨⟨⟨⟨⟨⟨⟨⟨hlen, hla⟩, hzd⟩, hn⟩, h1⟩, h0⟩, h2⟩, h3⟩, h4⟩, h5⟩, hBm⟩, hBh⟩, hBf⟩, hBn⟩, hBl⟩ := hok
  have hlen := of_decide_eq_true hlen
  have hla := of_decide_eq_true hla
  have hn := of_decide_eq_true hn
  have hnd : (dsB l).Nodup := of_decide_eq_true h2
  have hBl : (B.getD la 0).testBit la = false := by simpa using hBl
  have hBm : ∀ i, i < m → (B.getD m 0).testBit i = true := fun i hi => List.all_eq_true.1 hBm i (List.mem_range.2 hi)
  have hBh : ∀ i j, i < m → (B.getD la 0).testBit i = true → j < m → (B.getD i 0).testBit j = true → (B.getD la 0).testBit j = true := by
    intro i j hi hli hj hij
    have := List.all_eq_true.1 hBh i (List.mem_range.2 hi)
    rw [hli, Bool.not_true, Bool.false_or] at this
    have := List.all_eq_true.1 this j (List.mem_range.2 hj)
    rwa [hij, Bool.not_true, Bool.false_or] at this
  have hBf : ∀ i j, i < m → stoFree B la i = true → j < m → (B.getD i 0).testBit j = true → j ≠ la := by
    intro i j hi hli hj hij
    have := List.all_eq_true.1 (List.all_eq_true.1 hBf i (List.mem_range.2 hi)) j (List.mem_range.2 hj)
    rw [hli, hij, Bool.not_true, Bool.false_or, Bool.false_or] at this
    simpa using this
  have hTl : (rtab .any l.toArray).2.length = l.length := by rw [rtab_length]; simp
  have hds : ∀ (i : Nat) (o : Oper), i < l.length → i ≠ la → l[i]? = some o → o.dst = some ((dsB l)[i]?.getD 0) ∧ (dsB l)[i]? = some ((dsB l)[i]?.getD 0) := by
    intro i o hi hil ho
    have h6 := List.all_eq_true.1 h1 i (List.mem_range.2 hi)
    rw [ho] at h6
    have e : (dsB l)[i]? = some (o.dst.getD 1000000) := by unfold dsB; rw [List.getElem?_map, ho]; rfl
    rw [e]
    cases hd : o.dst with
    | none => simp [hd, hil] at h6
    | some d => exact ⟨rfl, rfl⟩
  have hrange : ∀ j, j < l.length → (List.range l.length).contains j = true := fun j hj => by simpa using hj
  refine wp_region_last_drew (S := fun _ => True) (ds := []) hm trivial (fun _ => ?_)
  refine inv_ (T := rtab .any l.toArray) (B := B) (List.range l.length) (fun b a' w' => ∃ s, (b m = false → a' = putAll (dsB l) 0 s a) ∧ (b la = false → Below w.heap.size w w' ∧ ∀ i, i < m → i ≠ la → stoFree B la i = false → b i = true → V i (s i) w') ∧ (b la = true → b m = false → F s w') ∧ (∀ i, i < m → i ≠ la → b i = true → Vp i (s i)) ∧ (b m = true → Q .normal a' w')) rfl h4 h5 ?_ ?_ ?_ ?_
  · rw [hTl, Bool.and_eq_true, beq_iff_eq, beq_iff_eq]
    refine ⟨?_, by simp⟩
    apply List.ext_getElem
    · simp [lof]
    · intro i hi1 hi2
      have hi : i < l.length := by simpa [lof] using hi1
      simp [lof, hi]
  · refine ⟨fun k => (a.tmps[(dsB l)[k]?.getD 0]?).getD undef, fun _ => ?_, fun _ => ⟨(Below.refl _ _).drew, fun _ _ _ _ h => by cases h⟩, (fun h => by cases h), (fun _ _ _ h => by cases h), (fun h => by cases h)⟩
    refine (putAll_self2 _ _ _ _ (fun j d hj => ?_)).symm
    have hd := List.all_eq_true.1 h3 d (List.mem_of_getElem? hj)
    rw [Bool.or_eq_true, decide_eq_true_eq, beq_iff_eq] at hd
    rcases hd with hd | hd
    · left; simp [hj, hd]
    · right; rw [hd]; exact hn
  · intro i hi b a' w' ⟨s, ha, hA, hF', hfr, hq⟩ hbi hon hoff
    have hil : i < l.length := List.mem_range.1 hi
    have ho : l[i]? = some l[i] := List.getElem?_eq_getElem hil
    refine ⟨l[i], by simp, fun K hK => ?_⟩
    have hK' := Shut.out hK
    have hg : l[i].guard = none := by
      have := List.all_eq_true.1 h0 l[i] (List.mem_of_getElem? ho)
      cases hq : l[i].guard with
      | none => rfl
      | some g => rw [hq] at this; cases this
    rw [if_pos (by simp [Region.wanted, hg])]
    have hon' : ∀ j, j < l.length → (B.getD i 0).testBit j = true → b j = true := fun j hj hb => hon j (by rw [hrange j hj, hb]; rfl)
    have hoff' : ∀ d, d < l.length → (B.getD d 0).testBit i = true → b d = false := fun d hd hb => hoff d (by rw [hrange d hd, hb]; rfl)
    have hput : i ≠ la → ∀ v, (putAll (dsB l) 0 s a).put l[i].dst v = putAll (dsB l) 0 (upd s i v) a := by
      intro hne v
      rw [(hds i _ hil hne ho).1]
      exact putAll_put _ _ _ _ _ _ _ hnd (Nat.zero_le _) (by rw [Nat.sub_zero]; exact (hds i _ hil hne ho).2)
    have hus : ∀ v, upd s i v i = v := fun v => by simp [upd]
    have hun : ∀ v j, j ≠ i → upd s i v j = s j := fun v j hj => by simp [upd, hj]
    have hsplit : ∀ {j : Nat} {c : Bool}, (decide (j < m) && c) = true → j < m ∧ c = true := fun h => by
      have := (Bool.and_eq_true _ _ ▸ h : _ ∧ _); exact ⟨of_decide_eq_true this.1, this.2⟩
    by_cases him : i = m
    · subst him
      have hbl := hon' la (by omega) (hBm la hla)
      have hne : i ≠ la := by omega
      rw [ha hbi]
      refine opGives_wp ?_
      have hz' := hz s w' l[i] ho (hF' hbl hbi) (fun j hj => by
        obtain ⟨hj1, hj2⟩ := hsplit hj
        exact hfr j hj1 (by simpa using hj2) (hon' j (by omega) (hBm j hj1)))
      have e : (fun (v : Value) (w2 : World) => Q .normal (putAll (dsB l) 0 (upd s i v) a) w2) = fun v w2 => Q .normal ((putAll (dsB l) 0 s a).put l[i].dst v) w2 := by
        funext v w2; rw [hput hne v]
      rw [e] at hz'
      have hgo : ∀ v w2, Q .normal ((putAll (dsB l) 0 s a).put l[i].dst v) w2 → K ((putAll (dsB l) 0 s a).put l[i].dst v) w2 := by
        intro v w2 hq2
        refine hK' _ _ ⟨s, ?_, ?_, ?_, ?_, fun _ => hq2⟩
        · intro h; rw [up_self] at h; cases h
        · intro h; rw [up_ne (by omega)] at h; rw [hbl] at h; cases h
        · intro _ h; rw [up_self] at h; cases h
        · intro j hj hjl hbj
          rw [up_ne (by omega)] at hbj
          exact hfr j hj hjl hbj
      unfold opGives at hz' ⊢
      split
      · next h1 => rw [h1] at hz'; exact hgo _ _ hz'
      · next f args w2 h1 =>
        rw [h1] at hz'
        exact Calls.mono hz' fun e w'' ⟨v, e1, e2⟩ => ⟨v, e1, hgo _ _ e2⟩
      · next h1 h2 =>
        split at hz'
        · next v w2 h3 => exact (h1 _ _ h3).elim
        · next f args w2 h3 => exact (h2 _ _ _ h3).elim
        · exact hz'
    · have him' : i < m := by omega
      have hbm : b m = false := hoff' m (by omega) (hBm i him')
      have hupm : up b i m = false := by rw [up_ne (by omega)]; exact hbm
      obtain rfl := ha hbm
      by_cases hila : i = la
      · subst hila
        obtain ⟨hbw, hvs⟩ := hA hbi
        have hdn : l[i].dst = none := by
          rw [ho] at hzd
          simp only [Option.map_some, beq_iff_eq, Option.some.injEq] at hzd
          simpa using hzd
        obtain ⟨w2, hr, hf2⟩ := hst s w' l[i] ho hbw (fun j hj => by
          obtain ⟨hj1, hj2⟩ := hsplit hj
          refine hvs j hj1 (fun e => by subst e; rw [hBl] at hj2; cases hj2) ?_ (hon' j (by omega) hj2)
          simp only [stoFree, hj2, Bool.not_true, Bool.and_false])
        unfold Oper.wp
        rw [hr]
        have e : (putAll (dsB l) 0 s a).put l[i].dst undef = putAll (dsB l) 0 s a := by rw [hdn]; rfl
        show K ((putAll (dsB l) 0 s a).put l[i].dst undef) w2
        rw [e]
        refine hK' _ _ ⟨s, fun _ => rfl, ?_, fun _ _ => hf2, ?_, ?_⟩
        · intro h; rw [up_self] at h; cases h
        · intro j hj hjl hbj
          rw [up_ne hjl] at hbj
          exact hfr j hj hjl hbj
        · intro h; rw [hupm] at h; cases h
      · have hstp := stoSteps_at l.dropLast 0 hs i _ (by rw [List.getElem?_dropLast]; rw [if_pos (by omega)]; exact ho) (by omega)
        rw [Nat.zero_add] at hstp
        have hpp : ∀ j, (decide (j < m) && (B.getD i 0).testBit j) = true → j ≠ la → Vp j (s j) := fun j hj hjl => by
          obtain ⟨hj1, hj2⟩ := hsplit hj
          exact hfr j hj1 hjl (hon' j (by omega) hj2)
        cases hff : stoFree B la i with
        | false =>
          have hbit : (B.getD la 0).testBit i = true := by
            simp only [stoFree, Bool.and_eq_false_iff, bne_eq_false_iff_eq, Bool.not_eq_false'] at hff
            rcases hff with h | h
            · exact absurd h hila
            · exact h
          have hbl : b la = false := hoff' la (by omega) hbit
          obtain ⟨hbw, hvs⟩ := hA hbl
          have hjla : ∀ j, (decide (j < m) && (B.getD i 0).testBit j) = true → j ≠ la ∧ stoFree B la j = false := fun j hj => by
            obtain ⟨hj1, hj2⟩ := hsplit hj
            have h6 := hBh i j him' hbit hj1 hj2
            exact ⟨fun e => (by subst e; rw [hBl] at h6; cases h6), by simp only [stoFree, h6, Bool.not_true, Bool.and_false]⟩
          rw [hff] at hstp
          refine opGives_wp (hstp s w' (fun _ => hbw) (fun _ j hj => by
            obtain ⟨hj1, hj2⟩ := hsplit hj
            exact hvs j hj1 (hjla j hj).1 (hjla j hj).2 (hon' j (by omega) hj2)) (fun j hj => hpp j hj (hjla j hj).1) _ (fun v w2 hb2 _ hv _ => ?_))
          rw [hput hila v]
          refine hK' _ _ ⟨upd s i v, fun _ => rfl, ?_, ?_, ?_, ?_⟩
          · intro _
            refine ⟨hbw.trans (hb2.mono hbw.size), fun j hj hjl hfj hbj => ?_⟩
            by_cases hji : j = i
            · subst hji; rw [hus]; exact hv rfl
            · rw [up_ne hji] at hbj; rw [hun v j hji]
              exact hV _ _ _ _ hb2 (hvs j hj hjl hfj hbj)
          · intro h; rw [up_ne (Ne.symm hila), hbl] at h; cases h
          · intro j hj hjl hbj
            by_cases hji : j = i
            · subst hji; rw [hus]; exact hVp _ _ _ (hv rfl)
            · rw [up_ne hji] at hbj; rw [hun v j hji]
              exact hfr j hj hjl hbj
          · intro h; rw [hupm] at h; cases h
        | true =>
          rw [hff] at hstp
          refine opGives_wp (hstp s w' (fun h => by cases h) (fun h => by cases h) (fun j hj => by
            obtain ⟨hj1, hj2⟩ := hsplit hj
            exact hpp j hj (hBf i j him' hff hj1 hj2)) _ (fun v w2 hb2 he _ hv => ?_))
          obtain rfl := he rfl
          rw [hput hila v]
          have hnb : (B.getD la 0).testBit i = false := by
            simp only [stoFree, Bool.and_eq_true] at hff
            simpa using hff.2
          refine hK' _ _ ⟨upd s i v, fun _ => rfl, ?_, ?_, ?_, ?_⟩
          · intro h
            rw [up_ne (Ne.symm hila)] at h
            obtain ⟨hbw, hvs⟩ := hA h
            refine ⟨hbw, fun j hj hjl hfj hbj => ?_⟩
            by_cases hji : j = i
            · subst hji; rw [hff] at hfj; cases hfj
            · rw [up_ne hji] at hbj; rw [hun v j hji]
              exact hvs j hj hjl hfj hbj
          · intro h h2
            rw [up_ne (Ne.symm hila)] at h
            refine hF s _ _ (fun j hj => hun v j (fun e => ?_)) (hF' h hbm)
            subst e
            have := (hsplit hj).2
            rw [hnb] at this; cases this
          · intro j hj hjl hbj
            by_cases hji : j = i
            · subst hji; rw [hus]; exact hv rfl
            · rw [up_ne hji] at hbj; rw [hun v j hji]
              exact hfr j hj hjl hbj
          · intro h; rw [hupm] at h; cases h
  · intro b a' w' hall ⟨s, ha, hA, hF', hfr, hq⟩
    exact hq (hall m (hrange m (by omega)))

/-- a complex in a box of its own -/
def BoxOf (base : Nat) (W0 : World) (p : Value) (a : Int) (xs : List Int) (W : World) : Prop := ∃ b u, p = .pointer (some ⟨b, 0, none⟩) ∧ base ≤ b ∧ W.heap[b]? = some (.cells #[.int .i64 a, u] 28) ∧ OwnI base W u xs ∧ (∀ j, u.ownBlock = some j → j ≠ b) ∧ Below base W0 W
theorem own_ne_box {base b : Nat} {W : World} {u : Value} {xs : List Int} {cs : Array Value} (ho : OwnI base W u xs) (h : W.heap[b]? = some (.cells cs 28)) : ∀ j, u.ownBlock = some j → j ≠ b := by
  intro j hj e
  subst e
  obtain ⟨inner, hr⟩ := Kd.R_own ho
  rcases hr.2 with ⟨hv, _⟩ | ⟨g, cap, cur, hv, _, hg, _⟩
  · rw [hv] at hj; cases hj
  · rw [hv] at hj
    cases hj
    rw [h] at hg
    cases hg
theorem boxOf_store {base b : Nat} {W0 W : World} {A : Option Addr} {d : Nat} {a : Int} {xs : List Int} (h1 : base ≤ b) (h2 : W.heap[b]? = some (.cells #[.int .i64 0, .slice none 0 0] 28)) (o : OwnI base W (.slice A xs.length d) xs) (hB : Below base W0 W) :
    BoxOf base W0 (.pointer (some ⟨b, 0, none⟩)) a xs ((W.setCell ⟨b, 0, none⟩ (.int .i64 a)).setCell ⟨b, 1, none⟩ (.slice A xs.length d)) := by
  have hne := own_ne_box o h2
  refine ⟨b, _, rfl, h1, blk_put (cs := #[.int .i64 a, .slice none 0 0]) (blk_put h2 0 _ rfl) 1 _ rfl, ?_, hne, (hB.setCell h1 _).setCell h1 _⟩
  exact (o.grown (set_grown' _ b _ _) (fun j hj e => by cases e; exact hne _ hj rfl)).grown (set_grown' _ b _ _) (fun j hj e => by cases e; exact hne _ hj rfl)
end Go.Proofs.Ytllmbbaffhpheaa.H
