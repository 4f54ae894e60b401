/- A region of open order: each operation is shown once; what holds of its value stays as memory grows. The laws' helpers over complexes, and the marks. Rows of pairs: what is said of them; the laws' eqPairS. Pairings, of the reference. Sets of numbers: map[int64]bool. -/
import Derived.Test.YtcbkchnfjeegmaaWInv
import Derived.Test.YtcbkchnfjeegmaaKFnExactCriticalChain1
import Derived.Test.YtcbkchnfjeegmaaKFnExactCriticalChain2
import Derived.Test.YtcbkchnfjeegmaaKFnExactCriticalChain3
import Derived.Test.YtcbkchnfjeegmaaKFnExactCriticalChain4

namespace Go.Proofs.Ytcbkchnfjeegmaa.H
open Go.RowKit Go.Proofs.YtcbkchnfjeegmaaW.PrintWords Go.Proofs.YtcbkchnfjeegmaaW.PrintLast Go.Proofs.YtcbkchnfjeegmaaW.PrintMore
set_option linter.unusedVariables false
set_option linter.unusedSimpArgs false

/-- the slots d, d', .. filled with s k, s (k + 1), .. -/
def putAll : List Tmp → Nat → (Nat → Value) → Act → Act
  | [], _, _, a => a
  | d :: r, k, s, a => putAll r (k + 1) s (a.put (some d) (s k))
def upd (s : Nat → Value) (i : Nat) (v : Value) : Nat → Value := fun j => if j = i then v else s j

theorem putAll_congr : ∀ (ds : List Tmp) (k : Nat) (s s' : Nat → Value) (a : Act), (∀ j, k ≤ j → s j = s' j) → putAll ds k s a = putAll ds k s' a
  | [], _, _, _, _, _ => rfl
  | d :: r, k, s, s', a, h => by
    unfold putAll
    rw [h k (Nat.le_refl _)]
    exact putAll_congr r (k + 1) s s' _ (fun j hj => h j (by omega))
theorem putAll_out : ∀ (ds : List Tmp) (k : Nat) (s : Nat → Value) (a : Act) (d : Tmp) (v : Value), d ∉ ds → (putAll ds k s a).put (some d) v = putAll ds k s (a.put (some d) v)
  | [], _, _, _, _, _, _ => rfl
  | e :: r, k, s, a, d, v, h => by
    unfold putAll
    rw [List.mem_cons, not_or] at h
    rw [putAll_out r (k + 1) s _ d v h.2, put_comm (Ne.symm h.1)]
theorem put_put {a : Act} {d : Tmp} {u v : Value} : (a.put (some d) u).put (some d) v = a.put (some d) v := by
  simp [Act.put]
theorem putAll_put : ∀ (ds : List Tmp) (k : Nat) (s : Nat → Value) (a : Act) (i : Nat) (d : Tmp) (v : Value), ds.Nodup → k ≤ i → ds[i - k]? = some d → (putAll ds k s a).put (some d) v = putAll ds k (upd s i v) a
  | [], _, _, _, _, _, _, _, _, h => by cases h
  | e :: r, k, s, a, i, d, v, hn, hk, h => by
    rw [List.nodup_cons] at hn
    unfold putAll
    by_cases hi : i = k
    · subst hi
      rw [Nat.sub_self] at h
      cases h
      rw [putAll_out r (i + 1) s _ e v hn.1, put_put]
      have : upd s i v i = v := by simp [upd]
      rw [this]
      exact putAll_congr r (i + 1) _ _ _ (fun j hj => by simp [upd]; omega)
    · have e1 : i - k = (i - (k + 1)) + 1 := by omega
      rw [e1] at h
      rw [putAll_put r (k + 1) s _ i d v hn.2 (by omega) h]
      have : upd s i v k = s k := by simp [upd]; omega
      rw [this]
theorem putAll_self : ∀ (ds : List Tmp) (k : Nat) (s : Nat → Value) (a : Act), (∀ j d, ds[j]? = some d → a.tmps[d]? = some (s (k + j))) → putAll ds k s a = a
  | [], _, _, _, _ => rfl
  | d :: r, k, s, a, h => by
    unfold putAll
    have h0 := h 0 d rfl
    have e : a.put (some d) (s k) = a := by
      obtain ⟨hd, he⟩ := Array.getElem?_eq_some_iff.1 h0
      rw [Nat.add_zero] at he
      have e2 : a.tmps.setIfInBounds d a.tmps[d] = a.tmps := by
        refine Array.ext (by rw [Array.size_setIfInBounds]) (fun i h1 h2 => ?_)
        by_cases hi : d = i
        · subst hi; exact Array.getElem_setIfInBounds_self _
        · exact Array.getElem_setIfInBounds_ne _ hi
      rw [he] at e2
      show ({ tmps := a.tmps.setIfInBounds d (s k), defers := a.defers } : Act) = a
      rw [e2]
    rw [e]
    exact putAll_self r (k + 1) s a (fun j d' hj => by have := h (j + 1) d' hj; rwa [show k + (j + 1) = k + 1 + j by omega] at this)

def dsOf (l : List Oper) : List Tmp := l.map fun o => o.dst.getD 0
/-- the operations that each waits for, as bits -/
def mkB (T : List (List Nat × List Nat)) : List Nat := T.foldl (fun B r => B ++ [upM B B.length r.1]) []
def phiOk (l : List Oper) (B : List Nat) (n : Nat) : Bool :=
  l.all (fun o => o.dst.isSome) && l.all (fun o => o.guard.isNone) && decide (dsOf l).Nodup && (dsOf l).all (fun d => decide (d < n)) && waitsOk (rtab .any l.toArray).2 B && baseOk (rtab .any l.toArray).2 (List.range l.length)

/-- an operation that yields a value, or enters a call that returns one -/
def opGives (P : Program) (o : Oper) (ev : Operand → Value) (w : World) (R : Value → World → Prop) : Prop :=
  match (execOp ev o).run P w with
  | .ok (.value v) w' => R v w'
  | .ok (.enter f args) w' => Calls P f args w' fun e w'' => ∃ v, e = .returned v ∧ R v w''
  | _ => False
theorem opGives_value {P : Program} {o : Oper} {ev : Operand → Value} {w w' : World} {R : Value → World → Prop} {v : Value} (h : (execOp ev o).run P w = .ok (.value v) w') (hR : R v w') : opGives P o ev w R := by
  unfold opGives; rw [h]; exact hR
theorem opGives_call {P : Program} {o : Oper} {ev : Operand → Value} {w : World} {R : Value → World → Prop} {f : FuncId} {args : Array Value} (h : (execOp ev o).run P w = .ok (.enter f args) w) (hR : Calls P f args w fun e w'' => ∃ v, e = .returned v ∧ R v w'') : opGives P o ev w R := by
  unfold opGives; rw [h]; exact hR
theorem opGives_wp {P : Program} {o : Oper} {a : Act} {w : World} {K : Act → World → Prop} {Q : Exit → Act → World → Prop} (h : opGives P o a.eval w fun v w' => K (a.put o.dst v) w') : Oper.wp P o a w K Q := by
  unfold Oper.wp
  unfold opGives at h
  split at h
  · next h1 => rw [h1]; exact h
  · next f args w' h1 =>
    rw [h1]
    rw [Oper.upon_enter]
    refine h.mono fun e w'' hh => ?_
    obtain ⟨v, rfl, hK⟩ := hh
    exact hK
  · exact h.elim

/-- each step -/
def phiSteps (P : Program) (l : List Oper) (B : List Nat) (V : Nat → Value → World → Prop) (a : Act) (w : World) : Nat → List Oper → Prop
  | _, [] => True
  | i, o :: r => (∀ s w1, Below w.heap.size w w1 → (∀ j, ((List.range l.length).contains j && (B.getD i 0).testBit j) = true → V j (s j) w1) →
      ∀ R : Value → World → Prop, (∀ v w', Below w1.heap.size w1 w' → V i v w' → R v w') → opGives P o (putAll (dsOf l) 0 s a).eval w1 R) ∧ phiSteps P l B V a w (i + 1) r

theorem phiSteps_at {P : Program} {l : List Oper} {B : List Nat} {V : Nat → Value → World → Prop} {a : Act} {w : World} : ∀ (r : List Oper) (k : Nat), phiSteps P l B V a w k r → ∀ i o, r[i]? = some o →
    ∀ s w1, Below w.heap.size w w1 → (∀ j, ((List.range l.length).contains j && (B.getD (k + i) 0).testBit j) = true → V j (s j) w1) →
      ∀ R : Value → World → Prop, (∀ v w', Below w1.heap.size w1 w' → V (k + i) v w' → R v w') → opGives P o (putAll (dsOf l) 0 s a).eval w1 R
  | [], _, _, _, _, h => by cases h
  | x :: r, k, h, 0, o, ho => by cases ho; exact h.1
  | x :: r, k, h, i + 1, o, ho => by
    have := phiSteps_at r (k + 1) h.2 i o ho
    rwa [show k + 1 + i = k + (i + 1) by omega] at this

theorem wp_region_phi {P : Program} {id : Nat} {Q : Exit → Act → World → Prop} {a : Act} {w : World} {l : List Oper} (V : Nat → Value → World → Prop) (B : List Nat) (hm : P.follows .mixedOrders = true) (hok : phiOk l B a.tmps.size = true)
    (hV : ∀ i v w1 w2, Below w1.heap.size w1 w2 → V i v w1 → V i v w2)
    (hs : phiSteps P l B V a w 0 l)
    (hend : ∀ s w1, Below w.heap.size w w1 → (∀ i, i < l.length → V i (s i) w1) → Q .normal (putAll (dsOf l) 0 s a) w1) : (Code.region id l.toArray true).wp P Q a w := by
  simp only [phiOk, Bool.and_eq_true] at hok
  obtain ⟨⟨⟨⟨⟨h1, h0⟩, h2⟩, h3⟩, h4⟩, h5⟩ := hok
  have hnd : (dsOf l).Nodup := of_decide_eq_true h2
  have hTl : (rtab .any l.toArray).2.length = l.length := by rw [rtab_length]; simp
  have hds : ∀ (i : Nat) (o : Oper), l[i]? = some o → o.dst = some ((dsOf l)[i]?.getD 0) ∧ (dsOf l)[i]? = some (o.dst.getD 0) := by
    intro i o ho
    have e : (dsOf l)[i]? = some (o.dst.getD 0) := by simp [dsOf, ho]
    refine ⟨?_, e⟩
    have := List.all_eq_true.1 h1 o (List.mem_of_getElem? ho)
    rw [e]
    cases hd : o.dst with
    | none => rw [hd] at this; cases this
    | some d => rfl
  refine wp_region_last_drew (S := fun _ => True) (ds := []) hm trivial (fun _ => ?_)
  refine inv_ (T := rtab .any l.toArray) (B := B) (List.range l.length) (fun b a' w' => ∃ s, a' = putAll (dsOf l) 0 s a ∧ Below w.heap.size w w' ∧ ∀ i, i < l.length → b i = true → V i (s i) w') rfl h4 h5 ?_ ?_ ?_ ?_
  · rw [hTl, Bool.and_eq_true, beq_iff_eq, beq_iff_eq]
    refine ⟨?_, by simp⟩
    apply List.ext_getElem
    · simp [lof]
    · intro i hi1 hi2
      have hi : i < l.length := by simpa [lof] using hi1
      simp [lof, hi]
  · refine ⟨fun k => (a.tmps[(dsOf l)[k]?.getD 0]?).getD undef, ?_, (Below.refl _ _).drew, fun _ _ h => by cases h⟩
    refine (putAll_self _ _ _ _ (fun j d hj => ?_)).symm
    have hd := List.all_eq_true.1 h3 d (List.mem_of_getElem? hj)
    have hd' : d < a.tmps.size := of_decide_eq_true hd
    simp [hj, hd']
  · intro i hi b a' w' ⟨s, ha, hb, hv⟩ hbi hon hoff
    subst ha
    have hil : i < l.length := List.mem_range.1 hi
    have ho : l[i]? = some l[i] := List.getElem?_eq_getElem hil
    refine ⟨l[i], by simp, fun K hK => ?_⟩
    have hK' := Shut.out hK
    have hg : l[i].guard = none := by
      have := List.all_eq_true.1 h0 l[i] (List.mem_of_getElem? ho)
      cases hq : l[i].guard with
      | none => rfl
      | some g => rw [hq] at this; cases this
    rw [if_pos (by simp [Region.wanted, hg])]
    refine opGives_wp (phiSteps_at l 0 hs i _ ho s w' hb (fun j hj => hv j (by have h6 := (Bool.and_eq_true _ _ ▸ hj : _ ∧ _).1; simpa using h6) (hon j (by simpa using hj))) _ (fun v w2 hb2 hv2 => hK' _ _ ?_))
    refine ⟨upd s i v, ?_, hb.trans (hb2.mono hb.size), fun j hj hbj => ?_⟩
    · rw [(hds i _ ho).1, (hds i _ ho).2, Option.getD_some]
      exact putAll_put _ _ _ _ _ _ _ hnd (Nat.zero_le _) (by rw [Nat.sub_zero]; exact (hds i _ ho).2)
    · by_cases hji : j = i
      · subst hji
        have : upd s j v j = v := by simp [upd]
        rw [this]
        rw [Nat.zero_add] at hv2
        exact hv2
      · have : upd s i v j = s j := by simp [upd, hji]
        rw [this]
        rw [up_ne hji] at hbj
        exact hV _ _ _ _ hb2 (hv j hj hbj)
  · intro b a' w' hall ⟨s, ha, hb, hv⟩
    subst ha
    exact hend s w' hb (fun i hi => hv i hi (hall i (by simpa using hi)))
/-- what an operand reads -/
theorem eval_const (a : Act) (v : Value) : a.eval (.const v) = v := rfl
end Go.Proofs.Ytcbkchnfjeegmaa.H

namespace Go.Proofs.Ytcbkchnfjeegmaa.H
open Go.RowKit Go.Proofs.YtcbkchnfjeegmaaW.PrintWords Go.Proofs.YtcbkchnfjeegmaaW.PrintLast Go.Proofs.YtcbkchnfjeegmaaW.PrintMore
set_option linter.unusedVariables false
set_option linter.unusedSimpArgs false

theorem grown_trans {a b c : World} {r : Option Nat} (h : a.grownBy b r) (h' : b.grownBy c r) : a.grownBy c r :=
  ⟨h'.os.trans h.os, h'.tape.trans h.tape, h'.output.trans h.output, Nat.le_trans h.size h'.size, fun k hk hne => (h'.block k (Nat.lt_of_lt_of_le hk h.size) hne).trans (h.block k hk hne)⟩
theorem set_grown (w : World) (b i : Nat) (v : Value) : w.grownBy (w.setCell ⟨b, i, none⟩ v) (some b) :=
  ⟨rfl, rfl, rfl, by simp, fun k _ hne => Below.heap_setCell w ⟨b, i, none⟩ v k (fun e => hne (by rw [e]))⟩
/-- what is left of a size -/
def szAns (left : Int) (n : Nat) : Int := if left - n < 0 then -1 else left - n

theorem szInt64S (A : Option Addr) (n c : Nat) (left : Int) (w : World) (h0 : 0 ≤ left) (h1 : left ≤ 1048576) (hn : n ≤ 9223372036854775807) :
    Calls Try.prog 49 #[.slice A n c, .int .i64 left] w fun e w' => e = .returned (.int .i64 (szAns left n)) ∧ Below w.heap.size w w' := by
  by_cases h : left - n < 0
  · have HA : Aside0 (szAns left n = -1) := ⟨by unfold szAns; rw [if_pos h]⟩
    go_enter Try.func49, Try.ntmps49
    go_wp2
    go_ret
    exact ⟨by rw [HA.out]; rfl, Below.refl _ _⟩
  · have HA : Aside0 (szAns left n = left - n) := ⟨by unfold szAns; rw [if_neg h]⟩
    go_enter Try.func49, Try.ntmps49
    go_wp2
    go_ret
    exact ⟨by rw [HA.out]; rfl, Below.refl _ _⟩

theorem szComplex (a : Int) (u : Value) (l : List Int) (left : Int) (w : World) (hr : ReadI w u l) (h0 : 0 ≤ left) (h1 : left ≤ 1048576) :
    Calls Try.prog 13 #[.agg #[.int .i64 a, u], .int .i64 left] w fun e w' => e = .returned (.int .i64 (szAns left l.length)) ∧ Below w.heap.size w w' := by
  have hl := hr.len
  obtain ⟨A, c, rfl, -⟩ := id hr
  have hba : Below w.heap.size w (w.alloc (.cells #[.int .i64 a, .slice A l.length c] 24)) := Below.alloc (Below.refl _ _) (Nat.le_refl _) _
  clear hr
  by_cases h : left - l.length < 0
  · have HA : Aside0 (szAns left l.length = -1) := ⟨by unfold szAns; rw [if_pos h]⟩
    clear h
    go_enter Try.func13, Try.ntmps13
    go_wp2_with (first | (go_at_call 49; refine (szInt64S _ _ _ _ _ h0 h1 hl).mono ?_; rintro e w' ⟨rfl, hb⟩; rw [HA.out]))
    go_ret
    exact ⟨by rw [HA.out]; rfl, by (repeat (first | (with_reducible exact Below.refl _ _) | (with_reducible assumption) | (with_reducible refine below_step ?_ (by assumption)) | (with_reducible apply below_alloc) | (with_reducible apply below_drewN)))⟩
  · have HA : Aside0 (szAns left l.length = left - l.length) := ⟨by unfold szAns; rw [if_neg h]⟩
    go_enter Try.func13, Try.ntmps13
    go_wp2_with (first | (go_at_call 49; refine (szInt64S _ _ _ _ _ h0 h1 hl).mono ?_; rintro e w' ⟨rfl, hb⟩; rw [HA.out]))
    go_ret
    exact ⟨by rw [HA.out]; rfl, by (repeat (first | (with_reducible exact Below.refl _ _) | (with_reducible assumption) | (with_reducible refine below_step ?_ (by assumption)) | (with_reducible apply below_alloc) | (with_reducible apply below_drewN)))⟩

set_option maxHeartbeats 1000000 in
theorem toComplex (a : Int) (u : Value) (l : List Int) (w : World) (hr : ReadI w u l) (hl : l.length ≤ 35184372088832) :
    Calls Try.prog 15 #[.agg #[.int .i64 a, u]] w fun e w' => ∃ u', e = .returned (.agg #[.int .i64 a, u']) ∧ OwnI w.heap.size w' u' l ∧ Below w.heap.size w w' := by
  have HR := Aside0.mk hr
  obtain ⟨A, c, rfl, -⟩ := id hr
  clear hr
  obtain ⟨w0, hw0⟩ : ∃ w0, w0 = ((w.alloc (Obj.cells #[Value.int IntKind.i64 a, Value.slice A l.length c] 24)).alloc (Obj.cells #[Value.int IntKind.i64 0, Value.slice none 0 0] 28)).alloc (Obj.cells #[Value.int IntKind.i64 a, Value.slice none 0 0] 28) := ⟨_, rfl⟩
  have hs0 : w0.heap.size = w.heap.size + 1 + 1 + 1 := by rw [hw0]; simp
  have hb2 : w0.heap[w.heap.size + 1]? = some (Obj.cells #[Value.int IntKind.i64 0, Value.slice none 0 0] 28) := by
    rw [hw0, (World.grownBy_alloc _ _ none).block _ (by simp) (by simp)]
    have := heap_alloc_new (w.alloc (Obj.cells #[Value.int IntKind.i64 a, Value.slice A l.length c] 24)) (Obj.cells #[Value.int IntKind.i64 0, Value.slice none 0 0] 28)
    rwa [World.size_alloc] at this
  have hb3 : w0.heap[w.heap.size + 1 + 1]? = some (Obj.cells #[Value.int IntKind.i64 a, Value.slice none 0 0] 28) := by
    rw [hw0]
    have := heap_alloc_new ((w.alloc (Obj.cells #[Value.int IntKind.i64 a, Value.slice A l.length c] 24)).alloc (Obj.cells #[Value.int IntKind.i64 0, Value.slice none 0 0] 28)) (Obj.cells #[Value.int IntKind.i64 a, Value.slice none 0 0] 28)
    rwa [World.size_alloc, World.size_alloc] at this
  have hB0 : Below w.heap.size w w0 := by rw [hw0]; exact (((Below.refl _ w).alloc (Nat.le_refl _) _).alloc (by simp) _).alloc (by simp; omega) _
  have HB0 := Aside0.mk hB0
  clear hB0
  go_enter Try.func15, Try.ntmps15
  go_wp2_with (first | (rw [← hw0]; clear hw0; go_at_call 16; refine (toInt64S _ l _ (ReadI.below HR.out HB0.out) hl).mono ?_; rintro e w1 ⟨u', rfl, ho, hb⟩; obtain ⟨A', c', rfl, -⟩ := ho.read; have hk2 := (hb.block (w.heap.size + 1) (by omega)).trans hb2; have hk3 := (hb.block (w.heap.size + 1 + 1) (by omega)).trans hb3; have hn := ho.base; have h30 : w1.cell? ⟨w.heap.size + 1 + 1, 0, none⟩ = some (.int .i64 a) := (by simp [World.cell?, hk3]); have h31 : w1.cell? ⟨w.heap.size + 1 + 1, 1, none⟩ = some (.slice none 0 0) := (by simp [World.cell?, hk3]); have h3f : w1.frozen? ⟨w.heap.size + 1 + 1, 1, none⟩ = false := (by simp [World.frozen?, hk3]); have h20 : w1.cell? ⟨w.heap.size + 1, 0, none⟩ = some (.int .i64 0) := (by simp [World.cell?, hk2]); have h21 : w1.cell? ⟨w.heap.size + 1, 1, none⟩ = some (.slice none 0 0) := (by simp [World.cell?, hk2]); have h2f : w1.frozen? ⟨w.heap.size + 1, 0, none⟩ = false := (by simp [World.frozen?, hk2]); have h2g : w1.frozen? ⟨w.heap.size + 1, 1, none⟩ = false := (by simp [World.frozen?, hk2]); have HO := Aside0.mk ho; have HB1 := Aside0.mk hb; have HN := Aside0.mk hn; have HK2 := Aside0.mk hk2; clear ho hb hk2 hk3 hn))
  refine bodyPost_ret (results_cell_row rfl _ _ (w.heap.size + 1) 28 #[.int .i64 a, .slice A' l.length c'] (0, 0) _ rfl (by refine blk_put (cs := #[.int .i64 a, .slice none 0 0]) ?_ 1 _ rfl; refine blk_put (cs := #[.int .i64 0, .slice none 0 0]) ?_ 0 _ rfl; refine blk_far ?_ ?_ _; exact HK2.out; simp) Try.underlying28 rfl (by kernel_rfl)) rfl ?_
  have hb := HB0.out.trans (HB1.out.mono (by rw [hs0]; omega))
  refine ⟨_, rfl, ?_, ((hb.setCell (by simp; omega) _).setCell (by simp) _).setCell (by simp) _⟩
  have hn := HN.out
  rw [hs0] at hn
  have ho := HO.out.lower (b' := w.heap.size) (by rw [hs0]; omega)
  exact ((ho.grown (set_grown _ _ _ _) (fun k hk => by have := hn k hk; simp; omega)).grown (set_grown _ _ _ _) (fun k hk => by have := hn k hk; simp; omega)).grown (set_grown _ _ _ _) (fun k hk => by have := hn k hk; simp; omega)

set_option maxHeartbeats 1000000 in
theorem eqComplex (a b : Int) (u v : Value) (xs ys : List Int) (w : World) (hu : ReadI w u xs) (hv : ReadI w v ys) :
    Calls Try.prog 19 #[.agg #[.int .i64 a, u], .agg #[.int .i64 b, v]] w fun e w' => e = .returned (.bool (decide (a = b) && (xs == ys))) ∧ Below w.heap.size w w' := by
  have HU := Aside0.mk hu
  have HV := Aside0.mk hv
  obtain ⟨A, c, rfl, -⟩ := id hu
  obtain ⟨A', c', rfl, -⟩ := id hv
  clear hu hv
  by_cases hab : a = b
  · have h1 : (a != b) = false := by simp [hab]
    have HA := Aside0.mk hab
    clear hab
    cases hq : (xs == ys) with
    | true =>
      go_enter Try.func19, Try.ntmps19
      go_wp2_with (first | (go_at_call 18; refine (eqInt64S _ _ xs ys _ (ReadI.below HU.out ?hx) (ReadI.below HV.out ?hy)).mono ?_; (case hx => (repeat (first | (with_reducible exact Below.refl _ _) | (with_reducible assumption) | (with_reducible refine below_step ?_ (by assumption)) | (with_reducible apply below_alloc) | (with_reducible apply below_drewN)))); (case hy => (repeat (first | (with_reducible exact Below.refl _ _) | (with_reducible assumption) | (with_reducible refine below_step ?_ (by assumption)) | (with_reducible apply below_alloc) | (with_reducible apply below_drewN)))); rintro e w1 ⟨rfl, hb⟩; rw [hq]))
      go_ret
      exact ⟨by rw [HA.out, decide_eq_true rfl]; rfl, by (repeat (first | (with_reducible exact Below.refl _ _) | (with_reducible assumption) | (with_reducible refine below_step ?_ (by assumption)) | (with_reducible apply below_alloc) | (with_reducible apply below_drewN)))⟩
    | false =>
      go_enter Try.func19, Try.ntmps19
      go_wp2_with (first | (go_at_call 18; refine (eqInt64S _ _ xs ys _ (ReadI.below HU.out ?hx) (ReadI.below HV.out ?hy)).mono ?_; (case hx => (repeat (first | (with_reducible exact Below.refl _ _) | (with_reducible assumption) | (with_reducible refine below_step ?_ (by assumption)) | (with_reducible apply below_alloc) | (with_reducible apply below_drewN)))); (case hy => (repeat (first | (with_reducible exact Below.refl _ _) | (with_reducible assumption) | (with_reducible refine below_step ?_ (by assumption)) | (with_reducible apply below_alloc) | (with_reducible apply below_drewN)))); rintro e w1 ⟨rfl, hb⟩; rw [hq]))
      go_ret
      exact ⟨by rw [Bool.and_false]; rfl, by (repeat (first | (with_reducible exact Below.refl _ _) | (with_reducible assumption) | (with_reducible refine below_step ?_ (by assumption)) | (with_reducible apply below_alloc) | (with_reducible apply below_drewN)))⟩
  · have h1 : (a != b) = true := by simpa using hab
    have HA := Aside0.mk hab
    clear hab
    go_enter Try.func19, Try.ntmps19
    go_wp2
    go_ret
    exact ⟨by rw [decide_eq_false HA.out]; rfl, by (repeat (first | (with_reducible exact Below.refl _ _) | (with_reducible assumption) | (with_reducible refine below_step ?_ (by assumption)) | (with_reducible apply below_alloc) | (with_reducible apply below_drewN)))⟩

/-- marked from k on -/
def marks (k : Int) (n : Nat) : List Int := (List.range n).map fun i : Nat => k + i
theorem marks_succ (k : Int) (n : Nat) : marks k (n + 1) = marks k n ++ [k + n] := by simp [marks, List.range_succ]
theorem marks_len (k : Int) (n : Nat) : (marks k n).length = n := by simp [marks]
theorem marks_set {k : Int} {xs : List Int} {i : Nat} (h : i < xs.length) : (marks k i ++ xs.drop i).set i (k + i) = marks k (i + 1) ++ xs.drop (i + 1) := by
  rw [List.set_append_right _ _ (by rw [marks_len]; exact Nat.le_refl _), marks_len, Nat.sub_self, List.drop_eq_getElem_cons h, List.set_cons_zero, marks_succ]
  simp
theorem marks_at (k : Int) {n i : Nat} (h : i < n) : (marks k n).getD i 0 = k + i := by
  simp [marks, List.getD_eq_getElem?_getD, h]

set_option maxHeartbeats 1000000 in
theorem markInt64S (b : Nat) (v : Value) (xs : List Int) (k : Nat) (w : World) (ho : OwnI b w v xs) (hk : k ≤ 1073741824) (hl : xs.length ≤ 1073741824) :
    Calls Try.prog 21 #[v, .int .i64 k] w fun e w' => e = .returned (.int .i64 ((k : Int) + xs.length)) ∧ OwnI b w' v (marks k xs.length) ∧ w.grownBy w' v.ownBlock ∧ Below b w w' := by
  have HO := Aside0.mk ho
  obtain ⟨A, c, rfl, -⟩ := ho.read
  clear ho
  go_enter Try.func21, Try.ntmps21
  go_wp2
  go_loopw [1, 5] (fun vk vi wr => ∃ i : Nat, vi = .int .i64 i ∧ vk = .int .i64 ((k : Int) + i) ∧ i ≤ xs.length ∧ Aside0 (OwnI b wr (.slice A xs.length c) (marks k i ++ xs.drop i)) ∧ Aside0 (w.grownBy wr (Value.slice A xs.length c).ownBlock) ∧ Aside0 (Below b w wr)) (fun _ vi _ => xs.length - (intOf vi).toNat)
  case atStart => exact ⟨0, rfl, by simp, Nat.zero_le _, by simpa [marks] using HO, ⟨⟨rfl, rfl, rfl, Nat.le_refl _, fun _ _ _ => rfl⟩⟩, ⟨Below.refl _ _⟩⟩
  case round =>
    obtain ⟨i, rfl, rfl, hi, HI, HG, HB⟩ := hrel
    by_cases hlt : i < xs.length
    · obtain ⟨g, cap, e2, -⟩ := Kd.R_form HI.out (by simp [marks_len]; omega)
      have el : (marks k i ++ xs.drop i).length = xs.length := by rw [List.length_append, marks_len, List.length_drop]; omega
      rw [el] at e2
      cases e2
      obtain ⟨⟨y0, hcell2⟩, hf2⟩ := OwnI.slot HI.out (i := i) (by omega)
      have HM := Aside0.mk (marks_set (k := (k : Int)) hlt)
      clear el
      go_wp2_with (first | ((with_reducible refine gate_store (t := 2) (p := 15) rfl ?_); refine store_own (w0 := w) rfl (p := 15) rfl rfl i ((k : Int) + i) HI.out ?ha ?hb ?hc ?_; (case ha => omega); (case hb => rfl); (case hc => rfl); intro w' ho hg hb; have HO2 := Aside0.mk ho; have HB3 := Aside0.mk (HB.out.trans hb); have HG3 := Aside0.mk (grown_trans HG.out hg); clear ho hg hb))
      go_roundw
      case rel => exact ⟨i + 1, by go_num, by go_num, by omega, ⟨by rw [← HM.out]; exact HO2.out⟩, HG3, HB3⟩
      case measure => simp [intOf]; omega
    · have e : i = xs.length := by omega
      have HE := Aside0.mk e
      clear e
      go_wp2
      go_ret
      exact ⟨by rw [HE.out]; rfl, by have := HI.out; rw [HE.out, List.drop_length, List.append_nil] at this; exact this, HG.out, HB.out⟩

set_option maxHeartbeats 1000000 in
theorem heldInt64S (v : Value) (k n : Nat) (w : World) (hr : ReadI w v (marks k n)) (hk : k ≤ 1073741824) (hl : n ≤ 1073741824) :
    Calls Try.prog 22 #[v, .int .i64 k] w fun e w' => e = .returned (.int .i64 ((k : Int) + n)) ∧ Below w.heap.size w w' := by
  obtain ⟨A, c, rfl, hc, hr⟩ := hr
  have HR := Aside0.mk hr
  rw [marks_len]
  have hlen := marks_len (k : Int) n
  rw [marks_len] at hc
  clear hr
  go_enter Try.func22, Try.ntmps22
  go_wp2
  go_loopw [1, 5] (fun vk vi wr => ∃ i : Nat, vi = .int .i64 i ∧ vk = .int .i64 ((k : Int) + i) ∧ i ≤ n ∧ Aside0 (Below w.heap.size w wr)) (fun _ vi _ => n - (intOf vi).toNat)
  case atStart => exact ⟨0, rfl, by simp, Nat.zero_le _, ⟨Below.refl _ _⟩⟩
  case round =>
    obtain ⟨i, rfl, rfl, hi, HB⟩ := hrel
    by_cases hlt : i < n
    · obtain ⟨ad, y, e1, hcell, HY⟩ := ReadI.get (Kd.C_below HR.out HB.out) (i := i) (by omega)
      cases e1
      have hy := HY.out
      rw [marks_at _ hlt] at hy
      rw [← hy] at hcell
      clear hy
      go_wp2
      go_roundw
      case rel => exact ⟨i + 1, by go_num, by go_num, by omega, HB⟩
      case measure => simp [intOf]; omega
    · have e : i = n := by omega
      have HE := Aside0.mk e
      clear e
      go_wp2
      go_ret
      exact ⟨by rw [HE.out]; rfl, HB.out⟩
end Go.Proofs.Ytcbkchnfjeegmaa.H

namespace Go.Proofs.Ytcbkchnfjeegmaa.H
open Go.RowKit Go.Proofs.YtcbkchnfjeegmaaW.PrintWords Go.Proofs.YtcbkchnfjeegmaaW.PrintLast Go.Proofs.YtcbkchnfjeegmaaW.PrintMore
set_option linter.unusedVariables false
set_option linter.unusedSimpArgs false

/-- the cells of pairs -/
def flat : List (Int × Int) → List Int
  | [] => []
  | p :: r => p.1 :: p.2 :: flat r
theorem flat_len : ∀ ps : List (Int × Int), (flat ps).length = ps.length * 2
  | [] => rfl
  | p :: r => by simp only [flat, List.length_cons, flat_len r]; omega
theorem flat_snoc : ∀ (ps : List (Int × Int)) (p : Int × Int), flat (ps ++ [p]) = flat ps ++ [p.1, p.2]
  | [], p => rfl
  | q :: r, p => by simp only [List.cons_append, flat, flat_snoc r p]
theorem flat_get : ∀ (ps : List (Int × Int)) (i : Nat) (p : Int × Int), ps[i]? = some p → (flat ps)[i * 2]? = some p.1 ∧ (flat ps)[i * 2 + 1]? = some p.2
  | [], i, p, h => by simp at h
  | q :: r, 0, p, h => by simp at h; subst h; simp [flat]
  | q :: r, i + 1, p, h => by
    have := flat_get r i p (by simpa using h)
    rw [show (i + 1) * 2 = i * 2 + 1 + 1 by omega]
    simp only [flat, List.getElem?_cons_succ]
    exact this
/-- v is a slice that reads these pairs -/
def ReadP (w : World) (v : Value) (ps : List (Int × Int)) : Prop := ∃ A c, v = .slice A ps.length c ∧ ps.length ≤ 9223372036854775807 ∧ (0 < ps.length → ∃ g, A = some ⟨g, 0, none⟩ ∧ ∀ j x, (flat ps)[j]? = some x → w.cell? ⟨g, j, none⟩ = some (.int .i64 x))
/-- v is a slice of pairs of the call's own -/
def OwnP (b : Nat) (w : World) (v : Value) (ps : List (Int × Int)) : Prop := w.ownsRow b 83 2 v ps.length ((flat ps).map (Value.int .i64))
theorem ReadP.below {w w' : World} {v : Value} {ps : List (Int × Int)} (h : ReadP w v ps) (hb : Below w.heap.size w w') : ReadP w' v ps := by
  obtain ⟨A, c, rfl, hl, hr⟩ := h
  refine ⟨A, c, rfl, hl, fun h0 => ?_⟩
  obtain ⟨ad, e, hc⟩ := hr h0
  exact ⟨ad, e, fun j x hj => pw_cell_below hb (hc j x hj)⟩
theorem ReadP.nil (w : World) : ReadP w (.slice none 0 0) [] := ⟨none, 0, rfl, by decide, fun h => absurd h (by decide)⟩
theorem ReadP.get {w : World} {A : Option Addr} {c : Nat} {ps : List (Int × Int)} (h : ReadP w (.slice A ps.length c) ps) {i : Nat} (hi : i < ps.length) :
    ∃ g x y, A = some ⟨g, 0, none⟩ ∧ ps[i]? = some (x, y) ∧ w.cell? ⟨g, i * 2, none⟩ = some (.int .i64 x) ∧ w.cell? ⟨g, i * 2 + 1, none⟩ = some (.int .i64 y) := by
  obtain ⟨A', c', e, _, hr⟩ := h
  cases e
  obtain ⟨ad, rfl, hc⟩ := hr (by omega)
  have h1 := List.getElem?_eq_getElem hi
  obtain ⟨h2, h3⟩ := flat_get ps i _ h1
  exact ⟨ad, ps[i].1, ps[i].2, rfl, h1, hc _ _ h2, hc _ _ h3⟩
theorem OwnP.read {b : Nat} {w : World} {v : Value} {ps : List (Int × Int)} (h : OwnP b w v ps) : ReadP w v ps := by
  rcases h.2 with ⟨rfl, h0⟩ | ⟨g, cap, cur, rfl, hb, hg, hnc, hcm, hcs, ht⟩
  · obtain rfl : ps = [] := List.eq_nil_of_length_eq_zero h0
    exact ReadP.nil w
  · refine ⟨_, _, rfl, by simp only [maxLen] at hcm; omega, fun _ => ⟨_, rfl, fun j x hj => ?_⟩⟩
    have hc := World.ownsRow.cells h (g := g) rfl j (.int .i64 x) (by rw [List.getElem?_map, hj]; rfl)
    rwa [add_plain] at hc
theorem OwnP.below {b : Nat} {w w' : World} {v : Value} {ps : List (Int × Int)} (h : OwnP b w v ps) (hb : Below w.heap.size w w') : OwnP b w' v ps := own_move h (fun k hk => hb.block k (own_lt h k hk))
theorem OwnP.lower {b b' : Nat} {w : World} {v : Value} {ps : List (Int × Int)} (h : OwnP b w v ps) (hb : b' ≤ b) : OwnP b' w v ps := own_weaken h hb
theorem OwnP.nil (b : Nat) (w : World) : OwnP b w (.slice none 0 0) [] := own_nil _ _ _ _
theorem OwnP.empty {b : Nat} (w : World) (hb : b ≤ w.heap.size) : OwnP b (w.alloc (.cells #[] 83)) (.slice (some ⟨w.heap.size, 0, none⟩) 0 0) [] := ⟨rfl, .inr ⟨w.heap.size, 0, #[], rfl, hb, heap_alloc_new w _, Nat.le_refl _, by decide, rfl, rfl⟩⟩
theorem OwnP.base {b : Nat} {w : World} {v : Value} {ps : List (Int × Int)} (h : OwnP b w v ps) : ∀ k, v.ownBlock = some k → b ≤ k := fun k hk => own_base h k hk
theorem OwnP.lt {b : Nat} {w : World} {v : Value} {ps : List (Int × Int)} (h : OwnP b w v ps) : ∀ k, v.ownBlock = some k → k < w.heap.size := fun k hk => own_lt h k hk
theorem OwnP.grown {b : Nat} {w w' : World} {v : Value} {ps : List (Int × Int)} (h : OwnP b w v ps) {row : Option Nat} (hg : w.grownBy w' row) (hn : ∀ k, v.ownBlock = some k → some k ≠ row) : OwnP b w' v ps := own_move h (fun k hk => hg.block k (own_lt h k hk) (hn k hk))

set_option maxHeartbeats 1000000 in
theorem eqPair (x y x' y' : Int) (w : World) : Calls Try.prog 72 #[.agg #[.int .i64 x, .int .i64 y], .agg #[.int .i64 x', .int .i64 y']] w fun e w' => e = .returned (.bool ((x == x') && (y == y'))) ∧ Below w.heap.size w w' := by
  obtain ⟨w1, hw1⟩ : ∃ w1, w1 = (w.alloc (.cells #[.int .i64 x, .int .i64 y] 83)).alloc (.cells #[.int .i64 x', .int .i64 y'] 83) := ⟨_, rfl⟩
  have hB : Below w.heap.size w w1 := by rw [hw1]; exact ((Below.refl _ w).alloc (Nat.le_refl _) _).alloc (by simp) _
  have c0 : w1.cell? ⟨w.heap.size, 0, none⟩ = some (.int .i64 x) := by rw [hw1]; simp
  have c1 : w1.cell? ⟨w.heap.size, 1, none⟩ = some (.int .i64 y) := by rw [hw1]; simp
  have c2 : w1.cell? ⟨w.heap.size + 1, 0, none⟩ = some (.int .i64 x') := by rw [hw1]; simp
  have c3 : w1.cell? ⟨w.heap.size + 1, 1, none⟩ = some (.int .i64 y') := by rw [hw1]; simp
  have HB := Aside0.mk hB
  clear hB
  go_enter Try.func72, Try.ntmps72
  go_wp2
  rw [← hw1]
  clear hw1
  go_loopw [5] (fun s wr => ∃ i : Nat, s = .int .i64 i ∧ i ≤ 2 ∧ Aside0 (0 < i → (x == x') = true) ∧ Aside0 (1 < i → (y == y') = true) ∧ Aside0 (Below w1.heap.size w1 wr)) (fun s _ => 2 - (intOf s).toNat)
  case atStart => exact ⟨0, rfl, by decide, ⟨fun h => absurd h (by decide)⟩, ⟨fun h => absurd h (by decide)⟩, ⟨Below.refl _ _⟩⟩
  case round =>
    obtain ⟨i, rfl, hi, H0, H1, HBw⟩ := hrel
    have c0 := pw_cell_below HBw.out c0
    have c1 := pw_cell_below HBw.out c1
    have c2 := pw_cell_below HBw.out c2
    have c3 := pw_cell_below HBw.out c3
    have x0 : ∀ z : Ext wr, z.1.cell? ⟨w.heap.size, 0, none⟩ = some (.int .i64 x) := fun z => Ext.cell c0 z
    have x1 : ∀ z : Ext wr, z.1.cell? ⟨w.heap.size, 1, none⟩ = some (.int .i64 y) := fun z => Ext.cell c1 z
    have x2 : ∀ z : Ext wr, z.1.cell? ⟨w.heap.size + 1, 0, none⟩ = some (.int .i64 x') := fun z => Ext.cell c2 z
    have x3 : ∀ z : Ext wr, z.1.cell? ⟨w.heap.size + 1, 1, none⟩ = some (.int .i64 y') := fun z => Ext.cell c3 z
    rcases (by omega : i = 0 ∨ i = 1 ∨ i = 2) with rfl | rfl | rfl
    · cases hq : (x == x') with
      | true =>
        have hq' : (x != x') = false := by rw [bne, hq]; rfl
        go_wp2
        refine wp_region_ext (by kernel_rfl) (by kernel_rfl) ?_
        repeat (go_big_quiet_step (fail))
        refine wpQuiet_nil ?_
        rintro _ ⟨z, rfl⟩
        have hbz := z.2
        go_wp2
        go_roundw
        case rel => exact ⟨1, by go_num, by decide, ⟨fun _ => by first | exact hq | trivial⟩, ⟨fun h => absurd h (by decide)⟩, ⟨HBw.out.trans (hbz.mono HBw.out.size)⟩⟩
        case measure => simp [intOf]
      | false =>
        have hq' : (x != x') = true := by rw [bne, hq]; rfl
        go_wp2
        refine wp_region_ext (by kernel_rfl) (by kernel_rfl) ?_
        repeat (go_big_quiet_step (fail))
        refine wpQuiet_nil ?_
        rintro _ ⟨z, rfl⟩
        have hbz := z.2
        go_wp2
        go_ret
        exact ⟨by rw [hq]; rfl, HB.out.trans ((HBw.out.trans (hbz.mono HBw.out.size)).mono HB.out.size)⟩
    · have h0 := H0.out (by decide)
      cases hq : (y == y') with
      | true =>
        have hq' : (y != y') = false := by rw [bne, hq]; rfl
        go_wp2
        refine wp_region_ext (by kernel_rfl) (by kernel_rfl) ?_
        repeat (go_big_quiet_step (fail))
        refine wpQuiet_nil ?_
        rintro _ ⟨z, rfl⟩
        have hbz := z.2
        go_wp2
        go_roundw
        case rel => exact ⟨2, by go_num, by decide, ⟨fun _ => h0⟩, ⟨fun _ => by first | exact hq | trivial⟩, ⟨HBw.out.trans (hbz.mono HBw.out.size)⟩⟩
        case measure => simp [intOf]
      | false =>
        have hq' : (y != y') = true := by rw [bne, hq]; rfl
        go_wp2
        refine wp_region_ext (by kernel_rfl) (by kernel_rfl) ?_
        repeat (go_big_quiet_step (fail))
        refine wpQuiet_nil ?_
        rintro _ ⟨z, rfl⟩
        have hbz := z.2
        go_wp2
        go_ret
        exact ⟨by rw [hq, Bool.and_false]; rfl, HB.out.trans ((HBw.out.trans (hbz.mono HBw.out.size)).mono HB.out.size)⟩
    · have h0 := H0.out (by decide)
      have h1 := H1.out (by decide)
      go_wp2
      go_ret
      exact ⟨by rw [h0, h1]; rfl, HB.out.trans (HBw.out.mono HB.out.size)⟩
end Go.Proofs.Ytcbkchnfjeegmaa.H

namespace Go.Proofs.Ytcbkchnfjeegmaa.H
open Go.RowKit Go.Proofs.YtcbkchnfjeegmaaW.PrintWords Go.Proofs.YtcbkchnfjeegmaaW.PrintLast Go.Proofs.YtcbkchnfjeegmaaW.PrintMore
set_option linter.unusedVariables false
set_option linter.unusedSimpArgs false

def shares (p q : Int × Int) : Bool := (p.1 == q.1) || ((p.1 == q.2) || ((p.2 == q.1) || (p.2 == q.2)))
/-- pair i is a pair of the complex, behind the one ahead, and shares no face with those ahead -/
def pOkAt (xs : List Int) (ps : List (Int × Int)) (i : Nat) : Bool :=
  pairAt xs (ps.getD i (0, 0)).1 (ps.getD i (0, 0)).2 && ((decide (i = 0) || lessP (ps.getD (i - 1) (0, 0)).1 (ps.getD (i - 1) (0, 0)).2 (ps.getD i (0, 0)).1 (ps.getD i (0, 0)).2) && (List.range i).all fun j => !shares (ps.getD i (0, 0)) (ps.getD j (0, 0)))
def pOk (xs : List Int) (ps : List (Int × Int)) : Bool := (List.range ps.length).all (pOkAt xs ps)
theorem pOk_false {xs : List Int} {ps : List (Int × Int)} {i : Nat} (hi : i < ps.length) (h : pOkAt xs ps i = false) : pOk xs ps = false := List.all_eq_false.2 ⟨i, List.mem_range.2 hi, by rw [h]; decide⟩
theorem pOk_true {xs : List Int} {ps : List (Int × Int)} (h : ∀ i, i < ps.length → pOkAt xs ps i = true) : pOk xs ps = true := List.all_eq_true.2 (fun i hi => h i (List.mem_range.1 hi))
theorem pOkAt_share {xs : List Int} {ps : List (Int × Int)} {i j : Nat} (hj : j < i) (h : shares (ps.getD i (0, 0)) (ps.getD j (0, 0)) = true) : pOkAt xs ps i = false := by
  unfold pOkAt
  have : ((List.range i).all fun j => !shares (ps.getD i (0, 0)) (ps.getD j (0, 0))) = false := List.all_eq_false.2 ⟨j, List.mem_range.2 hj, by rw [h]; decide⟩
  rw [this, Bool.and_false, Bool.and_false]
theorem pOkAt_pair {xs : List Int} {ps : List (Int × Int)} {i : Nat} {x y : Int} (e : ps[i]? = some (x, y)) (h : pairAt xs x y = false) : pOkAt xs ps i = false := by
  unfold pOkAt
  rw [show ps.getD i (0, 0) = (x, y) by rw [List.getD_eq_getElem?_getD, e]; rfl, h, Bool.false_and]
theorem pOkAt_less {xs : List Int} {ps : List (Int × Int)} {i : Nat} {x y x' y' : Int} (hi : i ≠ 0) (e : ps[i]? = some (x, y)) (e' : ps[i - 1]? = some (x', y')) (h : lessP x' y' x y = false) : pOkAt xs ps i = false := by
  unfold pOkAt
  rw [show ps.getD i (0, 0) = (x, y) by rw [List.getD_eq_getElem?_getD, e]; rfl, show ps.getD (i - 1) (0, 0) = (x', y') by rw [List.getD_eq_getElem?_getD, e']; rfl, h, decide_eq_false hi, Bool.or_false, Bool.false_and, Bool.and_false]
theorem pOkAt_all {xs : List Int} {ps : List (Int × Int)} {i : Nat} (h1 : pairAt xs (ps.getD i (0, 0)).1 (ps.getD i (0, 0)).2 = true) (h2 : (decide (i = 0) || lessP (ps.getD (i - 1) (0, 0)).1 (ps.getD (i - 1) (0, 0)).2 (ps.getD i (0, 0)).1 (ps.getD i (0, 0)).2) = true) (h3 : ∀ j, j < i → shares (ps.getD i (0, 0)) (ps.getD j (0, 0)) = false) : pOkAt xs ps i = true := by
  unfold pOkAt
  rw [h1, h2, Bool.true_and, Bool.true_and]
  exact List.all_eq_true.2 (fun j hj => by rw [h3 j (List.mem_range.1 hj)]; rfl)

set_option maxRecDepth 100000 in
set_option maxHeartbeats 8000000 in
theorem specIs2 (n : Nat) (ku : Value) (xs : List Int) (v : Value) (ps : List (Int × Int)) (w : World) (hk : ReadI w ku xs) (hv : ReadP w v ps) (hc : Cx n xs) :
    Calls Try.prog 135 #[cx n ku, v] w fun e w' => e = .returned (.bool (pOk xs ps)) ∧ Below w.heap.size w w' := by
  obtain ⟨w1, hw1⟩ : ∃ w1, w1 = w.alloc (.cells #[.int .i64 n, ku] 28) := ⟨_, rfl⟩
  have hB : Below w.heap.size w w1 := by rw [hw1]; exact Below.alloc (Below.refl _ _) (Nat.le_refl _) _
  have c0 : w1.cell? ⟨w.heap.size, 0, none⟩ = some (.int .i64 n) := by rw [hw1]; simp
  have c1 : w1.cell? ⟨w.heap.size, 1, none⟩ = some ku := by rw [hw1]; simp
  have HB := Aside0.mk hB
  have HK := Aside0.mk (hk.below hB)
  have HV := Aside0.mk (hv.below hB)
  have HC := Aside0.mk hc
  obtain ⟨A1, d1, rfl, -⟩ := id hk
  obtain ⟨A2, d2, rfl, hl9, -⟩ := id hv
  clear hk hv hB hc
  go_enter Try.func135, Try.ntmps135
  go_wp2
  rw [← hw1]
  clear hw1
  go_loopw [5] (fun s5 wr => ∃ i : Nat, s5 = .int .i64 i ∧ i ≤ ps.length ∧ Aside0 (∀ t, t < i → pOkAt xs ps t = true) ∧ Aside0 (Below w1.heap.size w1 wr)) (fun s5 _ => ps.length - (intOf s5).toNat)
  case atStart => exact ⟨0, rfl, Nat.zero_le _, ⟨fun t h => absurd h (Nat.not_lt_zero _)⟩, ⟨Below.refl _ _⟩⟩
  case round =>
    obtain ⟨i, rfl, hi, HI, HBr⟩ := hrel
    have c0 := pw_cell_below HBr.out c0
    have c1 := pw_cell_below HBr.out c1
    by_cases hlt : i < ps.length
    · obtain ⟨g, x, y, rfl, hxy, hc0, hc1⟩ := ReadP.get (HV.out.below HBr.out) hlt
      have HXY := Aside0.mk hxy
      have b0 : ∀ z : Ext wr, z.1.cell? ⟨w.heap.size, 0, none⟩ = some (.int .i64 n) := fun z => Ext.cell c0 z
      have b1 : ∀ z : Ext wr, z.1.cell? ⟨w.heap.size, 1, none⟩ = some (.slice A1 xs.length d1) := fun z => Ext.cell c1 z
      have b2 : ∀ z : Ext wr, z.1.cell? ⟨g, i * 2, none⟩ = some (.int .i64 x) := fun z => Ext.cell hc0 z
      have b3 : ∀ z : Ext wr, z.1.cell? ⟨g, i * 2 + 1, none⟩ = some (.int .i64 y) := fun z => Ext.cell hc1 z
      have hiI : (i : Int) < (ps.length : Int) := by omega
      obtain ⟨P0, hP0⟩ : ∃ P0, P0 = pairAt xs x y := ⟨_, rfl⟩
      have HPA : Aside0 (∀ z : Ext wr, Calls Try.prog 178 #[cx n (.slice A1 xs.length d1), .agg #[.int .i64 x, .int .i64 y]] z.1 fun e w' => e = .returned (.bool P0) ∧ Below z.1.heap.size z.1 w') := ⟨fun z => by rw [hP0]; exact specPair n _ xs x y z.1 ((HK.out.below HBr.out).below z.2) HC.out⟩
      cases P0 with
      | false =>
        have HA : Aside0 (pOk xs ps = false) := ⟨pOk_false hlt (pOkAt_pair hxy hP0.symm)⟩
        clear hP0 hxy hlt hc0 hc1
        go_wp2
        refine wp_region_ext (by kernel_rfl) (by kernel_rfl) ?_
        repeat (go_big_quiet_step (first | (go_at_call 178; with_reducible exact Calls.ext_of (HPA.out _))))
        refine wpQuiet_nil ?_
        rintro _ ⟨z, rfl⟩
        have hbz := z.2
        go_wp2
        go_ret
        exact ⟨by rw [HA.out]; rfl, HB.out.trans ((HBr.out.trans (hbz.mono HBr.out.size)).mono HB.out.size)⟩
      | true =>
        have HPT : Aside0 (pairAt xs (ps.getD i (0, 0)).1 (ps.getD i (0, 0)).2 = true) := ⟨by rw [List.getD_eq_getElem?_getD, hxy]; exact hP0.symm⟩
        clear hP0
        by_cases h0 : i = 0
        · have HLT : Aside0 ((decide (i = 0) || lessP (ps.getD (i - 1) (0, 0)).1 (ps.getD (i - 1) (0, 0)).2 (ps.getD i (0, 0)).1 (ps.getD i (0, 0)).2) = true) := ⟨by rw [decide_eq_true h0, Bool.true_or]⟩
          have h0' : decide (0 < i) = false := decide_eq_false (by omega)
          clear h0 hxy hc0 hc1
          go_wp2
          refine wp_region_ext (by kernel_rfl) (by kernel_rfl) ?_
          repeat (go_big_quiet_step (first | (go_at_call 178; with_reducible exact Calls.ext_of (HPA.out _))))
          refine wpQuiet_nil ?_
          rintro _ ⟨z, rfl⟩
          have hbz := z.2
          have HBz := Aside0.mk (HBr.out.trans (hbz.mono HBr.out.size))
          clear hbz
          go_wp2
          go_loopw [6] (fun s6 wj => ∃ j : Nat, s6 = .int .i64 j ∧ j ≤ i ∧ Aside0 (∀ t, t < j → shares (ps.getD i (0, 0)) (ps.getD t (0, 0)) = false) ∧ Aside0 (Below w1.heap.size w1 wj)) (fun s6 _ => i - (intOf s6).toNat)
          case atStart => exact ⟨0, rfl, Nat.zero_le _, ⟨fun t h => absurd h (Nat.not_lt_zero _)⟩, HBz⟩
          case round =>
            obtain ⟨j, rfl, hj, HS, HBj⟩ := hrel
            by_cases hji : j < i
            · obtain ⟨g1, x1, y1, e1, hxy1, hc0, hc1⟩ := ReadP.get (HV.out.below HBj.out) hlt
              rw [HXY.out] at hxy1
              cases hxy1
              cases e1
              obtain ⟨g2, x2, y2, e2, hxy2, hd0, hd1⟩ := ReadP.get (HV.out.below HBj.out) (i := j) (by omega)
              cases e2
              have a0 : ∀ z : Ext wr, z.1.cell? ⟨g, i * 2, none⟩ = some (.int .i64 x) := fun z => Ext.cell hc0 z
              have a1 : ∀ z : Ext wr, z.1.cell? ⟨g, i * 2 + 1, none⟩ = some (.int .i64 y) := fun z => Ext.cell hc1 z
              have a2 : ∀ z : Ext wr, z.1.cell? ⟨g, j * 2, none⟩ = some (.int .i64 x2) := fun z => Ext.cell hd0 z
              have a3 : ∀ z : Ext wr, z.1.cell? ⟨g, j * 2 + 1, none⟩ = some (.int .i64 y2) := fun z => Ext.cell hd1 z
              have hiI : (i : Int) < (ps.length : Int) := by omega
              have hjI : (j : Int) < (ps.length : Int) := by omega
              have HSH : Aside0 (shares (ps.getD i (0, 0)) (ps.getD j (0, 0)) = ((x == x2) || ((x == y2) || ((y == x2) || (y == y2))))) := ⟨by rw [List.getD_eq_getElem?_getD, List.getD_eq_getElem?_getD, HXY.out, hxy2]; rfl⟩
              clear hc0 hc1 hd0 hd1 hxy2
              cases q0 : (x == x2) with
              | true =>
                have HA : Aside0 (pOk xs ps = false) := ⟨pOk_false hlt (pOkAt_share hji (by rw [HSH.out, q0]; rfl))⟩
                clear hlt
                go_wp2
                refine wp_region_ext (by kernel_rfl) (by kernel_rfl) ?_
                repeat (go_big_quiet_step (fail))
                refine wpQuiet_nil ?_
                rintro _ ⟨z, rfl⟩
                have hbz := z.2
                go_wp2
                go_ret
                exact ⟨by rw [HA.out]; rfl, HB.out.trans ((HBj.out.trans (hbz.mono HBj.out.size)).mono HB.out.size)⟩
              | false =>
                cases q1 : (x == y2) with
                | true =>
                  have HA : Aside0 (pOk xs ps = false) := ⟨pOk_false hlt (pOkAt_share hji (by rw [HSH.out, q0, q1]; rfl))⟩
                  clear hlt
                  go_wp2
                  refine wp_region_ext (by kernel_rfl) (by kernel_rfl) ?_
                  repeat (go_big_quiet_step (fail))
                  refine wpQuiet_nil ?_
                  rintro _ ⟨z, rfl⟩
                  have hbz := z.2
                  go_wp2
                  go_ret
                  exact ⟨by rw [HA.out]; rfl, HB.out.trans ((HBj.out.trans (hbz.mono HBj.out.size)).mono HB.out.size)⟩
                | false =>
                  cases q2 : (y == x2) with
                  | true =>
                    have HA : Aside0 (pOk xs ps = false) := ⟨pOk_false hlt (pOkAt_share hji (by rw [HSH.out, q0, q1, q2]; rfl))⟩
                    clear hlt
                    go_wp2
                    refine wp_region_ext (by kernel_rfl) (by kernel_rfl) ?_
                    repeat (go_big_quiet_step (fail))
                    refine wpQuiet_nil ?_
                    rintro _ ⟨z, rfl⟩
                    have hbz := z.2
                    go_wp2
                    go_ret
                    exact ⟨by rw [HA.out]; rfl, HB.out.trans ((HBj.out.trans (hbz.mono HBj.out.size)).mono HB.out.size)⟩
                  | false =>
                    cases q3 : (y == y2) with
                    | true =>
                      have HA : Aside0 (pOk xs ps = false) := ⟨pOk_false hlt (pOkAt_share hji (by rw [HSH.out, q0, q1, q2, q3]; rfl))⟩
                      clear hlt
                      go_wp2
                      refine wp_region_ext (by kernel_rfl) (by kernel_rfl) ?_
                      repeat (go_big_quiet_step (fail))
                      refine wpQuiet_nil ?_
                      rintro _ ⟨z, rfl⟩
                      have hbz := z.2
                      go_wp2
                      go_ret
                      exact ⟨by rw [HA.out]; rfl, HB.out.trans ((HBj.out.trans (hbz.mono HBj.out.size)).mono HB.out.size)⟩
                    | false =>
                      have HS2 : Aside0 (∀ t, t < j + 1 → shares (ps.getD i (0, 0)) (ps.getD t (0, 0)) = false) := ⟨fun t ht => by
                        rcases Nat.lt_succ_iff_lt_or_eq.1 ht with h | h
                        · exact HS.out t h
                        · rw [h, HSH.out, q0, q1, q2, q3]; rfl⟩
                      go_wp2
                      refine wp_region_ext (by kernel_rfl) (by kernel_rfl) ?_
                      repeat (go_big_quiet_step (fail))
                      refine wpQuiet_nil ?_
                      rintro _ ⟨z, rfl⟩
                      have hbz := z.2
                      have HBn := Aside0.mk (HBj.out.trans (hbz.mono HBj.out.size))
                      clear hbz
                      go_wp2
                      go_roundw
                      case rel => exact ⟨j + 1, by go_num, by omega, HS2, HBn⟩
                      case measure => simp [intOf]; omega
            · have e : j = i := by omega
              have HI2 : Aside0 (∀ t, t < i + 1 → pOkAt xs ps t = true) := ⟨fun t ht => by
                rcases Nat.lt_succ_iff_lt_or_eq.1 ht with h | h
                · exact HI.out t h
                · rw [h]; exact pOkAt_all HPT.out HLT.out (fun u hu => HS.out u (by omega))⟩
              clear e
              go_wp2
              go_roundw
              case rel => exact ⟨i + 1, by go_num, by omega, HI2, HBj⟩
              case measure => simp [intOf]; omega
        · have h0' : decide (0 < i) = true := decide_eq_true (by omega)
          have h1i : (0 : Int) ≤ (i : Int) - 1 := by omega
          have h2i : (i : Int) - 1 < ps.length := by omega
          have h3i : ((i : Int) - 1).toNat = i - 1 := by omega
          obtain ⟨g2, x', y', e2, hxy', hd0, hd1⟩ := ReadP.get (HV.out.below HBr.out) (i := i - 1) (by omega)
          cases e2
          have b4 : ∀ z : Ext wr, z.1.cell? ⟨g, (i - 1) * 2, none⟩ = some (.int .i64 x') := fun z => Ext.cell hd0 z
          have b5 : ∀ z : Ext wr, z.1.cell? ⟨g, (i - 1) * 2 + 1, none⟩ = some (.int .i64 y') := fun z => Ext.cell hd1 z
          obtain ⟨L0, hL0⟩ : ∃ L0, L0 = lessP x' y' x y := ⟨_, rfl⟩
          have HLE : Aside0 (∀ z : Ext wr, Calls Try.prog 179 #[.agg #[.int .i64 x', .int .i64 y'], .agg #[.int .i64 x, .int .i64 y]] z.1 fun e w' => e = .returned (.bool L0) ∧ Below z.1.heap.size z.1 w') := ⟨fun z => by rw [hL0]; exact specLess x' y' x y z.1⟩
          cases L0 with
          | false =>
            have HA : Aside0 (pOk xs ps = false) := ⟨pOk_false hlt (pOkAt_less h0 hxy hxy' hL0.symm)⟩
            clear hL0 h0 hxy hxy' hlt hc0 hc1 hd0 hd1
            go_wp2
            refine wp_region_ext (by kernel_rfl) (by kernel_rfl) ?_
            repeat (go_big_quiet_step (first | (go_at_call 178; with_reducible exact Calls.ext_of (HPA.out _)) | (go_at_call 179; with_reducible exact Calls.ext_of (HLE.out _))))
            refine wpQuiet_nil ?_
            rintro _ ⟨z, rfl⟩
            have hbz := z.2
            go_wp2
            go_ret
            exact ⟨by rw [HA.out]; rfl, HB.out.trans ((HBr.out.trans (hbz.mono HBr.out.size)).mono HB.out.size)⟩
          | true =>
            have HLT : Aside0 ((decide (i = 0) || lessP (ps.getD (i - 1) (0, 0)).1 (ps.getD (i - 1) (0, 0)).2 (ps.getD i (0, 0)).1 (ps.getD i (0, 0)).2) = true) := ⟨by rw [List.getD_eq_getElem?_getD, hxy', List.getD_eq_getElem?_getD, hxy]; show (_ || lessP x' y' x y) = true; rw [← hL0, Bool.or_true]⟩
            clear hL0 h0 hxy hxy' hc0 hc1 hd0 hd1
            go_wp2
            refine wp_region_ext (by kernel_rfl) (by kernel_rfl) ?_
            repeat (go_big_quiet_step (first | (go_at_call 178; with_reducible exact Calls.ext_of (HPA.out _)) | (go_at_call 179; with_reducible exact Calls.ext_of (HLE.out _))))
            refine wpQuiet_nil ?_
            rintro _ ⟨z, rfl⟩
            have hbz := z.2
            have HBz := Aside0.mk (HBr.out.trans (hbz.mono HBr.out.size))
            clear hbz
            go_wp2
            go_loopw [6] (fun s6 wj => ∃ j : Nat, s6 = .int .i64 j ∧ j ≤ i ∧ Aside0 (∀ t, t < j → shares (ps.getD i (0, 0)) (ps.getD t (0, 0)) = false) ∧ Aside0 (Below w1.heap.size w1 wj)) (fun s6 _ => i - (intOf s6).toNat)
            case atStart => exact ⟨0, rfl, Nat.zero_le _, ⟨fun t h => absurd h (Nat.not_lt_zero _)⟩, HBz⟩
            case round =>
              obtain ⟨j, rfl, hj, HS, HBj⟩ := hrel
              by_cases hji : j < i
              · obtain ⟨g1, x1, y1, e1, hxy1, hc0, hc1⟩ := ReadP.get (HV.out.below HBj.out) hlt
                rw [HXY.out] at hxy1
                cases hxy1
                cases e1
                obtain ⟨g2, x2, y2, e2, hxy2, hd0, hd1⟩ := ReadP.get (HV.out.below HBj.out) (i := j) (by omega)
                cases e2
                have a0 : ∀ z : Ext wr, z.1.cell? ⟨g, i * 2, none⟩ = some (.int .i64 x) := fun z => Ext.cell hc0 z
                have a1 : ∀ z : Ext wr, z.1.cell? ⟨g, i * 2 + 1, none⟩ = some (.int .i64 y) := fun z => Ext.cell hc1 z
                have a2 : ∀ z : Ext wr, z.1.cell? ⟨g, j * 2, none⟩ = some (.int .i64 x2) := fun z => Ext.cell hd0 z
                have a3 : ∀ z : Ext wr, z.1.cell? ⟨g, j * 2 + 1, none⟩ = some (.int .i64 y2) := fun z => Ext.cell hd1 z
                have hiI : (i : Int) < (ps.length : Int) := by omega
                have hjI : (j : Int) < (ps.length : Int) := by omega
                have HSH : Aside0 (shares (ps.getD i (0, 0)) (ps.getD j (0, 0)) = ((x == x2) || ((x == y2) || ((y == x2) || (y == y2))))) := ⟨by rw [List.getD_eq_getElem?_getD, List.getD_eq_getElem?_getD, HXY.out, hxy2]; rfl⟩
                clear hc0 hc1 hd0 hd1 hxy2
                cases q0 : (x == x2) with
                | true =>
                  have HA : Aside0 (pOk xs ps = false) := ⟨pOk_false hlt (pOkAt_share hji (by rw [HSH.out, q0]; rfl))⟩
                  clear hlt
                  go_wp2
                  refine wp_region_ext (by kernel_rfl) (by kernel_rfl) ?_
                  repeat (go_big_quiet_step (fail))
                  refine wpQuiet_nil ?_
                  rintro _ ⟨z, rfl⟩
                  have hbz := z.2
                  go_wp2
                  go_ret
                  exact ⟨by rw [HA.out]; rfl, HB.out.trans ((HBj.out.trans (hbz.mono HBj.out.size)).mono HB.out.size)⟩
                | false =>
                  cases q1 : (x == y2) with
                  | true =>
                    have HA : Aside0 (pOk xs ps = false) := ⟨pOk_false hlt (pOkAt_share hji (by rw [HSH.out, q0, q1]; rfl))⟩
                    clear hlt
                    go_wp2
                    refine wp_region_ext (by kernel_rfl) (by kernel_rfl) ?_
                    repeat (go_big_quiet_step (fail))
                    refine wpQuiet_nil ?_
                    rintro _ ⟨z, rfl⟩
                    have hbz := z.2
                    go_wp2
                    go_ret
                    exact ⟨by rw [HA.out]; rfl, HB.out.trans ((HBj.out.trans (hbz.mono HBj.out.size)).mono HB.out.size)⟩
                  | false =>
                    cases q2 : (y == x2) with
                    | true =>
                      have HA : Aside0 (pOk xs ps = false) := ⟨pOk_false hlt (pOkAt_share hji (by rw [HSH.out, q0, q1, q2]; rfl))⟩
                      clear hlt
                      go_wp2
                      refine wp_region_ext (by kernel_rfl) (by kernel_rfl) ?_
                      repeat (go_big_quiet_step (fail))
                      refine wpQuiet_nil ?_
                      rintro _ ⟨z, rfl⟩
                      have hbz := z.2
                      go_wp2
                      go_ret
                      exact ⟨by rw [HA.out]; rfl, HB.out.trans ((HBj.out.trans (hbz.mono HBj.out.size)).mono HB.out.size)⟩
                    | false =>
                      cases q3 : (y == y2) with
                      | true =>
                        have HA : Aside0 (pOk xs ps = false) := ⟨pOk_false hlt (pOkAt_share hji (by rw [HSH.out, q0, q1, q2, q3]; rfl))⟩
                        clear hlt
                        go_wp2
                        refine wp_region_ext (by kernel_rfl) (by kernel_rfl) ?_
                        repeat (go_big_quiet_step (fail))
                        refine wpQuiet_nil ?_
                        rintro _ ⟨z, rfl⟩
                        have hbz := z.2
                        go_wp2
                        go_ret
                        exact ⟨by rw [HA.out]; rfl, HB.out.trans ((HBj.out.trans (hbz.mono HBj.out.size)).mono HB.out.size)⟩
                      | false =>
                        have HS2 : Aside0 (∀ t, t < j + 1 → shares (ps.getD i (0, 0)) (ps.getD t (0, 0)) = false) := ⟨fun t ht => by
                          rcases Nat.lt_succ_iff_lt_or_eq.1 ht with h | h
                          · exact HS.out t h
                          · rw [h, HSH.out, q0, q1, q2, q3]; rfl⟩
                        go_wp2
                        refine wp_region_ext (by kernel_rfl) (by kernel_rfl) ?_
                        repeat (go_big_quiet_step (fail))
                        refine wpQuiet_nil ?_
                        rintro _ ⟨z, rfl⟩
                        have hbz := z.2
                        have HBn := Aside0.mk (HBj.out.trans (hbz.mono HBj.out.size))
                        clear hbz
                        go_wp2
                        go_roundw
                        case rel => exact ⟨j + 1, by go_num, by omega, HS2, HBn⟩
                        case measure => simp [intOf]; omega
              · have e : j = i := by omega
                have HI2 : Aside0 (∀ t, t < i + 1 → pOkAt xs ps t = true) := ⟨fun t ht => by
                  rcases Nat.lt_succ_iff_lt_or_eq.1 ht with h | h
                  · exact HI.out t h
                  · rw [h]; exact pOkAt_all HPT.out HLT.out (fun u hu => HS.out u (by omega))⟩
                clear e
                go_wp2
                go_roundw
                case rel => exact ⟨i + 1, by go_num, by omega, HI2, HBj⟩
                case measure => simp [intOf]; omega
    · have HA : Aside0 (pOk xs ps = true) := ⟨pOk_true (fun t ht => HI.out t (by omega))⟩
      go_wp2
      go_ret
      exact ⟨by rw [HA.out]; rfl, HB.out.trans (HBr.out.mono HB.out.size)⟩
end Go.Proofs.Ytcbkchnfjeegmaa.H

namespace Go.Proofs.Ytcbkchnfjeegmaa.H
open Go.RowKit Go.Proofs.YtcbkchnfjeegmaaW.PrintWords Go.Proofs.YtcbkchnfjeegmaaW.PrintLast Go.Proofs.YtcbkchnfjeegmaaW.PrintMore
set_option linter.unusedVariables false
set_option linter.unusedSimpArgs false

theorem i64Keyed : Go.Maps.Keyed Try.prog 2 := Go.Maps.int_keyed Try.underlying2
theorem zeroB (w : World) : (zeroValue 4).run Try.prog w = .ok (.bool false) w := by kernel_rfl
theorem wfI {x : Int} (h1 : -9223372036854775808 ≤ x) (h2 : x ≤ 9223372036854775807) : (Lit.int .i64 x).wf = true := WalkArith.wf_i64 (by omega)
/-- block b is a map of at most k entries that holds the numbers of S -/
def SetI (S : Int → Bool) (b k : Nat) (w : World) : Prop :=
  ∃ D : DataW Unit, w.ownsMap Try.prog 2 (plainElem Try.prog 4) b k D ∧ ∀ x l, keyOf Try.prog 2 (.int .i64 x) = some l → D.atKey l (.lit (.bool false)) = .lit (.bool (S x))
theorem SetI.lt {S : Int → Bool} {b k : Nat} {w : World} (h : SetI S b k w) : b < w.heap.size := by
  obtain ⟨D, h, -⟩ := h
  exact h.lt
theorem SetI.grown {S : Int → Bool} {b k : Nat} {w w' : World} {row : Option Nat} (h : SetI S b k w) (hg : w.grownBy w' row) (hne : some b ≠ row) : SetI S b k w' := by
  obtain ⟨D, h, hv⟩ := h
  exact ⟨D, h.kept hg hne, hv⟩
theorem below_none {w w' : World} (h : Below w.heap.size w w') : w.grownBy w' none := ⟨h.os, h.tape, h.output, h.size, fun k hk _ => h.block k hk⟩
theorem SetI.below {S : Int → Bool} {b k : Nat} {w w' : World} (h : SetI S b k w) (hb : Below w.heap.size w w') : SetI S b k w' := h.grown (below_none hb) (by simp)
theorem SetI.made (w : World) : SetI (fun _ => false) w.heap.size 0 (w.alloc (.map #[] 0)) :=
  ⟨_, World.ownsMap_made _ _ _ _, fun x l h => rfl⟩
theorem SetI.congr {S S' : Int → Bool} {b k : Nat} {w : World} (h : SetI S b k w) (e : ∀ x, S x = S' x) : SetI S' b k w := by
  obtain ⟨D, h, hv⟩ := h
  exact ⟨D, h, fun x l hl => by rw [← e x]; exact hv x l hl⟩
set_option maxRecDepth 100000 in
theorem SetI.look {S : Int → Bool} {b k : Nat} {w : World} (h : SetI S b k w) {x : Int} (hw : (Lit.int .i64 x).wf = true) :
    (Instr.lookup 120 (.map (some b)) (.int .i64 x) false).run Try.prog w = .ok (.bool (S x)) w := by
  obtain ⟨D, h, hv⟩ := h
  have hk := Go.Maps.keyOf_int_mk Try.underlying2 hw
  obtain ⟨v, ps, hrun, hR⟩ := h.lookup i64Keyed Try.underlying120 (zeroB w) (plainElem_bool Try.underlying4 false) hk
  rw [hv x _ hk] at hR
  have : v = .bool (S x) := by
    have he := Try.underlying4
    cases v with
    | bool y => rw [plainElem_bool he y] at hR; injection hR with hR; injection hR with hR _; injection hR with hR; injection hR with hR; rw [hR]
    | _ => simp [plainElem, he] at hR
  rw [← this]; exact hrun
set_option maxRecDepth 100000 in
theorem SetI.put {S : Int → Bool} {b k : Nat} {w : World} (h : SetI S b k w) {x : Int} (hw : (Lit.int .i64 x).wf = true) (hk9 : k < 100000) :
    ∃ w', (Instr.mapUpdate 120 (.map (some b)) (.int .i64 x) (.bool true)).run Try.prog w = .ok () w' ∧ SetI (fun z => z == x || S z) b (k + 1) w' ∧ w.grownBy w' (some b) := by
  obtain ⟨D, h, hv⟩ := h
  have hk := Go.Maps.keyOf_int_mk Try.underlying2 hw
  obtain ⟨w', hrun, ho, hg⟩ := h.update i64Keyed Try.underlying120 (by unfold maxLen; omega) hk (plainElem_bool Try.underlying4 true)
  refine ⟨w', hrun, ⟨_, ho, fun z l hl => ?_⟩, hg⟩
  by_cases e : z = x
  · subst e
    rw [hk] at hl
    cases hl
    rw [Maps.atKey_put_same h.isMap (i64Keyed.key hk)]
    show _ = DataW.lit (Lit.bool (z == z || S z))
    rw [beq_self_eq_true, Bool.true_or]
  · rw [Maps.atKey_put_other (fun e2 => e (by
      have := i64Keyed.inj hl (e2 ▸ hk)
      injection this)), hv z l hl]
    show _ = DataW.lit (Lit.bool (z == x || S z))
    rw [show (z == x) = false from by rw [beq_eq_false_iff_ne]; exact e, Bool.false_or]
end Go.Proofs.Ytcbkchnfjeegmaa.H
