/- Ways through a tree of questions: the plain law. A region of open order whose calls turn memory in a way that is told by a relation. Memory in which one block alone is turned. Memory in which one block alone is turned; tables and maps of known numbers. Questions needed, of the reference. Maps of known numbers, by states. What is known of a world is carried to the next one: the words of the printed laws. -/
import Derived.Maps.Own
import Derived.Maps.OwnOps
import Derived.Maps.OwnSet
import Derived.Maps.Views
import Derived.DeepKeys4
import Derived.Test.YtkggchklmpmgpaaKFnQuestions1
import Derived.Test.YtkggchklmpmgpaaKFnQuestions2
import Derived.Test.YtkggchklmpmgpaaKFnQuestions3

namespace Go.Proofs.Ytkggchklmpmgpaa.H
open Go.RowKit Go.Proofs.YtkggchklmpmgpaaW.PrintWords Go.Proofs.YtkggchklmpmgpaaW.PrintLast Go.Proofs.YtkggchklmpmgpaaW.PrintMore
set_option linter.unusedVariables false
set_option linter.unusedSimpArgs false

/-- the question at a place, as a number -/
def qN (t : List Int) (p : Nat) : Nat := (qAt t p).toNat
/-- the place behind i answers -/
def plc (t : List Int) (h : Nat) : Nat → Nat
  | 0 => 1
  | i + 1 => 2 * plc t h i + (h / 2 ^ qN t (plc t h i)) % 2
/-- asked, and the answer was yes -/
def yess (t : List Int) (h : Nat) : Nat → Nat
  | 0 => 0
  | i + 1 => if h.testBit (qN t (plc t h i)) then yess t h i ||| 2 ^ qN t (plc t h i) else yess t h i
/-- asked, and the answer was no -/
def noes (t : List Int) (h : Nat) : Nat → Nat
  | 0 => 0
  | i + 1 => if h.testBit (qN t (plc t h i)) then noes t h i else noes t h i ||| 2 ^ qN t (plc t h i)
/-- the first i questions -/
def wayL (t : List Int) (h i : Nat) : List Int := (List.range i).map fun j => qAt t (plc t h j)
theorem wayL_succ (t : List Int) (h i : Nat) : wayL t h (i + 1) = wayL t h i ++ [qAt t (plc t h i)] := by unfold wayL; rw [List.range_succ, List.map_append]; rfl
theorem wayL_len (t : List Int) (h i : Nat) : (wayL t h i).length = i := by unfold wayL; simp
theorem plc_half (t : List Int) (h i : Nat) : plc t h (i + 1) / 2 = plc t h i := by
  have : (h / 2 ^ qN t (plc t h i)) % 2 < 2 := Nat.mod_lt _ (by decide)
  show (2 * plc t h i + _) / 2 = _
  omega
theorem plc_bd (t : List Int) (h : Nat) : ∀ i, 2 ^ i ≤ plc t h i ∧ plc t h i < 2 ^ (i + 1)
  | 0 => ⟨Nat.le_refl 1, Nat.lt_succ_self 1⟩
  | i + 1 => by
    have := plc_bd t h i
    have h1 : (h / 2 ^ qN t (plc t h i)) % 2 < 2 := Nat.mod_lt _ (by decide)
    rw [Nat.pow_succ 2 (i + 1), Nat.pow_succ 2 i] at *
    show _ ≤ 2 * plc t h i + _ ∧ 2 * plc t h i + _ < _
    omega
theorem bit_mod (h v : Nat) : (h / 2 ^ v) % 2 = if h.testBit v then 1 else 0 := by
  rw [Nat.testBit_eq_decide_div_mod_eq]
  have : (h / 2 ^ v) % 2 < 2 := Nat.mod_lt _ (by decide)
  split
  · next h1 => exact of_decide_eq_true h1
  · next h1 => have := of_decide_eq_false (Bool.not_eq_true _ ▸ h1 : decide _ = false); omega
theorem plc_yes {t : List Int} {h i : Nat} (hb : h.testBit (qN t (plc t h i)) = true) : plc t h (i + 1) = 2 * plc t h i + 1 := by
  show 2 * plc t h i + _ = _; rw [bit_mod, hb]; rfl
theorem plc_no {t : List Int} {h i : Nat} (hb : h.testBit (qN t (plc t h i)) = false) : plc t h (i + 1) = 2 * plc t h i := by
  show 2 * plc t h i + _ = _; rw [bit_mod, hb]; rfl
theorem yess_yes {t : List Int} {h i : Nat} (hb : h.testBit (qN t (plc t h i)) = true) : yess t h (i + 1) = yess t h i ||| 2 ^ qN t (plc t h i) := by
  show (if _ then _ else _) = _; rw [if_pos hb]
theorem yess_no {t : List Int} {h i : Nat} (hb : h.testBit (qN t (plc t h i)) = false) : yess t h (i + 1) = yess t h i := by
  show (if _ then _ else _) = _; rw [if_neg (by rw [hb]; decide)]
theorem noes_yes {t : List Int} {h i : Nat} (hb : h.testBit (qN t (plc t h i)) = true) : noes t h (i + 1) = noes t h i := by
  show (if _ then _ else _) = _; rw [if_pos hb]
theorem noes_no {t : List Int} {h i : Nat} (hb : h.testBit (qN t (plc t h i)) = false) : noes t h (i + 1) = noes t h i ||| 2 ^ qN t (plc t h i) := by
  show (if _ then _ else _) = _; rw [if_neg (by rw [hb]; decide)]

/-! what a tree gives -/
theorem tree_len {n : Nat} {t : List Int} (h : treeOk n t = true) : t.length = 2 ^ n - 1 := by
  unfold treeOk at h; rw [Bool.and_eq_true, decide_eq_true_eq] at h; exact h.1
theorem tree_in {n : Nat} {t : List Int} (h : treeOk n t = true) {p : Nat} (h1 : 1 ≤ p) (h2 : p < 2 ^ n) : 0 ≤ qAt t p ∧ qAt t p ≤ (n : Int) - 1 ∧ qAt t p = (qN t p : Int) ∧ qN t p < n := by
  have hl := tree_len h
  unfold treeOk at h
  rw [Bool.and_eq_true, Bool.and_eq_true] at h
  have h3 := List.all_eq_true.1 h.2.1
  have hi : p - 1 < t.length := by omega
  have := h3 _ (List.getElem_mem hi)
  have e : qAt t p = t[p - 1] := by unfold qAt; simp [List.getD_eq_getElem?_getD, hi]
  rw [← e] at this
  unfold inTree at this
  rw [Bool.and_eq_true, decide_eq_true_eq, decide_eq_true_eq] at this
  unfold qN
  omega
theorem tree_clash {n : Nat} {t : List Int} (h : treeOk n t = true) {p : Nat} (h1 : 1 ≤ p) (h2 : p < 2 ^ n) : clash t p (p / 2) = false := by
  have hl := tree_len h
  unfold treeOk at h
  rw [Bool.and_eq_true, Bool.and_eq_true] at h
  have h3 := List.all_eq_true.1 h.2.2 (p - 1) (List.mem_range.2 (by omega))
  rw [show p - 1 + 1 = p by omega] at h3
  simpa using h3
theorem clash_anc {t : List Int} {p : Nat} : ∀ (k a : Nat), clash t p a = false → 0 < a / 2 ^ k → qAt t (a / 2 ^ k) ≠ qAt t p
  | 0, a, h, h0 => by
    rw [Nat.pow_zero, Nat.div_one] at h0 ⊢
    rw [clash_step h0, Bool.or_eq_false_iff] at h
    intro e
    rw [e, beq_self_eq_true] at h
    cases h.1
  | k + 1, a, h, h0 => by
    have ha : 0 < a := by
      rcases Nat.eq_zero_or_pos a with rfl | h
      · rw [Nat.zero_div] at h0; omega
      · exact h
    rw [clash_step ha, Bool.or_eq_false_iff] at h
    have e : a / 2 ^ (k + 1) = a / 2 / 2 ^ k := by rw [Nat.pow_succ, Nat.mul_comm, Nat.div_div_eq_div_mul]
    rw [e] at h0 ⊢
    exact clash_anc k (a / 2) h.2 h0
theorem plc_anc (t : List Int) (h : Nat) : ∀ k i, plc t h (i + k) / 2 ^ k = plc t h i
  | 0, i => by rw [Nat.pow_zero, Nat.div_one]; rfl
  | k + 1, i => by
    rw [Nat.pow_succ, Nat.mul_comm, ← Nat.div_div_eq_div_mul, ← Nat.add_assoc, plc_half]
    exact plc_anc t h k i
theorem way_ne {n : Nat} {t : List Int} (ht : treeOk n t = true) {h i j : Nat} (hj : j < i) (hi : i < n) : qN t (plc t h j) ≠ qN t (plc t h i) := by
  have hb := plc_bd t h i
  have h2 : 2 ^ (i + 1) ≤ 2 ^ n := Nat.pow_le_pow_right (by omega) (by omega)
  have hbj := plc_bd t h j
  have h2j : 2 ^ (j + 1) ≤ 2 ^ n := Nat.pow_le_pow_right (by omega) (by omega)
  have h0 : 1 ≤ 2 ^ i := Nat.one_le_two_pow
  have h0j : 1 ≤ 2 ^ j := Nat.one_le_two_pow
  have hc := tree_clash ht (p := plc t h i) (by omega) (by omega)
  have e : plc t h i / 2 / 2 ^ (i - j - 1) = plc t h j := by
    rw [Nat.div_div_eq_div_mul, ← Nat.pow_succ', show (i - j - 1).succ = i - j by omega]
    have := plc_anc t h (i - j) j
    rwa [show j + (i - j) = i by omega] at this
  have := clash_anc (i - j - 1) _ hc (by rw [e]; omega)
  rw [e] at this
  intro hq
  have e1 := tree_in ht (p := plc t h i) (by omega) (by omega)
  have e2 := tree_in ht (p := plc t h j) (by omega) (by omega)
  omega
theorem way_bits (t : List Int) (h v : Nat) : ∀ i, (yess t h i ||| noes t h i).testBit v = true ↔ ∃ j, j < i ∧ qN t (plc t h j) = v
  | 0 => by
    show (0 ||| 0 : Nat).testBit v = true ↔ _
    simp
  | i + 1 => by
    have ih := way_bits t h v i
    have e : (yess t h (i + 1) ||| noes t h (i + 1)).testBit v = ((yess t h i ||| noes t h i).testBit v || decide (qN t (plc t h i) = v)) := by
      cases hb : h.testBit (qN t (plc t h i)) with
      | true => rw [yess_yes hb, noes_yes hb, or_p, Nat.testBit_or _ (2 ^ _), Nat.testBit_two_pow]
      | false => rw [yess_no hb, noes_no hb, or_q, Nat.testBit_or _ (2 ^ _), Nat.testBit_two_pow]
    rw [e, Bool.or_eq_true, ih, decide_eq_true_eq]
    constructor
    · rintro (⟨j, hj, hv⟩ | hv)
      · exact ⟨j, by omega, hv⟩
      · exact ⟨i, by omega, hv⟩
    · rintro ⟨j, hj, hv⟩
      by_cases hji : j = i
      · subst hji; exact .inr hv
      · exact .inl ⟨j, by omega, hv⟩
theorem way_pl {n : Nat} {t : List Int} (ht : treeOk n t = true) (h : Nat) : ∀ i, i ≤ n → Pl n (yess t h i) (noes t h i) ∧ (i < n → (yess t h i ||| noes t h i).testBit (qN t (plc t h i)) = false)
  | i, hi => by
    have hfree : i < n → (yess t h i ||| noes t h i).testBit (qN t (plc t h i)) = false := by
      intro hlt
      cases hb : (yess t h i ||| noes t h i).testBit (qN t (plc t h i)) with
      | false => rfl
      | true =>
        obtain ⟨j, hj, hv⟩ := (way_bits t h _ i).1 hb
        exact absurd hv (way_ne ht hj hlt)
    refine ⟨?_, hfree⟩
    cases i with
    | zero => exact ⟨Nat.two_pow_pos n, Nat.two_pow_pos n, Nat.and_self 0⟩
    | succ i =>
      have ih := way_pl ht h i (by omega)
      have hb := plc_bd t h i
      have h2 : 2 ^ (i + 1) ≤ 2 ^ n := Nat.pow_le_pow_right (by omega) (by omega)
      have h0 : 1 ≤ 2 ^ i := Nat.one_le_two_pow
      have hq := tree_in ht (p := plc t h i) (by omega) (by omega)
      cases hb : h.testBit (qN t (plc t h i)) with
      | true => rw [yess_yes hb, noes_yes hb]; exact ih.1.yes hq.2.2.2 (ih.2 (by omega))
      | false => rw [yess_no hb, noes_no hb]; exact ih.1.no hq.2.2.2 (ih.2 (by omega))
theorem way_left {n : Nat} (hn : n ≤ 6) {t : List Int} (ht : treeOk n t = true) (h : Nat) : ∀ i, i ≤ n → lefts n (yess t h i) (noes t h i) + i = n
  | 0, _ => by
    show lefts n 0 0 + 0 = n
    unfold lefts frees
    rw [List.filter_eq_self.2 (fun v _ => by simp)]
    simp
  | i + 1, hi => by
    have ih := way_left hn ht h i (by omega)
    have hp := way_pl ht h i (by omega)
    have hb := plc_bd t h i
    have h2 : 2 ^ (i + 1) ≤ 2 ^ n := Nat.pow_le_pow_right (by omega) (by omega)
    have h0 : 1 ≤ 2 ^ i := Nat.one_le_two_pow
    have hq := tree_in ht (p := plc t h i) (by omega) (by omega)
    cases hb : h.testBit (qN t (plc t h i)) with
    | true =>
      rw [yess_yes hb, noes_yes hb]
      have := lefts_p hn hp.1 hq.2.2.2 (hp.2 (by omega))
      omega
    | false =>
      rw [yess_no hb, noes_no hb]
      have := lefts_q hn hp.1 hq.2.2.2 (hp.2 (by omega))
      omega
/-- told behind i answers -/
def toldAt (n : Nat) (xs t : List Int) (h i : Nat) : Bool := decide (0 ≤ toldV n xs (yess t h i) (noes t h i))
theorem toldAt_end {n : Nat} (hn : n ≤ 6) {xs t : List Int} (ht : treeOk n t = true) (h : Nat) : toldAt n xs t h n = true := by
  unfold toldAt
  rw [decide_eq_true_eq]
  exact told_all (way_pl ht h n (Nat.le_refl _)).1 (by have := way_left hn ht h n (Nat.le_refl _); omega)
/-- the first of k places at which it is told -/
def firstTold (n : Nat) (xs t : List Int) (h k : Nat) : Nat := (List.range k).findIdx (toldAt n xs t h)
theorem firstTold_hit {n : Nat} {xs t : List Int} {h i k : Nat} (hi : i < k) (h0 : ∀ j, j < i → toldAt n xs t h j = false) (h1 : toldAt n xs t h i = true) : firstTold n xs t h k = i := by
  unfold firstTold
  rw [List.findIdx_eq (by simpa using hi)]
  refine ⟨by simpa using h1, fun j hj => ?_⟩
  have := h0 j hj
  simpa using this
theorem firstTold_none {n : Nat} {xs t : List Int} {h k : Nat} (h0 : ∀ j, j < k → toldAt n xs t h j = false) : firstTold n xs t h k = k := by
  unfold firstTold
  have := List.findIdx_eq_length (p := toldAt n xs t h) (xs := List.range k)
  rw [List.length_range] at this
  rw [this]
  intro x hx
  exact h0 x (List.mem_range.1 hx)
theorem firstTold_le (n : Nat) (xs t : List Int) (h k : Nat) : firstTold n xs t h k ≤ k := by
  unfold firstTold
  have := List.findIdx_le_length (p := toldAt n xs t h) (xs := List.range k)
  rwa [List.length_range] at this
/-- how many questions are needed -/
def neededV (n : Nat) (xs t : List Int) (h : Nat) : Nat := firstTold n xs t h n
end Go.Proofs.Ytkggchklmpmgpaa.H

namespace Go.Proofs.Ytkggchklmpmgpaa.H
open Go.RowKit Go.Proofs.YtkggchklmpmgpaaW.PrintWords Go.Proofs.YtkggchklmpmgpaaW.PrintLast Go.Proofs.YtkggchklmpmgpaaW.PrintMore
set_option linter.unusedVariables false
set_option linter.unusedSimpArgs false

/-- each step -/
def gSteps (G : World → World → Prop) (P : Program) (l : List Oper) (B : List Nat) (V : Nat → Value → World → Prop) (a : Act) (w : World) : Nat → List Oper → Prop
  | _, [] => True
  | i, o :: r => (∀ s w1, G w w1 → (∀ j, ((List.range l.length).contains j && (B.getD i 0).testBit j) = true → V j (s j) w1) → (∀ j, (decide (j < l.length) && (B.getD j 0).testBit i) = true → s j = (a.tmps[(dsOf l)[j]?.getD 0]?).getD undef) →
      ∀ R : Value → World → Prop, (∀ v w', G w1 w' → V i v w' → R v w') → opGives P o (putAll (dsOf l) 0 s a).eval w1 R) ∧ gSteps G P l B V a w (i + 1) r

theorem gSteps_at {G : World → World → Prop} {P : Program} {l : List Oper} {B : List Nat} {V : Nat → Value → World → Prop} {a : Act} {w : World} : ∀ (r : List Oper) (k : Nat), gSteps G P l B V a w k r → ∀ i o, r[i]? = some o →
    ∀ s w1, G w w1 → (∀ j, ((List.range l.length).contains j && (B.getD (k + i) 0).testBit j) = true → V j (s j) w1) → (∀ j, (decide (j < l.length) && (B.getD j 0).testBit (k + i)) = true → s j = (a.tmps[(dsOf l)[j]?.getD 0]?).getD undef) →
      ∀ R : Value → World → Prop, (∀ v w', G w1 w' → V (k + i) v w' → R v w') → opGives P o (putAll (dsOf l) 0 s a).eval w1 R
  | [], _, _, _, _, h => by cases h
  | x :: r, k, h, 0, o, ho => by cases ho; exact h.1
  | x :: r, k, h, i + 1, o, ho => by
    have := gSteps_at r (k + 1) h.2 i o ho
    rwa [show k + 1 + i = k + (i + 1) by omega] at this

theorem wp_region_g (G : World → World → Prop) (hGr : ∀ w, G w w.drew) (hGt : ∀ w1 w2 w3, G w1 w2 → G w2 w3 → G w1 w3) {P : Program} {id : Nat} {Q : Exit → Act → World → Prop} {a : Act} {w : World} {l : List Oper} (V : Nat → Value → World → Prop) (B : List Nat) (hm : P.follows .mixedOrders = true) (hok : phiOk l B a.tmps.size = true)
    (hV : ∀ i v w1 w2, G w1 w2 → V i v w1 → V i v w2)
    (hs : gSteps G P l B V a w 0 l)
    (hend : ∀ s w1, G w w1 → (∀ i, i < l.length → V i (s i) w1) → Q .normal (putAll (dsOf l) 0 s a) w1) : (Code.region id l.toArray true).wp P Q a w := by
  simp only [phiOk, Bool.and_eq_true] at hok
  obtain ⟨⟨⟨⟨⟨h1, h0⟩, h2⟩, h3⟩, h4⟩, h5⟩ := hok
  have hnd : (dsOf l).Nodup := of_decide_eq_true h2
  have hTl : (rtab .any l.toArray).2.length = l.length := by rw [rtab_length]; simp
  have hds : ∀ (i : Nat) (o : Oper), l[i]? = some o → o.dst = some ((dsOf l)[i]?.getD 0) ∧ (dsOf l)[i]? = some (o.dst.getD 0) := by
    intro i o ho
    have e : (dsOf l)[i]? = some (o.dst.getD 0) := by simp [dsOf, ho]
    refine ⟨?_, e⟩
    have := List.all_eq_true.1 h1 o (List.mem_of_getElem? ho)
    rw [e]
    cases hd : o.dst with
    | none => rw [hd] at this; cases this
    | some d => rfl
  refine wp_region_last_drew (S := fun _ => True) (ds := []) hm trivial (fun _ => ?_)
  refine inv_ (T := rtab .any l.toArray) (B := B) (List.range l.length) (fun b a' w' => ∃ s, a' = putAll (dsOf l) 0 s a ∧ G w w' ∧ (∀ i, i < l.length → b i = true → V i (s i) w') ∧ ∀ i, i < l.length → b i = false → s i = (a.tmps[(dsOf l)[i]?.getD 0]?).getD undef) rfl h4 h5 ?_ ?_ ?_ ?_
  · rw [hTl, Bool.and_eq_true, beq_iff_eq, beq_iff_eq]
    refine ⟨?_, by simp⟩
    apply List.ext_getElem
    · simp [lof]
    · intro i hi1 hi2
      have hi : i < l.length := by simpa [lof] using hi1
      simp [lof, hi]
  · refine ⟨fun k => (a.tmps[(dsOf l)[k]?.getD 0]?).getD undef, ?_, hGr _, (fun _ _ h => by cases h), fun _ _ _ => rfl⟩
    refine (putAll_self _ _ _ _ (fun j d hj => ?_)).symm
    have hd := List.all_eq_true.1 h3 d (List.mem_of_getElem? hj)
    have hd' : d < a.tmps.size := of_decide_eq_true hd
    simp [hj, hd']
  · intro i hi b a' w' ⟨s, ha, hb, hv, hq⟩ hbi hon hoff
    subst ha
    have hil : i < l.length := List.mem_range.1 hi
    have ho : l[i]? = some l[i] := List.getElem?_eq_getElem hil
    refine ⟨l[i], by simp, fun K hK => ?_⟩
    have hK' := Shut.out hK
    have hg : l[i].guard = none := by
      have := List.all_eq_true.1 h0 l[i] (List.mem_of_getElem? ho)
      cases hq : l[i].guard with
      | none => rfl
      | some g => rw [hq] at this; cases this
    rw [if_pos (by simp [Region.wanted, hg])]
    refine opGives_wp (gSteps_at l 0 hs i _ ho s w' hb (fun j hj => hv j (by have h6 := (Bool.and_eq_true _ _ ▸ hj : _ ∧ _).1; simpa using h6) (hon j (by simpa using hj))) (fun j hj => hq j (of_decide_eq_true (Bool.and_eq_true _ _ ▸ hj : _ ∧ _).1) (hoff j (by simpa using hj))) _ (fun v w2 hb2 hv2 => hK' _ _ ?_))
    refine ⟨upd s i v, ?_, hGt _ _ _ hb hb2, fun j hj hbj => ?_, fun j hj hbj => ?_⟩
    · rw [(hds i _ ho).1, (hds i _ ho).2, Option.getD_some]
      exact putAll_put _ _ _ _ _ _ _ hnd (Nat.zero_le _) (by rw [Nat.sub_zero]; exact (hds i _ ho).2)
    · by_cases hji : j = i
      · subst hji
        have : upd s j v j = v := by simp [upd]
        rw [this]
        rw [Nat.zero_add] at hv2
        exact hv2
      · have : upd s i v j = s j := by simp [upd, hji]
        rw [this]
        rw [up_ne hji] at hbj
        exact hV _ _ _ _ hb2 (hv j hj hbj)
    · have hji : j ≠ i := by
        rintro rfl
        rw [up_self] at hbj
        cases hbj
      have : upd s i v j = s j := by simp [upd, hji]
      rw [this]
      rw [up_ne hji] at hbj
      exact hq j hj hbj
  · intro b a' w' hall ⟨s, ha, hb, hv, hq⟩
    subst ha
    exact hend s w' hb (fun i hi => hv i hi (hall i (by simpa using hi)))
end Go.Proofs.Ytkggchklmpmgpaa.H

namespace Go.Proofs.Ytkggchklmpmgpaa.H
open Go.RowKit Go.Proofs.YtkggchklmpmgpaaW.PrintWords Go.Proofs.YtkggchklmpmgpaaW.PrintLast Go.Proofs.YtkggchklmpmgpaaW.PrintMore
set_option linter.unusedVariables false
set_option linter.unusedSimpArgs false

theorem grown_below {w w' : World} (h : Below w.heap.size w w') (row : Option Nat) : w.grownBy w' row := ⟨h.os, h.tape, h.output, h.size, fun k hk _ => h.block k hk⟩
theorem grown_drew (w : World) (row : Option Nat) : w.grownBy w.drew row := grown_below (Below.refl _ _).drew row
theorem grown_cell {w w' : World} {b : Nat} (hg : w.grownBy w' (some b)) {a : Addr} {v : Value} (h : w.cell? a = some v) (hne : a.block ≠ b) : w'.cell? a = some v := hg.cell h (fun e => hne (by injection e))
/-- what lay below a block that is turned -/
theorem below_grown {B b : Nat} {w w' : World} (hg : w.grownBy w' (some b)) (h1 : B ≤ b) (h2 : B ≤ w.heap.size) : Below B w w' :=
  ⟨hg.os, hg.tape, hg.output, hg.size, fun k hk => hg.block k (by omega) (fun e => by injection e; omega)⟩
/-- reads, whatever becomes of block b -/
def RdK (b : Nat) (w : World) (v : Value) (xs : List Int) : Prop := ∀ w', w.grownBy w' (some b) → ReadI w' v xs
theorem RdK.read {b : Nat} {w : World} {v : Value} {xs : List Int} (h : RdK b w v xs) : ReadI w v xs := h w (grown_below (Below.refl _ _) _)
theorem RdK.go {b : Nat} {w w' : World} {v : Value} {xs : List Int} (h : RdK b w v xs) (hg : w.grownBy w' (some b)) : RdK b w' v xs := fun w2 h2 => h w2 (grown_trans hg h2)
theorem RdK.below {b : Nat} {w w' : World} {v : Value} {xs : List Int} (h : RdK b w v xs) (hb : Below w.heap.size w w') : RdK b w' v xs := h.go (grown_below hb _)
theorem RdK.mk' {b : Nat} {w0 w : World} {v : Value} {xs : List Int} (h : ReadI w0 v xs) (hb : Below w0.heap.size w0 w) (h1 : w0.heap.size ≤ b) : RdK b w v xs :=
  fun w' hg => h.below (hb.trans (below_grown hg h1 hb.size))
theorem Aside0.rdk {b : Nat} {w w' : World} {v : Value} {xs : List Int} (h : Aside0 (RdK b w v xs)) (hg : w.grownBy w' (some b)) : Aside0 (RdK b w' v xs) := ⟨h.out.go hg⟩

/-- block b alone is turned, and what is known of it stays -/
def Gm (b : Nat) (I : World → Prop) (w w' : World) : Prop := w.grownBy w' (some b) ∧ (I w → I w')
theorem Gm.refl (b : Nat) (I : World → Prop) (w : World) : Gm b I w w := ⟨grown_below (Below.refl _ _) _, id⟩
theorem Gm.trans {b : Nat} {I : World → Prop} {w1 w2 w3 : World} (h : Gm b I w1 w2) (k : Gm b I w2 w3) : Gm b I w1 w3 := ⟨grown_trans h.1 k.1, fun x => k.2 (h.2 x)⟩

end Go.Proofs.Ytkggchklmpmgpaa.H

namespace Go.Proofs.Ytkggchklmpmgpaa.H
open Go.RowKit Go.Proofs.YtkggchklmpmgpaaW.PrintWords Go.Proofs.YtkggchklmpmgpaaW.PrintLast Go.Proofs.YtkggchklmpmgpaaW.PrintMore
set_option linter.unusedVariables false
set_option linter.unusedSimpArgs false

/-! a table of numbers: place p * 64 + q -/
def TabV (n : Nat) (val : Nat → Nat → Int) (L : List Int) : Prop := L.length = 4096 ∧ ∀ p q, Pl n p q → 0 ≤ L.getD (p * 64 + q) 0 → L.getD (p * 64 + q) 0 = val p q
def TabI (n : Nat) (val : Nat → Nat → Int) (b c : Nat) (w : World) : Prop := ∃ L, OwnI 0 w (.slice (some ⟨b, 0, none⟩) 4096 c) L ∧ TabV n val L
theorem TabI.below {n : Nat} {val : Nat → Nat → Int} {b c : Nat} {w w' : World} (h : TabI n val b c w) (hb : Below w.heap.size w w') : TabI n val b c w' := by
  obtain ⟨L, ho, hv⟩ := h
  exact ⟨L, ho.below hb, hv⟩
theorem tab_none {n : Nat} (hn : n ≤ 6) (val : Nat → Nat → Int) : TabV n val (noneT 4096) := by
  refine ⟨noneT_len _, fun p q hp h => ?_⟩
  exfalso
  unfold noneT at h
  rw [List.getD_eq_getElem?_getD, List.getElem?_replicate] at h
  split at h
  · exact absurd h (by decide)
  · next h2 => exact h2 (by have := hp.lt hn; omega)
theorem tab_place {n p q p' q' : Nat} (hn : n ≤ 6) (h : Pl n p q) (h' : Pl n p' q') (e : p * 64 + q = p' * 64 + q') : p = p' ∧ q = q' := by
  have h1 := h.lt hn
  have h2 := h'.lt hn
  omega
theorem tab_set {n : Nat} (hn : n ≤ 6) {val : Nat → Nat → Int} {L : List Int} (h : TabV n val L) {p q : Nat} (hp : Pl n p q) : TabV n val (L.set (p * 64 + q) (val p q)) := by
  refine ⟨by rw [List.length_set]; exact h.1, fun p' q' hp' h0 => ?_⟩
  have hl := h.1
  have h1 := hp.lt hn
  have h2 := hp'.lt hn
  by_cases e : p * 64 + q = p' * 64 + q'
  · obtain ⟨rfl, rfl⟩ := tab_place hn hp hp' e
    rw [List.getD_eq_getElem?_getD, List.getElem?_set_self (by omega)]; rfl
  · have e2 : (L.set (p * 64 + q) (val p q)).getD (p' * 64 + q') 0 = L.getD (p' * 64 + q') 0 := by
      rw [List.getD_eq_getElem?_getD, List.getElem?_set_ne e, List.getD_eq_getElem?_getD]
    rw [e2] at h0 ⊢
    exact h.2 p' q' hp' h0
end Go.Proofs.Ytkggchklmpmgpaa.H

namespace Go.Proofs.Ytkggchklmpmgpaa.H
open Go.RowKit Go.Proofs.YtkggchklmpmgpaaW.PrintWords Go.Proofs.YtkggchklmpmgpaaW.PrintLast Go.Proofs.YtkggchklmpmgpaaW.PrintMore
set_option linter.unusedVariables false
set_option linter.unusedSimpArgs false

theorem Gm.cell {b : Nat} {I : World → Prop} {w w' : World} (h : Gm b I w w') {a : Addr} {v : Value} (hc : w.cell? a = some v) (hne : a.block ≠ b) : w'.cell? a = some v := grown_cell h.1 hc hne
theorem TabI.lt {n : Nat} {val : Nat → Nat → Int} {b c : Nat} {w : World} (h : TabI n val b c w) : b < w.heap.size := by
  obtain ⟨L, ho, -⟩ := h
  exact ho.lt b (by simp [Value.ownBlock])
theorem TabI.get {n : Nat} (hn : n ≤ 6) {val : Nat → Nat → Int} {b c : Nat} {w : World} (h : TabI n val b c w) {p q : Nat} (hp : Pl n p q) :
    ∃ y, w.cell? ⟨b, p * 64 + q, none⟩ = some (.int .i64 y) ∧ (0 ≤ y → y = val p q) := by
  obtain ⟨L, ho, hll⟩ := h
  obtain ⟨hl, hv⟩ := hll
  have hb := hp.lt hn
  obtain ⟨A, d, e, hd, hr⟩ := ho.read
  rw [hl] at e
  cases e
  obtain ⟨ad, e, hc⟩ := ReadI.at_ hr (i := p * 64 + q) (by omega)
  cases e
  rw [add_mk] at hc
  exact ⟨_, hc, fun h0 => hv p q hp h0⟩

theorem max_if (a b : Int) : (if a < b then b else a) = max a b := by split <;> omega
theorem min_if (a b : Int) : (if b < a then b else a) = min a b := by split <;> omega
theorem add_max {a b : Int} {n : Nat} (h1 : 0 ≤ a) (h2 : a ≤ n) (h3 : 0 ≤ b) (h4 : b ≤ n) (hn : n ≤ 6) : IntKind.i64.wrap (1 + max a b) = 1 + max a b := IntWalk.i64_in _ (by omega)
theorem ne_zero_nat {V : Nat} (h : 0 < V) : ((V : Int) == 0) = false := by rw [beq_eq_false_iff_ne]; omega
theorem lt_of_succ {a b : Nat} (h : a + 1 = b) : a < b := by omega
theorem lt_big {a : Nat} (h : a < 64) : a < 9223372036854775808 := by omega
theorem and_pow (m v : Nat) : m &&& 2 ^ v = if m.testBit v then 2 ^ v else 0 := by
  apply Nat.eq_of_testBit_eq
  intro i
  rw [Nat.testBit_and, Nat.testBit_two_pow]
  by_cases h : v = i
  · subst h
    cases hb : m.testBit v <;> simp
  · rw [decide_eq_false h, Bool.and_false]
    split
    · rw [Nat.testBit_two_pow, decide_eq_false h]
    · rw [Nat.zero_testBit]

set_option maxRecDepth 100000 in
set_option maxHeartbeats 4000000 in
theorem specNeedS (n : Nat) (hn : n ≤ 6) (ku : Value) (xs : List Int) (b c : Nat) (p q : Nat) (w : World) (ih : ∀ p' q' w, lefts n p' q' < lefts n p q → Pl n p' q' → RdK b w ku xs → TabI n (needV n xs) b c w →
    Calls Try.prog 69 #[cx n ku, .int .i64 (p' : Nat), .int .i64 (q' : Nat), .slice (some ⟨b, 0, none⟩) 4096 c] w fun e w' => e = .returned (.int .i64 (needV n xs p' q')) ∧ w.grownBy w' (some b) ∧ TabI n (needV n xs) b c w')
    (hp : Pl n p q) (hk : RdK b w ku xs) (hT : TabI n (needV n xs) b c w) :
    Calls Try.prog 69 #[cx n ku, .int .i64 (p : Nat), .int .i64 (q : Nat), .slice (some ⟨b, 0, none⟩) 4096 c] w fun e w' => e = .returned (.int .i64 (needV n xs p q)) ∧ w.grownBy w' (some b) ∧ TabI n (needV n xs) b c w' := by
  obtain ⟨X, hX⟩ : ∃ X, X = needV n xs p q := ⟨_, rfl⟩
  have HX := Aside0.mk hX
  obtain ⟨w1, hw1⟩ : ∃ w1, w1 = w.alloc (.cells #[.int .i64 n, ku] 28) := ⟨_, rfl⟩
  have hB : Below w.heap.size w w1 := by rw [hw1]; exact Below.alloc (Below.refl _ _) (Nat.le_refl _) _
  have hbl := hT.lt
  have c0 : w1.cell? ⟨w.heap.size, 0, none⟩ = some (.int .i64 n) := by rw [hw1]; simp
  have c1 : w1.cell? ⟨w.heap.size, 1, none⟩ = some ku := by rw [hw1]; simp
  have hne0 : w.heap.size ≠ b := by omega
  have HG := Aside0.mk (grown_below hB (some b))
  have HK := Aside0.mk (hk.below hB)
  have HT := Aside0.mk (hT.below hB)
  have hpq := hp.lt hn
  have HP := Aside0.mk hp
  have hp' := hp
  have HPL := Aside0.mk (fun W => specPlace p q hpq.1 hpq.2 W)
  have h1 : (0 : Int) ≤ ((p * 64 + q : Nat) : Int) := by omega
  have h2 : ((p * 64 + q : Nat) : Int) < 4096 := by omega
  have h3 : ((p * 64 + q : Nat) : Int).toNat = p * 64 + q := by omega
  obtain ⟨K, hK⟩ : ∃ K, K = p * 64 + q := ⟨_, rfl⟩
  rw [← hK] at h1 h2 h3 HPL
  have HKK := Aside0.mk hK
  obtain ⟨y, hy, hyv⟩ := TabI.get hn hT hp
  have cy := pw_cell_below hB hy
  rw [← hK] at cy
  clear hy
  obtain ⟨A1, d1, rfl, -⟩ := id hk.read
  clear hk hT hB hp hK
  have HYV := Aside0.mk hyv
  clear hyv
  by_cases h0 : 0 ≤ y
  · have HE := Aside0.mk (HYV.out h0)
    clear HYV
    go_enter Try.func69, Try.ntmps69
    go_wp2_with (first | (go_at_call 124; rw [← hw1]; clear hw1; refine (HPL.out _).mono ?_; rintro e w2 ⟨rfl, hb⟩; have HG2 := Aside0.mk (grown_trans HG.out (grown_below hb _)); have HT2 := Aside0.mk (HT.out.below hb); have HK2 := Aside0.mk (HK.out.below hb); replace c0 := pw_cell_below hb c0; replace c1 := pw_cell_below hb c1; replace cy := pw_cell_below hb cy; clear hb))
    go_ret
    exact ⟨by rw [HE.out]; rfl, HG2.out, HT2.out⟩
  · have h0' : y < 0 := by omega
    clear h0 HYV
    obtain ⟨T, hTT⟩ : ∃ T, T = toldV n xs p q := ⟨_, rfl⟩
    have HTO := Aside0.mk (fun W hr => specTold n hn (.slice A1 xs.length d1) xs p q hpq.1 hpq.2 W hr)
    rw [← hTT] at HTO
    have HTT := Aside0.mk hTT
    by_cases ht : 0 ≤ T
    · have HXZ : Aside0 (X = 0) := ⟨by rw [hX]; exact needV_told (by rw [← hTT]; exact ht)⟩
      clear hTT hX
      go_enter Try.func69, Try.ntmps69
      go_wp2_with (first | (go_at_call 124; rw [← hw1]; clear hw1; refine (HPL.out _).mono ?_; rintro e w2 ⟨rfl, hb⟩; have HG2 := Aside0.mk (grown_trans HG.out (grown_below hb _)); have HT2 := Aside0.mk (HT.out.below hb); have HK2 := Aside0.mk (HK.out.below hb); replace c0 := pw_cell_below hb c0; replace c1 := pw_cell_below hb c1; replace cy := pw_cell_below hb cy; clear hb) | (go_at_call 125; refine (HTO.out _ HK2.out.read).mono ?_; rintro e w3 ⟨rfl, hb⟩; have HG3 := Aside0.mk (grown_trans HG2.out (grown_below hb _)); have HT3 := Aside0.mk (HT2.out.below hb); have HK3 := Aside0.mk (HK2.out.below hb); replace c0 := pw_cell_below hb c0; replace c1 := pw_cell_below hb c1; clear cy hb) | ((with_reducible refine gate_store (t := 2) (p := 68) rfl ?_); obtain ⟨L_, ho_, hv_⟩ := HT3.out; refine store_own (w0 := w) (b := 0) rfl (p := 68) rfl rfl K 0 ho_ ?ha ?hb ?hc ?_; (case ha => omega); (case hb => rfl); (case hc => rfl); intro w8 ho8 hg8 hb8; have HGe := Aside0.mk (grown_trans HG3.out hg8); have HTe := Aside0.mk (show TabI n (needV n xs) b c w8 from ⟨_, ho8, by rw [HKK.out, ← HXZ.out, HX.out]; exact tab_set hn hv_ HP.out⟩); clear ho_ hv_ ho8 hg8 hb8))
      go_ret
      exact ⟨by rw [← HX.out, HXZ.out]; rfl, HGe.out, HTe.out⟩
    · have ht' : T < 0 := by omega
      have HXO : Aside0 (X = needTo n xs p q n) := ⟨by rw [hX]; exact needV_open hn hp' (by rw [← hTT]; exact ht)⟩
      clear hTT hX ht
      go_enter Try.func69, Try.ntmps69
      go_wp2_with (first | (go_at_call 124; rw [← hw1]; clear hw1; refine (HPL.out _).mono ?_; rintro e w2 ⟨rfl, hb⟩; have HG2 := Aside0.mk (grown_trans HG.out (grown_below hb _)); have HT2 := Aside0.mk (HT.out.below hb); have HK2 := Aside0.mk (HK.out.below hb); replace c0 := pw_cell_below hb c0; replace c1 := pw_cell_below hb c1; replace cy := pw_cell_below hb cy; clear hb) | (go_at_call 125; refine (HTO.out _ HK2.out.read).mono ?_; rintro e w3 ⟨rfl, hb⟩; have HG3 := Aside0.mk (grown_trans HG2.out (grown_below hb _)); have HT3 := Aside0.mk (HT2.out.below hb); have HK3 := Aside0.mk (HK2.out.below hb); replace c0 := pw_cell_below hb c0; replace c1 := pw_cell_below hb c1; clear cy hb))
      go_loopw [10, 11] (fun s10 s11 wr => ∃ i : Nat, s11 = .int .i64 i ∧ i ≤ n ∧ s10 = .int .i64 (needTo n xs p q i) ∧ Aside0 (w3.grownBy wr (some b)) ∧ Aside0 (TabI n (needV n xs) b c wr)) (fun _ s11 _ => n - (intOf s11).toNat)
      case atStart => exact ⟨0, rfl, Nat.zero_le _, by rw [needTo_zero], ⟨grown_below (Below.refl _ _) _⟩, HT3⟩
      case round =>
        obtain ⟨i, rfl, hi, rfl, HGr, HTr⟩ := hrel
        have c0 := grown_cell HGr.out c0 hne0
        have c1 := grown_cell HGr.out c1 hne0
        have HKr := Aside0.mk (HK3.out.go HGr.out)
        have HGw := Aside0.mk (grown_trans HG3.out HGr.out)
        by_cases hlt : i < n
        · have hsh := pow_wrap i (by omega)
          have hV := pow_lt64 (v := i) (by omega)
          have hor := or_i64 p q (lt_big hpq.1) (lt_big hpq.2)
          have hU := or_lt64 hpq.1 hpq.2
          have HMS := Aside0.mk (fun h : (p ||| q).testBit i = true => needTo_miss (n := n) (xs := xs) h)
          have HHT := Aside0.mk (fun h : (p ||| q).testBit i = false => needTo_hit (n := n) (xs := xs) h)
          have HAP := Aside0.mk (and_pow (p ||| q) i)
          have hpb := Nat.two_pow_pos i
          have HLP := Aside0.mk (fun h => lefts_p (v := i) hn HP.out hlt h)
          have HLQ := Aside0.mk (fun h => lefts_q (v := i) hn HP.out hlt h)
          have HPY := Aside0.mk (fun h => Pl.yes (v := i) HP.out hlt h)
          have HPN := Aside0.mk (fun h => Pl.no (v := i) HP.out hlt h)
          have HNA : Aside0 (needAt n xs p q i = 1 + max (needV n xs (p ||| 2 ^ i) q) (needV n xs p (q ||| 2 ^ i))) := ⟨rfl⟩
          have hB0 := needTo_bd n xs p q i
          obtain ⟨V, hVV⟩ : ∃ V, V = 2 ^ i := ⟨_, rfl⟩
          rw [← hVV] at hsh hV HAP hpb HLP HLQ HPY HPN HNA
          clear hVV
          obtain ⟨U, hUU⟩ : ∃ U, U = p ||| q := ⟨_, rfl⟩
          rw [← hUU] at hor hU HAP HMS HHT HLP HLQ HPY HPN
          clear hUU
          have hand := and_i64 U V (lt_big hU) (lt_big hV)
          cases hbit : U.testBit i with
          | true =>
            have HM := Aside0.mk (HMS.out hbit)
            have hz : U &&& V = V := by have := HAP.out; rw [hbit, if_pos rfl] at this; exact this
            rw [hz] at hand
            have hne := ne_zero_nat hpb
            clear hz hbit
            go_wp2
            go_roundw
            case rel => exact ⟨i + 1, by go_num, by omega, by rw [HM.out], HGr, HTr⟩
            case measure => simp [intOf]; omega
          | false =>
            have HM := Aside0.mk (HHT.out hbit)
            have hz : U &&& V = 0 := by have := HAP.out; rw [hbit, if_neg (by decide)] at this; exact this
            rw [hz] at hand
            have hl1 := HLP.out hbit
            have hl2 := HLQ.out hbit
            have hp1 := HPY.out hbit
            have hp2 := HPN.out hbit
            have ho1 := or_i64 p V (lt_big hpq.1) (lt_big hV)
            have ho2 := or_i64 q V (lt_big hpq.2) (lt_big hV)
            have IH1 := Aside0.mk (fun W hk hT => ih (p ||| V) q W (lt_of_succ hl1) hp1 hk hT)
            have IH2 := Aside0.mk (fun W hk hT => ih p (q ||| V) W (lt_of_succ hl2) hp2 hk hT)
            have hx1 := needV_bd n xs (p ||| V) q
            have hx2 := needV_bd n xs p (q ||| V)
            obtain ⟨p1, hp1'⟩ : ∃ p1, p1 = p ||| V := ⟨_, rfl⟩
            obtain ⟨q1, hq1'⟩ : ∃ q1, q1 = q ||| V := ⟨_, rfl⟩
            rw [← hp1'] at ho1 IH1 hx1 HNA
            rw [← hq1'] at ho2 IH2 hx2 HNA
            obtain ⟨x1, hx1'⟩ : ∃ x1, x1 = needV n xs p1 q := ⟨_, rfl⟩
            obtain ⟨x2, hx2'⟩ : ∃ x2, x2 = needV n xs p q1 := ⟨_, rfl⟩
            rw [← hx1'] at hx1 IH1 HNA
            rw [← hx2'] at hx2 IH2 HNA
            have HBX := Aside0.mk hx1
            have HBY := Aside0.mk hx2
            have HO1 := Aside0.mk ho1
            have HO2 := Aside0.mk ho2
            clear hp1' hq1' hx1' hx2' hz hbit hl1 hl2 hp1 hp2 ho1 ho2 hx1 hx2
            obtain ⟨B0, hB0'⟩ : ∃ B0, B0 = needTo n xs p q i := ⟨_, rfl⟩
            rw [← hB0'] at hB0 HM ⊢
            have HB0 := Aside0.mk hB0
            clear hB0' hB0
            go_wp2
            have hmx : Try.prog.follows .mixedOrders = true := by kernel_rfl
            refine wp_region_g (Gm b (TabI n (needV n xs) b c)) (fun w => ⟨grown_drew w _, fun h => h.below (Below.refl _ _).drew⟩) (fun _ _ _ => Gm.trans) (fun i => match i with | 0 => fun v _ => v = .int .i64 B0 | 1 => fun v _ => v = .agg #[.int .i64 (n : Int), .slice A1 xs.length d1] | 2 => fun v _ => v = .int .i64 (p : Int) | 3 => fun v _ => v = .int .i64 (V : Int) | 4 => fun v _ => v = .int .i64 ((p1 : Nat) : Int) | 5 => fun v _ => v = .int .i64 (q : Int) | 6 => fun v _ => v = .slice (some ⟨b, 0, none⟩) 4096 c | 7 => fun v _ => v = .int .i64 x1 | 8 => fun v _ => v = .agg #[.int .i64 (n : Int), .slice A1 xs.length d1] | 9 => fun v _ => v = .int .i64 (p : Int) | 10 => fun v _ => v = .int .i64 (q : Int) | 11 => fun v _ => v = .int .i64 (V : Int) | 12 => fun v _ => v = .int .i64 ((q1 : Nat) : Int) | 13 => fun v _ => v = .slice (some ⟨b, 0, none⟩) 4096 c | 14 => fun v _ => v = .int .i64 x2 | 15 => fun v _ => v = .int .i64 (max x1 x2) | 16 => fun v _ => v = .int .i64 (1 + max x1 x2) | 17 => fun v _ => v = .int .i64 (min B0 (1 + max x1 x2)) | 18 => fun v _ => v = .int .i64 (min B0 (1 + max x1 x2)) | _ => fun _ _ => True)
              [0, 0, 0, 0, 12, 0, 0, 126, 0, 0, 0, 0, 3072, 0, 16382, 32766, 65534, 131071, 262143] hmx (by kernel_rfl) ?st ?steps ?rest
            case st =>
              intro i v w1_ w2_ hb
              match i with
              | 0 | 1 | 2 | 3 | 4 | 5 | 6 | 7 | 8 | 9 | 10 | 11 | 12 | 13 | 14 | 15 | 16 | 17 | 18 => exact id
              | n + 19 => exact id
            case steps =>
              refine ⟨?_, ?_, ?_, ?_, ?_, ?_, ?_, ?_, ?_, ?_, ?_, ?_, ?_, ?_, ?_, ?_, ?_, ?_, ?_, trivial⟩
              · intro s w_ hb hd hq R hR
                generalize hA : putAll _ 0 s _ = A
                have q18 : s 18 = .int .i64 B0 := hq 18 (by kernel_rfl)
                clear hq
                have hR' := hR (.int .i64 B0) _ (Gm.refl _ _ _) rfl
                clear hR hd
                refine opGives_value ?_ hR'
                subst hA
                simp only [dsOf, List.map_cons, List.map_nil, Option.getD_some, putAll, Act.put, List.setIfInBounds_toArray, List.set_cons_zero, List.set_cons_succ]
                go_simp
              · intro s w_ hb hd hq R hR
                generalize hA : putAll _ 0 s _ = A
                clear hq
                have c0 := grown_cell hb.1 c0 hne0
                have c1 := grown_cell hb.1 c1 hne0
                have hR' := hR (.agg #[.int .i64 (n : Int), .slice A1 xs.length d1]) _ (Gm.refl _ _ _) rfl
                clear hR hd
                refine opGives_value ?_ hR'
                subst hA
                simp only [dsOf, List.map_cons, List.map_nil, Option.getD_some, putAll, Act.put, List.setIfInBounds_toArray, List.set_cons_zero, List.set_cons_succ]
                go_simp
              · intro s w_ hb hd hq R hR
                generalize hA : putAll _ 0 s _ = A
                clear hq
                have hR' := hR (.int .i64 (p : Int)) _ (Gm.refl _ _ _) rfl
                clear hR hd
                refine opGives_value ?_ hR'
                subst hA
                simp only [dsOf, List.map_cons, List.map_nil, Option.getD_some, putAll, Act.put, List.setIfInBounds_toArray, List.set_cons_zero, List.set_cons_succ]
                go_simp
              · intro s w_ hb hd hq R hR
                generalize hA : putAll _ 0 s _ = A
                clear hq
                have hR' := hR (.int .i64 (V : Int)) _ (Gm.refl _ _ _) rfl
                clear hR hd
                refine opGives_value ?_ hR'
                subst hA
                simp only [dsOf, List.map_cons, List.map_nil, Option.getD_some, putAll, Act.put, List.setIfInBounds_toArray, List.set_cons_zero, List.set_cons_succ]
                go_simp
              · intro s w_ hb hd hq R hR
                generalize hA : putAll _ 0 s _ = A
                have e2 : s 2 = _ := hd 2 (by kernel_rfl)
                have e3 : s 3 = _ := hd 3 (by kernel_rfl)
                clear hq
                have ho1 := HO1.out
                have hR' := hR (.int .i64 ((p1 : Nat) : Int)) _ (Gm.refl _ _ _) rfl
                clear hR hd
                refine opGives_value ?_ hR'
                subst hA
                simp only [dsOf, List.map_cons, List.map_nil, Option.getD_some, putAll, Act.put, List.setIfInBounds_toArray, List.set_cons_zero, List.set_cons_succ]
                go_simp
              · intro s w_ hb hd hq R hR
                generalize hA : putAll _ 0 s _ = A
                clear hq
                have hR' := hR (.int .i64 (q : Int)) _ (Gm.refl _ _ _) rfl
                clear hR hd
                refine opGives_value ?_ hR'
                subst hA
                simp only [dsOf, List.map_cons, List.map_nil, Option.getD_some, putAll, Act.put, List.setIfInBounds_toArray, List.set_cons_zero, List.set_cons_succ]
                go_simp
              · intro s w_ hb hd hq R hR
                generalize hA : putAll _ 0 s _ = A
                clear hq
                have hR' := hR (.slice (some ⟨b, 0, none⟩) 4096 c) _ (Gm.refl _ _ _) rfl
                clear hR hd
                refine opGives_value ?_ hR'
                subst hA
                simp only [dsOf, List.map_cons, List.map_nil, Option.getD_some, putAll, Act.put, List.setIfInBounds_toArray, List.set_cons_zero, List.set_cons_succ]
                go_simp
              · intro s w_ hb hd hq R hR
                generalize hA : putAll _ 0 s _ = A
                have e1 : s 1 = _ := hd 1 (by kernel_rfl)
                have e4 : s 4 = _ := hd 4 (by kernel_rfl)
                have e5 : s 5 = _ := hd 5 (by kernel_rfl)
                have e6 : s 6 = _ := hd 6 (by kernel_rfl)
                clear hq
                refine opGives_call (f := 69) (args := #[.agg #[.int .i64 (n : Int), .slice A1 xs.length d1], .int .i64 ((p1 : Nat) : Int), .int .i64 ((q : Nat) : Int), .slice (some ⟨b, 0, none⟩) 4096 c]) ?_ ?_
                · subst hA
                  clear hR hd
                  simp only [dsOf, List.map_cons, List.map_nil, Option.getD_some, putAll, Act.put, List.setIfInBounds_toArray, List.set_cons_zero, List.set_cons_succ]
                  go_simp
                clear hA A hd
                refine (IH1.out w_ (HKr.out.go hb.1) (hb.2 HTr.out)).mono ?_
                rintro e w3_ ⟨rfl, hg, hT⟩
                exact ⟨_, rfl, hR _ _ ⟨hg, fun _ => hT⟩ rfl⟩
              · intro s w_ hb hd hq R hR
                generalize hA : putAll _ 0 s _ = A
                clear hq
                have c0 := grown_cell hb.1 c0 hne0
                have c1 := grown_cell hb.1 c1 hne0
                have hR' := hR (.agg #[.int .i64 (n : Int), .slice A1 xs.length d1]) _ (Gm.refl _ _ _) rfl
                clear hR hd
                refine opGives_value ?_ hR'
                subst hA
                simp only [dsOf, List.map_cons, List.map_nil, Option.getD_some, putAll, Act.put, List.setIfInBounds_toArray, List.set_cons_zero, List.set_cons_succ]
                go_simp
              · intro s w_ hb hd hq R hR
                generalize hA : putAll _ 0 s _ = A
                clear hq
                have hR' := hR (.int .i64 (p : Int)) _ (Gm.refl _ _ _) rfl
                clear hR hd
                refine opGives_value ?_ hR'
                subst hA
                simp only [dsOf, List.map_cons, List.map_nil, Option.getD_some, putAll, Act.put, List.setIfInBounds_toArray, List.set_cons_zero, List.set_cons_succ]
                go_simp
              · intro s w_ hb hd hq R hR
                generalize hA : putAll _ 0 s _ = A
                clear hq
                have hR' := hR (.int .i64 (q : Int)) _ (Gm.refl _ _ _) rfl
                clear hR hd
                refine opGives_value ?_ hR'
                subst hA
                simp only [dsOf, List.map_cons, List.map_nil, Option.getD_some, putAll, Act.put, List.setIfInBounds_toArray, List.set_cons_zero, List.set_cons_succ]
                go_simp
              · intro s w_ hb hd hq R hR
                generalize hA : putAll _ 0 s _ = A
                clear hq
                have hR' := hR (.int .i64 (V : Int)) _ (Gm.refl _ _ _) rfl
                clear hR hd
                refine opGives_value ?_ hR'
                subst hA
                simp only [dsOf, List.map_cons, List.map_nil, Option.getD_some, putAll, Act.put, List.setIfInBounds_toArray, List.set_cons_zero, List.set_cons_succ]
                go_simp
              · intro s w_ hb hd hq R hR
                generalize hA : putAll _ 0 s _ = A
                have e10 : s 10 = _ := hd 10 (by kernel_rfl)
                have e11 : s 11 = _ := hd 11 (by kernel_rfl)
                clear hq
                have ho2 := HO2.out
                have hR' := hR (.int .i64 ((q1 : Nat) : Int)) _ (Gm.refl _ _ _) rfl
                clear hR hd
                refine opGives_value ?_ hR'
                subst hA
                simp only [dsOf, List.map_cons, List.map_nil, Option.getD_some, putAll, Act.put, List.setIfInBounds_toArray, List.set_cons_zero, List.set_cons_succ]
                go_simp
              · intro s w_ hb hd hq R hR
                generalize hA : putAll _ 0 s _ = A
                clear hq
                have hR' := hR (.slice (some ⟨b, 0, none⟩) 4096 c) _ (Gm.refl _ _ _) rfl
                clear hR hd
                refine opGives_value ?_ hR'
                subst hA
                simp only [dsOf, List.map_cons, List.map_nil, Option.getD_some, putAll, Act.put, List.setIfInBounds_toArray, List.set_cons_zero, List.set_cons_succ]
                go_simp
              · intro s w_ hb hd hq R hR
                generalize hA : putAll _ 0 s _ = A
                have e8 : s 8 = _ := hd 8 (by kernel_rfl)
                have e9 : s 9 = _ := hd 9 (by kernel_rfl)
                have e12 : s 12 = _ := hd 12 (by kernel_rfl)
                have e13 : s 13 = _ := hd 13 (by kernel_rfl)
                clear hq
                refine opGives_call (f := 69) (args := #[.agg #[.int .i64 (n : Int), .slice A1 xs.length d1], .int .i64 ((p : Nat) : Int), .int .i64 ((q1 : Nat) : Int), .slice (some ⟨b, 0, none⟩) 4096 c]) ?_ ?_
                · subst hA
                  clear hR hd
                  simp only [dsOf, List.map_cons, List.map_nil, Option.getD_some, putAll, Act.put, List.setIfInBounds_toArray, List.set_cons_zero, List.set_cons_succ]
                  go_simp
                clear hA A hd
                refine (IH2.out w_ (HKr.out.go hb.1) (hb.2 HTr.out)).mono ?_
                rintro e w3_ ⟨rfl, hg, hT⟩
                exact ⟨_, rfl, hR _ _ ⟨hg, fun _ => hT⟩ rfl⟩
              · intro s w_ hb hd hq R hR
                generalize hA : putAll _ 0 s _ = A
                have e7 : s 7 = _ := hd 7 (by kernel_rfl)
                have e14 : s 14 = _ := hd 14 (by kernel_rfl)
                clear hq
                have hmx := max_if x1 x2
                have hR' := hR (.int .i64 (max x1 x2)) _ (Gm.refl _ _ _) rfl
                clear hR hd
                refine opGives_value ?_ hR'
                subst hA
                simp only [dsOf, List.map_cons, List.map_nil, Option.getD_some, putAll, Act.put, List.setIfInBounds_toArray, List.set_cons_zero, List.set_cons_succ]
                go_simp
              · intro s w_ hb hd hq R hR
                generalize hA : putAll _ 0 s _ = A
                have e15 : s 15 = _ := hd 15 (by kernel_rfl)
                clear hq
                have hbx := add_max HBX.out.1 HBX.out.2 HBY.out.1 HBY.out.2 hn
                have hR' := hR (.int .i64 (1 + max x1 x2)) _ (Gm.refl _ _ _) rfl
                clear hR hd
                refine opGives_value ?_ hR'
                subst hA
                simp only [dsOf, List.map_cons, List.map_nil, Option.getD_some, putAll, Act.put, List.setIfInBounds_toArray, List.set_cons_zero, List.set_cons_succ]
                go_simp
              · intro s w_ hb hd hq R hR
                generalize hA : putAll _ 0 s _ = A
                have e0 : s 0 = _ := hd 0 (by kernel_rfl)
                have e16 : s 16 = _ := hd 16 (by kernel_rfl)
                clear hq
                have hmn := min_if B0 (1 + max x1 x2)
                have hR' := hR (.int .i64 (min B0 (1 + max x1 x2))) _ (Gm.refl _ _ _) rfl
                clear hR hd
                refine opGives_value ?_ hR'
                subst hA
                simp only [dsOf, List.map_cons, List.map_nil, Option.getD_some, putAll, Act.put, List.setIfInBounds_toArray, List.set_cons_zero, List.set_cons_succ]
                go_simp
              · intro s w_ hb hd hq R hR
                generalize hA : putAll _ 0 s _ = A
                have e17 : s 17 = _ := hd 17 (by kernel_rfl)
                clear hq
                have hR' := hR (.int .i64 (min B0 (1 + max x1 x2))) _ (Gm.refl _ _ _) rfl
                clear hR hd
                refine opGives_value ?_ hR'
                subst hA
                simp only [dsOf, List.map_cons, List.map_nil, Option.getD_some, putAll, Act.put, List.setIfInBounds_toArray, List.set_cons_zero, List.set_cons_succ]
                go_simp
            case rest =>
              intro s9 w9 hb hv
              have e18_ : s9 18 = _ := hv 18 (by decide)
              simp only [dsOf, List.map_cons, List.map_nil, Option.getD_some, putAll, Act.put, List.setIfInBounds_toArray, List.set_cons_zero, List.set_cons_succ]
              rw [e18_]
              clear hv e18_
              have HGn := Aside0.mk (grown_trans HGr.out hb.1)
              have HTn := Aside0.mk (hb.2 HTr.out)
              clear hb
              go_wp2
              go_roundw
              case rel => exact ⟨i + 1, by go_num, by omega, by rw [HM.out, HNA.out], HGn, HTn⟩
              case measure => simp [intOf]; omega
        · have e : i = n := by omega
          have HXE : Aside0 (needTo n xs p q i = X) := ⟨by rw [HXO.out, e]⟩
          clear e
          go_wp2_with (first | ((with_reducible refine gate_store (t := 2) (p := 68) rfl ?_); obtain ⟨L_, ho_, hv_⟩ := HTr.out; refine store_own (w0 := w) (b := 0) rfl (p := 68) rfl rfl K (needTo n xs p q i) ho_ ?ha ?hb ?hc ?_; (case ha => omega); (case hb => rfl); (case hc => rfl); intro w8 ho8 hg8 hb8; have HGe := Aside0.mk (grown_trans HGw.out hg8); have HTe := Aside0.mk (show TabI n (needV n xs) b c w8 from ⟨_, ho8, by rw [HKK.out, HXE.out, HX.out]; exact tab_set hn hv_ HP.out⟩); clear ho_ hv_ ho8 hg8 hb8))
          go_ret
          exact ⟨by rw [HXE.out, HX.out]; rfl, HGe.out, HTe.out⟩

theorem specNeed (n : Nat) (hn : n ≤ 6) (ku : Value) (xs : List Int) (b c : Nat) (f : Nat) : ∀ p q w, lefts n p q < f → Pl n p q → RdK b w ku xs → TabI n (needV n xs) b c w →
    Calls Try.prog 69 #[cx n ku, .int .i64 (p : Nat), .int .i64 (q : Nat), .slice (some ⟨b, 0, none⟩) 4096 c] w fun e w' => e = .returned (.int .i64 (needV n xs p q)) ∧ w.grownBy w' (some b) ∧ TabI n (needV n xs) b c w' := by
  induction f with
  | zero => exact fun p q w hl => absurd hl (Nat.not_lt_zero _)
  | succ f ih => exact fun p q w hl hp hk hT => specNeedS n hn ku xs b c p q w (fun p' q' w hl' => ih p' q' w (by omega)) hp hk hT
end Go.Proofs.Ytkggchklmpmgpaa.H

namespace Go.Proofs.Ytkggchklmpmgpaa.H
open Go.RowKit Go.Proofs.YtkggchklmpmgpaaW.PrintWords Go.Proofs.YtkggchklmpmgpaaW.PrintLast Go.Proofs.YtkggchklmpmgpaaW.PrintMore
set_option linter.unusedVariables false
set_option linter.unusedSimpArgs false

theorem progLaid : laidOutB Try.prog = true := by kernel_rfl
theorem stRow : (88 : TypeId) < Try.prog.types.size := of_decide_eq_true (by kernel_rfl)
theorem stKey2 : Try.prog.keyTypeAt 2 88 = true := by kernel_rfl
theorem le2 : 2 + 1 ≤ 10000 := by decide +kernel
theorem stKeyed : Go.Maps.Keyed Try.prog 88 := Go.Maps.Keyed.of_law (deep_law_laid progLaid le2 stRow stKey2 (by rw [Try.underlying88]))
theorem zeroI (w : World) : (zeroValue 2).run Try.prog w = .ok (.int .i64 0) w := by kernel_rfl
def stV (a y : Nat) : Value := .agg #[.int .i64 a, .int .i64 y]
theorem wf_nat {a : Nat} (h : a < 64) : (Lit.int .i64 (a : Int)).wf = true := WalkArith.wf_i64 (by omega)
theorem stTypes : ∃ m, Try.prog.types.size = m + 1 := ⟨Try.prog.types.size - 1, by kernel_rfl⟩
theorem stKT : Try.prog.keyType 88 = true := by kernel_rfl
theorem stCells : Try.prog.cellsOf 88 = 2 := by kernel_rfl
theorem i64Cells : Try.prog.cellsOf 2 = 1 := by kernel_rfl
theorem stLit (a y : Nat) (ha : a < 64) (hy : y < 64) : ∃ l, keyOf Try.prog 88 (stV a y) = some l := by
  obtain ⟨m, hm⟩ := stTypes
  have h1 := wf_nat ha
  have h2 := wf_nat hy
  have hf : (stV a y).formed Try.prog 88 = true := by simp [stV, Value.formed, Try.underlying88, stCells]
  refine ⟨.string (keyBytes [.int .i64 a, .int .i64 y]), ?_⟩
  unfold keyOf
  rw [Try.underlying88]
  simp only
  rw [stKT, hf, hm]
  simp [stV, Value.cells, Program.keyLits, Try.underlying88, Try.underlying2, stCells, i64Cells, h1, h2]

/-- the map's entries are right -/
def MapV (n : Nat) (val : Nat → Nat → Int) (D : DataW Unit) : Prop :=
  ∀ l, Maps.has D l = true → ∃ p q : Nat, Pl n p q ∧ keyOf Try.prog 88 (stV (p ||| q) p) = some l ∧ ∀ z, D.atKey l z = .lit (.int .i64 (val p q))
def MapI (n : Nat) (val : Nat → Nat → Int) (b : Nat) (w : World) : Prop :=
  ∃ (k : Nat) (D : DataW Unit), w.ownsMap Try.prog 88 (plainElem Try.prog 2) b k D ∧ MapV n val D
theorem MapI.lt {n : Nat} {val : Nat → Nat → Int} {b : Nat} {w : World} (h : MapI n val b w) : b < w.heap.size := by
  obtain ⟨k, D, h, -⟩ := h
  exact h.lt
theorem MapI.grown {n : Nat} {val : Nat → Nat → Int} {b : Nat} {w w' : World} {row : Option Nat} (h : MapI n val b w) (hg : w.grownBy w' row) (hne : some b ≠ row) : MapI n val b w' := by
  obtain ⟨k, D, h, hv⟩ := h
  exact ⟨k, D, h.kept hg hne, hv⟩
theorem MapI.below {n : Nat} {val : Nat → Nat → Int} {b : Nat} {w w' : World} (h : MapI n val b w) (hb : Below w.heap.size w w') : MapI n val b w' :=
  h.grown (grown_below hb none) (by simp)
theorem MapI.made (n : Nat) (val : Nat → Nat → Int) (w : World) : MapI n val w.heap.size (w.alloc (.map #[] 0)) :=
  ⟨0, _, World.ownsMap_made _ _ _ _, fun l h => by cases h⟩
theorem pl_eq {n p q p' q' : Nat} (h : Pl n p q) (h' : Pl n p' q') (e : stV (p ||| q) p = stV (p' ||| q') p') : p = p' ∧ q = q' := by
  unfold stV at e
  injection e with e
  have e1 := congrArg Array.toList e
  simp only at e1
  injection e1 with e2 e3
  injection e3 with e3 _
  injection e2 with _ e2
  injection e3 with _ e3
  have hp : p = p' := by omega
  subst hp
  refine ⟨rfl, ?_⟩
  have e2 : p ||| q = p ||| q' := by omega
  apply Nat.eq_of_testBit_eq
  intro i
  have a1 := congrArg (fun m : Nat => m.testBit i) e2
  have a2 := congrArg (fun m : Nat => m.testBit i) h.d
  have a3 := congrArg (fun m : Nat => m.testBit i) h'.d
  simp only [Nat.testBit_or, Nat.testBit_and, Nat.zero_testBit] at a1 a2 a3
  cases ha : p.testBit i <;> cases hb : q.testBit i <;> cases hc : q'.testBit i <;> simp_all
/-- at most 4096 entries -/
theorem sub_len {α : Type} : ∀ (l L : List α), l.Nodup → (∀ x ∈ l, x ∈ L) → l.length ≤ L.length
  | [], L, _, _ => Nat.zero_le _
  | a :: r, L, hn, hs => by
    rw [List.nodup_cons] at hn
    obtain ⟨s, t, rfl⟩ := List.append_of_mem (hs a List.mem_cons_self)
    have := sub_len r (s ++ t) hn.2 (fun x hx => by
      have h1 := hs x (List.mem_cons_of_mem _ hx)
      rw [List.mem_append, List.mem_cons] at h1
      rw [List.mem_append]
      rcases h1 with h1 | rfl | h1
      · exact .inl h1
      · exact absurd hx hn.1
      · exact .inr h1)
    simp only [List.length_append, List.length_cons] at this ⊢
    omega
noncomputable def keysAll : List (Option Lit) := ((List.range 64).map fun a => (List.range 64).map fun y => keyOf Try.prog 88 (stV a y)).flatten
theorem keysAll_len : keysAll.length = 4096 := by
  unfold keysAll
  rw [List.length_flatten, List.map_map]
  have : (List.map (List.length ∘ fun a => (List.range 64).map fun y => keyOf Try.prog 88 (stV a y)) (List.range 64)) = (List.range 64).map fun _ => 64 := by
    refine List.map_congr_left (fun a _ => ?_)
    simp
  rw [this]; rfl
theorem keysAll_mem {a y : Nat} (ha : a < 64) (hy : y < 64) : keyOf Try.prog 88 (stV a y) ∈ keysAll := by
  unfold keysAll
  rw [List.mem_flatten]
  exact ⟨_, List.mem_map.2 ⟨a, List.mem_range.2 ha, rfl⟩, List.mem_map.2 ⟨y, List.mem_range.2 hy, rfl⟩⟩
theorem own_key {w : World} {b k : Nat} {D : DataW Unit} (ho : w.ownsMap Try.prog 88 (plainElem Try.prog 2) b k D) {es : List (Lit × DataW Unit)} (hD : D = .map es) : ∀ e ∈ es, ∃ v, keyOf Try.prog 88 v = some e.1 := by
  intro e he
  obtain ⟨es', clock, hb, F, hs, hD'⟩ := ho
  rw [hD] at hD'
  injection hD' with hD'
  rw [hD'] at he
  have h1 := (WideShapes.sorted_perm (es'.toList.map (Go.WideElems.rg Try.prog 88 (plainElem Try.prog 2)))).mem_iff.1 he
  obtain ⟨x, hx, rfl⟩ := List.mem_map.1 h1
  obtain ⟨y, hy⟩ := F.reads x hx
  exact ⟨x.key, by rw [Go.WideElems.rg_of hy]; exact Go.WideElems.rd_key hy⟩
theorem mapV_size {n : Nat} (hn : n ≤ 6) {val : Nat → Nat → Int} {w : World} {b k : Nat} {D : DataW Unit} (ho : w.ownsMap Try.prog 88 (plainElem Try.prog 2) b k D) (hv : MapV n val D) : w.ownsMap Try.prog 88 (plainElem Try.prog 2) b 4096 D := by
  obtain ⟨es, hD, hp⟩ := ho.tidy stKeyed
  have hlen : es.length ≤ 4096 := by
    have h1 : (es.map fun e => some e.1).Nodup := by
      rw [List.nodup_iff_pairwise_ne, List.pairwise_map]
      exact hp.imp (fun h e => h (by injection e))
    have h2 := sub_len _ keysAll h1 (fun x hx => by
      obtain ⟨e, he, rfl⟩ := List.mem_map.1 hx
      have hk : Maps.has D e.1 = true := by
        rw [hD, Maps.has_eq, List.any_eq_true]
        obtain ⟨v, hv⟩ := own_key ho hD e he
        exact ⟨e, he, WideAt.sameKey_self (stKeyed.key hv)⟩
      obtain ⟨p, q, hpq, hk2, -⟩ := hv _ hk
      rw [← hk2]
      have := hpq.lt hn
      exact keysAll_mem (or_lt64 this.1 this.2) this.1)
    rw [List.length_map, keysAll_len] at h2
    exact h2
  obtain ⟨es', clock, hb, F, hs, hD'⟩ := ho
  refine ⟨es', clock, hb, F, ?_, hD'⟩
  rw [hD] at hD'
  injection hD' with hD'
  rw [hD', Go.length_sorted] at hlen
  simpa using hlen
end Go.Proofs.Ytkggchklmpmgpaa.H

namespace Go.Proofs.Ytkggchklmpmgpaa.H
open Go.RowKit Go.Proofs.YtkggchklmpmgpaaW.PrintWords Go.Proofs.YtkggchklmpmgpaaW.PrintLast Go.Proofs.YtkggchklmpmgpaaW.PrintMore
set_option linter.unusedVariables false
set_option linter.unusedSimpArgs false

/-- where a walk stands -/
structure Stg (n : Nat) : Prop where
theorem stg_next (k k' : Nat) (h : Stg k) : Stg k' := ⟨⟩
theorem new_cell (W : World) (cs : Array Value) (t : TypeId) (i : Nat) (v : Value) (h : cs[i]? = some v) : (W.alloc (.cells cs t)).cell? ⟨W.heap.size, i, none⟩ = some v := by
  rw [blk_cell (blk_new W _) i, h]
theorem below_unalloc {W W' : World} {o : Obj} (h : Below (W.alloc o).heap.size (W.alloc o) W') : Below W.heap.size W W' :=
  (Below.alloc (Below.refl _ _) (Nat.le_refl _) o).trans (h.mono (by simp))
theorem Aside0.own {b : Nat} {w w' : World} {v : Value} {xs : List Int} (h : Aside0 (OwnI b w v xs)) (hb : Below w.heap.size w w') : Aside0 (OwnI b w' v xs) := ⟨OwnI.below h.out hb⟩
theorem Aside0.belowC {w w1 w' : World} (h : Aside0 (Below w.heap.size w w1)) (hb : Below w1.heap.size w1 w') : Aside0 (Below w.heap.size w w') := ⟨h.out.trans (hb.mono h.out.size)⟩
end Go.Proofs.Ytkggchklmpmgpaa.H
