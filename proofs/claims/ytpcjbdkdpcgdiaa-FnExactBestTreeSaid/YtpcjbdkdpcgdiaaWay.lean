/- Ways through a tree of questions: the plain law. -/
import Derived.Test.YtpcjbdkdpcgdiaaNeed
import Derived.Test.YtpcjbdkdpcgdiaaTree
namespace Go.Proofs.Ytpcjbdkdpcgdiaa.H
open Go.RowKit Go.Proofs.YtpcjbdkdpcgdiaaW.PrintWords Go.Proofs.YtpcjbdkdpcgdiaaW.PrintLast Go.Proofs.YtpcjbdkdpcgdiaaW.PrintMore
set_option linter.unusedVariables false
set_option linter.unusedSimpArgs false

/-- the question at a place, as a number -/
def qN (t : List Int) (p : Nat) : Nat := (qAt t p).toNat
/-- the place behind i answers -/
def plc (t : List Int) (h : Nat) : Nat → Nat
  | 0 => 1
  | i + 1 => 2 * plc t h i + (h / 2 ^ qN t (plc t h i)) % 2
/-- asked, and the answer was yes -/
def yess (t : List Int) (h : Nat) : Nat → Nat
  | 0 => 0
  | i + 1 => if h.testBit (qN t (plc t h i)) then yess t h i ||| 2 ^ qN t (plc t h i) else yess t h i
/-- asked, and the answer was no -/
def noes (t : List Int) (h : Nat) : Nat → Nat
  | 0 => 0
  | i + 1 => if h.testBit (qN t (plc t h i)) then noes t h i else noes t h i ||| 2 ^ qN t (plc t h i)
/-- the first i questions -/
def wayL (t : List Int) (h i : Nat) : List Int := (List.range i).map fun j => qAt t (plc t h j)
theorem wayL_succ (t : List Int) (h i : Nat) : wayL t h (i + 1) = wayL t h i ++ [qAt t (plc t h i)] := by unfold wayL; rw [List.range_succ, List.map_append]; rfl
theorem wayL_len (t : List Int) (h i : Nat) : (wayL t h i).length = i := by unfold wayL; simp
theorem wayL_take (t : List Int) (h i j : Nat) (hi : i ≤ j) : (wayL t h j).take i = wayL t h i := by
  unfold wayL; rw [← List.map_take, List.take_range, Nat.min_eq_left hi]
theorem plc_half (t : List Int) (h i : Nat) : plc t h (i + 1) / 2 = plc t h i := by
  have : (h / 2 ^ qN t (plc t h i)) % 2 < 2 := Nat.mod_lt _ (by decide)
  show (2 * plc t h i + _) / 2 = _
  omega
theorem plc_bd (t : List Int) (h : Nat) : ∀ i, 2 ^ i ≤ plc t h i ∧ plc t h i < 2 ^ (i + 1)
  | 0 => ⟨Nat.le_refl 1, Nat.lt_succ_self 1⟩
  | i + 1 => by
    have := plc_bd t h i
    have h1 : (h / 2 ^ qN t (plc t h i)) % 2 < 2 := Nat.mod_lt _ (by decide)
    rw [Nat.pow_succ 2 (i + 1), Nat.pow_succ 2 i] at *
    show _ ≤ 2 * plc t h i + _ ∧ 2 * plc t h i + _ < _
    omega
theorem bit_mod (h v : Nat) : (h / 2 ^ v) % 2 = if h.testBit v then 1 else 0 := by
  rw [Nat.testBit_eq_decide_div_mod_eq]
  have : (h / 2 ^ v) % 2 < 2 := Nat.mod_lt _ (by decide)
  split
  · next h1 => exact of_decide_eq_true h1
  · next h1 => have := of_decide_eq_false (Bool.not_eq_true _ ▸ h1 : decide _ = false); omega
theorem plc_yes {t : List Int} {h i : Nat} (hb : h.testBit (qN t (plc t h i)) = true) : plc t h (i + 1) = 2 * plc t h i + 1 := by
  show 2 * plc t h i + _ = _; rw [bit_mod, hb]; rfl
theorem plc_no {t : List Int} {h i : Nat} (hb : h.testBit (qN t (plc t h i)) = false) : plc t h (i + 1) = 2 * plc t h i := by
  show 2 * plc t h i + _ = _; rw [bit_mod, hb]; rfl
theorem yess_yes {t : List Int} {h i : Nat} (hb : h.testBit (qN t (plc t h i)) = true) : yess t h (i + 1) = yess t h i ||| 2 ^ qN t (plc t h i) := by
  show (if _ then _ else _) = _; rw [if_pos hb]
theorem yess_no {t : List Int} {h i : Nat} (hb : h.testBit (qN t (plc t h i)) = false) : yess t h (i + 1) = yess t h i := by
  show (if _ then _ else _) = _; rw [if_neg (by rw [hb]; decide)]
theorem noes_yes {t : List Int} {h i : Nat} (hb : h.testBit (qN t (plc t h i)) = true) : noes t h (i + 1) = noes t h i := by
  show (if _ then _ else _) = _; rw [if_pos hb]
theorem noes_no {t : List Int} {h i : Nat} (hb : h.testBit (qN t (plc t h i)) = false) : noes t h (i + 1) = noes t h i ||| 2 ^ qN t (plc t h i) := by
  show (if _ then _ else _) = _; rw [if_neg (by rw [hb]; decide)]

/-! what a tree gives -/
theorem tree_len {n : Nat} {t : List Int} (h : treeOk n t = true) : t.length = 2 ^ n - 1 := by
  unfold treeOk at h; rw [Bool.and_eq_true, decide_eq_true_eq] at h; exact h.1
theorem tree_in {n : Nat} {t : List Int} (h : treeOk n t = true) {p : Nat} (h1 : 1 ≤ p) (h2 : p < 2 ^ n) : 0 ≤ qAt t p ∧ qAt t p ≤ (n : Int) - 1 ∧ qAt t p = (qN t p : Int) ∧ qN t p < n := by
  have hl := tree_len h
  unfold treeOk at h
  rw [Bool.and_eq_true, Bool.and_eq_true] at h
  have h3 := List.all_eq_true.1 h.2.1
  have hi : p - 1 < t.length := by omega
  have := h3 _ (List.getElem_mem hi)
  have e : qAt t p = t[p - 1] := by unfold qAt; simp [List.getD_eq_getElem?_getD, hi]
  rw [← e] at this
  unfold inTree at this
  rw [Bool.and_eq_true, decide_eq_true_eq, decide_eq_true_eq] at this
  unfold qN
  omega
theorem tree_clash {n : Nat} {t : List Int} (h : treeOk n t = true) {p : Nat} (h1 : 1 ≤ p) (h2 : p < 2 ^ n) : clash t p (p / 2) = false := by
  have hl := tree_len h
  unfold treeOk at h
  rw [Bool.and_eq_true, Bool.and_eq_true] at h
  have h3 := List.all_eq_true.1 h.2.2 (p - 1) (List.mem_range.2 (by omega))
  rw [show p - 1 + 1 = p by omega] at h3
  simpa using h3
theorem clash_anc {t : List Int} {p : Nat} : ∀ (k a : Nat), clash t p a = false → 0 < a / 2 ^ k → qAt t (a / 2 ^ k) ≠ qAt t p
  | 0, a, h, h0 => by
    rw [Nat.pow_zero, Nat.div_one] at h0 ⊢
    rw [clash_step h0, Bool.or_eq_false_iff] at h
    intro e
    rw [e, beq_self_eq_true] at h
    cases h.1
  | k + 1, a, h, h0 => by
    have ha : 0 < a := by
      rcases Nat.eq_zero_or_pos a with rfl | h
      · rw [Nat.zero_div] at h0; omega
      · exact h
    rw [clash_step ha, Bool.or_eq_false_iff] at h
    have e : a / 2 ^ (k + 1) = a / 2 / 2 ^ k := by rw [Nat.pow_succ, Nat.mul_comm, Nat.div_div_eq_div_mul]
    rw [e] at h0 ⊢
    exact clash_anc k (a / 2) h.2 h0
theorem plc_anc (t : List Int) (h : Nat) : ∀ k i, plc t h (i + k) / 2 ^ k = plc t h i
  | 0, i => by rw [Nat.pow_zero, Nat.div_one]; rfl
  | k + 1, i => by
    rw [Nat.pow_succ, Nat.mul_comm, ← Nat.div_div_eq_div_mul, ← Nat.add_assoc, plc_half]
    exact plc_anc t h k i
theorem way_ne {n : Nat} {t : List Int} (ht : treeOk n t = true) {h i j : Nat} (hj : j < i) (hi : i < n) : qN t (plc t h j) ≠ qN t (plc t h i) := by
  have hb := plc_bd t h i
  have h2 : 2 ^ (i + 1) ≤ 2 ^ n := Nat.pow_le_pow_right (by omega) (by omega)
  have hbj := plc_bd t h j
  have h2j : 2 ^ (j + 1) ≤ 2 ^ n := Nat.pow_le_pow_right (by omega) (by omega)
  have h0 : 1 ≤ 2 ^ i := Nat.one_le_two_pow
  have h0j : 1 ≤ 2 ^ j := Nat.one_le_two_pow
  have hc := tree_clash ht (p := plc t h i) (by omega) (by omega)
  have e : plc t h i / 2 / 2 ^ (i - j - 1) = plc t h j := by
    rw [Nat.div_div_eq_div_mul, ← Nat.pow_succ', show (i - j - 1).succ = i - j by omega]
    have := plc_anc t h (i - j) j
    rwa [show j + (i - j) = i by omega] at this
  have := clash_anc (i - j - 1) _ hc (by rw [e]; omega)
  rw [e] at this
  intro hq
  have e1 := tree_in ht (p := plc t h i) (by omega) (by omega)
  have e2 := tree_in ht (p := plc t h j) (by omega) (by omega)
  omega
theorem way_bits (t : List Int) (h v : Nat) : ∀ i, (yess t h i ||| noes t h i).testBit v = true ↔ ∃ j, j < i ∧ qN t (plc t h j) = v
  | 0 => by
    show (0 ||| 0 : Nat).testBit v = true ↔ _
    simp
  | i + 1 => by
    have ih := way_bits t h v i
    have e : (yess t h (i + 1) ||| noes t h (i + 1)).testBit v = ((yess t h i ||| noes t h i).testBit v || decide (qN t (plc t h i) = v)) := by
      cases hb : h.testBit (qN t (plc t h i)) with
      | true => rw [yess_yes hb, noes_yes hb, or_p, Nat.testBit_or _ (2 ^ _), Nat.testBit_two_pow]
      | false => rw [yess_no hb, noes_no hb, or_q, Nat.testBit_or _ (2 ^ _), Nat.testBit_two_pow]
    rw [e, Bool.or_eq_true, ih, decide_eq_true_eq]
    constructor
    · rintro (⟨j, hj, hv⟩ | hv)
      · exact ⟨j, by omega, hv⟩
      · exact ⟨i, by omega, hv⟩
    · rintro ⟨j, hj, hv⟩
      by_cases hji : j = i
      · subst hji; exact .inr hv
      · exact .inl ⟨j, by omega, hv⟩
theorem way_pl {n : Nat} {t : List Int} (ht : treeOk n t = true) (h : Nat) : ∀ i, i ≤ n → Pl n (yess t h i) (noes t h i) ∧ (i < n → (yess t h i ||| noes t h i).testBit (qN t (plc t h i)) = false)
  | i, hi => by
    have hfree : i < n → (yess t h i ||| noes t h i).testBit (qN t (plc t h i)) = false := by
      intro hlt
      cases hb : (yess t h i ||| noes t h i).testBit (qN t (plc t h i)) with
      | false => rfl
      | true =>
        obtain ⟨j, hj, hv⟩ := (way_bits t h _ i).1 hb
        exact absurd hv (way_ne ht hj hlt)
    refine ⟨?_, hfree⟩
    cases i with
    | zero => exact ⟨Nat.two_pow_pos n, Nat.two_pow_pos n, Nat.and_self 0⟩
    | succ i =>
      have ih := way_pl ht h i (by omega)
      have hb := plc_bd t h i
      have h2 : 2 ^ (i + 1) ≤ 2 ^ n := Nat.pow_le_pow_right (by omega) (by omega)
      have h0 : 1 ≤ 2 ^ i := Nat.one_le_two_pow
      have hq := tree_in ht (p := plc t h i) (by omega) (by omega)
      cases hb : h.testBit (qN t (plc t h i)) with
      | true => rw [yess_yes hb, noes_yes hb]; exact ih.1.yes hq.2.2.2 (ih.2 (by omega))
      | false => rw [yess_no hb, noes_no hb]; exact ih.1.no hq.2.2.2 (ih.2 (by omega))
theorem way_left {n : Nat} (hn : n ≤ 6) {t : List Int} (ht : treeOk n t = true) (h : Nat) : ∀ i, i ≤ n → lefts n (yess t h i) (noes t h i) + i = n
  | 0, _ => by
    show lefts n 0 0 + 0 = n
    unfold lefts frees
    rw [List.filter_eq_self.2 (fun v _ => by simp)]
    simp
  | i + 1, hi => by
    have ih := way_left hn ht h i (by omega)
    have hp := way_pl ht h i (by omega)
    have hb := plc_bd t h i
    have h2 : 2 ^ (i + 1) ≤ 2 ^ n := Nat.pow_le_pow_right (by omega) (by omega)
    have h0 : 1 ≤ 2 ^ i := Nat.one_le_two_pow
    have hq := tree_in ht (p := plc t h i) (by omega) (by omega)
    cases hb : h.testBit (qN t (plc t h i)) with
    | true =>
      rw [yess_yes hb, noes_yes hb]
      have := lefts_p hn hp.1 hq.2.2.2 (hp.2 (by omega))
      omega
    | false =>
      rw [yess_no hb, noes_no hb]
      have := lefts_q hn hp.1 hq.2.2.2 (hp.2 (by omega))
      omega
/-- told behind i answers -/
def toldAt (n : Nat) (xs t : List Int) (h i : Nat) : Bool := decide (0 ≤ toldV n xs (yess t h i) (noes t h i))
theorem toldAt_end {n : Nat} (hn : n ≤ 6) {xs t : List Int} (ht : treeOk n t = true) (h : Nat) : toldAt n xs t h n = true := by
  unfold toldAt
  rw [decide_eq_true_eq]
  exact told_all (way_pl ht h n (Nat.le_refl _)).1 (by have := way_left hn ht h n (Nat.le_refl _); omega)
/-- the first of k places at which it is told -/
def firstTold (n : Nat) (xs t : List Int) (h k : Nat) : Nat := (List.range k).findIdx (toldAt n xs t h)
theorem firstTold_hit {n : Nat} {xs t : List Int} {h i k : Nat} (hi : i < k) (h0 : ∀ j, j < i → toldAt n xs t h j = false) (h1 : toldAt n xs t h i = true) : firstTold n xs t h k = i := by
  unfold firstTold
  rw [List.findIdx_eq (by simpa using hi)]
  refine ⟨by simpa using h1, fun j hj => ?_⟩
  have := h0 j hj
  simpa using this
theorem firstTold_none {n : Nat} {xs t : List Int} {h k : Nat} (h0 : ∀ j, j < k → toldAt n xs t h j = false) : firstTold n xs t h k = k := by
  unfold firstTold
  have := List.findIdx_eq_length (p := toldAt n xs t h) (xs := List.range k)
  rw [List.length_range] at this
  rw [this]
  intro x hx
  exact h0 x (List.mem_range.1 hx)
theorem firstTold_le (n : Nat) (xs t : List Int) (h k : Nat) : firstTold n xs t h k ≤ k := by
  unfold firstTold
  have := List.findIdx_le_length (p := toldAt n xs t h) (xs := List.range k)
  rwa [List.length_range] at this
/-- how many questions are needed -/
def neededV (n : Nat) (xs t : List Int) (h : Nat) : Nat := firstTold n xs t h n
end Go.Proofs.Ytpcjbdkdpcgdiaa.H
