/- Best trees: the plain law. -/
import Derived.Test.YtpcjbdkdpcgdiaaNeed
import Derived.Test.YtpcjbdkdpcgdiaaWay
namespace Go.Proofs.Ytpcjbdkdpcgdiaa.H
open Go.RowKit Go.Proofs.YtpcjbdkdpcgdiaaW.PrintWords Go.Proofs.YtpcjbdkdpcgdiaaW.PrintLast Go.Proofs.YtpcjbdkdpcgdiaaW.PrintMore
set_option linter.unusedVariables false
set_option linter.unusedSimpArgs false

/-- a question that keeps the least number -/
def pickV (n : Nat) (xs : List Int) (p q v : Nat) : Bool := !(p ||| q).testBit v && (lefts n p q == 1 || leastAt n xs p q v == leastV n xs p q)
def bestQ (n : Nat) (xs : List Int) (p q : Nat) : Nat := (List.range n).findIdx (pickV n xs p q)
theorem pick_byV {n : Nat} {xs : List Int} {p q v : Nat} (hf : (p ||| q).testBit v = false) : pickV n xs p q v = (byV n xs p q v == leastV n xs p q) := by
  unfold pickV byV
  rw [hf]
  by_cases h1 : lefts n p q = 1
  · rw [if_pos h1, h1]
    by_cases ht : 0 ≤ toldV n xs p q
    · rw [if_pos ht, leastV_told ht]; rfl
    · rw [if_neg ht, leastV_last ht h1]; rfl
  · rw [if_neg h1]
    have : (lefts n p q == 1) = false := by rw [beq_eq_false_iff_ne]; exact h1
    rw [this]; rfl
theorem pick_some {n : Nat} (hn : n ≤ 6) {xs : List Int} {p q : Nat} (hp : Pl n p q) (h0 : lefts n p q ≠ 0) : ∃ v, v < n ∧ pickV n xs p q v = true := by
  have hne : frees (p ||| q) n ≠ [] := by intro h; apply h0; unfold lefts; rw [h]; rfl
  obtain ⟨v0, hv0⟩ := List.exists_mem_of_ne_nil _ hne
  have hv0' := frees_mem.1 hv0
  by_cases h1 : lefts n p q = 1
  · exact ⟨v0, hv0'.1, by unfold pickV; rw [hv0'.2, h1]; rfl⟩
  · by_cases ht : 0 ≤ toldV n xs p q
    · refine ⟨v0, hv0'.1, ?_⟩
      unfold pickV leastAt
      rw [hv0'.2, leastV_told ht, leastV_told (told_p ht), leastV_told (told_q ht)]
      simp
    · have e := leastV_open hn hp ht h1
      rcases leastOf_at 64 (frees (p ||| q) n) (leastAt n xs p q) with h2 | ⟨v, hv, h2⟩
      · have h3 : leastTo n xs p q n ≤ leastAt n xs p q v0 := leastOf_le.2 v0 hv0
        have i1 := leastV_pow hn xs (hp.yes hv0'.1 hv0'.2)
        have i2 := leastV_pow hn xs (hp.no hv0'.1 hv0'.2)
        have e1 := lefts_p hn hp hv0'.1 hv0'.2
        have e2 := lefts_q hn hp hv0'.1 hv0'.2
        have hb6 : lefts n p q ≤ 6 := Nat.le_trans (frees_len _ _) hn
        have hh : 2 ^ (lefts n p q - 1) ≤ 2 ^ 5 := Nat.pow_le_pow_right (by omega) (by omega)
        rw [show lefts n (p ||| 2 ^ v0) q = lefts n p q - 1 by omega] at i1
        rw [show lefts n p (q ||| 2 ^ v0) = lefts n p q - 1 by omega] at i2
        have h4 : leastTo n xs p q n = 64 := h2
        have h5 : leastAt n xs p q v0 = leastV n xs (p ||| 2 ^ v0) q + leastV n xs p (q ||| 2 ^ v0) := rfl
        refine ⟨v0, hv0'.1, ?_⟩
        unfold pickV
        have h6 : (leastAt n xs p q v0 == leastV n xs p q) = true := by rw [beq_iff_eq, e]; omega
        rw [hv0'.2, h6, Bool.or_true]; rfl
      · have hv' := frees_mem.1 hv
        refine ⟨v, hv'.1, ?_⟩
        unfold pickV
        have h6 : (leastAt n xs p q v == leastV n xs p q) = true := by rw [beq_iff_eq, e]; exact h2.symm
        rw [hv'.2, h6, Bool.or_true]; rfl
theorem bestQ_lt {n : Nat} (hn : n ≤ 6) {xs : List Int} {p q : Nat} (hp : Pl n p q) (h0 : lefts n p q ≠ 0) : bestQ n xs p q < n ∧ pickV n xs p q (bestQ n xs p q) = true ∧ ∀ j, j < bestQ n xs p q → pickV n xs p q j = false := by
  obtain ⟨v, hv, hpv⟩ := pick_some hn (xs := xs) hp h0
  unfold bestQ
  have hlt : (List.range n).findIdx (pickV n xs p q) < (List.range n).length := List.findIdx_lt_length.2 ⟨v, List.mem_range.2 hv, hpv⟩
  rw [List.length_range] at hlt
  have h1 : (List.range n).findIdx (pickV n xs p q) = (List.range n).findIdx (pickV n xs p q) := rfl
  rw [List.findIdx_eq (by simpa using hlt)] at h1
  refine ⟨hlt, by simpa using h1.1, fun j hj => ?_⟩
  have := h1.2 j hj
  simpa using this
theorem bestQ_free {n : Nat} (hn : n ≤ 6) {xs : List Int} {p q : Nat} (hp : Pl n p q) (h0 : lefts n p q ≠ 0) : (p ||| q).testBit (bestQ n xs p q) = false := by
  have h := (bestQ_lt hn (xs := xs) hp h0).2.1
  unfold pickV at h
  rw [Bool.and_eq_true] at h
  simpa using h.1
theorem bestQ_eq {n : Nat} {xs : List Int} {p q v : Nat} (hv : v < n) (h1 : pickV n xs p q v = true) (h0 : ∀ j, j < v → pickV n xs p q j = false) : bestQ n xs p q = v := by
  unfold bestQ
  rw [List.findIdx_eq (by simpa using hv)]
  refine ⟨by simpa using h1, fun j hj => ?_⟩
  have := h0 j hj
  simpa using this
/-- what was asked above a place of the best tree -/
def stq (n : Nat) (xs : List Int) (x : Nat) : Nat × Nat :=
  if h : x ≤ 1 then (0, 0) else
    let s := stq n xs (x / 2)
    if x % 2 = 1 then (s.1 ||| 2 ^ bestQ n xs s.1 s.2, s.2) else (s.1, s.2 ||| 2 ^ bestQ n xs s.1 s.2)
termination_by x
decreasing_by omega
theorem stq_one (n : Nat) (xs : List Int) : stq n xs 1 = (0, 0) := by rw [stq]; rfl
/-- the question at a place of the best tree -/
def bq (n : Nat) (xs : List Int) (x : Nat) : Nat := bestQ n xs (stq n xs x).1 (stq n xs x).2
theorem stq_odd {n : Nat} {xs : List Int} {x : Nat} (h : ¬ x ≤ 1) (h2 : x % 2 = 1) : stq n xs x = ((stq n xs (x / 2)).1 ||| 2 ^ bq n xs (x / 2), (stq n xs (x / 2)).2) := by
  conv => lhs; rw [stq]
  rw [dif_neg h]
  simp only
  rw [if_pos h2]; rfl
theorem stq_even {n : Nat} {xs : List Int} {x : Nat} (h : ¬ x ≤ 1) (h2 : ¬ x % 2 = 1) : stq n xs x = ((stq n xs (x / 2)).1, (stq n xs (x / 2)).2 ||| 2 ^ bq n xs (x / 2)) := by
  conv => lhs; rw [stq]
  rw [dif_neg h]
  simp only
  rw [if_neg h2]; rfl
theorem stq_pl {n : Nat} (hn : n ≤ 6) (xs : List Int) : ∀ i x, i ≤ n → 2 ^ i ≤ x → x < 2 ^ (i + 1) → Pl n (stq n xs x).1 (stq n xs x).2 ∧ lefts n (stq n xs x).1 (stq n xs x).2 + i = n
  | 0, x, _, h1, h2 => by
    obtain rfl : x = 1 := by omega
    rw [stq_one]
    refine ⟨⟨Nat.two_pow_pos n, Nat.two_pow_pos n, Nat.and_self 0⟩, ?_⟩
    show lefts n 0 0 + 0 = n
    unfold lefts frees
    rw [List.filter_eq_self.2 (fun v _ => by simp)]
    simp
  | i + 1, x, hi, h1, h2 => by
    rw [Nat.pow_succ] at h1
    rw [Nat.pow_succ] at h2
    have h0 : 1 ≤ 2 ^ i := Nat.one_le_two_pow
    have ih := stq_pl hn xs i (x / 2) (by omega) (by omega) (by rw [Nat.pow_succ] at h2 ⊢; omega)
    have hne : lefts n (stq n xs (x / 2)).1 (stq n xs (x / 2)).2 ≠ 0 := by omega
    have hlt := (bestQ_lt hn (xs := xs) ih.1 hne).1
    have hfr := bestQ_free hn (xs := xs) ih.1 hne
    by_cases hx : x % 2 = 1
    · rw [stq_odd (by omega) hx]
      exact ⟨ih.1.yes hlt hfr, (by have := lefts_p hn ih.1 hlt hfr; omega : lefts n ((stq n xs (x / 2)).1 ||| 2 ^ bestQ n xs (stq n xs (x / 2)).1 (stq n xs (x / 2)).2) (stq n xs (x / 2)).2 + (i + 1) = n)⟩
    · rw [stq_even (by omega) hx]
      exact ⟨ih.1.no hlt hfr, (by have := lefts_q hn ih.1 hlt hfr; omega : lefts n (stq n xs (x / 2)).1 ((stq n xs (x / 2)).2 ||| 2 ^ bestQ n xs (stq n xs (x / 2)).1 (stq n xs (x / 2)).2) + (i + 1) = n)⟩
/-- the best tree, and its first k places -/
def bestTo' (n : Nat) (xs : List Int) (k : Nat) : List Int := (List.range k).map fun i => (bq n xs (i + 1) : Int)
theorem bestTo'_succ (n : Nat) (xs : List Int) (k : Nat) : bestTo' n xs (k + 1) = bestTo' n xs k ++ [(bq n xs (k + 1) : Int)] := by unfold bestTo'; rw [List.range_succ, List.map_append]; rfl
theorem bestTo'_len (n : Nat) (xs : List Int) (k : Nat) : (bestTo' n xs k).length = k := by unfold bestTo'; simp
theorem bestTo'_get {n : Nat} {xs : List Int} {k i : Nat} (h : i < k) : (bestTo' n xs k).getD i 0 = (bq n xs (i + 1) : Int) := by unfold bestTo'; simp [List.getD_eq_getElem?_getD, h]
def bestL (n : Nat) (xs : List Int) : List Int := bestTo' n xs (2 ^ n - 1)
/-- what BestTree answers -/
def ansBestTree (a : Int) (xs : List Int) : List Int × Int := if cxOk a xs then (bestL a.toNat xs, 0) else ([], 1)
theorem lenBestTree (a : Int) (xs : List Int) : (ansBestTree a xs).1.length ≤ 1073741824 := by
  unfold ansBestTree
  split
  · next h =>
    obtain ⟨n, rfl, hc, -⟩ := cxOk_cx h
    have := (pw6 hc.hi).2
    show (bestTo' n xs (2 ^ n - 1)).length ≤ _
    rw [bestTo'_len]
    omega
  · simp
/-- a level of places -/
theorem level_of {n x : Nat} (h1 : 1 ≤ x) (h2 : x < 2 ^ n) : ∃ i, i < n ∧ 2 ^ i ≤ x ∧ x < 2 ^ (i + 1) := by
  induction n with
  | zero => rw [Nat.pow_zero] at h2; omega
  | succ n ih =>
    by_cases h : x < 2 ^ n
    · obtain ⟨i, hi, a, b⟩ := ih h
      exact ⟨i, by omega, a, b⟩
    · exact ⟨n, by omega, by omega, h2⟩
theorem bq_lt {n : Nat} (hn : n ≤ 6) (xs : List Int) {x : Nat} (h1 : 1 ≤ x) (h2 : x < 2 ^ n) : bq n xs x < n := by
  obtain ⟨i, hi, a, b⟩ := level_of h1 h2
  have := stq_pl hn xs i x (by omega) a b
  exact (bestQ_lt hn this.1 (by omega)).1
end Go.Proofs.Ytpcjbdkdpcgdiaa.H
