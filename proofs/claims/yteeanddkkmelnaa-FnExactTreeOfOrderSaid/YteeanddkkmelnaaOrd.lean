/- Orders and their trees: the plain law of TreeOfOrder. -/
import Derived.Test.YteeanddkkmelnaaTree
namespace Go.Proofs.Yteeanddkkmelnaa.H
open Go.RowKit Go.Proofs.YteeanddkkmelnaaW.PrintWords Go.Proofs.YteeanddkkmelnaaW.PrintLast Go.Proofs.YteeanddkkmelnaaW.PrintMore
set_option linter.unusedVariables false
set_option linter.unusedSimpArgs false

/-- the tree that asks in an order -/
def treeTo (o : List Int) (k : Nat) : List Int := (List.range k).map fun i => o.getD (Nat.log2 (i + 1)) 0
theorem treeTo_succ (o : List Int) (k : Nat) : treeTo o (k + 1) = treeTo o k ++ [o.getD (Nat.log2 (k + 1)) 0] := by
  unfold treeTo; rw [List.range_succ, List.map_append]; rfl
theorem treeTo_len (o : List Int) (k : Nat) : (treeTo o k).length = k := by unfold treeTo; simp
/-- the numbers seen -/
def seenTo (o : List Int) : Nat := o.foldl (fun s v => s ||| 2 ^ v.toNat) 0
/-- each comes once -/
def onceB : List Int → Bool
  | [] => true
  | a :: r => !decide (a ∈ r) && onceB r
/-- an order of n -/
def ordOk (n : Nat) (o : List Int) : Bool := o.all (inTree n) && (decide (o.length = n) && decide (seenTo o = 2 ^ n - 1))

/-- all lists of k numbers below n -/
def listsOf (n : Nat) : Nat → List (List Nat)
  | 0 => [[]]
  | k + 1 => (listsOf n k).flatMap fun r => (List.range n).map fun a => a :: r
def seenN (o : List Nat) : Nat := o.foldl (fun s v => s ||| 2 ^ v) 0
def onceN : List Nat → Bool
  | [] => true
  | a :: r => !(r.elem a) && onceN r
set_option maxRecDepth 1000000 in
theorem once_all : ∀ n, n < 7 → (listsOf n n).all (fun o => (seenN o == 2 ^ n - 1) == onceN o) = true := by decide +kernel
theorem listsOf_mem {n : Nat} : ∀ (o : List Nat), (∀ v ∈ o, v < n) → o ∈ listsOf n o.length
  | [], _ => by simp [listsOf]
  | a :: r, h => by
    have h1 := listsOf_mem r (fun v hv => h v (List.mem_cons_of_mem _ hv))
    simp only [List.length_cons, listsOf, List.mem_flatMap]
    exact ⟨r, h1, List.mem_map.2 ⟨a, List.mem_range.2 (h a List.mem_cons_self), rfl⟩⟩
theorem seen_nat (o : List Int) : seenTo o = seenN (o.map Int.toNat) := by unfold seenTo seenN; rw [List.foldl_map]
theorem once_nat : ∀ (o : List Int), (∀ v ∈ o, 0 ≤ v) → onceB o = onceN (o.map Int.toNat)
  | [], _ => rfl
  | a :: r, h => by
    unfold onceB
    rw [List.map_cons]
    unfold onceN
    rw [once_nat r (fun v hv => h v (List.mem_cons_of_mem _ hv))]
    congr 2
    have ha := h a List.mem_cons_self
    rw [Bool.eq_iff_iff, decide_eq_true_eq, List.elem_eq_mem, decide_eq_true_eq, List.mem_map]
    constructor
    · intro hm; exact ⟨a, hm, rfl⟩
    · rintro ⟨b, hb, e⟩
      have := h b (List.mem_cons_of_mem _ hb)
      have : a = b := by omega
      rw [this]; exact hb
theorem seen_once {n : Nat} {o : List Int} (hn : n ≤ 6) (hl : o.length = n) (hin : o.all (inTree n) = true) : decide (seenTo o = 2 ^ n - 1) = onceB o := by
  have hb : ∀ v ∈ o, 0 ≤ v ∧ v ≤ (n : Int) - 1 := fun v hv => by
    have := List.all_eq_true.1 hin v hv
    unfold inTree at this
    simpa using this
  have h1 := List.all_eq_true.1 (once_all n (by omega)) (o.map Int.toNat) (by
    have := listsOf_mem (n := n) (o.map Int.toNat) (fun v hv => by
      obtain ⟨x, hx, rfl⟩ := List.mem_map.1 hv
      have := hb x hx; omega)
    rwa [List.length_map, hl] at this)
  rw [beq_iff_eq] at h1
  rw [seen_nat, once_nat o (fun v hv => (hb v hv).1), ← h1]
  rw [Bool.eq_iff_iff, decide_eq_true_eq, beq_iff_eq]
theorem once_ne : ∀ {o : List Int}, onceB o = true → ∀ i j, i < j → j < o.length → o.getD i 0 ≠ o.getD j 0
  | [], _, i, j, _, hj => by simp at hj
  | a :: r, h, i, j, hij, hj => by
    unfold onceB at h
    simp only [Bool.and_eq_true, Bool.not_eq_true', decide_eq_false_iff_not] at h
    match j, hij with
    | j + 1, hij =>
      have hjr : j < r.length := by simpa using hj
      have hmem : r.getD j 0 ∈ r := by
        rw [List.getD_eq_getElem?_getD, List.getElem?_eq_getElem hjr]; simp
      match i with
      | 0 =>
        intro e
        apply h.1
        have e' : a = r.getD j 0 := by simpa using e
        rw [e']; exact hmem
      | i + 1 =>
        have := once_ne h.2 i j (by omega) hjr
        simpa using this
theorem once_eq : ∀ {o : List Int}, onceB o = false → ∃ i j, i < j ∧ j < o.length ∧ o.getD i 0 = o.getD j 0
  | [], h => by simp [onceB] at h
  | a :: r, h => by
    unfold onceB at h
    cases hm : decide (a ∈ r) with
    | true =>
      rw [decide_eq_true_eq] at hm
      obtain ⟨k, hk, e⟩ := List.getElem_of_mem hm
      refine ⟨0, k + 1, by omega, by simpa using hk, ?_⟩
      simp [hk, e]
    | false =>
      rw [hm] at h
      obtain ⟨i, j, h1, h2, h3⟩ := once_eq (o := r) (by simpa using h)
      exact ⟨i + 1, j + 1, by omega, by simpa using h2, by simpa using h3⟩
theorem qAt_tree (o : List Int) {k p : Nat} (h1 : 1 ≤ p) (h2 : p ≤ k) : qAt (treeTo o k) p = o.getD (Nat.log2 p) 0 := by
  unfold qAt treeTo
  rw [List.getD_eq_getElem?_getD, List.getElem?_map, List.getElem?_range (by omega)]
  simp only [Option.map_some, Option.getD_some]
  rw [show p - 1 + 1 = p by omega]
theorem log2_half {p : Nat} (h : 2 ≤ p) : Nat.log2 p = Nat.log2 (p / 2) + 1 := by
  rw [Nat.log2_def, if_pos h]
theorem log2_lt {n p : Nat} (hn : n ≤ 6) (h1 : 1 ≤ p) (h2 : p < 2 ^ n) : Nat.log2 p < n := (Nat.log2_lt (by omega)).2 h2
theorem clash_none {o : List Int} {n k p : Nat} (ho : onceB o = true) (hl : o.length = n) (hp : Nat.log2 p < n) (hpk : p ≤ k) (hp1 : 1 ≤ p) : ∀ a, a ≤ p → (1 ≤ a → Nat.log2 a < Nat.log2 p) → clash (treeTo o k) p a = false := by
  intro a
  induction a using Nat.strongRecOn with
  | _ a ih =>
    intro hap hlog
    by_cases h0 : a = 0
    · subst h0; exact clash_zero _ _
    · have ha : 0 < a := by omega
      rw [clash_step ha, qAt_tree o (by omega) (by omega), qAt_tree o hp1 hpk, Bool.or_eq_false_iff]
      refine ⟨?_, ih (a / 2) (by omega) (by omega) (fun h => ?_)⟩
      · rw [beq_eq_false_iff_ne]
        exact once_ne ho _ _ (hlog ha) (by omega)
      · have := hlog ha
        have := log2_half (p := a) (by omega)
        omega
theorem clash_some {o : List Int} {k i j : Nat} (hij : i ≤ j) (J : Nat) (hj : j < J) (hk : 2 ^ J ≤ k) (he : o.getD i 0 = o.getD J 0) : clash (treeTo o k) (2 ^ J) (2 ^ j) = true := by
  have hpos : ∀ e, 0 < 2 ^ e := fun e => Nat.two_pow_pos e
  induction j with
  | zero =>
    obtain rfl : i = 0 := by omega
    rw [clash_step (hpos 0), qAt_tree o (by decide) (by have := hpos J; omega), qAt_tree o (hpos J) hk, Nat.log2_two_pow, Nat.log2_two_pow, he]
    simp
  | succ j ih =>
    rw [clash_step (hpos _)]
    by_cases h : i = j + 1
    · subst h
      have h2 : 2 ^ (j + 1) ≤ 2 ^ J := Nat.pow_le_pow_right (by decide) (by omega)
      rw [qAt_tree o (hpos _) (by omega), qAt_tree o (hpos J) hk, Nat.log2_two_pow, Nat.log2_two_pow, he]
      simp
    · rw [show 2 ^ (j + 1) / 2 = 2 ^ j by rw [Nat.pow_succ]; omega, ih (by omega) (by omega)]
      simp
/-- the law: an order is one whose tree is one -/
theorem tree_order {n : Nat} {o : List Int} (h1 : 1 ≤ n) (hn : n ≤ 6) (hl : o.length = n) : treeOk n (treeTo o (2 ^ n - 1)) = ordOk n o := by
  have hpw : 2 ≤ 2 ^ n := by have := Nat.pow_le_pow_right (n := 2) (by decide) h1; simpa using this
  have hlen := treeTo_len o (2 ^ n - 1)
  unfold ordOk
  cases hin : o.all (inTree n) with
  | false =>
    rw [Bool.false_and]
    rw [List.all_eq_false] at hin
    obtain ⟨v, hv, hnv⟩ := hin
    obtain ⟨d, hd, e⟩ := List.getElem_of_mem hv
    have hd2 : 2 ^ d < 2 ^ n := Nat.pow_lt_pow_right (by decide) (by omega)
    have hp := Nat.two_pow_pos d
    refine treeOk_false2 (i := 2 ^ d - 1) (by rw [hlen]; omega) ?_
    rw [show 2 ^ d - 1 + 1 = 2 ^ d by omega, qAt_tree o (by omega) (by omega), Nat.log2_two_pow, List.getD_eq_getElem?_getD, List.getElem?_eq_getElem hd, Option.getD_some, e]
    simpa using hnv
  | true =>
    rw [Bool.true_and, decide_eq_true hl, Bool.true_and, seen_once hn hl hin]
    cases ho : onceB o with
    | true =>
      refine treeOk_true (N := 2 ^ n) (by rw [hlen]; omega) rfl ?_ ?_
      · refine inTree_all (fun j hj => ?_)
        rw [hlen] at hj
        rw [qAt_tree o (by omega) (by omega)]
        have hlg := log2_lt hn (p := j + 1) (by omega) (by omega)
        rw [List.getD_eq_getElem?_getD, List.getElem?_eq_getElem (by omega), Option.getD_some]
        exact List.all_eq_true.1 hin _ (List.getElem_mem _)
      · intro j hj
        rw [hlen] at hj
        refine clash_none ho hl (log2_lt hn (by omega) (by omega)) (by omega) (by omega) _ (by omega) (fun h => ?_)
        have := log2_half (p := j + 1) (by omega)
        omega
    | false =>
      obtain ⟨i, J, hij, hJ, he⟩ := once_eq ho
      have hd2 : 2 ^ J < 2 ^ n := Nat.pow_lt_pow_right (by decide) (by omega)
      have hp := Nat.two_pow_pos J
      refine treeOk_false (i := 2 ^ J - 1) (by rw [hlen]; omega) ?_
      rw [show 2 ^ J - 1 + 1 = 2 ^ J by omega]
      obtain ⟨j, rfl⟩ : ∃ j, J = j + 1 := ⟨J - 1, by omega⟩
      rw [show 2 ^ (j + 1) / 2 = 2 ^ j by rw [Nat.pow_succ]; omega]
      exact clash_some (i := i) (by omega) (j + 1) (by omega) (by omega) he
end Go.Proofs.Yteeanddkkmelnaa.H
