/- Maps as numbers: the digits of a number, and the next number. -/
import Derived.Test.YteeanddkkmelnaaSimp
namespace Go.Proofs.Yteeanddkkmelnaa.H
set_option linter.unusedVariables false
set_option linter.unusedSimpArgs false

/-- the first n digits of c to the base m, the least first -/
def dg (m : Nat) : Nat → Nat → List Int
  | 0, _ => []
  | n + 1, c => ((c % m : Nat) : Int) :: dg m n (c / m)
theorem dg_len (m : Nat) : ∀ n c, (dg m n c).length = n
  | 0, _ => rfl
  | n + 1, c => by unfold dg; rw [List.length_cons, dg_len m n]
theorem dg_bd {m : Nat} (hm : 0 < m) : ∀ n c, ∀ x ∈ dg m n c, 0 ≤ x ∧ x ≤ (m : Int) - 1
  | 0, _ => fun x hx => by cases hx
  | n + 1, c => fun x hx => by
    unfold dg at hx
    rcases List.mem_cons.1 hx with rfl | hx
    · have := Nat.mod_lt c hm; omega
    · exact dg_bd hm n _ x hx
theorem dg_mp {m : Nat} (hm : 0 < m) (n c : Nat) : Mp n m (dg m n c) := ⟨dg_len m n c, dg_bd hm n c⟩
theorem dg_snoc (m : Nat) : ∀ n c, dg m (n + 1) c = dg m n c ++ [((c / m ^ n % m : Nat) : Int)]
  | 0, c => by simp [dg]
  | n + 1, c => by
    have h := dg_snoc m n (c / m)
    rw [Nat.div_div_eq_div_mul] at h
    show ((c % m : Nat) : Int) :: dg m (n + 1) (c / m) = (((c % m : Nat) : Int) :: dg m n (c / m)) ++ _
    rw [h, List.cons_append, Nat.pow_succ, Nat.mul_comm m]
theorem dg_zero (m : Nat) : ∀ n, dg m n 0 = List.replicate n 0
  | 0 => rfl
  | n + 1 => by
    unfold dg
    rw [Nat.zero_mod, Nat.zero_div, dg_zero m n]
    rfl
theorem next_dg {m : Nat} (hm : 0 < m) : ∀ (n c i : Nat), i < n → (∀ j, j < i → (dg m n c).getD j 0 = (m : Int) - 1) → (dg m n c).getD i 0 ≠ (m : Int) - 1 →
    (List.replicate i 0 ++ (dg m n c).drop i).set i ((dg m n c).getD i 0 + 1) = dg m n (c + 1) ∧ (c < m ^ n → c + 1 < m ^ n)
  | 0, _, _, h, _, _ => by omega
  | n + 1, c, 0, _, _, hne => by
    have hmod := Nat.mod_lt c hm
    have hc := Nat.div_add_mod c m
    have h0 : (dg m (n + 1) c).getD 0 0 = ((c % m : Nat) : Int) := rfl
    rw [h0] at hne ⊢
    have hlt : c % m + 1 < m := by omega
    have e1 : (c + 1) % m = c % m + 1 := by
      rw [Nat.add_mod, Nat.mod_eq_of_lt (show 1 < m by omega), Nat.mod_eq_of_lt hlt]
    have e2 : (c + 1) / m = c / m := by
      have h1 := Nat.div_add_mod (c + 1) m
      rw [e1] at h1
      have : m * ((c + 1) / m) = m * (c / m) := by omega
      exact Nat.eq_of_mul_eq_mul_left hm this
    refine ⟨?_, fun h => ?_⟩
    · show (((c % m : Nat) : Int) + 1) :: dg m n (c / m) = ((((c + 1) % m : Nat)) : Int) :: dg m n ((c + 1) / m)
      rw [e1, e2]; rfl
    · rw [Nat.pow_succ] at h ⊢
      have h3 : c / m < m ^ n := Nat.div_lt_of_lt_mul (by rw [Nat.mul_comm]; exact h)
      have h4 : m * (c / m) + m ≤ m * m ^ n := by
        have := Nat.mul_le_mul_left m h3
        rw [Nat.mul_succ] at this; exact this
      rw [Nat.mul_comm (m ^ n)]
      omega
  | n + 1, c, i + 1, hi, hall, hne => by
    have hc := Nat.div_add_mod c m
    have h0 := hall 0 (Nat.succ_pos i)
    have h0' : ((c % m : Nat) : Int) = (m : Int) - 1 := h0
    have hmm : c % m = m - 1 := by omega
    have ih := next_dg hm n (c / m) i (by omega) (fun j hj => hall (j + 1) (by omega)) hne
    have e0 : m * (c / m + 1) = c + 1 := by rw [Nat.mul_succ]; omega
    have e1 : (c + 1) % m = 0 := by rw [← e0, Nat.mul_mod_right]
    have e2 : (c + 1) / m = c / m + 1 := by rw [← e0, Nat.mul_div_cancel_left _ hm]
    refine ⟨?_, fun h => ?_⟩
    · show (0 : Int) :: ((List.replicate i 0 ++ (dg m n (c / m)).drop i).set i ((dg m n (c / m)).getD i 0 + 1)) = ((((c + 1) % m : Nat)) : Int) :: dg m n ((c + 1) / m)
      rw [ih.1, e1, e2]; rfl
    · rw [Nat.pow_succ] at h ⊢
      have h3 : c / m < m ^ n := Nat.div_lt_of_lt_mul (by rw [Nat.mul_comm]; exact h)
      have h4 := ih.2 h3
      have h5 := Nat.mul_lt_mul_of_pos_left h4 hm
      rw [Nat.mul_comm (m ^ n)]
      omega
theorem last_dg {m : Nat} (hm : 0 < m) : ∀ (n c : Nat), (∀ j, j < n → (dg m n c).getD j 0 = (m : Int) - 1) → c < m ^ n → c + 1 = m ^ n
  | 0, c, _, h => by rw [Nat.pow_zero] at h ⊢; omega
  | n + 1, c, hall, h => by
    have hc := Nat.div_add_mod c m
    have h0 := hall 0 (Nat.succ_pos n)
    have h0' : ((c % m : Nat) : Int) = (m : Int) - 1 := h0
    rw [Nat.pow_succ] at h ⊢
    have h3 : c / m < m ^ n := Nat.div_lt_of_lt_mul (by rw [Nat.mul_comm]; exact h)
    have ih := last_dg hm n (c / m) (fun j hj => hall (j + 1) (by omega)) h3
    have e0 : m * (c / m + 1) = c + 1 := by rw [Nat.mul_succ]; omega
    rw [ih] at e0
    rw [Nat.mul_comm, e0]
/-- how many of the first C maps are simplicial -/
def cntTo (xs ys : List Int) (n m C : Nat) : Nat := (List.range C).countP fun c => simpOk xs ys (dg m n c)
theorem cntTo_succ (xs ys : List Int) (n m C : Nat) : cntTo xs ys n m (C + 1) = if simpOk xs ys (dg m n C) then cntTo xs ys n m C + 1 else cntTo xs ys n m C := by
  unfold cntTo
  rw [List.range_succ, List.countP_append]
  by_cases h : simpOk xs ys (dg m n C) = true <;> simp [h]
theorem cntTo_le (xs ys : List Int) (n m C : Nat) : cntTo xs ys n m C ≤ C := by
  unfold cntTo
  exact Nat.le_trans List.countP_le_length (by simp)
/-- what CountSimplicial answers -/
def ansCountSimplicial (a : Int) (xs : List Int) (b : Int) (ys : List Int) : Int × Int :=
  if cxOk a xs && cxOk b ys then (if decide (a ≤ 5) && decide (b ≤ 4) then ((cntTo xs ys a.toNat b.toNat (b.toNat ^ a.toNat) : Nat), 0) else (0, 2)) else (0, 1)
theorem pow_le_1024 : ∀ m, m < 5 → ∀ n, n < 6 → m ^ n ≤ 1024 := by decide
end Go.Proofs.Yteeanddkkmelnaa.H
