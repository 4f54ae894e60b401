/- Numbers of questions and of evaders: the plain law. -/
import Derived.Test.YtpcjbdkdpcgdiaaGameI
namespace Go.Proofs.Ytpcjbdkdpcgdiaa.H
open Go.RowKit Go.Proofs.YtpcjbdkdpcgdiaaW.PrintWords Go.Proofs.YtpcjbdkdpcgdiaaW.PrintLast Go.Proofs.YtpcjbdkdpcgdiaaW.PrintMore
set_option linter.unusedVariables false
set_option linter.unusedSimpArgs false

/-- the numbers below i that m has not -/
def frees (m i : Nat) : List Nat := (List.range i).filter fun v => !m.testBit v
theorem frees_hit {m i : Nat} (h : m.testBit i = false) : frees m (i + 1) = frees m i ++ [i] := by
  unfold frees; rw [List.range_succ, List.filter_append]; simp [h]
theorem frees_miss {m i : Nat} (h : m.testBit i = true) : frees m (i + 1) = frees m i := by
  unfold frees; rw [List.range_succ, List.filter_append]; simp [h]
theorem frees_mem {m i v : Nat} : v ∈ frees m i ↔ v < i ∧ m.testBit v = false := by
  unfold frees; rw [List.mem_filter, List.mem_range]; simp
theorem frees_or : ∀ n, n ≤ 6 → ∀ m, m < 64 → ∀ v, v < n → m.testBit v = false → (frees (m ||| 2 ^ v) n).length + 1 = (frees m n).length := by decide +kernel
theorem frees_len (m n : Nat) : (frees m n).length ≤ n := by
  unfold frees; exact Nat.le_trans (List.length_filter_le _ _) (by simp)
theorem or_lt64 {a b : Nat} (ha : a < 64) (hb : b < 64) : a ||| b < 64 := Nat.or_lt_two_pow (n := 6) ha hb
theorem pow_lt64 {v : Nat} (h : v < 6) : 2 ^ v < 64 := by
  have := pow_bd v (by omega); omega

/-- least numbers over lists -/
def leastOf (b : Int) (l : List Nat) (f : Nat → Int) : Int := l.foldl (fun b v => min b (f v)) b
theorem leastOf_snoc (b : Int) (l : List Nat) (f : Nat → Int) (v : Nat) : leastOf b (l ++ [v]) f = min (leastOf b l f) (f v) := by
  unfold leastOf; rw [List.foldl_append]; rfl
theorem leastOf_congr {b : Int} {l : List Nat} {f g : Nat → Int} (h : ∀ v ∈ l, f v = g v) : leastOf b l f = leastOf b l g := by
  unfold leastOf
  induction l generalizing b with
  | nil => rfl
  | cons a r ih =>
    rw [List.foldl_cons, List.foldl_cons, h a List.mem_cons_self]
    exact ih (fun v hv => h v (List.mem_cons_of_mem _ hv))
theorem leastOf_le {b : Int} {l : List Nat} {f : Nat → Int} : leastOf b l f ≤ b ∧ ∀ v ∈ l, leastOf b l f ≤ f v := by
  unfold leastOf
  induction l generalizing b with
  | nil => exact ⟨Int.le_refl _, fun v hv => by cases hv⟩
  | cons a r ih =>
    rw [List.foldl_cons]
    have h := ih (b := min b (f a))
    refine ⟨by omega, fun v hv => ?_⟩
    rcases List.mem_cons.1 hv with rfl | hv
    · omega
    · exact h.2 v hv
theorem leastOf_ge {b c : Int} {l : List Nat} {f : Nat → Int} (hb : c ≤ b) (hf : ∀ v ∈ l, c ≤ f v) : c ≤ leastOf b l f := by
  unfold leastOf
  induction l generalizing b with
  | nil => exact hb
  | cons a r ih =>
    rw [List.foldl_cons]
    have := hf a List.mem_cons_self
    exact ih (by omega) (fun v hv => hf v (List.mem_cons_of_mem _ hv))
theorem leastOf_at (b : Int) (l : List Nat) (f : Nat → Int) : leastOf b l f = b ∨ ∃ v ∈ l, leastOf b l f = f v := by
  unfold leastOf
  induction l generalizing b with
  | nil => exact .inl rfl
  | cons a r ih =>
    rw [List.foldl_cons]
    rcases ih (min b (f a)) with h | ⟨v, hv, h⟩
    · rw [h]
      by_cases hc : b ≤ f a
      · exact .inl (by omega)
      · exact .inr ⟨a, List.mem_cons_self, by omega⟩
    · exact .inr ⟨v, List.mem_cons_of_mem _ hv, h⟩

/-! hidden sets -/
theorem hid_mem {p q k h : Nat} : h ∈ hidTo p q k ↔ h < k ∧ h &&& p = p ∧ h &&& q = 0 := by
  unfold hidTo; rw [List.mem_filter, List.mem_range]; simp
theorem hid_p {p q h v : Nat} (h1 : h &&& (p ||| 2 ^ v) = p ||| 2 ^ v) (h2 : h &&& q = 0) : h &&& p = p ∧ h &&& q = 0 := by
  refine ⟨?_, h2⟩
  apply Nat.eq_of_testBit_eq
  intro i
  have := congrArg (fun m : Nat => m.testBit i) h1
  simp only [Nat.testBit_and, Nat.testBit_or] at this ⊢
  cases ha : h.testBit i <;> cases hb : p.testBit i <;> simp_all
theorem hid_q {p q h v : Nat} (h1 : h &&& p = p) (h2 : h &&& (q ||| 2 ^ v) = 0) : h &&& p = p ∧ h &&& q = 0 := by
  refine ⟨h1, ?_⟩
  apply Nat.eq_of_testBit_eq
  intro i
  have := congrArg (fun m : Nat => m.testBit i) h2
  simp only [Nat.testBit_and, Nat.testBit_or, Nat.zero_testBit] at this ⊢
  cases ha : h.testBit i <;> cases hb : q.testBit i <;> simp_all
theorem told_of {n : Nat} {xs : List Int} {p q : Nat} (b : Bool) (h : ∀ h ∈ hidTo p q (2 ^ n), countB xs (h : Int) = b) : 0 ≤ toldV n xs p q := by
  unfold toldV
  cases b with
  | true => rw [if_pos (List.all_eq_true.2 h)]; decide
  | false =>
    split
    · decide
    · rw [if_pos]
      · decide
      · rw [Bool.not_eq_true', List.any_eq_false]
        intro x hx
        rw [h x hx]; decide
theorem told_same {n : Nat} {xs : List Int} {p q : Nat} (h : 0 ≤ toldV n xs p q) : ∃ b, ∀ h ∈ hidTo p q (2 ^ n), countB xs (h : Int) = b := by
  unfold toldV at h
  split at h
  · next h1 => exact ⟨true, List.all_eq_true.1 h1⟩
  · split at h
    · next h2 =>
      rw [Bool.not_eq_true', List.any_eq_false] at h2
      exact ⟨false, fun x hx => by have := h2 x hx; simpa using this⟩
    · omega
theorem told_p {n : Nat} {xs : List Int} {p q v : Nat} (h : 0 ≤ toldV n xs p q) : 0 ≤ toldV n xs (p ||| 2 ^ v) q := by
  obtain ⟨b, hb⟩ := told_same h
  exact told_of b (fun x hx => by
    obtain ⟨h1, h2, h3⟩ := hid_mem.1 hx
    obtain ⟨h4, h5⟩ := hid_p h2 h3
    exact hb x (hid_mem.2 ⟨h1, h4, h5⟩))
theorem told_q {n : Nat} {xs : List Int} {p q v : Nat} (h : 0 ≤ toldV n xs p q) : 0 ≤ toldV n xs p (q ||| 2 ^ v) := by
  obtain ⟨b, hb⟩ := told_same h
  exact told_of b (fun x hx => by
    obtain ⟨h1, h2, h3⟩ := hid_mem.1 hx
    obtain ⟨h4, h5⟩ := hid_q h2 h3
    exact hb x (hid_mem.2 ⟨h1, h4, h5⟩))
/-- places of a game -/
structure Pl (n p q : Nat) : Prop where
  hp : p < 2 ^ n
  hq : q < 2 ^ n
  d : p &&& q = 0
theorem Pl.bit {n p q : Nat} (h : Pl n p q) (v : Nat) : p.testBit v = true → q.testBit v = false := by
  intro hp
  have := congrArg (fun m : Nat => m.testBit v) h.d
  simp only [Nat.testBit_and, hp, Bool.true_and, Nat.zero_testBit] at this
  exact this
theorem Pl.yes {n p q v : Nat} (h : Pl n p q) (hv : v < n) (hf : (p ||| q).testBit v = false) : Pl n (p ||| 2 ^ v) q := by
  refine ⟨Nat.or_lt_two_pow h.hp (Nat.pow_lt_pow_right (by omega) hv), h.hq, ?_⟩
  apply Nat.eq_of_testBit_eq
  intro i
  have h1 := congrArg (fun m : Nat => m.testBit i) h.d
  simp only [Nat.testBit_and, Nat.testBit_or, Nat.zero_testBit, Nat.testBit_two_pow, Bool.or_eq_false_iff] at h1 hf ⊢
  by_cases hi : v = i
  · subst hi; rw [hf.2, Bool.and_false]
  · rw [decide_eq_false hi, Bool.or_false]; exact h1
theorem Pl.no {n p q v : Nat} (h : Pl n p q) (hv : v < n) (hf : (p ||| q).testBit v = false) : Pl n p (q ||| 2 ^ v) := by
  refine ⟨h.hp, Nat.or_lt_two_pow h.hq (Nat.pow_lt_pow_right (by omega) hv), ?_⟩
  apply Nat.eq_of_testBit_eq
  intro i
  have h1 := congrArg (fun m : Nat => m.testBit i) h.d
  simp only [Nat.testBit_and, Nat.testBit_or, Nat.zero_testBit, Nat.testBit_two_pow, Bool.or_eq_false_iff] at h1 hf ⊢
  by_cases hi : v = i
  · subst hi; rw [hf.1, Bool.false_and]
  · rw [decide_eq_false hi, Bool.or_false]; exact h1
theorem Pl.lt {n p q : Nat} (h : Pl n p q) (hn : n ≤ 6) : p < 64 ∧ q < 64 := by
  have := (pw6 hn).2
  exact ⟨Nat.lt_of_lt_of_le h.hp this, Nat.lt_of_lt_of_le h.hq this⟩
theorem or_p (p q v : Nat) : (p ||| 2 ^ v) ||| q = (p ||| q) ||| 2 ^ v := by
  apply Nat.eq_of_testBit_eq; intro i; simp only [Nat.testBit_or]; cases p.testBit i <;> cases q.testBit i <;> simp
theorem or_q (p q v : Nat) : p ||| (q ||| 2 ^ v) = (p ||| q) ||| 2 ^ v := by
  apply Nat.eq_of_testBit_eq; intro i; simp only [Nat.testBit_or]; cases p.testBit i <;> cases q.testBit i <;> simp
/-- how many questions are left -/
def lefts (n p q : Nat) : Nat := (frees (p ||| q) n).length
theorem lefts_p {n p q v : Nat} (hn : n ≤ 6) (h : Pl n p q) (hv : v < n) (hf : (p ||| q).testBit v = false) : lefts n (p ||| 2 ^ v) q + 1 = lefts n p q := by
  unfold lefts; rw [or_p]; have := h.lt hn; exact frees_or n hn _ (or_lt64 this.1 this.2) v hv hf
theorem lefts_q {n p q v : Nat} (hn : n ≤ 6) (h : Pl n p q) (hv : v < n) (hf : (p ||| q).testBit v = false) : lefts n p (q ||| 2 ^ v) + 1 = lefts n p q := by
  unfold lefts; rw [or_q]; have := h.lt hn; exact frees_or n hn _ (or_lt64 this.1 this.2) v hv hf
theorem told_all {n : Nat} {xs : List Int} {p q : Nat} (h : Pl n p q) (h0 : lefts n p q = 0) : 0 ≤ toldV n xs p q := by
  refine told_of (countB xs (p : Int)) (fun x hx => ?_)
  obtain ⟨h1, h2, h3⟩ := hid_mem.1 hx
  have : x = p := by
    apply Nat.eq_of_testBit_eq
    intro i
    have e2 := congrArg (fun m : Nat => m.testBit i) h2
    have e3 := congrArg (fun m : Nat => m.testBit i) h3
    simp only [Nat.testBit_and, Nat.zero_testBit] at e2 e3
    by_cases hi : i < n
    · have hm : ¬ i ∈ frees (p ||| q) n := by
        intro hm
        rw [List.eq_nil_of_length_eq_zero h0] at hm
        cases hm
      rw [frees_mem] at hm
      have hb : (p ||| q).testBit i = true := by
        cases hb : (p ||| q).testBit i with
        | true => rfl
        | false => exact absurd ⟨hi, hb⟩ hm
      rw [Nat.testBit_or] at hb
      cases hp : p.testBit i <;> cases hq : q.testBit i <;> cases hx : x.testBit i <;> simp_all
    · have hp : p.testBit i = false := Nat.testBit_lt_two_pow (Nat.lt_of_lt_of_le h.hp (Nat.pow_le_pow_right (by omega) (by omega)))
      have hx : x.testBit i = false := Nat.testBit_lt_two_pow (Nat.lt_of_lt_of_le h1 (Nat.pow_le_pow_right (by omega) (by omega)))
      rw [hp, hx]
  rw [this]

/-! questions needed -/
def needF (n : Nat) (xs : List Int) : Nat → Nat → Nat → Int
  | 0, _, _ => 0
  | f + 1, p, q => if 0 ≤ toldV n xs p q then 0 else leastOf n (frees (p ||| q) n) fun v => 1 + max (needF n xs f (p ||| 2 ^ v) q) (needF n xs f p (q ||| 2 ^ v))
def needV (n : Nat) (xs : List Int) (p q : Nat) : Int := needF n xs (lefts n p q) p q
def needAt (n : Nat) (xs : List Int) (p q v : Nat) : Int := 1 + max (needV n xs (p ||| 2 ^ v) q) (needV n xs p (q ||| 2 ^ v))
def needTo (n : Nat) (xs : List Int) (p q i : Nat) : Int := leastOf n (frees (p ||| q) i) (needAt n xs p q)
theorem needTo_zero (n : Nat) (xs : List Int) (p q : Nat) : needTo n xs p q 0 = n := rfl
theorem needTo_hit {n : Nat} {xs : List Int} {p q i : Nat} (h : (p ||| q).testBit i = false) : needTo n xs p q (i + 1) = min (needTo n xs p q i) (needAt n xs p q i) := by
  unfold needTo; rw [frees_hit h, leastOf_snoc]
theorem needTo_miss {n : Nat} {xs : List Int} {p q i : Nat} (h : (p ||| q).testBit i = true) : needTo n xs p q (i + 1) = needTo n xs p q i := by
  unfold needTo; rw [frees_miss h]
theorem needF_bd (n : Nat) (xs : List Int) : ∀ f p q, 0 ≤ needF n xs f p q ∧ needF n xs f p q ≤ n
  | 0, _, _ => by unfold needF; omega
  | f + 1, p, q => by
    unfold needF
    split
    · omega
    · exact ⟨leastOf_ge (by omega) (fun v _ => by have := needF_bd n xs f (p ||| 2 ^ v) q; omega), leastOf_le.1⟩
theorem needV_bd (n : Nat) (xs : List Int) (p q : Nat) : 0 ≤ needV n xs p q ∧ needV n xs p q ≤ n := needF_bd n xs _ p q
theorem needTo_bd (n : Nat) (xs : List Int) (p q i : Nat) : 0 ≤ needTo n xs p q i ∧ needTo n xs p q i ≤ n := by
  unfold needTo
  exact ⟨leastOf_ge (by omega) (fun v _ => by unfold needAt; have := needV_bd n xs (p ||| 2 ^ v) q; omega), leastOf_le.1⟩
theorem needV_told {n : Nat} {xs : List Int} {p q : Nat} (h : 0 ≤ toldV n xs p q) : needV n xs p q = 0 := by
  unfold needV
  cases hl : lefts n p q with
  | zero => rfl
  | succ f => unfold needF; rw [if_pos h]
theorem needV_open {n : Nat} {xs : List Int} {p q : Nat} (hn : n ≤ 6) (hp : Pl n p q) (h : ¬ 0 ≤ toldV n xs p q) : needV n xs p q = needTo n xs p q n := by
  unfold needV
  cases hl : lefts n p q with
  | zero => exact absurd (told_all hp hl) h
  | succ f =>
    unfold needF needTo
    rw [if_neg h]
    refine leastOf_congr (fun v hv => ?_)
    rw [frees_mem] at hv
    unfold needAt needV
    have h1 := lefts_p hn hp hv.1 hv.2
    have h2 := lefts_q hn hp hv.1 hv.2
    rw [show lefts n (p ||| 2 ^ v) q = f by omega, show lefts n p (q ||| 2 ^ v) = f by omega]

/-! evaders -/
def leastF (n : Nat) (xs : List Int) : Nat → Nat → Nat → Int
  | 0, _, _ => 0
  | f + 1, p, q => if 0 ≤ toldV n xs p q then 0 else if f = 0 then 2 else leastOf 64 (frees (p ||| q) n) fun v => leastF n xs f (p ||| 2 ^ v) q + leastF n xs f p (q ||| 2 ^ v)
def leastV (n : Nat) (xs : List Int) (p q : Nat) : Int := leastF n xs (lefts n p q) p q
def leastAt (n : Nat) (xs : List Int) (p q v : Nat) : Int := leastV n xs (p ||| 2 ^ v) q + leastV n xs p (q ||| 2 ^ v)
def leastTo (n : Nat) (xs : List Int) (p q i : Nat) : Int := leastOf 64 (frees (p ||| q) i) (leastAt n xs p q)
theorem leastTo_hit {n : Nat} {xs : List Int} {p q i : Nat} (h : (p ||| q).testBit i = false) : leastTo n xs p q (i + 1) = min (leastTo n xs p q i) (leastAt n xs p q i) := by
  unfold leastTo; rw [frees_hit h, leastOf_snoc]
theorem leastTo_miss {n : Nat} {xs : List Int} {p q i : Nat} (h : (p ||| q).testBit i = true) : leastTo n xs p q (i + 1) = leastTo n xs p q i := by
  unfold leastTo; rw [frees_miss h]
theorem leastF_ge (n : Nat) (xs : List Int) : ∀ f p q, 0 ≤ leastF n xs f p q ∧ leastF n xs f p q ≤ 64
  | 0, _, _ => by unfold leastF; omega
  | f + 1, p, q => by
    unfold leastF
    split
    · omega
    · split
      · omega
      · exact ⟨leastOf_ge (by omega) (fun v _ => by have := leastF_ge n xs f (p ||| 2 ^ v) q; have := leastF_ge n xs f p (q ||| 2 ^ v); omega), leastOf_le.1⟩
theorem leastV_bd (n : Nat) (xs : List Int) (p q : Nat) : 0 ≤ leastV n xs p q ∧ leastV n xs p q ≤ 64 := leastF_ge n xs _ p q
theorem leastTo_bd (n : Nat) (xs : List Int) (p q i : Nat) : 0 ≤ leastTo n xs p q i ∧ leastTo n xs p q i ≤ 64 := by
  unfold leastTo
  exact ⟨leastOf_ge (by omega) (fun v _ => by unfold leastAt; have := leastV_bd n xs (p ||| 2 ^ v) q; have := leastV_bd n xs p (q ||| 2 ^ v); omega), leastOf_le.1⟩
theorem leastV_told {n : Nat} {xs : List Int} {p q : Nat} (h : 0 ≤ toldV n xs p q) : leastV n xs p q = 0 := by
  unfold leastV
  cases hl : lefts n p q with
  | zero => rfl
  | succ f => unfold leastF; rw [if_pos h]
theorem leastV_last {n : Nat} {xs : List Int} {p q : Nat} (h : ¬ 0 ≤ toldV n xs p q) (hl : lefts n p q = 1) : leastV n xs p q = 2 := by
  unfold leastV; rw [hl]; unfold leastF; rw [if_neg h, if_pos rfl]
theorem leastV_open {n : Nat} {xs : List Int} {p q : Nat} (hn : n ≤ 6) (hp : Pl n p q) (h : ¬ 0 ≤ toldV n xs p q) (h1 : lefts n p q ≠ 1) : leastV n xs p q = leastTo n xs p q n := by
  unfold leastV
  cases hl : lefts n p q with
  | zero => exact absurd (told_all hp hl) h
  | succ f =>
    unfold leastF leastTo
    rw [if_neg h, if_neg (by omega)]
    refine leastOf_congr (fun v hv => ?_)
    rw [frees_mem] at hv
    unfold leastAt leastV
    have h1 := lefts_p hn hp hv.1 hv.2
    have h2 := lefts_q hn hp hv.1 hv.2
    rw [show lefts n (p ||| 2 ^ v) q = f by omega, show lefts n p (q ||| 2 ^ v) = f by omega]
/-- at most as many as there are hidden sets -/
theorem leastF_pow (n : Nat) (hn : n ≤ 6) (xs : List Int) : ∀ f p q, Pl n p q → lefts n p q = f → leastF n xs f p q ≤ ((2 ^ f : Nat) : Int)
  | 0, _, _, _, _ => by unfold leastF; omega
  | f + 1, p, q, hp, hl => by
    have h2 : (2 ^ (f + 1) : Nat) = 2 ^ f + 2 ^ f := by rw [Nat.pow_succ]; omega
    have h1 : 1 ≤ 2 ^ f := Nat.one_le_two_pow
    unfold leastF
    split
    · omega
    · split
      · omega
      · have hne : frees (p ||| q) n ≠ [] := by intro h; unfold lefts at hl; rw [h] at hl; cases hl
        obtain ⟨v, hv⟩ := List.exists_mem_of_ne_nil _ hne
        have hv' := frees_mem.1 hv
        have e1 := lefts_p hn hp hv'.1 hv'.2
        have e2 := lefts_q hn hp hv'.1 hv'.2
        have i1 := leastF_pow n hn xs f (p ||| 2 ^ v) q (hp.yes hv'.1 hv'.2) (by omega)
        have i2 := leastF_pow n hn xs f p (q ||| 2 ^ v) (hp.no hv'.1 hv'.2) (by omega)
        have h5 : leastOf 64 (frees (p ||| q) n) (fun v => leastF n xs f (p ||| 2 ^ v) q + leastF n xs f p (q ||| 2 ^ v)) ≤ leastF n xs f (p ||| 2 ^ v) q + leastF n xs f p (q ||| 2 ^ v) := leastOf_le.2 v hv
        omega
theorem leastV_pow {n : Nat} (hn : n ≤ 6) (xs : List Int) {p q : Nat} (hp : Pl n p q) : leastV n xs p q ≤ ((2 ^ lefts n p q : Nat) : Int) := leastF_pow n hn xs _ p q hp rfl
/-- what the program reckons for a question -/
def byV (n : Nat) (xs : List Int) (p q v : Nat) : Int := if lefts n p q = 1 then (if 0 ≤ toldV n xs p q then 0 else 2) else leastAt n xs p q v
theorem byV_bd (n : Nat) (xs : List Int) (p q v : Nat) : 0 ≤ byV n xs p q v ∧ byV n xs p q v ≤ 128 := by
  unfold byV leastAt
  have := leastV_bd n xs (p ||| 2 ^ v) q
  have := leastV_bd n xs p (q ||| 2 ^ v)
  split
  · split <;> omega
  · omega
/-- the least of the first questions; -1 without any -/
def bestTo (n : Nat) (xs : List Int) (p q i : Nat) : Int := (frees (p ||| q) i).foldl (fun b v => if b < 0 ∨ byV n xs p q v < b then byV n xs p q v else b) (-1)
theorem bestTo_hit {n : Nat} {xs : List Int} {p q i : Nat} (h : (p ||| q).testBit i = false) : bestTo n xs p q (i + 1) = if bestTo n xs p q i < 0 ∨ byV n xs p q i < bestTo n xs p q i then byV n xs p q i else bestTo n xs p q i := by
  unfold bestTo; rw [frees_hit h, List.foldl_append]; rfl
theorem bestTo_miss {n : Nat} {xs : List Int} {p q i : Nat} (h : (p ||| q).testBit i = true) : bestTo n xs p q (i + 1) = bestTo n xs p q i := by
  unfold bestTo; rw [frees_miss h]
theorem bestTo_bd (n : Nat) (xs : List Int) (p q i : Nat) : -1 ≤ bestTo n xs p q i ∧ bestTo n xs p q i ≤ 128 := by
  induction i with
  | zero => unfold bestTo frees; simp
  | succ i ih =>
    cases h : (p ||| q).testBit i with
    | true => rw [bestTo_miss h]; exact ih
    | false => rw [bestTo_hit h]; have := byV_bd n xs p q i; split <;> omega
theorem best_fold {f : Nat → Int} {B : Int} (hf : ∀ v, 0 ≤ f v) : ∀ (l : List Nat), (∀ v ∈ l, f v ≤ B) → l ≠ [] → l.foldl (fun b v => if b < 0 ∨ f v < b then f v else b) (-1) = leastOf B l f := by
  have key : ∀ (l : List Nat) (b : Int), 0 ≤ b → l.foldl (fun b v => if b < 0 ∨ f v < b then f v else b) b = leastOf b l f := by
    intro l
    induction l with
    | nil => intro b _; rfl
    | cons a r ih =>
      intro b hb
      have ha := hf a
      unfold leastOf
      rw [List.foldl_cons, List.foldl_cons]
      have e : (if b < 0 ∨ f a < b then f a else b) = min b (f a) := by split <;> omega
      rw [e, ih _ (by omega)]; rfl
  intro l hl hne
  cases l with
  | nil => exact absurd rfl hne
  | cons a r =>
    rw [List.foldl_cons, if_pos (.inl (by decide)), key r (f a) (hf a)]
    unfold leastOf
    rw [List.foldl_cons, show min B (f a) = f a from Int.min_eq_right (hl a List.mem_cons_self)]
/-- the program's least number is the reference's -/
theorem best_least {n : Nat} (hn : n ≤ 6) {xs : List Int} {p q : Nat} (hp : Pl n p q) (h0 : lefts n p q ≠ 0) : bestTo n xs p q n = leastV n xs p q := by
  have hne : frees (p ||| q) n ≠ [] := by intro h; apply h0; unfold lefts; rw [h]; rfl
  have hb6 : lefts n p q ≤ 6 := Nat.le_trans (frees_len _ _) hn
  have hle : ∀ v ∈ frees (p ||| q) n, byV n xs p q v ≤ 64 := by
    intro v hv
    have hv' := frees_mem.1 hv
    unfold byV leastAt
    split
    · split <;> omega
    · have e1 := lefts_p hn hp hv'.1 hv'.2
      have e2 := lefts_q hn hp hv'.1 hv'.2
      have i1 := leastV_pow hn xs (hp.yes hv'.1 hv'.2)
      have i2 := leastV_pow hn xs (hp.no hv'.1 hv'.2)
      have hh : 2 ^ (lefts n p q - 1) ≤ 2 ^ 5 := Nat.pow_le_pow_right (by omega) (by omega)
      rw [show lefts n (p ||| 2 ^ v) q = lefts n p q - 1 by omega] at i1
      rw [show lefts n p (q ||| 2 ^ v) = lefts n p q - 1 by omega] at i2
      omega
  have e := best_fold (f := byV n xs p q) (B := 64) (fun v => (byV_bd n xs p q v).1) _ hle hne
  show (frees (p ||| q) n).foldl _ (-1) = _
  rw [e]
  by_cases ht : 0 ≤ toldV n xs p q
  · rw [leastV_told ht]
    have hz : ∀ v ∈ frees (p ||| q) n, byV n xs p q v = 0 := by
      intro v _
      unfold byV leastAt
      rw [if_pos ht, leastV_told (told_p ht), leastV_told (told_q ht)]
      split <;> rfl
    obtain ⟨v, hv⟩ := List.exists_mem_of_ne_nil _ hne
    have h1 := (leastOf_le (b := 64) (l := frees (p ||| q) n) (f := byV n xs p q)).2 v hv
    rw [hz v hv] at h1
    have h2 := leastOf_ge (b := 64) (c := 0) (l := frees (p ||| q) n) (f := byV n xs p q) (by omega) (fun v _ => (byV_bd n xs p q v).1)
    omega
  · by_cases h1 : lefts n p q = 1
    · rw [leastV_last ht h1]
      have hz : ∀ v ∈ frees (p ||| q) n, byV n xs p q v = 2 := by
        intro v _; unfold byV; rw [if_pos h1, if_neg ht]
      obtain ⟨v, hv⟩ := List.exists_mem_of_ne_nil _ hne
      have h1 := (leastOf_le (b := 64) (l := frees (p ||| q) n) (f := byV n xs p q)).2 v hv
      rw [hz v hv] at h1
      have h2 := leastOf_ge (b := 64) (c := 2) (l := frees (p ||| q) n) (f := byV n xs p q) (by omega) (fun v hv => by rw [hz v hv]; omega)
      omega
    · rw [leastV_open hn hp ht h1]
      refine leastOf_congr (fun v hv => ?_)
      unfold byV; rw [if_neg h1]
/-- told in the program's words -/
theorem toldB_toldV {n : Nat} {xs : List Int} {p q : Nat} (hp : Pl n p q) : toldB n xs (p ||| q) p = decide (0 ≤ toldV n xs p q) := by
  have hd := hp.d
  have e : ∀ k, ansTo (p ||| q) p k = hidTo p q k := by
    intro k
    unfold ansTo hidTo
    refine List.filter_congr (fun h _ => ?_)
    rw [Bool.eq_iff_iff, Bool.and_eq_true, beq_iff_eq, beq_iff_eq, beq_iff_eq]
    constructor
    · intro hh
      refine ⟨?_, ?_⟩
      all_goals
        apply Nat.eq_of_testBit_eq
        intro i
        have h1 := congrArg (fun m : Nat => m.testBit i) hh
        have h2 := congrArg (fun m : Nat => m.testBit i) hd
        simp only [Nat.testBit_and, Nat.testBit_or, Nat.zero_testBit] at h1 h2 ⊢
        cases ha : h.testBit i <;> cases hb : p.testBit i <;> cases hc : q.testBit i <;> simp_all
    · rintro ⟨h1, h2⟩
      rw [Nat.and_or_distrib_left, h1, h2, Nat.or_zero]
  have hpm : p ∈ hidTo p q (2 ^ n) := hid_mem.2 ⟨hp.hp, Nat.and_self p, hd⟩
  unfold toldB
  rw [e]
  by_cases ht : 0 ≤ toldV n xs p q
  · rw [decide_eq_true ht]
    obtain ⟨b, hb⟩ := told_same ht
    cases b with
    | true =>
      rw [List.all_eq_true.2 hb, List.any_eq_true.2 ⟨p, hpm, hb p hpm⟩]; rfl
    | false =>
      rw [List.any_eq_false.2 (fun x hx => by rw [hb x hx]; decide), List.all_eq_false.2 ⟨p, hpm, by rw [hb p hpm]; decide⟩]; rfl
  · rw [decide_eq_false ht]
    unfold toldV at ht
    split at ht
    · exact absurd (by decide) ht
    · next h1 =>
      split at ht
      · exact absurd (by decide) ht
      · next h2 =>
        rw [Bool.not_eq_true] at h1
        rw [Bool.not_eq_true', Bool.not_eq_false] at h2
        rw [h1, h2]; rfl
end Go.Proofs.Ytpcjbdkdpcgdiaa.H
