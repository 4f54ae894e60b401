/- Chains as sums of bits and as ascending lists: the plain law. -/
import Derived.Test.YtcbkchnfjeegmaaPart
namespace Go.Proofs.Ytcbkchnfjeegmaa.H
open Go.RowKit Go.Proofs.YtcbkchnfjeegmaaW.PrintWords Go.Proofs.YtcbkchnfjeegmaaW.PrintLast Go.Proofs.YtcbkchnfjeegmaaW.PrintMore
set_option linter.unusedVariables false
set_option linter.unusedSimpArgs false

/-- the bits of a list, each turned -/
def bitsI (l : List Int) : Nat := l.foldl (fun m x => m ^^^ 2 ^ x.toNat) 0
/-- the list of a number's bits -/
def listI (m : Nat) : List Int := ((List.range 64).filter fun v => m.testBit v).map fun (v : Nat) => (v : Int)
theorem listI_mem {m : Nat} {x : Int} : x ∈ listI m ↔ ∃ v : Nat, x = v ∧ v < 64 ∧ m.testBit v = true := by
  unfold listI
  rw [List.mem_map]
  constructor
  · rintro ⟨v, hv, rfl⟩
    rw [List.mem_filter, List.mem_range] at hv
    exact ⟨v, rfl, hv.1, hv.2⟩
  · rintro ⟨v, rfl, h1, h2⟩
    exact ⟨v, List.mem_filter.2 ⟨List.mem_range.2 h1, h2⟩, rfl⟩
theorem listI_asc (m : Nat) : (listI m).Pairwise (· < ·) := by
  unfold listI
  rw [List.pairwise_map]
  refine List.Pairwise.sublist List.filter_sublist ?_
  exact List.Pairwise.imp (fun h => by omega) List.pairwise_lt_range
theorem bits_fold : ∀ (l : List Int), l.Pairwise (· < ·) → (∀ x ∈ l, 0 ≤ x) → ∀ (m v : Nat), (l.foldl (fun m x => m ^^^ 2 ^ x.toNat) m).testBit v = (m.testBit v != decide ((v : Int) ∈ l))
  | [], _, _, m, v => by simp
  | a :: r, h1, h2, m, v => by
    rw [List.pairwise_cons] at h1
    rw [List.foldl_cons, bits_fold r h1.2 (fun x hx => h2 x (List.mem_cons_of_mem _ hx)) _ v, Nat.testBit_xor, Nat.testBit_two_pow]
    have ha := h2 a List.mem_cons_self
    by_cases hav : a.toNat = v
    · have e : (v : Int) = a := by omega
      have hnr : (v : Int) ∉ r := fun h => by have := h1.1 _ h; omega
      rw [decide_eq_true hav, decide_eq_false hnr, decide_eq_true (show (v : Int) ∈ a :: r by rw [e]; exact List.mem_cons_self)]
      cases m.testBit v <;> rfl
    · have hne : (v : Int) ≠ a := by omega
      have e : decide ((v : Int) ∈ a :: r) = decide ((v : Int) ∈ r) := by
        rw [Bool.eq_iff_iff, decide_eq_true_eq, decide_eq_true_eq, List.mem_cons]
        exact ⟨fun h => h.resolve_left hne, Or.inr⟩
      rw [decide_eq_false hav, e]
      cases m.testBit v <;> rfl
theorem bits_test {l : List Int} (h1 : l.Pairwise (· < ·)) (h2 : ∀ x ∈ l, 0 ≤ x) (v : Nat) : (bitsI l).testBit v = decide ((v : Int) ∈ l) := by
  unfold bitsI
  rw [bits_fold l h1 h2 0 v, Nat.zero_testBit]
  cases decide ((v : Int) ∈ l) <;> rfl
theorem list_bits {l : List Int} (h1 : l.Pairwise (· < ·)) (h2 : ∀ x ∈ l, 0 ≤ x ∧ x ≤ 63) : listI (bitsI l) = l := by
  refine asc_ext (listI_asc _) h1 (fun x => ?_)
  rw [listI_mem]
  constructor
  · rintro ⟨v, rfl, _, h⟩
    rw [bits_test h1 (fun x hx => (h2 x hx).1), decide_eq_true_eq] at h
    exact h
  · intro hx
    have := h2 x hx
    have e : ((x.toNat : Nat) : Int) = x := by omega
    exact ⟨x.toNat, e.symm, by omega, by rw [bits_test h1 (fun x hx => (h2 x hx).1), e, decide_eq_true hx]⟩

/-- the numbers in just one of two ascending lists -/
def symd : List Int → List Int → List Int
  | [], b => b
  | x :: a, [] => x :: a
  | x :: a, y :: b => if x < y then x :: symd a (y :: b) else if y < x then y :: symd (x :: a) b else symd a b
termination_by a b => a.length + b.length
theorem symd_nil (a : List Int) : symd a [] = a := by cases a <;> simp [symd]
theorem symd_mem : ∀ (a b : List Int), a.Pairwise (· < ·) → b.Pairwise (· < ·) → ∀ z, z ∈ symd a b ↔ ((z ∈ a ∧ z ∉ b) ∨ (z ∉ a ∧ z ∈ b))
  | [], b, _, _, z => by simp [symd]
  | x :: a, [], _, _, z => by simp [symd]
  | x :: a, y :: b, h1, h2, z => by
    have g1 := List.pairwise_cons.1 h1
    have g2 := List.pairwise_cons.1 h2
    unfold symd
    split
    · next hxy =>
      rw [List.mem_cons, symd_mem a (y :: b) g1.2 h2 z]
      have hxb : x ∉ y :: b := fun h => by
        rcases List.mem_cons.1 h with h | h
        · omega
        · have := g2.1 x h; omega
      have hxa : x ∉ a := fun h => by have := g1.1 x h; omega
      by_cases hz : z = x
      · subst hz
        simp only [true_or, true_iff, List.mem_cons, true_and, not_true, false_and, or_false]
        exact fun h => hxb (List.mem_cons.2 h)
      · simp only [hz, false_or, List.mem_cons, false_or]
    · split
      · next hnx hyx =>
        rw [List.mem_cons, symd_mem (x :: a) b h1 g2.2 z]
        have hya : y ∉ x :: a := fun h => by
          rcases List.mem_cons.1 h with h | h
          · omega
          · have := g1.1 y h; omega
        by_cases hz : z = y
        · subst hz
          simp only [true_or, true_iff]
          exact .inr ⟨hya, List.mem_cons_self⟩
        · have e : z ∈ y :: b ↔ z ∈ b := by rw [List.mem_cons]; exact ⟨fun h => h.resolve_left hz, Or.inr⟩
          rw [e]
          simp only [hz, false_or]
      · next hnx hny =>
        obtain rfl : x = y := by omega
        rw [symd_mem a b g1.2 g2.2 z]
        have hxa : x ∉ a := fun h => by have := g1.1 x h; omega
        have hxb : x ∉ b := fun h => by have := g2.1 x h; omega
        by_cases hz : z = x
        · subst hz
          constructor
          · rintro (⟨h, _⟩ | ⟨_, h⟩)
            · exact absurd h hxa
            · exact absurd h hxb
          · rintro (⟨_, h⟩ | ⟨h, _⟩)
            · exact absurd List.mem_cons_self h
            · exact absurd List.mem_cons_self h
        · have e1 : z ∈ x :: a ↔ z ∈ a := by rw [List.mem_cons]; exact ⟨fun h => h.resolve_left hz, Or.inr⟩
          have e2 : z ∈ x :: b ↔ z ∈ b := by rw [List.mem_cons]; exact ⟨fun h => h.resolve_left hz, Or.inr⟩
          rw [e1, e2]
termination_by a b => a.length + b.length
theorem symd_asc : ∀ (a b : List Int), a.Pairwise (· < ·) → b.Pairwise (· < ·) → (symd a b).Pairwise (· < ·)
  | [], b, _, h => by unfold symd; exact h
  | x :: a, [], h, _ => by unfold symd; exact h
  | x :: a, y :: b, h1, h2 => by
    have g1 := List.pairwise_cons.1 h1
    have g2 := List.pairwise_cons.1 h2
    unfold symd
    split
    · next hxy =>
      rw [List.pairwise_cons]
      refine ⟨fun z hz => ?_, symd_asc a (y :: b) g1.2 h2⟩
      rcases (symd_mem a (y :: b) g1.2 h2 z).1 hz with ⟨h, _⟩ | ⟨_, h⟩
      · exact g1.1 z h
      · rcases List.mem_cons.1 h with h | h
        · omega
        · have := g2.1 z h; omega
    · split
      · next hnx hyx =>
        rw [List.pairwise_cons]
        refine ⟨fun z hz => ?_, symd_asc (x :: a) b h1 g2.2⟩
        rcases (symd_mem (x :: a) b h1 g2.2 z).1 hz with ⟨h, _⟩ | ⟨_, h⟩
        · rcases List.mem_cons.1 h with h | h
          · omega
          · have := g1.1 z h; omega
        · exact g2.1 z h
      · exact symd_asc a b g1.2 g2.2
termination_by a b => a.length + b.length
theorem symd_list (m : Nat) {b : List Int} (h1 : b.Pairwise (· < ·)) (h2 : ∀ x ∈ b, 0 ≤ x ∧ x ≤ 63) : symd (listI m) b = listI (m ^^^ bitsI b) := by
  refine asc_ext (symd_asc _ _ (listI_asc m) h1) (listI_asc _) (fun x => ?_)
  rw [symd_mem _ _ (listI_asc m) h1, listI_mem, listI_mem]
  by_cases hx : 0 ≤ x ∧ x ≤ 63
  · obtain ⟨v, rfl⟩ : ∃ v : Nat, x = v := ⟨x.toNat, by omega⟩
    have hv : v < 64 := by omega
    have e1 : (∃ u : Nat, (v : Int) = u ∧ u < 64 ∧ m.testBit u = true) ↔ m.testBit v = true :=
      ⟨fun ⟨u, h, _, h3⟩ => by have : v = u := by omega
                               rw [this]; exact h3, fun h => ⟨v, rfl, hv, h⟩⟩
    have e2 : (∃ u : Nat, (v : Int) = u ∧ u < 64 ∧ (m ^^^ bitsI b).testBit u = true) ↔ (m ^^^ bitsI b).testBit v = true :=
      ⟨fun ⟨u, h, _, h3⟩ => by have : v = u := by omega
                               rw [this]; exact h3, fun h => ⟨v, rfl, hv, h⟩⟩
    rw [e1, e2, Nat.testBit_xor, bits_test h1 (fun x hx => (h2 x hx).1)]
    by_cases hb : (v : Int) ∈ b <;> cases m.testBit v <;> simp [hb]
  · constructor
    · rintro (⟨⟨u, rfl, h, _⟩, _⟩ | ⟨_, h⟩)
      · exact absurd ⟨by omega, by omega⟩ hx
      · exact absurd (h2 x h) hx
    · rintro ⟨u, rfl, h, _⟩
      exact absurd ⟨by omega, by omega⟩ hx
/-- the boundary as bits -/
def bndB (l : List Int) : Nat := l.foldl (fun m x => m ^^^ bitsI (below x.toNat)) 0
/-- the boundary as a list -/
def bndL (l : List Int) : List Int := l.foldl (fun o x => symd o (below x.toNat)) []
theorem below_asc : ∀ f, f < 64 → (below f).Pairwise (· < ·) := by decide +kernel
theorem below_bd : ∀ f, f < 64 → ∀ x ∈ below f, 0 ≤ x ∧ x ≤ 63 := by decide +kernel
theorem bnd_law {l : List Int} (h : ∀ x ∈ l, 0 ≤ x ∧ x ≤ 63) : bndL l = listI (bndB l) := by
  have key : ∀ (l : List Int) (m : Nat), (∀ x ∈ l, 0 ≤ x ∧ x ≤ 63) → l.foldl (fun o x => symd o (below x.toNat)) (listI m) = listI (l.foldl (fun m x => m ^^^ bitsI (below x.toNat)) m) := by
    intro l
    induction l with
    | nil => intro m _; rfl
    | cons a r ih =>
      intro m h
      have ha := h a List.mem_cons_self
      rw [List.foldl_cons, List.foldl_cons, symd_list m (below_asc _ (by omega)) (below_bd _ (by omega))]
      exact ih _ (fun x hx => h x (List.mem_cons_of_mem _ hx))
  have h0 : listI 0 = [] := by decide
  unfold bndL bndB
  rw [← h0]
  exact key l 0 h
theorem bits_lt : ∀ (l : List Int), (∀ x ∈ l, 0 ≤ x ∧ x ≤ 63) → ∀ m, m < 2 ^ 64 → l.foldl (fun m x => m ^^^ 2 ^ x.toNat) m < 2 ^ 64
  | [], _, m, hm => hm
  | a :: r, h, m, hm => by
    have ha := h a List.mem_cons_self
    exact bits_lt r (fun x hx => h x (List.mem_cons_of_mem _ hx)) _ (Nat.xor_lt_two_pow hm (Nat.pow_lt_pow_right (by decide) (by omega)))
theorem bnd_lt : ∀ (l : List Int), (∀ x ∈ l, 0 ≤ x ∧ x ≤ 63) → ∀ m, m < 2 ^ 64 → l.foldl (fun m x => m ^^^ bitsI (below x.toNat)) m < 2 ^ 64
  | [], _, m, hm => hm
  | a :: r, h, m, hm => by
    have ha := h a List.mem_cons_self
    exact bnd_lt r (fun x hx => h x (List.mem_cons_of_mem _ hx)) _ (Nat.xor_lt_two_pow hm (bits_lt _ (below_bd _ (by omega)) 0 (by decide)))
theorem listI_nil {m : Nat} (hm : m < 2 ^ 64) : (listI m).length = 0 ↔ m = 0 := by
  constructor
  · intro h
    have h0 := List.eq_nil_of_length_eq_zero h
    apply Nat.eq_of_testBit_eq
    intro v
    rw [Nat.zero_testBit]
    by_cases hv : v < 64
    · cases ht : m.testBit v with
      | false => rfl
      | true =>
        have : (v : Int) ∈ listI m := listI_mem.2 ⟨v, rfl, hv, ht⟩
        rw [h0] at this
        cases this
    · exact Nat.testBit_lt_two_pow (Nat.lt_of_lt_of_le hm (Nat.pow_le_pow_right (by decide) (by omega)))
  · rintro rfl; decide
end Go.Proofs.Ytcbkchnfjeegmaa.H
