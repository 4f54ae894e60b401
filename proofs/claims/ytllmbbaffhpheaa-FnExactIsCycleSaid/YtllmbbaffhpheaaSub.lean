/- Subsets of faces; the image of a part of a face. -/
import Derived.Test.YtllmbbaffhpheaaFib
namespace Go.Proofs.Ytllmbbaffhpheaa.H
open Go.RowKit Go.Proofs.YtllmbbaffhpheaaW.PrintWords Go.Proofs.YtllmbbaffhpheaaW.PrintLast Go.Proofs.YtllmbbaffhpheaaW.PrintMore
set_option linter.unusedVariables false
set_option linter.unusedSimpArgs false

set_option maxRecDepth 100000 in
theorem below_step : ∀ x, x < 64 → ∀ y, y < 64 → (y == 0 || y == x || y &&& x != y || (below x).any fun g => decide (0 ≤ g) && decide (g.toNat < x) && (y &&& g.toNat == y)) = true := by decide +kernel
/-- a complex holds each part of its faces -/
theorem sub_in {n : Nat} {xs : List Int} (hc : Cx n xs) (hb : xs.all (belowIn xs) = true) {y : Nat} (hy : y ≠ 0) : ∀ x : Nat, (x : Int) ∈ xs → y &&& x = y → (y : Int) ∈ xs := by
  intro x
  induction x using Nat.strongRecOn with
  | _ x ih =>
    intro hx hyx
    by_cases he : y = x
    · subst he; exact hx
    · have hx64 : x < 64 := by have := hc.bd _ hx; have := pw6 hc.hi; omega
      have hy64 : y < 64 := by
        have : y &&& x ≤ x := Nat.and_le_right
        omega
      have h1 := below_step x hx64 y hy64
      have h2 : (y == 0 || y == x || y &&& x != y) = false := by simp [hy, he, hyx]
      rw [h2, Bool.false_or, List.any_eq_true] at h1
      obtain ⟨g, hg, h3⟩ := h1
      simp only [Bool.and_eq_true, decide_eq_true_eq, beq_iff_eq] at h3
      have h4 := List.all_eq_true.1 hb x hx
      unfold belowIn at h4
      rw [Int.toNat_natCast] at h4
      have h5 := List.all_eq_true.1 h4 g hg
      rw [decide_eq_true_eq] at h5
      have hgg : ((g.toNat : Nat) : Int) = g := by omega
      exact ih g.toNat h3.1.2 (by rw [hgg]; exact h5) h3.2
theorem tpa (q e : Nat) : 2 ^ e &&& q = if q.testBit e then 2 ^ e else 0 := by
  apply Nat.eq_of_testBit_eq
  intro i
  rw [Nat.testBit_and, Nat.testBit_two_pow]
  by_cases h : e = i
  · subst h
    cases hq : q.testBit e <;> simp
  · cases hq : q.testBit e <;> simp [h, Nat.testBit_two_pow]
theorem imgTo_congr {a b : Nat} {p : List Int} : ∀ k, (∀ j, j < k → a.testBit j = b.testBit j) → imgTo a p k = imgTo b p k
  | 0, _ => rfl
  | k + 1, h => by
    rw [imgTo_succ, imgTo_succ, h k (by omega), imgTo_congr k (fun j hj => h j (by omega))]
theorem imgTo_zero (p : List Int) : ∀ k, imgTo 0 p k = 0
  | 0 => rfl
  | k + 1 => by rw [imgTo_succ, Nat.zero_testBit, if_neg (by decide), imgTo_zero p k]
/-- a part of an image is the image of a part -/
theorem img_part {x q : Nat} {p : List Int} : ∀ k, ∃ y, y < 2 ^ k ∧ y &&& x = y ∧ imgTo y p k = imgTo x p k &&& q
  | 0 => ⟨0, by decide, by simp, by simp [imgTo]⟩
  | k + 1 => by
    obtain ⟨y, h1, h2, h3⟩ := img_part (x := x) (q := q) (p := p) k
    have hyk : y.testBit k = false := Nat.testBit_lt_two_pow h1
    have hpw : 2 ^ (k + 1) = 2 * 2 ^ k := by rw [Nat.pow_succ]; omega
    by_cases hx : x.testBit k = true
    · by_cases hq : q.testBit (p.getD k 0).toNat = true
      · refine ⟨y ||| 2 ^ k, ?_, ?_, ?_⟩
        · exact Nat.or_lt_two_pow (by omega) (by omega)
        · rw [Nat.and_or_distrib_right, h2, tpa, hx]
          simp
        · rw [imgTo_succ, imgTo_succ, hx, if_pos rfl, if_pos (by simp)]
          rw [imgTo_congr (b := y) k (fun j hj => by simp [Nat.testBit_two_pow]; intro h; omega), h3, Nat.and_or_distrib_right, tpa, hq]
          simp
      · refine ⟨y, by omega, h2, ?_⟩
        have hq' : q.testBit (p.getD k 0).toNat = false := by simpa using hq
        rw [imgTo_succ, imgTo_succ, hx, hyk, if_pos rfl, if_neg (by decide), h3, Nat.and_or_distrib_right, tpa, hq']
        simp
    · have hx' : x.testBit k = false := by simpa using hx
      refine ⟨y, by omega, h2, ?_⟩
      rw [imgTo_succ, imgTo_succ, hx', hyk, if_neg (by decide), if_neg (by decide), h3]
/-- a face of the image complex -/
def imAt (xs f : List Int) (g : Int) : Bool := xs.any (opAt f g)
/-- it lies in one of these -/
def madeAt (ss : List Int) (g : Int) : Bool := ss.any fun s => decide (g.toNat &&& s.toNat = g.toNat)
/-- the images of the faces -/
def imgs (f xs : List Int) : List Int := xs.map fun x => ((img x.toNat f : Nat) : Int)
theorem im_made {n : Nat} {xs f : List Int} (hc : Cx n xs) (hb : xs.all (belowIn xs) = true) (k : Nat) (hk : 1 ≤ k) : imAt xs f k = madeAt (imgs f xs) k := by
  rw [Bool.eq_iff_iff]
  unfold imAt madeAt imgs
  rw [List.any_eq_true, List.any_eq_true]
  constructor
  · rintro ⟨x, hx, h⟩
    unfold opAt at h
    rw [beq_iff_eq] at h
    have h' : img x.toNat f = k := by omega
    refine ⟨_, List.mem_map.2 ⟨x, hx, rfl⟩, ?_⟩
    rw [h', decide_eq_true_eq]; simp
  · rintro ⟨s, hs, h⟩
    obtain ⟨x, hx, rfl⟩ := List.mem_map.1 hs
    rw [decide_eq_true_eq, Int.toNat_natCast, Int.toNat_natCast] at h
    obtain ⟨z, rfl, -, -⟩ := hc.nat hx
    rw [Int.toNat_natCast] at h
    obtain ⟨y, -, h2, h3⟩ := img_part (x := z) (q := k) (p := f) f.length
    have h4 : img y f = k := by
      unfold img at h ⊢
      rw [h3, Nat.and_comm]; exact h
    have hy : y ≠ 0 := by
      rintro rfl
      unfold img at h4
      rw [imgTo_zero] at h4
      omega
    refine ⟨y, sub_in hc hb hy z hx h2, ?_⟩
    unfold opAt
    rw [Int.toNat_natCast, h4, beq_iff_eq]
theorem thL_congr {p p' : Int → Bool} {k : Nat} (h : ∀ q : Nat, 1 ≤ q → q < k → p q = p' q) : thL p k = thL p' k := by
  refine asc_ext (thL_asc _ _) (thL_asc _ _) (fun x => ?_)
  rw [thL_mem, thL_mem]
  constructor
  · rintro ⟨q, rfl, h1, h2, h3⟩; exact ⟨q, rfl, h1, h2, by rw [← h q h1 h2]; exact h3⟩
  · rintro ⟨q, rfl, h1, h2, h3⟩; exact ⟨q, rfl, h1, h2, by rw [h q h1 h2]; exact h3⟩
theorem codeSimp_below {a b : Int} {xs ys : List Int} {fs : List (List Int)} {r : Bool} (h : codeSimp a b xs ys fs r = 0) : xs.all (belowIn xs) = true := by
  unfold codeSimp at h
  split at h
  · next h1 =>
    rw [Bool.and_eq_true] at h1
    obtain ⟨_, _, _, h2⟩ := cxOk_cx h1.1
    exact h2
  · cases h
end Go.Proofs.Ytllmbbaffhpheaa.H
