/- Pairings of trees, best trees: what goes together (plain). IsAcyclicPairing and CriticalFaces of the program. What the arguments of the laws read as. IsTree of the program and of the reference, and the law's walk. Orders: the plain words of them. isOrder alone. Orders and their trees: the plain law of TreeOfOrder. -/
import Derived.WalkKit
import Derived.ProofKit
import Derived.OpenShut
import Derived.ShutString
import Derived.ChangeOld
import Derived.Lib.SmallJoins
import Derived.Test.YtkggchklmpmgpaaGreatKFnTrees1
import Derived.Test.YtkggchklmpmgpaaGreatKFnTrees2
import Derived.Test.YtkggchklmpmgpaaGreatKFnTrees3
import Derived.Test.YtkggchklmpmgpaaGreatKFnTrees4
import Derived.Test.YtkggchklmpmgpaaGreatKFnTrees5
import Derived.Test.YtkggchklmpmgpaaGreatKFnTrees6
import Derived.Test.YtkggchklmpmgpaaGreatKFnTrees7
import Derived.Test.YtkggchklmpmgpaaGreatKFnTrees8
import Derived.Test.YtkggchklmpmgpaaGreatKFnTrees9
import Derived.Test.YtkggchklmpmgpaaGreatKFnTrees10
import Derived.Test.YtkggchklmpmgpaaGreatKFnTrees11
import Derived.Test.YtkggchklmpmgpaaGreatKFnTrees12
import Derived.Test.YtkggchklmpmgpaaGreatKFnTrees13
import Derived.Test.YtkggchklmpmgpaaGreatKFnTrees14
import Derived.Test.YtkggchklmpmgpaaGreatKFnTrees15

namespace Go.Proofs.YtkggchklmpmgpaaGreat.H
open Go.RowKit Go.Proofs.YtkggchklmpmgpaaGreatW.PrintWords Go.Proofs.YtkggchklmpmgpaaGreatW.PrintLast
set_option linter.unusedVariables false
set_option linter.unusedSimpArgs false
open Go.Sort
/-! ways of sets that are alike -/
theorem own_inb (t : List Int) (h : Nat) : ∀ i, inb (yess t h i) (noes t h i) h = true
 | 0 => by show inb 0 0 h = true; unfold inb; simp
 | i + 1 => by
  have ih := own_inb t h i
  cases hb : h.testBit (qN t (plc t h i)) with
  | true => rw [yess_yes hb, noes_yes hb, inb_yes, ih, hb]; rfl
  | false => rw [yess_no hb, noes_no hb, inb_no, ih, hb]; rfl
/-- two sets that are alike in what was asked go the same way -/
theorem alike_way {t : List Int} {b k i : Nat} (h : ∀ u, (yess t b i ||| noes t b i).testBit u = true → k.testBit u = b.testBit u) : plc t k i = plc t b i ∧ yess t k i = yess t b i ∧ noes t k i = noes t b i := by
 refine way_same i (inb_bits.2 ?_)
 obtain ⟨h1, h2⟩ := inb_bits.1 (own_inb t b i)
 refine ⟨fun u hu => ?_, fun u hu => ?_⟩
 ·rw [h u (by rw [Nat.testBit_or, hu]; rfl)]; exact h1 u hu
 ·rw [h u (by rw [Nat.testBit_or, hu, Bool.or_true])]; exact h2 u hu
theorem flip_bit {b v u : Nat} (h : u ≠ v) : (b ^^^ 2 ^ v).testBit u = b.testBit u := by
 rw [Nat.testBit_xor, Nat.testBit_two_pow, decide_eq_false (Ne.symm h), Bool.xor_false]
theorem flip_own (b v : Nat) : (b ^^^ 2 ^ v).testBit v = !b.testBit v := by
 rw [Nat.testBit_xor, Nat.testBit_two_pow, decide_eq_true rfl, Bool.xor_true]
/-- the place of the last question -/
def lv (n : Nat) (t : List Int) (b : Nat) : Nat := plc t b (n - 1)
theorem last_free {n : Nat} (h1 : 1 ≤ n) {t : List Int} (ht : treeOk n t = true) (b : Nat) : (yess t b (n - 1) ||| noes t b (n - 1)).testBit (lastQ n t b) = false :=
 (way_pl ht b (n - 1) (by omega)).2 (by omega)
theorem flip_way {n : Nat} (h1 : 1 ≤ n) {t : List Int} (ht : treeOk n t = true) (b : Nat) : lv n t (b ^^^ 2 ^ lastQ n t b) = lv n t b ∧ yess t (b ^^^ 2 ^ lastQ n t b) (n - 1) = yess t b (n - 1) ∧ noes t (b ^^^ 2 ^ lastQ n t b) (n - 1) = noes t b (n - 1) := by
 refine alike_way (fun u hu => flip_bit (fun e => ?_))
 rw [e, last_free h1 ht b] at hu
 cases hu
theorem flip_last {n : Nat} (h1 : 1 ≤ n) {t : List Int} (ht : treeOk n t = true) (b : Nat) : lastQ n t (b ^^^ 2 ^ lastQ n t b) = lastQ n t b := by
 have h := (flip_way h1 ht b).1
 unfold lv at h
 show qN t (plc t (b ^^^ 2 ^ lastQ n t b) (n - 1)) = qN t (plc t b (n - 1))
 rw [h]
theorem flip_twice (b v : Nat) : (b ^^^ 2 ^ v) ^^^ 2 ^ v = b := by rw [Nat.xor_assoc, Nat.xor_self, Nat.xor_zero]
/-- a vertex less than the last question's leads to a lesser place -/
theorem less_way {n : Nat} (h1 : 1 ≤ n) (hn : n ≤ 6) {t : List Int} (ht : treeOk n t = true) {b u : Nat} (hu : u < n) (hb : b.testBit u = true) (hne : u ≠ lastQ n t b) : lv n t (b ^^^ 2 ^ u) < lv n t b := by
 have hpl := (way_pl ht b n (Nat.le_refl _)).1
 have hall : (yess t b n ||| noes t b n).testBit u = true := by
  have hl := way_left hn ht b n (Nat.le_refl _)
  cases hc : (yess t b n ||| noes t b n).testBit u with
  | true => rfl
  | false =>
   have hm : u ∈ frees (yess t b n ||| noes t b n) n := frees_mem.2 ⟨hu, hc⟩
   have h0 : lefts n (yess t b n) (noes t b n) = 0 := by omega
   unfold lefts at h0
   rw [List.eq_nil_of_length_eq_zero h0] at hm
   cases hm
 obtain ⟨j, hj, hq⟩ := (way_bits t b u n).1 hall
 have hj2 : j < n - 1 := by
  refine Nat.lt_of_le_of_ne (by omega) (fun e => hne ?_)
  rw [← hq, e]; rfl
 have hal := alike_way (t := t) (b := b) (k := b ^^^ 2 ^ u) (i := j) (fun z hz => flip_bit (fun e => by
  subst e
  have h2 := (way_pl ht b j (by omega)).2 (by omega)
  rw [hq, hz] at h2
  cases h2))
 have hy : b.testBit (qN t (plc t b j)) = true := by rw [hq]; exact hb
 have hn' : (b ^^^ 2 ^ u).testBit (qN t (plc t (b ^^^ 2 ^ u) j)) = false := by rw [hal.1, hq, flip_own, hb]; rfl
 have e1 := plc_yes hy
 have e2 := plc_no hn'
 rw [hal.1] at e2
 have a1 := plc_anc t b (n - 1 - (j + 1)) (j + 1)
 have a2 := plc_anc t (b ^^^ 2 ^ u) (n - 1 - (j + 1)) (j + 1)
 rw [show j + 1 + (n - 1 - (j + 1)) = n - 1 by omega] at a1 a2
 refine Nat.lt_of_not_le (fun hle => ?_)
 have := Nat.div_le_div_right (c := 2 ^ (n - 1 - (j + 1))) hle
 unfold lv at this
 rw [a1, a2] at this
 omega
/-! the pairing of a tree -/
theorem potL_mem {n : Nat} {xs t ys : List Int} {p : Int × Int} : p ∈ potL n xs t ys ↔ ∃ y ∈ ys, potB n xs t y.toNat = true ∧ p = (((y.toNat ^^^ 2 ^ lastQ n t y.toNat : Nat) : Int), (y.toNat : Int)) := by
 unfold potL
 rw [List.mem_flatMap]
 constructor
 ·rintro ⟨y, hy, hp⟩
  split at hp
  ·next h => exact ⟨y, hy, h, by simpa using hp⟩
  ·cases hp
 ·rintro ⟨y, hy, h, rfl⟩
  exact ⟨y, hy, by rw [if_pos h]; exact List.mem_singleton.2 rfl⟩
theorem sortL_mem {ps : List (Int × Int)} {p : Int × Int} : p ∈ sortL ps ↔ p ∈ ps := (List.mergeSort_perm ps _).mem_iff
theorem sortL_leP (ps : List (Int × Int)) : (sortL ps).Pairwise leP := by
 unfold sortL
 refine (List.pairwise_mergeSort (le := fun x y => !(ltOf cfP) y x) (fun a b c h1 h2 => ?_) (fun a b => ?_) ps).imp (fun h => ?_)
 ·rw [ltP] at *; simp only [Bool.not_eq_true', decide_eq_false_iff_not] at *; omega
 ·rw [ltP, ltP, Bool.or_eq_true]; simp only [Bool.not_eq_true', decide_eq_false_iff_not]; omega
 ·rw [ltP] at h; simp only [Bool.not_eq_true', decide_eq_false_iff_not] at h; unfold leP; omega
theorem flip_pair : ∀ b, b < 64 → ∀ v, v < 6 → b.testBit v = true → ones b = ones (b ^^^ 2 ^ v) + 1 ∧ (b ^^^ 2 ^ v) &&& b = b ^^^ 2 ^ v := by decide +kernel
/-- what a pair of it is -/
theorem pot_pair {n : Nat} {xs t : List Int} (hc : Cx n xs) {p : Int × Int} (hp : p ∈ potL n xs t xs) : ∃ b : Nat, p = (((b ^^^ 2 ^ lastQ n t b : Nat) : Int), (b : Int)) ∧ (b : Int) ∈ xs ∧ b < 2 ^ n ∧ b < 64 ∧ b.testBit (lastQ n t b) = true ∧ ((b ^^^ 2 ^ lastQ n t b : Nat) : Int) ∈ xs := by
 obtain ⟨y, hy, h, rfl⟩ := potL_mem.1 hp
 have hb := hc.bd y hy
 have h6 := pw6 hc.hi
 unfold potB at h
 rw [Bool.and_eq_true, decide_eq_true_eq] at h
 exact ⟨y.toNat, rfl, by rw [show ((y.toNat : Nat) : Int) = y by omega]; exact hy, by omega, by omega, h.1, h.2⟩
theorem pot_apart {n : Nat} {xs t : List Int} (hc : Cx n xs) (ht : treeOk n t = true) {p q : Int × Int} (hp : p ∈ potL n xs t xs) (hq : q ∈ potL n xs t xs) (hne : p ≠ q) : shares p q = false := by
 obtain ⟨b, rfl, -, -, -, h1, -⟩ := pot_pair hc hp
 obtain ⟨c, rfl, -, -, -, h2, -⟩ := pot_pair hc hq
 have hbc : b ≠ c := fun e => hne (by rw [e])
 have lb := flip_last hc.lo ht b
 have lc := flip_last hc.lo ht c
 unfold shares
 have e1 : ((((b ^^^ 2 ^ lastQ n t b : Nat) : Int) == ((c ^^^ 2 ^ lastQ n t c : Nat) : Int))) = false := by
  rw [beq_eq_false_iff_ne]
  intro e
  have e : b ^^^ 2 ^ lastQ n t b = c ^^^ 2 ^ lastQ n t c := by omega
  rw [e, lc] at lb
  rw [← lb] at e
  have h3 := congrArg (fun m : Nat => m ^^^ 2 ^ lastQ n t c) e
  simp only [flip_twice] at h3
  exact hbc h3
 have e2 : ((((b ^^^ 2 ^ lastQ n t b : Nat) : Int) == (c : Int))) = false := by
  rw [beq_eq_false_iff_ne]
  intro e
  have e : b ^^^ 2 ^ lastQ n t b = c := by omega
  rw [e] at lb
  rw [lb, ← e, flip_own, h1] at h2
  cases h2
 have e3 : ((b : Int) == ((c ^^^ 2 ^ lastQ n t c : Nat) : Int)) = false := by
  rw [beq_eq_false_iff_ne]
  intro e
  have e : c ^^^ 2 ^ lastQ n t c = b := by omega
  rw [e] at lc
  rw [lc, ← e, flip_own, h2] at h1
  cases h1
 have e4 : ((b : Int) == (c : Int)) = false := by
  rw [beq_eq_false_iff_ne]
  omega
 show (_ || (_ || (_ || _))) = false
 rw [e1, e2, e3, e4]
 rfl
theorem pot_nodup {n : Nat} {xs t : List Int} : ∀ ys : List Int, ys.Pairwise (· < ·) → (∀ y ∈ ys, 0 ≤ y) → (potL n xs t ys).Nodup
 | [], _, _ => by unfold potL; simp
 | y :: r, hp, h0 => by
  rw [List.pairwise_cons] at hp
  have ih := pot_nodup (n := n) (xs := xs) (t := t) r hp.2 (fun z hz => h0 z (List.mem_cons_of_mem _ hz))
  have e : potL n xs t (y :: r) = (if potB n xs t y.toNat then [(((y.toNat ^^^ 2 ^ lastQ n t y.toNat : Nat) : Int), (y.toNat : Int))] else []) ++ potL n xs t r := by unfold potL; rw [List.flatMap_cons]
  rw [e]
  split
  ·rw [List.singleton_append, List.nodup_cons]
   refine ⟨fun hm => ?_, ih⟩
   obtain ⟨z, hz, -, hzp⟩ := potL_mem.1 hm
   have h1 := hp.1 z hz
   have h2 := h0 y List.mem_cons_self
   have h3 : (y.toNat : Int) = (z.toNat : Int) := congrArg Prod.snd hzp
   omega
  ·exact ih
theorem pot_ok {n : Nat} {xs t : List Int} (hc : Cx n xs) (ht : treeOk n t = true) : pOk xs (sortL (potL n xs t xs)) = true := by
 have hnd : (sortL (potL n xs t xs)).Nodup := (List.mergeSort_perm _ _).nodup_iff.2 (pot_nodup xs hc.asc (fun y hy => by have := hc.bd y hy; omega))
 have hle := sortL_leP (potL n xs t xs)
 refine pOk_true (fun i hi => ?_)
 have hg : ∀ j (h : j < (sortL (potL n xs t xs)).length), (sortL (potL n xs t xs)).getD j (0, 0) = (sortL (potL n xs t xs))[j] := fun j h => by
  rw [List.getD_eq_getElem?_getD, List.getElem?_eq_getElem h]; rfl
 have hm : ∀ j (h : j < (sortL (potL n xs t xs)).length), (sortL (potL n xs t xs))[j] ∈ potL n xs t xs := fun j h => sortL_mem.1 (List.getElem_mem h)
 have hne : ∀ j (h : j < i), (sortL (potL n xs t xs))[j]'(by omega) ≠ (sortL (potL n xs t xs))[i] := fun j h => List.pairwise_iff_getElem.1 hnd j i (by omega) hi h
 refine pOkAt_all ?_ ?_ (fun j hj => ?_)
 ·rw [hg i hi]
  obtain ⟨b, e, hb, hbn, hb64, h1, h2⟩ := pot_pair hc (hm i hi)
  rw [e]
  have hq : lastQ n t b < 6 := by have := (last_q hc.lo hc.hi ht b).2; have := hc.hi; omega
  have hf := flip_pair b hb64 _ hq h1
  unfold pairAt
  simp only [Int.toNat_natCast]
  rw [decide_eq_true h2, decide_eq_true hb, decide_eq_true hf.2, hf.1]
  simp
 ·by_cases h0 : i = 0
  ·rw [decide_eq_true h0]; rfl
  ·have h1 := List.pairwise_iff_getElem.1 hle (i - 1) i (by omega) hi (by omega)
   have h2 := hne (i - 1) (by omega)
   rw [hg i hi, hg (i - 1) (by omega)]
   have : lessP (sortL (potL n xs t xs))[i - 1].1 (sortL (potL n xs t xs))[i - 1].2 (sortL (potL n xs t xs))[i].1 (sortL (potL n xs t xs))[i].2 = true := by
    unfold leP at h1
    unfold lessP
    rw [Bool.or_eq_true, decide_eq_true_eq, Bool.and_eq_true, beq_iff_eq, decide_eq_true_eq]
    rcases h1 with h1 | ⟨h1, h3⟩
    ·exact .inl h1
    ·refine .inr ⟨h1, ?_⟩
     have : (sortL (potL n xs t xs))[i - 1].2 ≠ (sortL (potL n xs t xs))[i].2 := fun e => h2 (Prod.ext h1 e)
     omega
   rw [this, Bool.or_true]
 ·rw [hg i hi, hg j (by omega)]
  exact pot_apart hc ht (hm i hi) (hm j (by omega)) (fun e => hne j hj e.symm)
theorem below_flip : ∀ b : Nat, b < 64 → ((below b).all fun f => decide (0 ≤ f) && (List.range 6).any fun u => b.testBit u && (f.toNat == b ^^^ 2 ^ u)) = true := by decide +kernel
theorem high_memT {ps : List (Int × Int)} {a : Int} (h : highTo ps a ≠ 0) : (a, highTo ps a) ∈ ps := by
 unfold highTo at h ⊢
 cases hf : ps.find? (fun p => p.1 == a) with
 | none => rw [hf] at h; exact absurd rfl h
 | some p =>
  have h1 := List.find?_some hf
  have h2 := List.mem_of_find?_eq_some hf
  rw [beq_iff_eq] at h1
  subst h1
  exact h2
theorem pot_step {n : Nat} {xs t : List Int} (hc : Cx n xs) (ht : treeOk n t = true) {a f : Int} (h : f ∈ nextOf (sortL (potL n xs t xs)) a) : lv n t f.toNat < lv n t a.toNat := by
 unfold nextOf at h
 split at h
 ·cases h
 ·next h0 =>
  have hm := sortL_mem.1 (high_memT h0)
  obtain ⟨b, e, hb, hbn, hb64, h1, h2⟩ := pot_pair hc hm
  have ea : a = ((b ^^^ 2 ^ lastQ n t b : Nat) : Int) := congrArg Prod.fst e
  have eb : highTo (sortL (potL n xs t xs)) a = (b : Int) := congrArg Prod.snd e
  rw [eb, Int.toNat_natCast, List.mem_filter] at h
  have h3 := List.all_eq_true.1 (below_flip b hb64) f h.1
  rw [Bool.and_eq_true, decide_eq_true_eq, List.any_eq_true] at h3
  obtain ⟨hf0, u, hu, h4⟩ := h3
  rw [Bool.and_eq_true, beq_iff_eq] at h4
  have hun : u < n := by
   refine Nat.lt_of_not_le (fun hle => ?_)
   have := Nat.testBit_lt_two_pow (x := b) (i := u) (Nat.lt_of_lt_of_le hbn (Nat.pow_le_pow_right (by omega) hle))
   rw [this] at h4
   cases h4.1
  have hne : u ≠ lastQ n t b := fun e2 => by
   have h5 := h.2
   rw [e2] at h4
   rw [ea] at h5
   have : f = ((b ^^^ 2 ^ lastQ n t b : Nat) : Int) := by omega
   rw [this] at h5
   simp at h5
  rw [h4.2, ea, Int.toNat_natCast, (flip_way hc.lo ht b).1]
  exact less_way hc.lo hc.hi ht hun h4.1 hne
theorem pot_acy {n : Nat} {xs t : List Int} (hc : Cx n xs) (ht : treeOk n t = true) : acyB (sortL (potL n xs t xs)) = true := by
 have hd := pOk_dom hc (pot_ok hc ht)
 unfold acyB
 rw [List.all_eq_true]
 intro p hp
 rw [Bool.not_eq_true']
 cases hr : reachB (nextOf (sortL (potL n xs t xs))) p.1 p.1 with
 | false => rfl
 | true =>
  have h1 := (reachB_iff (fun x => (next_dom hd x).1) (fun x => (next_dom hd x).2) p.1 p.1).1 hr
  have h2 := h1 (fun y => lv n t y.toNat < lv n t p.1.toNat) (fun y hy => pot_step hc ht hy) (fun y z hy hz => Nat.lt_trans (pot_step hc ht hz) hy)
  exact absurd h2 (Nat.lt_irrefl _)
/-! critical faces and evaders -/
theorem told_on {n : Nat} {xs t : List Int} {h i : Nat} (ht : toldAt n xs t h i = true) : toldAt n xs t h (i + 1) = true := by
 unfold toldAt at ht ⊢
 rw [decide_eq_true_eq] at ht ⊢
 cases hb : h.testBit (qN t (plc t h i)) with
 | true => rw [yess_yes hb, noes_yes hb]; exact told_p ht
 | false => rw [yess_no hb, noes_no hb]; exact told_q ht
theorem told_more {n : Nat} {xs t : List Int} {h i : Nat} (ht : toldAt n xs t h i = true) : ∀ d, toldAt n xs t h (i + d) = true
 | 0 => ht
 | d + 1 => told_on (told_more ht d)
theorem crit_one {n : Nat} {xs t : List Int} (hc : Cx n xs) (ht : treeOk n t = true) {c : Int} (hm : c ∈ critL xs (sortL (potL n xs t xs))) (he : ¬ c ∈ evTo n xs t (2 ^ n)) : c = ((2 ^ lastQ n t 0 : Nat) : Int) := by
 unfold critL at hm
 rw [List.mem_filter] at hm
 obtain ⟨hx, hcr⟩ := hm
 have hb := hc.bd c hx
 have h6 := pw6 hc.hi
 obtain ⟨b, rfl⟩ : ∃ b : Nat, c = b := ⟨c.toNat, by omega⟩
 have hbn : b < 2 ^ n := by omega
 have hlo := hc.lo
 have hnn : ¬ neededV n xs t b = n := fun e => he (evTo_mem.2 ⟨hbn, e⟩)
 have htold : toldAt n xs t b (n - 1) = true := by
  have hex : ∃ j, j < n ∧ toldAt n xs t b j = true := by
   refine Classical.byContradiction (fun hno => hnn (needed_n.2 (fun j hj => ?_)))
   cases hc2 : toldAt n xs t b j with
   | false => rfl
   | true => exact absurd ⟨j, hj, hc2⟩ hno
  obtain ⟨j, hj, h1⟩ := hex
  have := told_more h1 (n - 1 - j)
  rwa [show j + (n - 1 - j) = n - 1 by omega] at this
 have hlast := last_q hc.lo hc.hi ht b
 -- its other
 have hbn2 : b ^^^ 2 ^ lastQ n t b < 2 ^ n := Nat.xor_lt_two_pow hbn (Nat.pow_lt_pow_right (by omega) hlast.2)
 have hin : inb (yess t b (n - 1)) (noes t b (n - 1)) (b ^^^ 2 ^ lastQ n t b) = true := by
  have := own_inb t (b ^^^ 2 ^ lastQ n t b) (n - 1)
  rw [(flip_way hc.lo ht b).2.1, (flip_way hc.lo ht b).2.2] at this
  exact this
 unfold toldAt at htold
 rw [decide_eq_true_eq] at htold
 obtain ⟨w, hw⟩ := told_same htold
 have w1 := hw b (inb_hid hbn (own_inb t b (n - 1)))
 have w2 := hw _ (inb_hid hbn2 hin)
 have c1 : countB xs (b : Int) = true := by unfold countB; rw [decide_eq_true hx, Bool.or_true]
 rw [← w1, c1] at w2
 unfold countB at w2
 rw [Bool.or_eq_true, beq_iff_eq, decide_eq_true_eq] at w2
 rcases w2 with w2 | w2
 ·have e0 : b ^^^ 2 ^ lastQ n t b = 0 := by omega
  have e1 := flip_last hc.lo ht b
  rw [e0] at e1
  rw [e1]
  have e2 := flip_twice b (lastQ n t b)
  rw [e0, Nat.zero_xor] at e2
  rw [e2]
 ·exfalso
  rw [Bool.not_eq_true', List.any_eq_false] at hcr
  cases hbit : b.testBit (lastQ n t b) with
  | true =>
   refine hcr (((b ^^^ 2 ^ lastQ n t b : Nat) : Int), (b : Int)) (sortL_mem.2 (potL_mem.2 ⟨b, hx, ?_, by rw [Int.toNat_natCast]⟩)) ?_
   ·rw [Int.toNat_natCast]; unfold potB; rw [hbit, decide_eq_true w2]; rfl
   ·unfold inPair; simp
  | false =>
   have e1 := flip_last hc.lo ht b
   refine hcr ((b : Int), ((b ^^^ 2 ^ lastQ n t b : Nat) : Int)) (sortL_mem.2 (potL_mem.2 ⟨((b ^^^ 2 ^ lastQ n t b : Nat) : Int), w2, ?_, ?_⟩)) ?_
   ·rw [Int.toNat_natCast]; unfold potB; rw [e1, flip_own, hbit, flip_twice, decide_eq_true hx]; rfl
   ·rw [Int.toNat_natCast, e1, flip_twice]
   ·unfold inPair; simp
theorem crit_few {n : Nat} {xs t : List Int} (hc : Cx n xs) (ht : treeOk n t = true) : ((critL xs (sortL (potL n xs t xs))).filter fun c => !decide (c ∈ evTo n xs t (2 ^ n))).length ≤ 1 := by
 have hp : ((critL xs (sortL (potL n xs t xs))).filter fun c => !decide (c ∈ evTo n xs t (2 ^ n))).Pairwise (· < ·) := by
  unfold critL
  exact (hc.asc.filter _).filter _
 have hall : ∀ c ∈ (critL xs (sortL (potL n xs t xs))).filter fun c => !decide (c ∈ evTo n xs t (2 ^ n)), c = ((2 ^ lastQ n t 0 : Nat) : Int) := fun c h => by
  rw [List.mem_filter] at h
  exact crit_one hc ht h.1 (by simpa using h.2)
 match hl : (critL xs (sortL (potL n xs t xs))).filter fun c => !decide (c ∈ evTo n xs t (2 ^ n)) with
 | [] => simp
 | [_] => simp
 | x :: y :: r =>
  rw [hl] at hp hall
  have h1 := hall x List.mem_cons_self
  have h2 := hall y (List.mem_cons_of_mem _ List.mem_cons_self)
  rw [List.pairwise_cons] at hp
  have := hp.1 y List.mem_cons_self
  omega
/-! best trees -/
theorem best_at {n : Nat} {xs : List Int} {p : Nat} (h1 : 1 ≤ p) (h2 : p < 2 ^ n) : qAt (bestL n xs) p = (bq n xs p : Int) := by
 unfold qAt bestL
 rw [bestTo'_get (by omega), show p - 1 + 1 = p by omega]
theorem stq_anc {n : Nat} {xs : List Int} : ∀ (k x : Nat), 1 ≤ x / 2 ^ (k + 1) → ((stq n xs x).1 ||| (stq n xs x).2).testBit (bq n xs (x / 2 ^ (k + 1))) = true
 | 0, x, h => by
  rw [Nat.pow_one] at h ⊢
  have hx : ¬ x ≤ 1 := by omega
  by_cases h2 : x % 2 = 1
  ·rw [stq_odd hx h2]
   simp only
   rw [Nat.testBit_or, Nat.testBit_or, Nat.testBit_two_pow, decide_eq_true rfl, Bool.or_true, Bool.true_or]
  ·rw [stq_even hx h2]
   simp only
   rw [Nat.testBit_or, Nat.testBit_or, Nat.testBit_two_pow, decide_eq_true rfl, Bool.or_true, Bool.or_true]
 | k + 1, x, h => by
  have e : x / 2 ^ (k + 1 + 1) = x / 2 / 2 ^ (k + 1) := by rw [Nat.div_div_eq_div_mul, ← Nat.pow_succ']
  rw [e] at h ⊢
  have ih := stq_anc (n := n) (xs := xs) k (x / 2) h
  have hx : ¬ x ≤ 1 := by
   intro hx
   have h0 : x / 2 = 0 := by omega
   rw [h0, Nat.zero_div] at h
   omega
  rw [Nat.testBit_or, Bool.or_eq_true] at ih
  by_cases h2 : x % 2 = 1
  ·rw [stq_odd hx h2]
   simp only
   rw [Nat.testBit_or, Nat.testBit_or]
   rcases ih with ih | ih <;> simp [ih]
  ·rw [stq_even hx h2]
   simp only
   rw [Nat.testBit_or, Nat.testBit_or]
   rcases ih with ih | ih <;> simp [ih]
theorem best_tree {n : Nat} (h1 : 1 ≤ n) (hn : n ≤ 6) (xs : List Int) : treeOk n (bestL n xs) = true := by
 have hp : 1 ≤ 2 ^ n := Nat.one_le_two_pow
 have hlen : (bestL n xs).length = 2 ^ n - 1 := bestTo'_len _ _ _
 refine treeOk_true (N := 2 ^ n) (by rw [hlen]; omega) rfl (inTree_all (fun j hj => ?_)) (fun j hj => ?_)
 ·rw [hlen] at hj
  rw [best_at (by omega) (by omega)]
  have := bq_lt hn xs (x := j + 1) (by omega) (by omega)
  unfold inTree
  rw [Bool.and_eq_true, decide_eq_true_eq, decide_eq_true_eq]
  omega
 ·rw [hlen] at hj
  have key : ∀ m a k, a ≤ m → a = (j + 1) / 2 ^ (k + 1) → clash (bestL n xs) (j + 1) a = false := by
   intro m
   induction m with
   | zero => intro a k ha _; rw [show a = 0 by omega]; exact clash_zero _ _
   | succ m ih =>
    intro a k ha he
    by_cases h0 : a = 0
    ·rw [h0]; exact clash_zero _ _
    ·rw [clash_step (by omega), Bool.or_eq_false_iff]
     refine ⟨?_, ih (a / 2) (k + 1) (by omega) (by rw [he, Nat.div_div_eq_div_mul, ← Nat.pow_succ])⟩
     have hle : a ≤ j + 1 := by rw [he]; exact Nat.div_le_self _ _
     rw [best_at (by omega) (by omega), best_at (by omega) (by omega), beq_eq_false_iff_ne]
     intro e
     have e : bq n xs a = bq n xs (j + 1) := by omega
     obtain ⟨i, hi, hi1, hi2⟩ := level_of (n := n) (x := j + 1) (by omega) (by omega)
     have hpl := stq_pl hn xs i (j + 1) (by omega) hi1 hi2
     have hfr := bestQ_free hn (xs := xs) hpl.1 (by omega)
     have han := stq_anc (n := n) (xs := xs) k (j + 1) (by rw [← he]; omega)
     rw [← he, e] at han
     rw [show bq n xs (j + 1) = bestQ n xs (stq n xs (j + 1)).1 (stq n xs (j + 1)).2 from rfl, hfr] at han
     cases han
  exact key ((j + 1) / 2) ((j + 1) / 2) 0 (Nat.le_refl _) (by rw [Nat.pow_one])
theorem best_way {n : Nat} (hn : n ≤ 6) (xs : List Int) (h : Nat) : ∀ i, i ≤ n → stq n xs (plc (bestL n xs) h i) = (yess (bestL n xs) h i, noes (bestL n xs) h i)
 | 0, _ => stq_one n xs
 | i + 1, hi => by
  have ih := best_way hn xs h i (by omega)
  have hb := plc_bd (bestL n xs) h i
  have hb1 := plc_bd (bestL n xs) h (i + 1)
  have hp1 : 1 ≤ 2 ^ i := Nat.one_le_two_pow
  have hp2 : 2 ^ (i + 1) ≤ 2 ^ n := Nat.pow_le_pow_right (by omega) hi
  have hp3 : 2 ^ (i + 1) = 2 * 2 ^ i := Nat.pow_succ'
  have hq : qN (bestL n xs) (plc (bestL n xs) h i) = bq n xs (plc (bestL n xs) h i) := by
   unfold qN
   rw [best_at (by omega) (by omega)]; rfl
  have hhalf := plc_half (bestL n xs) h i
  cases hbit : h.testBit (qN (bestL n xs) (plc (bestL n xs) h i)) with
  | true =>
   have e := plc_yes hbit
   rw [stq_odd (by omega) (by omega), hhalf, ih, yess_yes hbit, noes_yes hbit, hq]
  | false =>
   have e := plc_no hbit
   rw [stq_even (by omega) (by omega), hhalf, ih, yess_no hbit, noes_no hbit, hq]
theorem best_sum {n : Nat} (h1 : 1 ≤ n) (hn : n ≤ 6) {xs : List Int} : ∀ d i h, i + (d + 1) = n → (∀ j, j < i → toldAt n xs (bestL n xs) h j = false) →
  sumB (2 ^ n) (evI n xs (bestL n xs)) (yess (bestL n xs) h i) (noes (bestL n xs) h i) = leastV n xs (yess (bestL n xs) h i) (noes (bestL n xs) h i)
 | d, i, h, hi, h0 => by
  have ht := best_tree h1 hn xs
  generalize htt : bestL n xs = t at *
  have hpl := way_pl ht h i (by omega)
  have hp := hpl.1
  have hf := hpl.2 (by omega)
  have hb := plc_bd t h i
  have h2 : 2 ^ (i + 1) ≤ 2 ^ n := Nat.pow_le_pow_right (by omega) (by omega)
  have h01 : 1 ≤ 2 ^ i := Nat.one_le_two_pow
  have hq := tree_in ht (p := plc t h i) (by omega) (by omega)
  have hv : qN t (plc t h i) < n := hq.2.2.2
  have hl := way_left hn ht h i (by omega)
  by_cases hto : 0 ≤ toldV n xs (yess t h i) (noes t h i)
  ·have e : sumB (2 ^ n) (evI n xs t) (yess t h i) (noes t h i) = 0 := by
    unfold sumB
    refine sumTo_zero (fun k hk => ?_)
    cases hin : inb (yess t h i) (noes t h i) k with
    | false => rfl
    | true =>
     show evI n xs t k = 0
     unfold evI
     refine if_neg (fun he => ?_)
     have h3 := needed_n.1 he i (by omega)
     rw [told_alike hin (Nat.le_refl _)] at h3
     unfold toldAt at h3
     rw [decide_eq_false_iff_not] at h3
     exact h3 hto
   rw [e, leastV_told hto]
  ·have hstq : stq n xs (plc t h i) = (yess t h i, noes t h i) := by subst htt; exact best_way hn xs h i (by omega)
   have hbq : qN t (plc t h i) = bq n xs (plc t h i) := by
    subst htt
    unfold qN
    rw [best_at (by omega) (by omega)]; rfl
   have hpick := (bestQ_lt hn (xs := xs) hp (by omega)).2.1
   have hbb : bestQ n xs (yess t h i) (noes t h i) = qN t (plc t h i) := by rw [hbq]; unfold bq; rw [hstq]
   rw [hbb] at hpick
   generalize hvv : qN t (plc t h i) = v at *
   have hy : inb (yess t h i) (noes t h i) (yess t h i ||| 2 ^ v) = true := by
    refine inb_bits.2 ⟨fun j hj => by rw [testBit_orp, hj]; rfl, fun j hj => ?_⟩
    rw [testBit_orp]
    have h1 : (yess t h i).testBit j = false := by
     cases hc : (yess t h i).testBit j with
     | false => rfl
     | true => rw [hp.bit j hc] at hj; cases hj
    rw [h1, Bool.false_or, decide_eq_false_iff_not]
    rintro rfl
    rw [Nat.testBit_or, hj, Bool.or_true] at hf
    cases hf
   have hx : inb (yess t h i) (noes t h i) (yess t h i) = true := inb_self hp
   obtain ⟨y1, y2, y3⟩ := way_same i hy
   obtain ⟨x1, x2, x3⟩ := way_same i hx
   have by1 : (yess t h i ||| 2 ^ v).testBit (qN t (plc t (yess t h i ||| 2 ^ v) i)) = true := by rw [y1, hvv, testBit_orp]; simp
   have bx1 : (yess t h i).testBit (qN t (plc t (yess t h i) i)) = false := by
    rw [x1, hvv]
    rw [Nat.testBit_or, Bool.or_eq_false_iff] at hf
    exact hf.1
   have h0y : ∀ j, j < i + 1 → toldAt n xs t (yess t h i ||| 2 ^ v) j = false := fun j hj => by
    rw [told_alike hy (by omega)]
    by_cases hji : j = i
    ·subst hji; unfold toldAt; rw [decide_eq_false_iff_not]; exact hto
    ·exact h0 j (by omega)
   have h0x : ∀ j, j < i + 1 → toldAt n xs t (yess t h i) j = false := fun j hj => by
    rw [told_alike hx (by omega)]
    by_cases hji : j = i
    ·subst hji; unfold toldAt; rw [decide_eq_false_iff_not]; exact hto
    ·exact h0 j (by omega)
   rw [sumB_split _ _ _ _ v]
   match d, hi with
   | 0, hi =>
    have iy := evade_sum hn ht 0 (i + 1) (yess t h i ||| 2 ^ v) (by omega) h0y
    have ix := evade_sum hn ht 0 (i + 1) (yess t h i) (by omega) h0x
    rw [yess_yes by1, noes_yes by1, y1, y2, y3, hvv] at iy
    rw [yess_no bx1, noes_no bx1, x1, x2, x3, hvv] at ix
    rw [iy.2.1 rfl, ix.2.1 rfl, leastV_last hto (by omega)]
    rfl
   | d + 1, hi =>
    subst htt
    have iy := best_sum h1 hn (xs := xs) d (i + 1) (yess (bestL n xs) h i ||| 2 ^ v) (by omega) h0y
    have ix := best_sum h1 hn (xs := xs) d (i + 1) (yess (bestL n xs) h i) (by omega) h0x
    rw [yess_yes by1, noes_yes by1, y1, y2, y3, hvv] at iy
    rw [yess_no bx1, noes_no bx1, x1, x2, x3, hvv] at ix
    rw [iy, ix]
    unfold pickV at hpick
    rw [Bool.and_eq_true, Bool.or_eq_true, beq_iff_eq, beq_iff_eq] at hpick
    rcases hpick.2 with h3 | h3
    ·omega
    ·exact h3
theorem best_evaders {n : Nat} (h1 : 1 ≤ n) (hn : n ≤ 6) (xs : List Int) : ((evTo n xs (bestL n xs) (2 ^ n)).length : Int) = leastV n xs 0 0 := by
 have h := best_sum h1 hn (xs := xs) (n - 1) 0 0 (by omega) (fun j hj => absurd hj (Nat.not_lt_zero _))
 rw [evTo_sum, ← sumB_all]
 exact h
end Go.Proofs.YtkggchklmpmgpaaGreat.H

namespace Go.Proofs.YtkggchklmpmgpaaGreat.H
open Go.RowKit Go.Proofs.YtkggchklmpmgpaaGreatW.PrintWords Go.Proofs.YtkggchklmpmgpaaGreatW.PrintLast
set_option linter.unusedVariables false
set_option linter.unusedSimpArgs false
/-- the code of a pairing -/
def codePg (a : Int) (xs : List Int) (ps : List (Int × Int)) : Int := if cxOk a xs then (if pOk xs ps then 0 else 2) else 1
def ansIsAcyclicPairing (a : Int) (xs : List Int) (ps : List (Int × Int)) : Bool × Int := if codePg a xs ps = 0 then (acyB ps, 0) else (false, codePg a xs ps)
def ansCriticalFaces (a : Int) (xs : List Int) (ps : List (Int × Int)) : List Int × Int := if codePg a xs ps = 0 then (critL xs ps, 0) else ([], codePg a xs ps)
theorem codePg_zero {a : Int} {xs : List Int} {ps : List (Int × Int)} (h : codePg a xs ps = 0) : ∃ n : Nat, a = n ∧ Cx n xs ∧ pOk xs ps = true := by
 unfold codePg at h
 split at h
 ·next h1 =>
  obtain ⟨n, rfl, hc⟩ := cxOk_nat h1
  split at h
  ·next h2 => exact ⟨n, rfl, hc, h2⟩
  ·cases h
 ·cases h
set_option maxRecDepth 100000 in
set_option maxHeartbeats 2000000 in
theorem implIsAcyclicPairing (a : Int) (ku : Value) (xs : List Int) (v : Value) (ps : List (Int × Int)) (w : World) (hk : ReadI w ku xs) (hv : ReadP w v ps) :
  Calls Tryz.prog 62 #[cx a ku, v] w fun e w' => e = .returned (.tuple #[.bool (ansIsAcyclicPairing a xs ps).1, .int .i64 (ansIsAcyclicPairing a xs ps).2]) ∧ Below w.heap.size w w' := by
 obtain ⟨w1, hw1⟩ : ∃ w1, w1 = w.alloc (.cells #[.int .i64 a, ku] 26) := ⟨_, rfl⟩
 have hB : Below w.heap.size w w1 := by rw [hw1]; exact Below.alloc (Below.refl _ _) (Nat.le_refl _) _
 have c0 : w1.cell? ⟨w.heap.size, 0, none⟩ = some (.int .i64 a) := by rw [hw1]; simp
 have c1 : w1.cell? ⟨w.heap.size, 1, none⟩ = some ku := by rw [hw1]; simp
 have HB := Aside0.mk hB
 have HK := Aside0.mk (hk.below hB)
 have HP := Aside0.mk (hv.below hB)
 have hM := pairingCode a ku xs v ps true w1 HK.out HP.out
 rw [Bool.true_and, show (if cxOk a xs then (if pOk xs ps then (0 : Int) else 2) else 1) = codePg a xs ps from rfl] at hM
 have HM := Aside0.mk hM
 obtain ⟨A1, d1, rfl, -⟩ := id hk
 obtain ⟨A2, d2, rfl, -⟩ := id hv
 obtain ⟨k, hk0⟩ : ∃ k, k = codePg a xs ps := ⟨_, rfl⟩
 clear hk hB hv hM
 by_cases hx : codePg a xs ps = 0
 ·have HA : Aside0 (ansIsAcyclicPairing a xs ps = (acyB ps, 0)) := ⟨by unfold ansIsAcyclicPairing; rw [if_pos hx]⟩
  obtain ⟨n, rfl, hc, hp⟩ := codePg_zero hx
  rw [hx] at HM
  have HC := Aside0.mk hc
  have HD := Aside0.mk (pOk_dom hc hp)
  clear hx hc hp hk0
  go_enter Tryz.func62, Tryz.ntmps62
  go_wp2_with (first | (go_at_call 192; rw [← hw1]; clear hw1; refine HM.out.mono ?_; rintro e w2 ⟨rfl, hb⟩; have HB2 := Aside0.mk hb; replace c0 := pw_cell_below hb c0; replace c1 := pw_cell_below hb c1; clear hb) | (go_at_call 220; refine (isAcyclic n _ xs _ ps _ (HK.out.below HB2.out) (HP.out.below HB2.out) HD.out).mono ?_; rintro e w3 ⟨rfl, hb⟩; have HB3 := Aside0.mk hb; clear hb))
  go_ret2
  exact ⟨by rw [HA.out]; rfl, HB.out.trans ((HB2.out.trans (HB3.out.mono HB2.out.size)).mono HB.out.size)⟩
 ·have HA : Aside0 (ansIsAcyclicPairing a xs ps = (false, codePg a xs ps)) := ⟨by unfold ansIsAcyclicPairing; rw [if_neg hx]⟩
  rw [← hk0] at hx HM HA
  have hx1 : (k != 0) = true := by simpa using hx
  have hx2 : (k == 0) = false := by rw [beq_eq_false_iff_ne]; exact hx
  clear hx hk0
  go_enter Tryz.func62, Tryz.ntmps62
  go_wp2_with (first | (go_at_call 192; rw [← hw1]; clear hw1; refine HM.out.mono ?_; rintro e w2 ⟨rfl, hb⟩; have HB2 := Aside0.mk hb; clear hb))
  go_ret2
  exact ⟨by rw [HA.out]; rfl, HB.out.trans (HB2.out.mono HB.out.size)⟩
set_option maxRecDepth 100000 in
set_option maxHeartbeats 2000000 in
theorem implCriticalFaces (a : Int) (ku : Value) (xs : List Int) (v : Value) (ps : List (Int × Int)) (w : World) (hk : ReadI w ku xs) (hv : ReadP w v ps) :
  Calls Tryz.prog 64 #[cx a ku, v] w fun e w' => ∃ u, e = .returned (.tuple #[u, .int .i64 (ansCriticalFaces a xs ps).2]) ∧ OwnI w.heap.size w' u (ansCriticalFaces a xs ps).1 ∧ Below w.heap.size w w' := by
 obtain ⟨w1, hw1⟩ : ∃ w1, w1 = w.alloc (.cells #[.int .i64 a, ku] 26) := ⟨_, rfl⟩
 have hB : Below w.heap.size w w1 := by rw [hw1]; exact Below.alloc (Below.refl _ _) (Nat.le_refl _) _
 have c0 : w1.cell? ⟨w.heap.size, 0, none⟩ = some (.int .i64 a) := by rw [hw1]; simp
 have c1 : w1.cell? ⟨w.heap.size, 1, none⟩ = some ku := by rw [hw1]; simp
 have HB := Aside0.mk hB
 have HK := Aside0.mk (hk.below hB)
 have HP := Aside0.mk (hv.below hB)
 have hM := pairingCode a ku xs v ps true w1 HK.out HP.out
 rw [Bool.true_and, show (if cxOk a xs then (if pOk xs ps then (0 : Int) else 2) else 1) = codePg a xs ps from rfl] at hM
 have HM := Aside0.mk hM
 obtain ⟨A1, d1, rfl, -⟩ := id hk
 obtain ⟨A2, d2, rfl, -⟩ := id hv
 obtain ⟨k, hk0⟩ : ∃ k, k = codePg a xs ps := ⟨_, rfl⟩
 clear hk hB hv hM
 by_cases hx : codePg a xs ps = 0
 ·have HA : Aside0 (ansCriticalFaces a xs ps = (critL xs ps, 0)) := ⟨by unfold ansCriticalFaces; rw [if_pos hx]⟩
  obtain ⟨n, rfl, hc, hp⟩ := codePg_zero hx
  rw [hx] at HM
  have HC := Aside0.mk hc
  have HD := Aside0.mk (pOk_dom hc hp)
  clear hx hc hp hk0
  go_enter Tryz.func64, Tryz.ntmps64
  go_wp2_with (first | (go_at_call 192; rw [← hw1]; clear hw1; refine HM.out.mono ?_; rintro e w2 ⟨rfl, hb⟩; have HB2 := Aside0.mk hb; replace c0 := pw_cell_below hb c0; replace c1 := pw_cell_below hb c1; clear hb) | (go_at_call 194; refine (critical n _ xs _ ps _ (HK.out.below HB2.out) (HP.out.below HB2.out) (by have := HC.out.len; omega)).mono ?_; rintro e w3 ⟨u, rfl, ho, hb⟩; have HB3 := Aside0.mk hb; have HO3 := Aside0.mk ho; clear hb ho))
  go_ret2
  exact ⟨_, by rw [HA.out]; rfl, by rw [HA.out]; exact HO3.out.lower (Nat.le_trans HB.out.size HB2.out.size), HB.out.trans ((HB2.out.trans (HB3.out.mono HB2.out.size)).mono HB.out.size)⟩
 ·have HA : Aside0 (ansCriticalFaces a xs ps = ([], codePg a xs ps)) := ⟨by unfold ansCriticalFaces; rw [if_neg hx]⟩
  rw [← hk0] at hx HM HA
  have hx1 : (k != 0) = true := by simpa using hx
  have hx2 : (k == 0) = false := by rw [beq_eq_false_iff_ne]; exact hx
  clear hx hk0
  go_enter Tryz.func64, Tryz.ntmps64
  go_wp2_with (first | (go_at_call 192; rw [← hw1]; clear hw1; refine HM.out.mono ?_; rintro e w2 ⟨rfl, hb⟩; have HB2 := Aside0.mk hb; clear hb))
  go_ret2
  exact ⟨_, by rw [HA.out]; rfl, by rw [HA.out]; exact OwnI.nil _ _, HB.out.trans (HB2.out.mono HB.out.size)⟩
end Go.Proofs.YtkggchklmpmgpaaGreat.H

namespace Go.Proofs.YtkggchklmpmgpaaGreat.H
open Go.ChangeShapes Go.WideShapes Go.ChangeAt
open Go.RowKit Go.Proofs.YtkggchklmpmgpaaGreatW.PrintWords Go.Proofs.YtkggchklmpmgpaaGreatW.PrintLast
set_option linter.unusedVariables false
set_option linter.unusedSimpArgs false
end Go.Proofs.YtkggchklmpmgpaaGreat.H

namespace Go.Proofs.YtkggchklmpmgpaaGreat.H
open Go.RowKit Go.Proofs.YtkggchklmpmgpaaGreatW.PrintWords Go.Proofs.YtkggchklmpmgpaaGreatW.PrintLast
set_option linter.unusedVariables false
set_option linter.unusedSimpArgs false
/-- what IsTree answers -/
def ansTree (a : Int) (t : List Int) : Bool × Int := if 1 ≤ a ∧ a ≤ 6 then (treeOk a.toNat t, 0) else (false, 2)
theorem implIsTree (v : Value) (t : List Int) (a : Int) (w : World) (hr : ReadI w v t) :
  Calls Tryz.prog 57 #[.int .i64 a, v] w fun e w' => e = .returned (.tuple #[.bool (ansTree a t).1, .int .i64 (ansTree a t).2]) ∧ Below w.heap.size w w' := by
 by_cases h : 1 ≤ a ∧ a ≤ 6
 ·obtain ⟨n, rfl⟩ : ∃ n : Nat, a = n := ⟨a.toNat, by omega⟩
  have hs : (decide ((1 : Int) ≤ n) && decide ((n : Int) ≤ 6)) = true := by simp; omega
  have HA : Aside0 (ansTree n t = (treeOk n t, 0)) := ⟨by simp [ansTree, h]⟩
  have hn : 1 ≤ n ∧ n ≤ 6 := by omega
  have HR := Aside0.mk hr
  obtain ⟨A, c, rfl, -⟩ := id hr
  clear hr h
  go_enter Tryz.func57, Tryz.ntmps57
  go_wp2_with (first | (go_at_call 151; refine (isSize _ _).mono ?_; rintro e w' ⟨rfl, hb⟩; rw [hs]; have HB := Aside0.mk hb; clear hb) | (go_at_call 208; refine (isTree _ _ _ hn _ (HR.out.below HB.out)).mono ?_; rintro e w' ⟨rfl, hb2⟩; have HB2 := Aside0.mk (HB.out.trans (hb2.mono HB.out.size)); clear hb2))
  go_ret2
  exact ⟨by rw [HA.out]; rfl, HB2.out⟩
 ·have hs : (decide ((1 : Int) ≤ a) && decide (a ≤ 6)) = false := by simp; omega
  have HA : Aside0 (ansTree a t = (false, 2)) := ⟨by simp [ansTree, h]⟩
  obtain ⟨A, c, rfl, -⟩ := id hr
  clear hr h
  go_enter Tryz.func57, Tryz.ntmps57
  go_wp2_with (first | (go_at_call 151; refine (isSize _ _).mono ?_; rintro e w' ⟨rfl, hb⟩; rw [hs]; have HB := Aside0.mk hb; clear hb))
  go_ret2
  exact ⟨by rw [HA.out]; rfl, HB.out⟩
theorem specIsTree (v : Value) (t : List Int) (a : Int) (w : World) (hr : ReadI w v t) :
  Calls Tryz.prog 58 #[.int .i64 a, v] w fun e w' => e = .returned (.tuple #[.bool (ansTree a t).1, .int .i64 (ansTree a t).2]) ∧ Below w.heap.size w w' := by
 by_cases h : 1 ≤ a ∧ a ≤ 6
 ·obtain ⟨n, rfl⟩ : ∃ n : Nat, a = n := ⟨a.toNat, by omega⟩
  have hs : (decide ((1 : Int) ≤ n) && decide ((n : Int) ≤ 6)) = true := by simp; omega
  have HA : Aside0 (ansTree n t = (treeOk n t, 0)) := ⟨by simp [ansTree, h]⟩
  have hn : 1 ≤ n ∧ n ≤ 6 := by omega
  have HR := Aside0.mk hr
  obtain ⟨A, c, rfl, -⟩ := id hr
  clear hr h
  go_enter Tryz.func58, Tryz.ntmps58
  go_wp2_with (first | (go_at_call 164; refine (specIn _ _ _ _).mono ?_; rintro e w' ⟨rfl, hb⟩; rw [hs]; have HB := Aside0.mk hb; clear hb) | (go_at_call 217; refine (specTree _ _ _ hn _ (HR.out.below HB.out)).mono ?_; rintro e w' ⟨rfl, hb2⟩; have HB2 := Aside0.mk (HB.out.trans (hb2.mono HB.out.size)); clear hb2))
  go_ret2
  exact ⟨by rw [HA.out]; rfl, HB2.out⟩
 ·have hs : (decide ((1 : Int) ≤ a) && decide (a ≤ 6)) = false := by simp; omega
  have HA : Aside0 (ansTree a t = (false, 2)) := ⟨by simp [ansTree, h]⟩
  obtain ⟨A, c, rfl, -⟩ := id hr
  clear hr h
  go_enter Tryz.func58, Tryz.ntmps58
  go_wp2_with (first | (go_at_call 164; refine (specIn _ _ _ _).mono ?_; rintro e w' ⟨rfl, hb⟩; rw [hs]; have HB := Aside0.mk hb; clear hb))
  go_ret2
  exact ⟨by rw [HA.out]; rfl, HB.out⟩
/-- the numbers seen -/
def seenTo (o : List Int) : Nat := o.foldl (fun s v => s ||| 2 ^ v.toNat) 0
/-- each comes once -/
def onceB : List Int → Bool
 | [] => true
 | a :: r => !decide (a ∈ r) && onceB r
/-- an order of n -/
def ordOk (n : Nat) (o : List Int) : Bool := o.all (inTree n) && (decide (o.length = n) && decide (seenTo o = 2 ^ n - 1))
/-- all lists of k numbers below n -/
def listsOf (n : Nat) : Nat → List (List Nat)
 | 0 => [[]]
 | k + 1 => (listsOf n k).flatMap fun r => (List.range n).map fun a => a :: r
def seenN (o : List Nat) : Nat := o.foldl (fun s v => s ||| 2 ^ v) 0
def onceN : List Nat → Bool
 | [] => true
 | a :: r => !(r.elem a) && onceN r
set_option maxRecDepth 1000000 in
theorem once_all : ∀ n, n < 7 → (listsOf n n).all (fun o => (seenN o == 2 ^ n - 1) == onceN o) = true := by decide +kernel
theorem listsOf_mem {n : Nat} : ∀ (o : List Nat), (∀ v ∈ o, v < n) → o ∈ listsOf n o.length
 | [], _ => by simp [listsOf]
 | a :: r, h => by
  have h1 := listsOf_mem r (fun v hv => h v (List.mem_cons_of_mem _ hv))
  simp only [List.length_cons, listsOf, List.mem_flatMap]
  exact ⟨r, h1, List.mem_map.2 ⟨a, List.mem_range.2 (h a List.mem_cons_self), rfl⟩⟩
theorem seen_nat (o : List Int) : seenTo o = seenN (o.map Int.toNat) := by unfold seenTo seenN; rw [List.foldl_map]
theorem once_nat : ∀ (o : List Int), (∀ v ∈ o, 0 ≤ v) → onceB o = onceN (o.map Int.toNat)
 | [], _ => rfl
 | a :: r, h => by
  unfold onceB
  rw [List.map_cons]
  unfold onceN
  rw [once_nat r (fun v hv => h v (List.mem_cons_of_mem _ hv))]
  congr 2
  have ha := h a List.mem_cons_self
  rw [Bool.eq_iff_iff, decide_eq_true_eq, List.elem_eq_mem, decide_eq_true_eq, List.mem_map]
  constructor
  ·intro hm; exact ⟨a, hm, rfl⟩
  ·rintro ⟨b, hb, e⟩
   have := h b (List.mem_cons_of_mem _ hb)
   have : a = b := by omega
   rw [this]; exact hb
theorem seen_once {n : Nat} {o : List Int} (hn : n ≤ 6) (hl : o.length = n) (hin : o.all (inTree n) = true) : decide (seenTo o = 2 ^ n - 1) = onceB o := by
 have hb : ∀ v ∈ o, 0 ≤ v ∧ v ≤ (n : Int) - 1 := fun v hv => by
  have := List.all_eq_true.1 hin v hv
  unfold inTree at this
  simpa using this
 have h1 := List.all_eq_true.1 (once_all n (by omega)) (o.map Int.toNat) (by
  have := listsOf_mem (n := n) (o.map Int.toNat) (fun v hv => by
   obtain ⟨x, hx, rfl⟩ := List.mem_map.1 hv
   have := hb x hx; omega)
  rwa [List.length_map, hl] at this)
 rw [beq_iff_eq] at h1
 rw [seen_nat, once_nat o (fun v hv => (hb v hv).1), ← h1]
 rw [Bool.eq_iff_iff, decide_eq_true_eq, beq_iff_eq]
set_option maxRecDepth 100000 in
set_option maxHeartbeats 8000000 in
theorem len64 (x : Nat) (h1 : 1 ≤ x) (h2 : x < 64) (w : World) : Calls Tryz.prog 219 #[.int .u64 x] w fun e w' => e = .returned (.int .i64 ((Nat.log2 x : Nat) + 1 : Int)) ∧ Below w.heap.size w w' := by
 rcases (by omega : x = 1 ∨ x = 2 ∨ x = 3 ∨ x = 4 ∨ x = 5 ∨ x = 6 ∨ x = 7 ∨ x = 8 ∨ x = 9 ∨ x = 10 ∨ x = 11 ∨ x = 12 ∨ x = 13 ∨ x = 14 ∨ x = 15 ∨ x = 16 ∨ x = 17 ∨ x = 18 ∨ x = 19 ∨ x = 20 ∨ x = 21 ∨ x = 22 ∨ x = 23 ∨ x = 24 ∨ x = 25 ∨ x = 26 ∨ x = 27 ∨ x = 28 ∨ x = 29 ∨ x = 30 ∨ x = 31 ∨ x = 32 ∨ x = 33 ∨ x = 34 ∨ x = 35 ∨ x = 36 ∨ x = 37 ∨ x = 38 ∨ x = 39 ∨ x = 40 ∨ x = 41 ∨ x = 42 ∨ x = 43 ∨ x = 44 ∨ x = 45 ∨ x = 46 ∨ x = 47 ∨ x = 48 ∨ x = 49 ∨ x = 50 ∨ x = 51 ∨ x = 52 ∨ x = 53 ∨ x = 54 ∨ x = 55 ∨ x = 56 ∨ x = 57 ∨ x = 58 ∨ x = 59 ∨ x = 60 ∨ x = 61 ∨ x = 62 ∨ x = 63) with rfl | rfl | rfl | rfl | rfl | rfl | rfl | rfl | rfl | rfl | rfl | rfl | rfl | rfl | rfl | rfl | rfl | rfl | rfl | rfl | rfl | rfl | rfl | rfl | rfl | rfl | rfl | rfl | rfl | rfl | rfl | rfl | rfl | rfl | rfl | rfl | rfl | rfl | rfl | rfl | rfl | rfl | rfl | rfl | rfl | rfl | rfl | rfl | rfl | rfl | rfl | rfl | rfl | rfl | rfl | rfl | rfl | rfl | rfl | rfl | rfl | rfl | rfl
 all_goals
  go_enter Tryz.func219, Tryz.ntmps219
  go_wp2
  go_ret
  exact ⟨by kernel_rfl, by (repeat (first | (with_reducible exact Below.refl _ _) | (with_reducible assumption) | (with_reducible refine below_step ?_ (by assumption)) | (with_reducible apply below_alloc) | (with_reducible apply below_drewN)))⟩
theorem seenTo_snoc (o : List Int) (v : Int) : seenTo (o ++ [v]) = seenTo o ||| 2 ^ v.toNat := by unfold seenTo; rw [List.foldl_append]; rfl
theorem seenTo_lt : ∀ (o : List Int), (∀ v ∈ o, v ≤ 5) → seenTo o < 64 := by
 intro o
 unfold seenTo
 have : ∀ (o : List Int) (s : Nat), s < 64 → (∀ v ∈ o, v ≤ 5) → o.foldl (fun s v => s ||| 2 ^ v.toNat) s < 64 := by
  intro o
  induction o with
  | nil => intro s hs _; exact hs
  | cons a r ih =>
   intro s hs h
   refine ih _ ?_ (fun v hv => h v (List.mem_cons_of_mem _ hv))
   have ha := h a List.mem_cons_self
   have h2 : 2 ^ a.toNat < 2 ^ 6 := Nat.pow_lt_pow_right (by decide) (by omega)
   exact Nat.or_lt_two_pow (n := 6) hs h2
 exact this o 0 (by decide)
theorem mem_of_getD {xs : List Int} {i : Nat} {x : Int} (hi : i < xs.length) (h : xs.getD i 0 = x) : x ∈ xs := by
 rw [← h, List.getD_eq_getElem?_getD, List.getElem?_eq_getElem hi]; simp
theorem take_snoc {xs : List Int} {i : Nat} {y : Int} (h : i < xs.length) (hy : xs.getD i 0 = y) : xs.take (i + 1) = xs.take i ++ [y] := take_get h hy
set_option maxRecDepth 100000 in
set_option maxHeartbeats 2000000 in
theorem isOrder (v : Value) (o : List Int) (n : Nat) (h1 : 1 ≤ n) (hn : n ≤ 6) (w : World) (hr : ReadI w v o) :
  Calls Tryz.prog 218 #[v, .int .i64 n] w fun e w' => e = .returned (.bool (ordOk n o)) ∧ Below w.heap.size w w' := by
 have hlen := hr.len
 obtain ⟨A1, d1, rfl, hcc, hr⟩ := hr
 have HR := Aside0.mk hr
 have hsh := pow_wrap n (by omega)
 have hb64 : 2 ≤ 2 ^ n ∧ 2 ^ n ≤ 64 := by
  rcases (by omega : n = 1 ∨ n = 2 ∨ n = 3 ∨ n = 4 ∨ n = 5 ∨ n = 6) with rfl | rfl | rfl | rfl | rfl | rfl <;> decide
 obtain ⟨N, hN⟩ : ∃ N : Nat, N = 2 ^ n := ⟨_, rfl⟩
 have HN := Aside0.mk hN
 rw [← hN] at hsh hb64
 clear hr hcc hN
 go_enter Tryz.func218, Tryz.ntmps218
 go_wp2
 go_loopw [5, 10] (fun s5 s10 wr => ∃ i : Nat, s10 = .int .i64 i ∧ i ≤ o.length ∧ s5 = .int .i64 (seenTo (o.take i) : Nat) ∧ Aside0 (∀ x ∈ o.take i, inTree n x = true) ∧ Aside0 (Below w.heap.size w wr)) (fun _ s10 _ => o.length - (intOf s10).toNat)
 case atStart => exact ⟨0, rfl, Nat.zero_le _, rfl, ⟨fun x hx => by simp at hx⟩, ⟨Below.refl _ _⟩⟩
 case round =>
  obtain ⟨i, rfl, hi, rfl, HI, HB⟩ := hrel
  have HS : Aside0 (seenTo (o.take i) < 64) := ⟨seenTo_lt _ (fun x hx => by have := HI.out x hx; unfold inTree at this; simp at this; omega)⟩
  by_cases hlt : i < o.length
  ·obtain ⟨ad, y, rfl, hcell, HY⟩ := ReadI.get (Kd.C_below HR.out HB.out) hlt
   cases hin : (decide (0 ≤ y) && decide (y ≤ (n : Int) - 1)) with
   | false =>
    have HA : Aside0 (ordOk n o = false) := ⟨by
     unfold ordOk
     rw [show o.all (inTree n) = false from List.all_eq_false.2 ⟨y, mem_of_getD hlt HY.out, by unfold inTree; rw [hin]; decide⟩, Bool.false_and]⟩
    go_wp2_with (first | (go_at_call 152; refine (within _ _ _ _).mono ?_; rintro e w2 ⟨rfl, hb⟩; rw [hin]))
    go_ret
    exact ⟨by rw [HA.out]; rfl, HB.out.trans (hb.mono HB.out.size)⟩
   | true =>
    have hy := hin
    simp only [Bool.and_eq_true, decide_eq_true_eq] at hy
    obtain ⟨p, rfl⟩ : ∃ p : Nat, y = p := ⟨y.toNat, by omega⟩
    have HT : Aside0 (seenTo (o.take (i + 1)) = seenTo (o.take i) ||| 2 ^ p) := ⟨by rw [take_snoc hlt HY.out, seenTo_snoc, Int.toNat_natCast]⟩
    have HI2 : Aside0 (∀ x ∈ o.take (i + 1), inTree n x = true) := ⟨fun x hx => by
     rw [take_snoc hlt HY.out, List.mem_append, List.mem_singleton] at hx
     rcases hx with hx | rfl
     ·exact HI.out x hx
     ·unfold inTree; exact hin⟩
    have hp6 : p < 6 := by omega
    have hshp := pow_wrap p (by omega)
    have hpp : 2 ^ p < 64 := by have := Nat.pow_lt_pow_right (a := 2) (by decide) hp6; omega
    have hs64 := HS.out
    obtain ⟨S, hS⟩ : ∃ S, S = seenTo (o.take i) := ⟨_, rfl⟩
    rw [← hS] at HT hs64 ⊢
    obtain ⟨P, hP⟩ : ∃ P, P = 2 ^ p := ⟨_, rfl⟩
    rw [← hP] at HT hshp hpp
    have hor := or_i64 S P (by omega) (by omega)
    clear hS hP hy
    go_wp2_with (first | (go_at_call 152; refine (within _ _ _ _).mono ?_; rintro e w2 ⟨rfl, hb⟩; rw [hin]))
    go_roundw
    case rel => exact ⟨i + 1, by go_num, by omega, by rw [HT.out], HI2, ⟨HB.out.trans (hb.mono HB.out.size)⟩⟩
    case measure => simp [intOf]; omega
  ·have e : i = o.length := by omega
   have hall : o.all (inTree n) = true := by
    rw [List.all_eq_true]
    have := HI.out
    rw [e, List.take_length] at this
    exact this
   have HA : Aside0 (ordOk n o = (decide (o.length = n) && decide (seenTo (o.take i) = N - 1))) := ⟨by unfold ordOk; rw [hall, Bool.true_and, e, List.take_length, HN.out]⟩
   have hs64 := HS.out
   obtain ⟨S, hS⟩ : ∃ S, S = seenTo (o.take i) := ⟨_, rfl⟩
   rw [← hS] at HA hs64 ⊢
   clear hS hall
   by_cases hl : o.length = n
   ·have hlb : ((o.length : Int) == (n : Int)) = true := by rw [beq_iff_eq]; omega
    have HE : Aside0 ((((S : Nat) : Int) == (N : Int) - 1) = decide (S = N - 1)) := ⟨by rw [Bool.eq_iff_iff, beq_iff_eq, decide_eq_true_eq]; omega⟩
    have HL := Aside0.mk hl
    clear hl e
    go_wp2_with (first | (go_at_call 312; refine (length_any _ _ _ _).mono ?_; rintro e w2 ⟨rfl, hb⟩))
    go_ret
    exact ⟨by rw [HA.out, decide_eq_true HL.out, Bool.true_and, ← HE.out]; rfl, HB.out.trans (hb.mono HB.out.size)⟩
   ·have hlb : ((o.length : Int) == (n : Int)) = false := by simp; omega
    have HL := Aside0.mk hl
    clear hl e
    go_wp2_with (first | (go_at_call 312; refine (length_any _ _ _ _).mono ?_; rintro e w2 ⟨rfl, hb⟩))
    go_ret
    exact ⟨by rw [HA.out, decide_eq_false HL.out, Bool.false_and]; rfl, HB.out.trans (hb.mono HB.out.size)⟩
/-- the tree that asks in an order -/
def treeTo (o : List Int) (k : Nat) : List Int := (List.range k).map fun i => o.getD (Nat.log2 (i + 1)) 0
theorem treeTo_succ (o : List Int) (k : Nat) : treeTo o (k + 1) = treeTo o k ++ [o.getD (Nat.log2 (k + 1)) 0] := by
 unfold treeTo; rw [List.range_succ, List.map_append]; rfl
theorem treeTo_len (o : List Int) (k : Nat) : (treeTo o k).length = k := by unfold treeTo; simp
theorem once_ne : ∀ {o : List Int}, onceB o = true → ∀ i j, i < j → j < o.length → o.getD i 0 ≠ o.getD j 0
 | [], _, i, j, _, hj => by simp at hj
 | a :: r, h, i, j, hij, hj => by
  unfold onceB at h
  simp only [Bool.and_eq_true, Bool.not_eq_true', decide_eq_false_iff_not] at h
  match j, hij with
  | j + 1, hij =>
   have hjr : j < r.length := by simpa using hj
   have hmem : r.getD j 0 ∈ r := by
    rw [List.getD_eq_getElem?_getD, List.getElem?_eq_getElem hjr]; simp
   match i with
   | 0 =>
    intro e
    apply h.1
    have e' : a = r.getD j 0 := by simpa using e
    rw [e']; exact hmem
   | i + 1 =>
    have := once_ne h.2 i j (by omega) hjr
    simpa using this
theorem once_eq : ∀ {o : List Int}, onceB o = false → ∃ i j, i < j ∧ j < o.length ∧ o.getD i 0 = o.getD j 0
 | [], h => by simp [onceB] at h
 | a :: r, h => by
  unfold onceB at h
  cases hm : decide (a ∈ r) with
  | true =>
   rw [decide_eq_true_eq] at hm
   obtain ⟨k, hk, e⟩ := List.getElem_of_mem hm
   refine ⟨0, k + 1, by omega, by simpa using hk, ?_⟩
   simp [hk, e]
  | false =>
   rw [hm] at h
   obtain ⟨i, j, h1, h2, h3⟩ := once_eq (o := r) (by simpa using h)
   exact ⟨i + 1, j + 1, by omega, by simpa using h2, by simpa using h3⟩
theorem qAt_tree (o : List Int) {k p : Nat} (h1 : 1 ≤ p) (h2 : p ≤ k) : qAt (treeTo o k) p = o.getD (Nat.log2 p) 0 := by
 unfold qAt treeTo
 rw [List.getD_eq_getElem?_getD, List.getElem?_map, List.getElem?_range (by omega)]
 simp only [Option.map_some, Option.getD_some]
 rw [show p - 1 + 1 = p by omega]
theorem log2_half {p : Nat} (h : 2 ≤ p) : Nat.log2 p = Nat.log2 (p / 2) + 1 := by
 rw [Nat.log2_def, if_pos h]
theorem log2_lt {n p : Nat} (hn : n ≤ 6) (h1 : 1 ≤ p) (h2 : p < 2 ^ n) : Nat.log2 p < n := (Nat.log2_lt (by omega)).2 h2
theorem clash_none {o : List Int} {n k p : Nat} (ho : onceB o = true) (hl : o.length = n) (hp : Nat.log2 p < n) (hpk : p ≤ k) (hp1 : 1 ≤ p) : ∀ a, a ≤ p → (1 ≤ a → Nat.log2 a < Nat.log2 p) → clash (treeTo o k) p a = false := by
 intro a
 induction a using Nat.strongRecOn with
 | _ a ih =>
  intro hap hlog
  by_cases h0 : a = 0
  ·subst h0; exact clash_zero _ _
  ·have ha : 0 < a := by omega
   rw [clash_step ha, qAt_tree o (by omega) (by omega), qAt_tree o hp1 hpk, Bool.or_eq_false_iff]
   refine ⟨?_, ih (a / 2) (by omega) (by omega) (fun h => ?_)⟩
   ·rw [beq_eq_false_iff_ne]
    exact once_ne ho _ _ (hlog ha) (by omega)
   ·have := hlog ha
    have := log2_half (p := a) (by omega)
    omega
theorem clash_some {o : List Int} {k i j : Nat} (hij : i ≤ j) (J : Nat) (hj : j < J) (hk : 2 ^ J ≤ k) (he : o.getD i 0 = o.getD J 0) : clash (treeTo o k) (2 ^ J) (2 ^ j) = true := by
 have hpos : ∀ e, 0 < 2 ^ e := fun e => Nat.two_pow_pos e
 induction j with
 | zero =>
  obtain rfl : i = 0 := by omega
  rw [clash_step (hpos 0), qAt_tree o (by decide) (by have := hpos J; omega), qAt_tree o (hpos J) hk, Nat.log2_two_pow, Nat.log2_two_pow, he]
  simp
 | succ j ih =>
  rw [clash_step (hpos _)]
  by_cases h : i = j + 1
  ·subst h
   have h2 : 2 ^ (j + 1) ≤ 2 ^ J := Nat.pow_le_pow_right (by decide) (by omega)
   rw [qAt_tree o (hpos _) (by omega), qAt_tree o (hpos J) hk, Nat.log2_two_pow, Nat.log2_two_pow, he]
   simp
  ·rw [show 2 ^ (j + 1) / 2 = 2 ^ j by rw [Nat.pow_succ]; omega, ih (by omega) (by omega)]
   simp
/-- the law: an order is one whose tree is one -/
theorem tree_order {n : Nat} {o : List Int} (h1 : 1 ≤ n) (hn : n ≤ 6) (hl : o.length = n) : treeOk n (treeTo o (2 ^ n - 1)) = ordOk n o := by
 have hpw : 2 ≤ 2 ^ n := by have := Nat.pow_le_pow_right (n := 2) (by decide) h1; simpa using this
 have hlen := treeTo_len o (2 ^ n - 1)
 unfold ordOk
 cases hin : o.all (inTree n) with
 | false =>
  rw [Bool.false_and]
  rw [List.all_eq_false] at hin
  obtain ⟨v, hv, hnv⟩ := hin
  obtain ⟨d, hd, e⟩ := List.getElem_of_mem hv
  have hd2 : 2 ^ d < 2 ^ n := Nat.pow_lt_pow_right (by decide) (by omega)
  have hp := Nat.two_pow_pos d
  refine treeOk_false2 (i := 2 ^ d - 1) (by rw [hlen]; omega) ?_
  rw [show 2 ^ d - 1 + 1 = 2 ^ d by omega, qAt_tree o (by omega) (by omega), Nat.log2_two_pow, List.getD_eq_getElem?_getD, List.getElem?_eq_getElem hd, Option.getD_some, e]
  simpa using hnv
 | true =>
  rw [Bool.true_and, decide_eq_true hl, Bool.true_and, seen_once hn hl hin]
  cases ho : onceB o with
  | true =>
   refine treeOk_true (N := 2 ^ n) (by rw [hlen]; omega) rfl ?_ ?_
   ·refine inTree_all (fun j hj => ?_)
    rw [hlen] at hj
    rw [qAt_tree o (by omega) (by omega)]
    have hlg := log2_lt hn (p := j + 1) (by omega) (by omega)
    rw [List.getD_eq_getElem?_getD, List.getElem?_eq_getElem (by omega), Option.getD_some]
    exact List.all_eq_true.1 hin _ (List.getElem_mem _)
   ·intro j hj
    rw [hlen] at hj
    refine clash_none ho hl (log2_lt hn (by omega) (by omega)) (by omega) (by omega) _ (by omega) (fun h => ?_)
    have := log2_half (p := j + 1) (by omega)
    omega
  | false =>
   obtain ⟨i, J, hij, hJ, he⟩ := once_eq ho
   have hd2 : 2 ^ J < 2 ^ n := Nat.pow_lt_pow_right (by decide) (by omega)
   have hp := Nat.two_pow_pos J
   refine treeOk_false (i := 2 ^ J - 1) (by rw [hlen]; omega) ?_
   rw [show 2 ^ J - 1 + 1 = 2 ^ J by omega]
   obtain ⟨j, rfl⟩ : ∃ j, J = j + 1 := ⟨J - 1, by omega⟩
   rw [show 2 ^ (j + 1) / 2 = 2 ^ j by rw [Nat.pow_succ]; omega]
   exact clash_some (i := i) (by omega) (j + 1) (by omega) (by omega) he
end Go.Proofs.YtkggchklmpmgpaaGreat.H
