/- Numbers of questions, evaders and Euler numbers: what goes together (plain). Pairs in order, told with what was drawn. Rows of pairs: what is said of them; the laws' eqPairS. Rows of pairs that a sort has turned. The laying of slices.SortFunc at pairs (printed by a tool of the kit at this dump). slices.SortFunc at pairs. Pairs put in, one by one, in order: the plain law. Rows of pairs that begin anywhere in their block; a part of a row; append of a row. -/
import Derived.Shelf.GgSortFunc.InsertionK
import Derived.Shelf.SlGeneric
import Derived.Shelf.SlLaysF0
import Derived.Ground.SlsfProg
import Derived.Test.YtkggchklmpmgpaaGreatProg
import Derived.Shelf.SlSortCmp.NoneTotal
import Derived.Deep.AppendLies
import Derived.Maps.AppendAt
import Derived.Laws.OwnMore
import Derived.Test.YtkggchklmpmgpaaGreatKFnTrees1
import Derived.Test.YtkggchklmpmgpaaGreatKFnTrees2
import Derived.Test.YtkggchklmpmgpaaGreatKFnTrees3
import Derived.Test.YtkggchklmpmgpaaGreatKFnTrees4
import Derived.Test.YtkggchklmpmgpaaGreatKFnTrees5
import Derived.Test.YtkggchklmpmgpaaGreatKFnTrees6
import Derived.Test.YtkggchklmpmgpaaGreatKFnTrees7
import Derived.Test.YtkggchklmpmgpaaGreatKFnTrees8

namespace Go.Proofs.YtkggchklmpmgpaaGreat.H
open Go.RowKit Go.Proofs.YtkggchklmpmgpaaGreatW.PrintWords Go.Proofs.YtkggchklmpmgpaaGreatW.PrintLast
set_option linter.unusedVariables false
set_option linter.unusedSimpArgs false
/-! sums over the sets below N -/
def sumTo (f : Nat → Int) : Nat → Int
 | 0 => 0
 | k + 1 => sumTo f k + f k
theorem sumTo_congr {f g : Nat → Int} : ∀ {k : Nat}, (∀ i, i < k → f i = g i) → sumTo f k = sumTo g k
 | 0, _ => rfl
 | k + 1, h => by unfold sumTo; rw [sumTo_congr (fun i hi => h i (by omega)), h k (by omega)]
theorem sumTo_add {f g h : Nat → Int} : ∀ {k : Nat}, (∀ i, i < k → f i = g i + h i) → sumTo f k = sumTo g k + sumTo h k
 | 0, _ => rfl
 | k + 1, he => by unfold sumTo; rw [sumTo_add (fun i hi => he i (by omega)), he k (by omega)]; omega
theorem sumTo_zero {f : Nat → Int} : ∀ {k : Nat}, (∀ i, i < k → f i = 0) → sumTo f k = 0
 | 0, _ => rfl
 | k + 1, h => by unfold sumTo; rw [sumTo_zero (fun i hi => h i (by omega)), h k (by omega)]; rfl
theorem sumTo_one {f : Nat → Int} {x : Nat} : ∀ {k : Nat}, x < k → (∀ i, i < k → i ≠ x → f i = 0) → sumTo f k = f x
 | 0, h, _ => absurd h (Nat.not_lt_zero _)
 | k + 1, h, h0 => by
  unfold sumTo
  by_cases e : x = k
  ·subst e
   rw [sumTo_zero (fun i hi => h0 i (by omega) (by omega))]; omega
  ·rw [sumTo_one (x := x) (k := k) (by omega) (fun i hi => h0 i (by omega)), h0 k (by omega) (fun h => e h.symm)]; omega
/-- h is in this part of a game -/
def inb (p q h : Nat) : Bool := (h &&& p == p) && (h &&& q == 0)
theorem inb_bits {p q h : Nat} : inb p q h = true ↔ (∀ i, p.testBit i = true → h.testBit i = true) ∧ (∀ i, q.testBit i = true → h.testBit i = false) := by
 unfold inb
 rw [Bool.and_eq_true, beq_iff_eq, beq_iff_eq]
 constructor
 ·rintro ⟨h1, h2⟩
  refine ⟨fun i hi => ?_, fun i hi => ?_⟩
  ·have := congrArg (fun m : Nat => m.testBit i) h1
   simp only [Nat.testBit_and, hi, Bool.and_true] at this
   exact this
  ·have := congrArg (fun m : Nat => m.testBit i) h2
   simp only [Nat.testBit_and, hi, Bool.and_true, Nat.zero_testBit] at this
   exact this
 ·rintro ⟨h1, h2⟩
  refine ⟨Nat.eq_of_testBit_eq fun i => ?_, Nat.eq_of_testBit_eq fun i => ?_⟩
  ·have := h1 i
   rw [Nat.testBit_and]
   cases hp : p.testBit i <;> simp_all
  ·have := h2 i
   rw [Nat.testBit_and, Nat.zero_testBit]
   cases hq : q.testBit i <;> simp_all
theorem testBit_orp (p v i : Nat) : (p ||| 2 ^ v).testBit i = (p.testBit i || decide (v = i)) := by rw [Nat.testBit_or, Nat.testBit_two_pow]
theorem inb_yes {p q h v : Nat} : inb (p ||| 2 ^ v) q h = (inb p q h && h.testBit v) := by
 rw [Bool.eq_iff_iff, Bool.and_eq_true, inb_bits, inb_bits]
 constructor
 ·rintro ⟨h1, h2⟩
  exact ⟨⟨fun i hi => h1 i (by rw [testBit_orp, hi]; rfl), h2⟩, h1 v (by rw [testBit_orp]; simp)⟩
 ·rintro ⟨⟨h1, h2⟩, h3⟩
  refine ⟨fun i hi => ?_, h2⟩
  rw [testBit_orp, Bool.or_eq_true, decide_eq_true_eq] at hi
  rcases hi with hi | rfl
  ·exact h1 i hi
  ·exact h3
theorem inb_no {p q h v : Nat} : inb p (q ||| 2 ^ v) h = (inb p q h && !h.testBit v) := by
 rw [Bool.eq_iff_iff, Bool.and_eq_true, inb_bits, inb_bits]
 constructor
 ·rintro ⟨h1, h2⟩
  exact ⟨⟨h1, fun i hi => h2 i (by rw [testBit_orp, hi]; rfl)⟩, by rw [h2 v (by rw [testBit_orp]; simp)]; rfl⟩
 ·rintro ⟨⟨h1, h2⟩, h3⟩
  refine ⟨h1, fun i hi => ?_⟩
  rw [testBit_orp, Bool.or_eq_true, decide_eq_true_eq] at hi
  rcases hi with hi | rfl
  ·exact h2 i hi
  ·simpa using h3
/-- a sum over this part of a game -/
def sumB (N : Nat) (f : Nat → Int) (p q : Nat) : Int := sumTo (fun h => if inb p q h then f h else 0) N
theorem sumB_split (N : Nat) (f : Nat → Int) (p q v : Nat) : sumB N f p q = sumB N f (p ||| 2 ^ v) q + sumB N f p (q ||| 2 ^ v) := by
 unfold sumB
 refine sumTo_add (fun h _ => ?_)
 rw [inb_yes, inb_no]
 cases inb p q h <;> cases h.testBit v <;> simp
theorem inb_hid {p q h n : Nat} (hh : h < 2 ^ n) (hi : inb p q h = true) : h ∈ hidTo p q (2 ^ n) := by
 unfold inb at hi
 rw [Bool.and_eq_true, beq_iff_eq, beq_iff_eq] at hi
 exact hid_mem.2 ⟨hh, hi.1, hi.2⟩
theorem last_one {n p q h : Nat} (hp : Pl n p q) (h0 : lefts n p q = 0) (hh : h < 2 ^ n) (hi : inb p q h = true) : h = p := by
 obtain ⟨h1, h2⟩ := inb_bits.1 hi
 apply Nat.eq_of_testBit_eq
 intro i
 by_cases hin : i < n
 ·have hm : ¬ i ∈ frees (p ||| q) n := by
   intro hm
   unfold lefts at h0
   rw [List.eq_nil_of_length_eq_zero h0] at hm
   cases hm
  rw [frees_mem] at hm
  have hb : (p ||| q).testBit i = true := by
   cases hb : (p ||| q).testBit i with
   | true => rfl
   | false => exact absurd ⟨hin, hb⟩ hm
  rw [Nat.testBit_or, Bool.or_eq_true] at hb
  rcases hb with hb | hb
  ·rw [hb, h1 i hb]
  ·rw [h2 i hb]
   cases hpi : p.testBit i with
   | false => rfl
   | true => rw [hp.bit i hpi] at hb; cases hb
 ·have hp' : p.testBit i = false := Nat.testBit_lt_two_pow (Nat.lt_of_lt_of_le hp.hp (Nat.pow_le_pow_right (by omega) (by omega)))
  have hx : h.testBit i = false := Nat.testBit_lt_two_pow (Nat.lt_of_lt_of_le hh (Nat.pow_le_pow_right (by omega) (by omega)))
  rw [hp', hx]
theorem inb_self {n p q : Nat} (hp : Pl n p q) : inb p q p = true := inb_bits.2 ⟨fun _ h => h, fun i hq => by
 cases hpi : p.testBit i with
 | false => rfl
 | true => rw [hp.bit i hpi] at hq; cases hq⟩
theorem sumB_last {n p q : Nat} (hp : Pl n p q) (h0 : lefts n p q = 0) (f : Nat → Int) : sumB (2 ^ n) f p q = f p := by
 unfold sumB
 rw [sumTo_one (x := p) hp.hp (fun i hi hne => by
  cases hb : inb p q i with
  | false => rfl
  | true => exact absurd (last_one hp h0 hi hb) hne), if_pos (inb_self hp)]
/-! signs -/
/-! numbers of questions and least numbers of evaders -/
/-! evaders of a tree -/
theorem way_same {t : List Int} {h k : Nat} : ∀ i, inb (yess t h i) (noes t h i) k = true → plc t k i = plc t h i ∧ yess t k i = yess t h i ∧ noes t k i = noes t h i
 | 0, _ => ⟨rfl, rfl, rfl⟩
 | i + 1, hi => by
  cases hb : h.testBit (qN t (plc t h i)) with
  | true =>
   rw [yess_yes hb, noes_yes hb, inb_yes, Bool.and_eq_true] at hi
   obtain ⟨h1, h2, h3⟩ := way_same i hi.1
   have hk : k.testBit (qN t (plc t k i)) = true := by rw [h1]; exact hi.2
   rw [yess_yes hb, noes_yes hb, yess_yes hk, noes_yes hk, plc_yes hb, plc_yes hk, h1, h2, h3]
   exact ⟨rfl, rfl, rfl⟩
  | false =>
   rw [yess_no hb, noes_no hb, inb_no, Bool.and_eq_true] at hi
   obtain ⟨h1, h2, h3⟩ := way_same i hi.1
   have hk : k.testBit (qN t (plc t k i)) = false := by rw [h1]; simpa using hi.2
   rw [yess_no hb, noes_no hb, yess_no hk, noes_no hk, plc_no hb, plc_no hk, h1, h2, h3]
   exact ⟨rfl, rfl, rfl⟩
theorem inb_less {t : List Int} {h k : Nat} {i : Nat} (hi : inb (yess t h (i + 1)) (noes t h (i + 1)) k = true) : inb (yess t h i) (noes t h i) k = true := by
 cases hb : h.testBit (qN t (plc t h i)) with
 | true => rw [yess_yes hb, noes_yes hb, inb_yes, Bool.and_eq_true] at hi; exact hi.1
 | false => rw [yess_no hb, noes_no hb, inb_no, Bool.and_eq_true] at hi; exact hi.1
theorem inb_down {t : List Int} {h k : Nat} {i : Nat} : ∀ d, inb (yess t h (i + d)) (noes t h (i + d)) k = true → inb (yess t h i) (noes t h i) k = true
 | 0, hi => hi
 | d + 1, hi => inb_down d (inb_less hi)
theorem told_alike {n : Nat} {xs t : List Int} {h k i j : Nat} (hi : inb (yess t h i) (noes t h i) k = true) (hj : j ≤ i) : toldAt n xs t k j = toldAt n xs t h j := by
 obtain ⟨d, rfl⟩ : ∃ d, i = j + d := ⟨i - j, by omega⟩
 obtain ⟨-, h2, h3⟩ := way_same j (inb_down d hi)
 unfold toldAt
 rw [h2, h3]
theorem needed_n {n : Nat} {xs t : List Int} {h : Nat} : neededV n xs t h = n ↔ ∀ j, j < n → toldAt n xs t h j = false := by
 constructor
 ·intro he j hj
  unfold neededV firstTold at he
  have := List.findIdx_eq_length (p := toldAt n xs t h) (xs := List.range n)
  rw [List.length_range] at this
  exact this.1 he j (List.mem_range.2 hj)
 ·intro h0
  exact firstTold_none h0
/-- one for each evader -/
def evI (n : Nat) (xs t : List Int) (h : Nat) : Int := if neededV n xs t h = n then 1 else 0
theorem evade_sum {n : Nat} (hn : n ≤ 6) {xs t : List Int} (ht : treeOk n t = true) : ∀ d i h, i + d = n → (∀ j, j < i → toldAt n xs t h j = false) →
  leastV n xs (yess t h i) (noes t h i) ≤ sumB (2 ^ n) (evI n xs t) (yess t h i) (noes t h i) ∧ (d = 0 → sumB (2 ^ n) (evI n xs t) (yess t h i) (noes t h i) = 1) ∧ (0 < d → sumB (2 ^ n) (evI n xs t) (yess t h i) (noes t h i) % 2 = 0)
 | 0, i, h, hi, h0 => by
  obtain rfl : i = n := by omega
  have hp := (way_pl ht h i (Nat.le_refl _)).1
  have hl : lefts i (yess t h i) (noes t h i) = 0 := by have := way_left hn ht h i (Nat.le_refl _); omega
  have e : sumB (2 ^ i) (evI i xs t) (yess t h i) (noes t h i) = 1 := by
   rw [sumB_last hp hl]
   unfold evI
   rw [if_pos (needed_n.2 (fun j hj => by rw [told_alike (inb_self hp) (by omega)]; exact h0 j hj))]
  rw [e, leastV_told (told_all hp hl)]
  exact ⟨by decide, fun _ => rfl, fun h => absurd h (Nat.lt_irrefl _)⟩
 | d + 1, i, h, hi, h0 => by
  have hpl := way_pl ht h i (by omega)
  have hp := hpl.1
  have hf := hpl.2 (by omega)
  have hb := plc_bd t h i
  have h2 : 2 ^ (i + 1) ≤ 2 ^ n := Nat.pow_le_pow_right (by omega) (by omega)
  have h01 : 1 ≤ 2 ^ i := Nat.one_le_two_pow
  have hq := tree_in ht (p := plc t h i) (by omega) (by omega)
  have hv : qN t (plc t h i) < n := hq.2.2.2
  have hl := way_left hn ht h i (by omega)
  by_cases hto : 0 ≤ toldV n xs (yess t h i) (noes t h i)
  ·have e : sumB (2 ^ n) (evI n xs t) (yess t h i) (noes t h i) = 0 := by
    unfold sumB
    refine sumTo_zero (fun k hk => ?_)
    cases hin : inb (yess t h i) (noes t h i) k with
    | false => rfl
    | true =>
     show evI n xs t k = 0
     unfold evI
     refine if_neg (fun he => ?_)
     have h3 := needed_n.1 he i (by omega)
     rw [told_alike hin (Nat.le_refl _)] at h3
     unfold toldAt at h3
     rw [decide_eq_false_iff_not] at h3
     exact h3 hto
   rw [e, leastV_told hto]
   exact ⟨Int.le_refl _, fun h => by omega, fun _ => rfl⟩
  ·generalize hvv : qN t (plc t h i) = v at *
   -- the two that follow
   have hy : inb (yess t h i) (noes t h i) (yess t h i ||| 2 ^ v) = true := by
    refine inb_bits.2 ⟨fun j hj => by rw [testBit_orp, hj]; rfl, fun j hj => ?_⟩
    rw [testBit_orp]
    have h1 : (yess t h i).testBit j = false := by
     cases hc : (yess t h i).testBit j with
     | false => rfl
     | true => rw [hp.bit j hc] at hj; cases hj
    rw [h1, Bool.false_or, decide_eq_false_iff_not]
    rintro rfl
    rw [Nat.testBit_or, hj, Bool.or_true] at hf
    cases hf
   have hx : inb (yess t h i) (noes t h i) (yess t h i) = true := inb_self hp
   obtain ⟨y1, y2, y3⟩ := way_same i hy
   obtain ⟨x1, x2, x3⟩ := way_same i hx
   have by1 : (yess t h i ||| 2 ^ v).testBit (qN t (plc t (yess t h i ||| 2 ^ v) i)) = true := by rw [y1, hvv, testBit_orp]; simp
   have bx1 : (yess t h i).testBit (qN t (plc t (yess t h i) i)) = false := by
    rw [x1, hvv]
    rw [Nat.testBit_or, Bool.or_eq_false_iff] at hf
    exact hf.1
   have h0y : ∀ j, j < i + 1 → toldAt n xs t (yess t h i ||| 2 ^ v) j = false := fun j hj => by
    rw [told_alike hy (by omega)]
    by_cases hji : j = i
    ·subst hji; unfold toldAt; rw [decide_eq_false_iff_not]; exact hto
    ·exact h0 j (by omega)
   have h0x : ∀ j, j < i + 1 → toldAt n xs t (yess t h i) j = false := fun j hj => by
    rw [told_alike hx (by omega)]
    by_cases hji : j = i
    ·subst hji; unfold toldAt; rw [decide_eq_false_iff_not]; exact hto
    ·exact h0 j (by omega)
   have iy := evade_sum hn ht d (i + 1) (yess t h i ||| 2 ^ v) (by omega) h0y
   have ix := evade_sum hn ht d (i + 1) (yess t h i) (by omega) h0x
   rw [yess_yes by1, noes_yes by1, y1, y2, y3, hvv] at iy
   rw [yess_no bx1, noes_no bx1, x1, x2, x3, hvv] at ix
   rw [sumB_split _ _ _ _ v]
   refine ⟨?_, fun h => by omega, fun _ => ?_⟩
   ·by_cases h1 : lefts n (yess t h i) (noes t h i) = 1
    ·have hd : d = 0 := by omega
     rw [leastV_last hto h1, iy.2.1 hd, ix.2.1 hd]
     decide
    ·rw [leastV_open hn hp hto h1]
     have hm := (leastOf_le (b := (64 : Int)) (l := frees (yess t h i ||| noes t h i) n) (f := leastAt n xs (yess t h i) (noes t h i))).2 v (frees_mem.2 ⟨hv, hf⟩)
     unfold leastTo
     unfold leastAt at hm ⊢
     have := iy.1
     have := ix.1
     omega
   ·by_cases hd : d = 0
    ·rw [iy.2.1 hd, ix.2.1 hd]; rfl
    ·have := iy.2.2 (by omega)
     have := ix.2.2 (by omega)
     omega
theorem evTo_sum (n : Nat) (xs t : List Int) : ∀ k, ((evTo n xs t k).length : Int) = sumTo (evI n xs t) k
 | 0 => rfl
 | k + 1 => by
  unfold sumTo
  rw [← evTo_sum n xs t k]
  unfold evI
  by_cases h : neededV n xs t k = n
  ·rw [evTo_hit h, if_pos h, List.length_append]; simp
  ·rw [evTo_miss h, if_neg h]; simp
theorem sumB_all (N : Nat) (f : Nat → Int) : sumB N f 0 0 = sumTo f N := by
 unfold sumB
 refine sumTo_congr (fun i _ => ?_)
 rw [if_pos (by unfold inb; simp)]
theorem evTo_mem {n : Nat} {xs t : List Int} {k h : Nat} : (h : Int) ∈ evTo n xs t k ↔ h < k ∧ neededV n xs t h = n := by
 unfold evTo
 rw [List.mem_filterMap]
 constructor
 ·rintro ⟨a, ha, he⟩
  rw [List.mem_range] at ha
  split at he
  ·next h2 =>
   rw [Option.some.injEq, Int.ofNat_inj] at he
   subst he
   exact ⟨ha, h2⟩
  ·cases he
 ·rintro ⟨h1, h2⟩
  exact ⟨h, List.mem_range.2 h1, if_pos h2⟩
/-! Euler numbers -/
def cmpI (x y : Int) : Int := if x < y then -1 else if x = y then 0 else 1
def cmpP (x y x' y' : Int) : Int := if x = x' then cmpI y y' else cmpI x x'
theorem cmpI_zero {x y : Int} (h : cmpI x y = 0) : x = y := by unfold cmpI at h; split at h <;> (try split at h) <;> omega
theorem cmpI_self (x : Int) : cmpI x x = 0 := by unfold cmpI; rw [if_neg (by omega), if_pos rfl]
/-- nothing old is turned, nothing drawn is given back -/
def Bd (w w' : World) : Prop := Below w.heap.size w w' ∧ w.drawn ≤ w'.drawn
theorem Bd.refl (w : World) : Bd w w := ⟨Below.refl _ _, Nat.le_refl _⟩
theorem Bd.trans {a b c : World} (h : Bd a b) (k : Bd b c) : Bd a c := ⟨h.1.trans (k.1.mono h.1.size), Nat.le_trans h.2 k.2⟩
theorem Bd.drew (w : World) : Bd w w.drew := ⟨(Below.refl _ w).drew, Nat.le_succ _⟩
theorem Bd.alloc (w : World) (o : Obj) : Bd w (w.alloc o) := ⟨Below.alloc (Below.refl _ _) (Nat.le_refl _) _, Nat.le_refl _⟩
theorem cmpNaND (x : Int) (w : World) : Calls Tryz.prog 419 #[.int .i64 x] w fun e w' => e = .returned (.bool false) ∧ Bd w w' := by
 go_enter Tryz.func419, Tryz.ntmps419
 go_wp2
 go_ret
 exact ⟨by simp, Bd.refl _⟩
theorem cmpCompareD (x y : Int) (w : World) : Calls Tryz.prog 359 #[.int .i64 x, .int .i64 y] w fun e w' => e = .returned (.int .i64 (cmpI x y)) ∧ Bd w w' := by
 rcases (by omega : x < y ∨ x = y ∨ y < x) with h | h | h
 ·have HA : Aside0 (cmpI x y = -1) := ⟨by unfold cmpI; rw [if_pos h]⟩
  have h1 : decide (x < y) = true := decide_eq_true h
  go_enter Tryz.func359, Tryz.ntmps359
  go_wp2_with (first | (go_at_call 419; refine (cmpNaND _ w).mono ?_; rintro e w2 ⟨rfl, hb⟩) | (go_at_call 419; refine (cmpNaND _ w2).mono ?_; rintro e w3 ⟨rfl, hb2⟩))
  go_ret
  exact ⟨by rw [HA.out]; rfl, hb.trans hb2⟩
 ·have HA : Aside0 (cmpI x y = 0) := ⟨by unfold cmpI; rw [if_neg (by omega), if_pos h]⟩
  have h1 : decide (x < y) = false := decide_eq_false (by omega)
  have h2 : decide (y < x) = false := decide_eq_false (by omega)
  go_enter Tryz.func359, Tryz.ntmps359
  go_wp2_with (first | (go_at_call 419; refine (cmpNaND _ w).mono ?_; rintro e w2 ⟨rfl, hb⟩) | (go_at_call 419; refine (cmpNaND _ w2).mono ?_; rintro e w3 ⟨rfl, hb2⟩))
  go_ret
  exact ⟨by rw [HA.out]; rfl, hb.trans hb2⟩
 ·have HA : Aside0 (cmpI x y = 1) := ⟨by unfold cmpI; rw [if_neg (by omega), if_neg (by omega)]⟩
  have h1 : decide (x < y) = false := decide_eq_false (by omega)
  have h2 : decide (y < x) = true := decide_eq_true h
  go_enter Tryz.func359, Tryz.ntmps359
  go_wp2_with (first | (go_at_call 419; refine (cmpNaND _ w).mono ?_; rintro e w2 ⟨rfl, hb⟩) | (go_at_call 419; refine (cmpNaND _ w2).mono ?_; rintro e w3 ⟨rfl, hb2⟩))
  go_ret
  exact ⟨by rw [HA.out]; rfl, hb.trans hb2⟩
set_option maxRecDepth 100000 in
set_option maxHeartbeats 4000000 in
theorem compare2D (g g' : Nat) (x y x' y' : Int) (w : World) (c0 : w.cell? ⟨g, 0, none⟩ = some (.int .i64 x)) (c1 : w.cell? ⟨g, 1, none⟩ = some (.int .i64 y)) (c2 : w.cell? ⟨g', 0, none⟩ = some (.int .i64 x')) (c3 : w.cell? ⟨g', 1, none⟩ = some (.int .i64 y')) :
  Calls Tryz.prog 254 #[.slice (some ⟨g, 0, none⟩) 2 2, .slice (some ⟨g', 0, none⟩) 2 2] w fun e w' => e = .returned (.int .i64 (cmpP x y x' y')) ∧ Bd w w' := by
 have C0 := Aside0.mk c0
 have C1 := Aside0.mk c1
 have C2 := Aside0.mk c2
 have C3 := Aside0.mk c3
 clear c0 c1 c2 c3
 go_enter Tryz.func254, Tryz.ntmps254
 go_wp2
 go_loopw [11] (fun s wr => ∃ i : Nat, s = .int .i64 i ∧ i ≤ 2 ∧ Aside0 (0 < i → x = x') ∧ Aside0 (1 < i → y = y') ∧ Aside0 (Bd w wr)) (fun s _ => 2 - (intOf s).toNat)
 case atStart => exact ⟨0, rfl, by decide, ⟨fun h => absurd h (by decide)⟩, ⟨fun h => absurd h (by decide)⟩, ⟨Bd.refl _⟩⟩
 case round =>
  obtain ⟨i, rfl, hi, H0, H1, HBw⟩ := hrel
  have c0 := pw_cell_below HBw.out.1 C0.out
  have c1 := pw_cell_below HBw.out.1 C1.out
  have c2 := pw_cell_below HBw.out.1 C2.out
  have c3 := pw_cell_below HBw.out.1 C3.out
  rcases (by omega : i = 0 ∨ i = 1 ∨ i = 2) with rfl | rfl | rfl
  ·have HE : Aside0 ((cmpI x x' != 0) = false → x = x') := ⟨fun h => cmpI_zero (by simpa using h)⟩
   have HN : Aside0 ((cmpI x x' != 0) = true → cmpP x y x' y' = cmpI x x') := ⟨fun h => by unfold cmpP; rw [if_neg]; rintro rfl; rw [cmpI_self] at h; exact absurd h (by decide)⟩
   have HC := Aside0.mk (fun W => cmpCompareD x x' W)
   obtain ⟨C, hC⟩ : ∃ C, C = cmpI x x' := ⟨_, rfl⟩
   rw [← hC] at HE HN HC
   clear hC
   cases hq : (C != 0) with
   | true =>
    have HA := Aside0.mk (HN.out hq)
    go_wp2_with (first | (go_at_call 359; refine (HC.out _).mono ?_; rintro e w3 ⟨rfl, hb⟩; have HB3 := Aside0.mk (HBw.out.trans hb); clear hb))
    go_ret
    exact ⟨by rw [HA.out]; rfl, HB3.out⟩
   | false =>
    have HX := Aside0.mk (HE.out hq)
    go_wp2_with (first | (go_at_call 359; refine (HC.out _).mono ?_; rintro e w3 ⟨rfl, hb⟩; have HB3 := Aside0.mk (HBw.out.trans hb); clear hb))
    go_roundw
    case rel => exact ⟨1, by go_num, by decide, ⟨fun _ => HX.out⟩, ⟨fun h => absurd h (by decide)⟩, HB3⟩
    case measure => simp [intOf]
  ·have HE : Aside0 ((cmpI y y' != 0) = false → y = y') := ⟨fun h => cmpI_zero (by simpa using h)⟩
   have HN : Aside0 (cmpP x y x' y' = cmpI y y') := ⟨by unfold cmpP; rw [if_pos (H0.out (by decide))]⟩
   have HC := Aside0.mk (fun W => cmpCompareD y y' W)
   obtain ⟨C, hC⟩ : ∃ C, C = cmpI y y' := ⟨_, rfl⟩
   rw [← hC] at HE HN HC
   clear hC
   cases hq : (C != 0) with
   | true =>
    go_wp2_with (first | (go_at_call 359; refine (HC.out _).mono ?_; rintro e w3 ⟨rfl, hb⟩; have HB3 := Aside0.mk (HBw.out.trans hb); clear hb))
    go_ret
    exact ⟨by rw [HN.out]; rfl, HB3.out⟩
   | false =>
    have HX := Aside0.mk (HE.out hq)
    go_wp2_with (first | (go_at_call 359; refine (HC.out _).mono ?_; rintro e w3 ⟨rfl, hb⟩; have HB3 := Aside0.mk (HBw.out.trans hb); clear hb))
    go_roundw
    case rel => exact ⟨2, by go_num, by decide, ⟨fun _ => H0.out (by decide)⟩, ⟨fun _ => HX.out⟩, HB3⟩
    case measure => simp [intOf]
  ·have HA : Aside0 (cmpP x y x' y' = 0) := ⟨by unfold cmpP; rw [if_pos (H0.out (by decide)), H1.out (by decide)]; exact cmpI_self _⟩
   go_wp2
   go_ret
   exact ⟨by rw [HA.out]; rfl, HBw.out⟩
set_option maxRecDepth 100000 in
set_option maxHeartbeats 4000000 in
theorem comparePairsD (x y x' y' : Int) (w : World) : Calls Tryz.prog 211 #[.agg #[.int .i64 x, .int .i64 y], .agg #[.int .i64 x', .int .i64 y']] w fun e w' => e = .returned (.int .i64 (cmpP x y x' y')) ∧ Bd w w' := by
 obtain ⟨w1, hw1⟩ : ∃ w1, w1 = (w.alloc (.cells #[.int .i64 x, .int .i64 y] 83)).alloc (.cells #[.int .i64 x', .int .i64 y'] 83) := ⟨_, rfl⟩
 have hB : Bd w w1 := by rw [hw1]; exact (Bd.alloc w _).trans (Bd.alloc _ _)
 have c0 : w1.cell? ⟨w.heap.size, 0, none⟩ = some (.int .i64 x) := by rw [hw1]; simp
 have c1 : w1.cell? ⟨w.heap.size, 1, none⟩ = some (.int .i64 y) := by rw [hw1]; simp
 have c2 : w1.cell? ⟨w.heap.size + 1, 0, none⟩ = some (.int .i64 x') := by rw [hw1]; simp
 have c3 : w1.cell? ⟨w.heap.size + 1, 1, none⟩ = some (.int .i64 y') := by rw [hw1]; simp
 have HB := Aside0.mk hB
 have HC : Aside0 (∀ z, Bd w1 z → Calls Tryz.prog 254 #[.slice (some ⟨w.heap.size, 0, none⟩) 2 2, .slice (some ⟨w.heap.size + 1, 0, none⟩) 2 2] z fun e w' => e = .returned (.int .i64 (cmpP x y x' y')) ∧ Bd z w') := ⟨fun z hz => compare2D _ _ x y x' y' z (pw_cell_below hz.1 c0) (pw_cell_below hz.1 c1) (pw_cell_below hz.1 c2) (pw_cell_below hz.1 c3)⟩
 have hmx : Tryz.prog.follows .mixedOrders = true := by kernel_rfl
 clear hB c0 c1 c2 c3
 go_enter Tryz.func211, Tryz.ntmps211
 go_wp2
 rw [← hw1]
 clear hw1
 refine wp_region_g Bd Bd.drew (fun _ _ _ => Bd.trans) (fun i => match i with | 0 => fun v _ => v = .slice (some ⟨w.heap.size, 0, none⟩) 2 2 | 1 => fun v _ => v = .slice (some ⟨w.heap.size + 1, 0, none⟩) 2 2 | 2 => fun v _ => v = .int .i64 (cmpP x y x' y') | 3 => fun v _ => v = .int .i64 (cmpP x y x' y') | _ => fun _ _ => True)
  [0, 0, 3, 7] hmx (by kernel_rfl) ?st ?steps ?rest
 case st =>
  intro i v w1_ w2_ hb
  match i with
  | 0 | 1 | 2 | 3 => exact id
  | n + 4 => exact id
 case steps =>
  refine ⟨?_, ?_, ?_, ?_, trivial⟩
  ·intro s w_ hb hd hq R hR
   generalize hA : putAll _ 0 s _ = A
   clear hq
   have hR' := hR (.slice (some ⟨w.heap.size, 0, none⟩) 2 2) _ (Bd.refl _) rfl
   clear hR hd
   refine opGives_value ?_ hR'
   subst hA
   simp only [dsOf, List.map_cons, List.map_nil, Option.getD_some, putAll, Act.put, List.setIfInBounds_toArray, List.set_cons_zero, List.set_cons_succ]
   go_simp
  ·intro s w_ hb hd hq R hR
   generalize hA : putAll _ 0 s _ = A
   clear hq
   have hR' := hR (.slice (some ⟨w.heap.size + 1, 0, none⟩) 2 2) _ (Bd.refl _) rfl
   clear hR hd
   refine opGives_value ?_ hR'
   subst hA
   simp only [dsOf, List.map_cons, List.map_nil, Option.getD_some, putAll, Act.put, List.setIfInBounds_toArray, List.set_cons_zero, List.set_cons_succ]
   go_simp
  ·intro s w_ hb hd hq R hR
   generalize hA : putAll _ 0 s _ = A
   have e0 : s 0 = _ := hd 0 (by kernel_rfl)
   have e1 : s 1 = _ := hd 1 (by kernel_rfl)
   clear hq
   refine opGives_call (f := 254) (args := #[.slice (some ⟨w.heap.size, 0, none⟩) 2 2, .slice (some ⟨w.heap.size + 1, 0, none⟩) 2 2]) ?_ ?_
   ·subst hA
    clear hR hd
    simp only [dsOf, List.map_cons, List.map_nil, Option.getD_some, putAll, Act.put, List.setIfInBounds_toArray, List.set_cons_zero, List.set_cons_succ]
    go_simp
   clear hA A hd
   refine (HC.out _ hb).mono ?_
   rintro e w3_ ⟨rfl, hb3⟩
   exact ⟨_, rfl, hR _ _ hb3 rfl⟩
  ·intro s w_ hb hd hq R hR
   generalize hA : putAll _ 0 s _ = A
   have e2 : s 2 = _ := hd 2 (by kernel_rfl)
   clear hq
   have hR' := hR (.int .i64 (cmpP x y x' y')) _ (Bd.refl _) rfl
   clear hR hd
   refine opGives_value ?_ hR'
   subst hA
   simp only [dsOf, List.map_cons, List.map_nil, Option.getD_some, putAll, Act.put, List.setIfInBounds_toArray, List.set_cons_zero, List.set_cons_succ]
   go_simp
 case rest =>
  intro s9 w9 hb hv
  have e3_ : s9 3 = _ := hv 3 (by decide)
  simp only [dsOf, List.map_cons, List.map_nil, Option.getD_some, putAll, Act.put, List.setIfInBounds_toArray, List.set_cons_zero, List.set_cons_succ]
  rw [e3_]
  clear hv e3_
  go_wp2
  go_ret
  exact ⟨rfl, HB.out.trans hb⟩
/-- the cells of pairs -/
def flat : List (Int × Int) → List Int
 | [] => []
 | p :: r => p.1 :: p.2 :: flat r
theorem flat_len : ∀ ps : List (Int × Int), (flat ps).length = ps.length * 2
 | [] => rfl
 | p :: r => by simp only [flat, List.length_cons, flat_len r]; omega
theorem flat_snoc : ∀ (ps : List (Int × Int)) (p : Int × Int), flat (ps ++ [p]) = flat ps ++ [p.1, p.2]
 | [], p => rfl
 | q :: r, p => by simp only [List.cons_append, flat, flat_snoc r p]
theorem flat_get : ∀ (ps : List (Int × Int)) (i : Nat) (p : Int × Int), ps[i]? = some p → (flat ps)[i * 2]? = some p.1 ∧ (flat ps)[i * 2 + 1]? = some p.2
 | [], i, p, h => by simp at h
 | q :: r, 0, p, h => by simp at h; subst h; simp [flat]
 | q :: r, i + 1, p, h => by
  have := flat_get r i p (by simpa using h)
  rw [show (i + 1) * 2 = i * 2 + 1 + 1 by omega]
  simp only [flat, List.getElem?_cons_succ]
  exact this
/-- v is a slice that reads these pairs -/
def ReadP (w : World) (v : Value) (ps : List (Int × Int)) : Prop := ∃ A c, v = .slice A ps.length c ∧ ps.length ≤ 9223372036854775807 ∧ (0 < ps.length → ∃ g, A = some ⟨g, 0, none⟩ ∧ ∀ j x, (flat ps)[j]? = some x → w.cell? ⟨g, j, none⟩ = some (.int .i64 x))
/-- v is a slice of pairs of the call's own -/
def OwnP (b : Nat) (w : World) (v : Value) (ps : List (Int × Int)) : Prop := w.ownsRow b 83 2 v ps.length ((flat ps).map (Value.int .i64))
theorem ReadP.below {w w' : World} {v : Value} {ps : List (Int × Int)} (h : ReadP w v ps) (hb : Below w.heap.size w w') : ReadP w' v ps := by
 obtain ⟨A, c, rfl, hl, hr⟩ := h
 refine ⟨A, c, rfl, hl, fun h0 => ?_⟩
 obtain ⟨ad, e, hc⟩ := hr h0
 exact ⟨ad, e, fun j x hj => pw_cell_below hb (hc j x hj)⟩
theorem ReadP.nil (w : World) : ReadP w (.slice none 0 0) [] := ⟨none, 0, rfl, by decide, fun h => absurd h (by decide)⟩
theorem ReadP.get {w : World} {A : Option Addr} {c : Nat} {ps : List (Int × Int)} (h : ReadP w (.slice A ps.length c) ps) {i : Nat} (hi : i < ps.length) :
  ∃ g x y, A = some ⟨g, 0, none⟩ ∧ ps[i]? = some (x, y) ∧ w.cell? ⟨g, i * 2, none⟩ = some (.int .i64 x) ∧ w.cell? ⟨g, i * 2 + 1, none⟩ = some (.int .i64 y) := by
 obtain ⟨A', c', e, _, hr⟩ := h
 cases e
 obtain ⟨ad, rfl, hc⟩ := hr (by omega)
 have h1 := List.getElem?_eq_getElem hi
 obtain ⟨h2, h3⟩ := flat_get ps i _ h1
 exact ⟨ad, ps[i].1, ps[i].2, rfl, h1, hc _ _ h2, hc _ _ h3⟩
theorem OwnP.read {b : Nat} {w : World} {v : Value} {ps : List (Int × Int)} (h : OwnP b w v ps) : ReadP w v ps := by
 rcases h.2 with ⟨rfl, h0⟩ | ⟨g, cap, cur, rfl, hb, hg, hnc, hcm, hcs, ht⟩
 ·obtain rfl : ps = [] := List.eq_nil_of_length_eq_zero h0
  exact ReadP.nil w
 ·refine ⟨_, _, rfl, by simp only [maxLen] at hcm; omega, fun _ => ⟨_, rfl, fun j x hj => ?_⟩⟩
  have hc := World.ownsRow.cells h (g := g) rfl j (.int .i64 x) (by rw [List.getElem?_map, hj]; rfl)
  rwa [add_plain] at hc
theorem OwnP.below {b : Nat} {w w' : World} {v : Value} {ps : List (Int × Int)} (h : OwnP b w v ps) (hb : Below w.heap.size w w') : OwnP b w' v ps := own_move h (fun k hk => hb.block k (own_lt h k hk))
theorem OwnP.lower {b b' : Nat} {w : World} {v : Value} {ps : List (Int × Int)} (h : OwnP b w v ps) (hb : b' ≤ b) : OwnP b' w v ps := own_weaken h hb
theorem OwnP.nil (b : Nat) (w : World) : OwnP b w (.slice none 0 0) [] := own_nil _ _ _ _
theorem OwnP.empty {b : Nat} (w : World) (hb : b ≤ w.heap.size) : OwnP b (w.alloc (.cells #[] 83)) (.slice (some ⟨w.heap.size, 0, none⟩) 0 0) [] := ⟨rfl, .inr ⟨w.heap.size, 0, #[], rfl, hb, heap_alloc_new w _, Nat.le_refl _, by decide, rfl, rfl⟩⟩
theorem OwnP.base {b : Nat} {w : World} {v : Value} {ps : List (Int × Int)} (h : OwnP b w v ps) : ∀ k, v.ownBlock = some k → b ≤ k := fun k hk => own_base h k hk
theorem OwnP.lt {b : Nat} {w : World} {v : Value} {ps : List (Int × Int)} (h : OwnP b w v ps) : ∀ k, v.ownBlock = some k → k < w.heap.size := fun k hk => own_lt h k hk
end Go.Proofs.YtkggchklmpmgpaaGreat.H

namespace Go.Proofs.YtkggchklmpmgpaaGreat.H
open Go.RowKit Go.Sort Go.Proofs.YtkggchklmpmgpaaGreatW.PrintWords Go.Proofs.YtkggchklmpmgpaaGreatW.PrintLast
set_option linter.unusedVariables false
set_option linter.unusedSimpArgs false
def encP (p : Int × Int) : List Value := [.int .i64 p.1, .int .i64 p.2]
theorem Bd.grow {w w' : World} (h : Bd w w') : ∃ q os, w' = grow (w.drewN q) os := by
 obtain ⟨hb, hd⟩ := h
 refine ⟨w'.drawn - w.drawn, w'.heap.extract w.heap.size w'.heap.size, ?_⟩
 obtain ⟨h1, h2, h3, h4, h5⟩ := hb
 cases w with
 | mk heap tape drawn os output =>
 cases w' with
 | mk heap' tape' drawn' os' output' =>
 simp only at h1 h2 h3 h4 h5 hd
 subst h1 h2 h3
 unfold Go.Sort.grow World.drewN
 simp only [World.mk.injEq, true_and, and_true]
 refine ⟨?_, by omega⟩
 apply Array.ext
 ·simp; omega
 ·intro i hi1 hi2
  rw [Array.getElem_append]
  by_cases hlt : i < heap.size
  ·rw [dif_pos hlt]
   have := h5 i hlt
   rw [Array.getElem?_eq_getElem hi1, Array.getElem?_eq_getElem hlt] at this
   exact Option.some.inj this
  ·rw [dif_neg hlt]
   simp only [Array.getElem_extract]
   congr 1; omega
theorem flat_at : ∀ (ps : List (Int × Int)) (t : Nat), (flat ps)[t]? = (ps[t / 2]?).map fun p => if t % 2 = 0 then p.1 else p.2
 | [], t => by simp [flat]
 | p :: r, 0 => by simp [flat]
 | p :: r, 1 => by simp [flat]
 | p :: r, t + 2 => by
  have ih := flat_at r t
  rw [show (t + 2) / 2 = t / 2 + 1 by omega, show (t + 2) % 2 = t % 2 by omega]
  show (p.1 :: p.2 :: flat r)[t + 2]? = _
  rw [List.getElem?_cons_succ, List.getElem?_cons_succ, List.getElem?_cons_succ, ih]
theorem enc_get (p : Int × Int) (c : Nat) (hc : c < 2) : (encP p)[c]! = .int .i64 (if c = 0 then p.1 else p.2) := by
 rcases (by omega : c = 0 ∨ c = 1) with rfl | rfl <;> rfl
theorem flatK_list (d : Array (Int × Int)) : (flatK encP 2 d).toList = (flat d.toList).map (Value.int .i64) := by
 apply List.ext_getElem?
 intro t
 rw [List.getElem?_map, flat_at]
 by_cases h : t < d.size * 2
 ·have h2 : t / 2 < d.size := by omega
  have hg := get_flatK encP 2 d t h
  have hs : t < (flatK encP 2 d).size := by rw [size_flatK]; exact h
  rw [getElem!_pos _ t hs, enc_get _ _ (by omega), getElem!_pos d _ h2] at hg
  rw [Array.getElem?_toList, Array.getElem?_eq_getElem hs, hg, Array.getElem?_toList, Array.getElem?_eq_getElem h2]
  rfl
 ·rw [List.getElem?_eq_none (by simp; omega), List.getElem?_eq_none (by simp; omega)]
  rfl
theorem put_take (F c : Array Value) (h : F.size ≤ c.size) : (putCells id 0 F c).toList.take F.size = F.toList := by
 apply List.ext_getElem?
 intro t
 by_cases ht : t < F.size
 ·rw [List.getElem?_take_of_lt ht]
  unfold putCells
  rw [Array.getElem?_toList, Array.getElem?_mapIdx, Array.getElem?_eq_getElem (by omega), Array.getElem?_toList, Array.getElem?_eq_getElem ht]
  simp only [Option.map_some, Nat.zero_add, Nat.zero_le, true_and, ht, if_true, Nat.sub_zero, id]
  rw [getElem!_pos F t ht]
 ·rw [List.getElem?_eq_none (by simp; omega), List.getElem?_eq_none (by simp; omega)]
theorem OwnP.holds {b : Nat} {w : World} {g cap : Nat} {ps : List (Int × Int)} (h : OwnP b w (.slice (some ⟨g, 0, none⟩) ps.length cap) ps) : HoldsK encP 2 w g 0 ps.toArray ∧ g < w.heap.size ∧ b ≤ g := by
 have hlt := h.lt g rfl
 have hbs := h.base g rfl
 refine ⟨?_, hlt, hbs⟩
 obtain ⟨hl, h | ⟨g', cap', cur, e, hb, hcur, hn, hm, hsz, htk⟩⟩ := h
 ·exact absurd h.1 (by simp)
 ·cases e
  intro t ht
  rw [size_flatK, List.size_toArray] at ht
  have hc : cur[t]? = some ((flatK encP 2 ps.toArray)[t]!) := by
   have hs : t < (flatK encP 2 ps.toArray).size := by rw [size_flatK, List.size_toArray]; exact ht
   rw [getElem!_pos _ t hs, ← Array.getElem?_toList, ← List.getElem?_take_of_lt (show t < ps.length * 2 from ht), htk]
   have := flatK_list ps.toArray
   have h2 := congrArg (fun l => l[t]?) this
   simp only [Array.getElem?_toList, Array.getElem?_eq_getElem hs] at h2
   exact h2.symm
  constructor
  ·unfold World.cell?
   simp only [hcur, Nat.zero_add]
   exact hc
  ·unfold World.frozen?
   simp only [hcur]
   simp
theorem OwnP.sorted {b : Nat} {w : World} {g cap : Nat} {ps qs : List (Int × Int)} (h : OwnP b w (.slice (some ⟨g, 0, none⟩) ps.length cap) ps) (hl : qs.length = ps.length) (n : Nat) (os : Array Obj) :
  OwnP b (sortWorldK encP 2 w g 0 n qs.toArray os) (.slice (some ⟨g, 0, none⟩) ps.length cap) qs := by
 have hlt := h.lt g rfl
 obtain ⟨hl2, h | ⟨g', cap', cur, e, hb, hcur, hn, hm, hsz, htk⟩⟩ := h
 ·exact absurd h.1 (by simp)
 ·cases e
  unfold OwnP
  rw [hl]
  refine ⟨by rw [List.length_map, flat_len, hl], .inr ⟨g, cap, putCells id 0 (flatK encP 2 qs.toArray) cur, rfl, hb, ?_, hn, hm, by unfold putCells; rw [Array.size_mapIdx]; exact hsz, ?_⟩⟩
  ·unfold sortWorldK Go.Sort.grow putRowK putRow mapBlock Go.Sort.ahead
   simp only
   rw [Array.getElem?_append_left (by simpa using hlt), Array.getElem?_modify, if_pos rfl, hcur]
   rfl
  ·have h1 := put_take (flatK encP 2 qs.toArray) cur (by rw [size_flatK, List.size_toArray, hl, hsz]; exact Nat.mul_le_mul_right 2 hn)
   rw [size_flatK, List.size_toArray, hl] at h1
   rw [h1, flatK_list]
theorem below_sorted {b : Nat} (w : World) {g : Nat} (hb : b ≤ g) (hg : g < w.heap.size) (n : Nat) (d : Array (Int × Int)) (os : Array Obj) : Below b w (sortWorldK encP 2 w g 0 n d os) := by
 unfold sortWorldK Go.Sort.grow putRowK putRow mapBlock Go.Sort.ahead
 refine ⟨rfl, rfl, rfl, by simp, fun k hk => ?_⟩
 simp only
 rw [Array.getElem?_append_left (by simp; omega), Array.getElem?_modify, if_neg (by omega)]
end Go.Proofs.YtkggchklmpmgpaaGreat.H

namespace Go.Proofs
open Go.Shelf
def Tryz.sortPairs_ren : Go.Shelf.Ren := ⟨fun | 6 => 210 | 15 => 340 | 14 => 339 | 28 => 405 | 29 => 219 | 20 => 397 | 21 => 398 | 22 => 399 | 23 => 400 | 24 => 401 | 25 => 402 | 26 => 403 | 27 => 404 | 46 => 429 | 47 => 430 | 48 => 431 | 49 => 432 | 50 => 433 | 57 => 454 | n => n, fun | 22 => 51 | 24 => 83 | 25 => 157 | 3 => 3 | 39 => 228 | 0 => 0 | 53 => 272 | 55 => 79 | 4 => 4 | 46 => 266 | 45 => 265 | 50 => 209 | 5 => 5 | 9 => 9 | 66 => 283 | 70 => 287 | 76 => 301 | 77 => 302 | n => n, fun | n => n⟩
theorem Tryz.sortPairs : Go.Proofs.SlLaysF0.n6 Tryz.prog Tryz.sortPairs_ren := {
 mixed := by kernel_rfl
 f6 := ⟨Tryz.f210.name, by decide, Tryz.func210.trans (congrArg some (by kernel_rfl))⟩
 f14 := ⟨Tryz.f339.name, by decide, Tryz.func339.trans (congrArg some (by kernel_rfl))⟩
 f15 := Tryz.func340.trans (congrArg some (by kernel_rfl))
 f20 := ⟨Tryz.f397.name, by decide, Tryz.func397.trans (congrArg some (by kernel_rfl))⟩
 f21 := ⟨Tryz.f398.name, by decide, Tryz.func398.trans (congrArg some (by kernel_rfl))⟩
 f22 := ⟨Tryz.f399.name, by decide, Tryz.func399.trans (congrArg some (by kernel_rfl))⟩
 f23 := ⟨Tryz.f400.name, by decide, Tryz.func400.trans (congrArg some (by kernel_rfl))⟩
 f24 := ⟨Tryz.f401.name, by decide, Tryz.func401.trans (congrArg some (by kernel_rfl))⟩
 f25 := ⟨Tryz.f402.name, by decide, Tryz.func402.trans (congrArg some (by kernel_rfl))⟩
 f26 := ⟨Tryz.f403.name, by decide, Tryz.func403.trans (congrArg some (by kernel_rfl))⟩
 f27 := ⟨Tryz.f404.name, by decide, Tryz.func404.trans (congrArg some (by kernel_rfl))⟩
 f28 := Tryz.func405.trans (congrArg some (by kernel_rfl))
 f29 := Tryz.func219.trans (congrArg some (by kernel_rfl))
 f46 := ⟨Tryz.f429.name, by decide, Tryz.func429.trans (congrArg some (by kernel_rfl))⟩
 f47 := Tryz.func430.trans (congrArg some (by kernel_rfl))
 f48 := Tryz.func431.trans (congrArg some (by kernel_rfl))
 f49 := ⟨Tryz.f432.name, by decide, Tryz.func432.trans (congrArg some (by kernel_rfl))⟩
 f50 := ⟨Tryz.f433.name, by decide, Tryz.func433.trans (congrArg some (by kernel_rfl))⟩
 f57 := ⟨Tryz.f454.name, by decide, Tryz.func454.trans (congrArg some (by kernel_rfl))⟩
 t0 := Tryz.underlying0
 a0 := Tryz.isAgg0
 z0 := Tryz.sizeOf0
 v0 := Tryz.zeroValue0
 t3 := Tryz.underlying3
 a3 := Tryz.isAgg3
 z3 := Tryz.sizeOf3
 v3 := Tryz.zeroValue3
 t4 := Tryz.underlying4
 a4 := Tryz.isAgg4
 z4 := Tryz.sizeOf4
 v4 := Tryz.zeroValue4
 t5 := Tryz.underlying5
 a5 := Tryz.isAgg5
 z5 := Tryz.sizeOf5
 v5 := Tryz.zeroValue5
 t9 := Tryz.underlying9
 a9 := Tryz.isAgg9
 z9 := Tryz.sizeOf9
 v9 := Tryz.zeroValue9
 t22 := Tryz.underlying51
 a22 := Tryz.isAgg51
 z22 := Tryz.sizeOf51
 v22 := Tryz.zeroValue51
 t25 := Tryz.underlying157
 a25 := Tryz.isAgg157
 z25 := Tryz.sizeOf157
 v25 := Tryz.zeroValue157
 t39 := Tryz.underlying228
 a39 := Tryz.isAgg228
 z39 := Tryz.sizeOf228
 v39 := Tryz.zeroValue228
 t45 := Tryz.underlying265
 a45 := Tryz.isAgg265
 z45 := Tryz.sizeOf265
 v45 := Tryz.zeroValue265
 t46 := Tryz.underlying266
 a46 := Tryz.isAgg266
 z46 := Tryz.sizeOf266
 v46 := Tryz.zeroValue266
 t50 := Tryz.underlying209
 a50 := Tryz.isAgg209
 z50 := Tryz.sizeOf209
 v50 := Tryz.zeroValue209
 t53 := Tryz.underlying272
 a53 := Tryz.isAgg272
 z53 := Tryz.sizeOf272
 v53 := Tryz.zeroValue272
 t55 := Tryz.underlying79
 a55 := Tryz.isAgg79
 z55 := Tryz.sizeOf79
 v55 := Tryz.zeroValue79
 t66 := Tryz.underlying283
 a66 := Tryz.isAgg283
 z66 := Tryz.sizeOf283
 v66 := Tryz.zeroValue283
 t70 := Tryz.underlying287
 a70 := Tryz.isAgg287
 z70 := Tryz.sizeOf287
 v70 := Tryz.zeroValue287
 t76 := Tryz.underlying301
 a76 := Tryz.isAgg301
 z76 := Tryz.sizeOf301
 v76 := Tryz.zeroValue301
 t77 := Tryz.underlying302
 a77 := Tryz.isAgg302
 z77 := Tryz.sizeOf302
 v77 := Tryz.zeroValue302 }
end Go.Proofs

namespace Go.Proofs.YtkggchklmpmgpaaGreat.H
open Go.RowKit Go.Sort Go.Proofs.YtkggchklmpmgpaaGreatW.PrintWords Go.Proofs.YtkggchklmpmgpaaGreatW.PrintLast
set_option linter.unusedVariables false
set_option linter.unusedSimpArgs false
def cfP (p q : Int × Int) : Int := cmpP p.1 p.2 q.1 q.2
theorem ltP (p q : Int × Int) : ltOf cfP p q = decide (p.1 < q.1 ∨ (p.1 = q.1 ∧ p.2 < q.2)) := by
 unfold ltOf cfP cmpP cmpI
 rw [Bool.eq_iff_iff, decide_eq_true_eq, decide_eq_true_eq]
 split <;> split <;> (try split) <;> omega
theorem swoP : SWO (ltOf cfP) where
 irrefl x := by rw [ltP]; simp
 trans x y z h1 h2 := by rw [ltP] at *; simp only [decide_eq_true_eq] at *; omega
 ntrans x y z h1 h2 := by rw [ltP] at *; simp only [decide_eq_false_iff_not] at *; omega
theorem totP (x y : Int × Int) (h1 : ltOf cfP x y = false) (h2 : ltOf cfP y x = false) : x = y := by
 rw [ltP] at *
 simp only [decide_eq_false_iff_not] at *
 exact Prod.ext (by omega) (by omega)
/-- pairs in order -/
def sortL (ps : List (Int × Int)) : List (Int × Int) := ps.mergeSort fun x y => !(ltOf cfP) y x
set_option maxRecDepth 100000 in
set_option maxHeartbeats 2000000 in
theorem sortPairs (base : Nat) (w : World) (v : Value) (ps : List (Int × Int)) (ho : OwnP base w v ps) (hl : ps.length ≤ 1000000) :
  Calls Tryz.prog 210 #[v, .func (.func 211) #[] #[]] w fun e w' => e = .returned (.tuple #[]) ∧ OwnP base w' v (sortL ps) ∧ Below base w w' := by
 have hown := ho
 obtain ⟨hl2, ⟨rfl, h0⟩ | ⟨g, cap, cur, rfl, -⟩⟩ := ho
 ·have hp : ps = [] := List.length_eq_zero_iff.1 h0
  subst hp
  exact (AnyF.slices_SortFunc_none Tryz.sortPairs none 0 _ w).mono fun _ _ ⟨he, hw⟩ => ⟨he, by rw [hw, show sortL [] = [] by unfold sortL; simp]; exact OwnP.nil _ _, by rw [hw]; exact Below.refl _ _⟩
 ·obtain ⟨hh, hlt, hbs⟩ := hown.holds
  have hcmp : CmpLays Tryz.prog 211 #[] encP 2 cfP g 0 ps.toArray.size w := fun m os dk _ x y => (comparePairsD x.1 x.2 y.1 y.2 _).mono fun _ _ ⟨he, hb⟩ => ⟨he, hb.grow⟩
  exact (AnyQ.slices_SortFunc_total Tryz.sortPairs 2 Tryz.isAgg83 Tryz.sizeOf83 encP (fun _ => rfl) (fun x v hv => by simp [encP] at hv; rcases hv with rfl | rfl <;> rfl) cfP swoP 211 #[] g 0 cap ps.toArray w (by have h : Enters 211 := (Enters.mk' Tryz.func211 rfl rfl); unfold Enters at h; exact h) hcmp hh hlt (by rw [List.size_toArray]; omega) totP).mono fun _ _ ⟨he, n, os, hw⟩ =>
   ⟨he, by rw [hw]; exact hown.sorted (by show (ps.mergeSort _).length = _; rw [List.length_mergeSort]) n os, by rw [hw]; exact below_sorted w hbs hlt n _ os⟩
def leP (p q : Int × Int) : Prop := p.1 < q.1 ∨ (p.1 = q.1 ∧ p.2 ≤ q.2)
/-- in order, and the same pairs: the sorted list -/
theorem sort_is {ps qs : List (Int × Int)} (hp : qs.Perm ps) (hq : qs.Pairwise leP) : sortL ps = qs := by
 unfold sortL
 have hle : ∀ a b : Int × Int, ((!(ltOf cfP) b a) = true) ↔ leP a b := fun a b => by
  unfold leP
  rw [ltP]
  simp only [Bool.not_eq_true', decide_eq_false_iff_not]
  omega
 refine List.Perm.eq_of_pairwise (le := fun x y => (!(ltOf cfP) y x) = true) ?_ ?_ ?_ ((List.mergeSort_perm _ _).trans hp.symm)
 ·intro a b _ _ h1 h2
  rw [hle] at h1 h2
  unfold leP at h1 h2
  exact Prod.ext (by omega) (by omega)
 ·exact List.pairwise_mergeSort (fun a b c h1 h2 => by rw [hle] at *; unfold leP at *; omega) (fun a b => by
   rw [Bool.or_eq_true, hle, hle]; unfold leP; omega) _
 ·exact hq.imp (fun h => (hle _ _).2 h)
def putP (acc : List (Int × Int)) (k : Nat) (p : Int × Int) : List (Int × Int) := acc.take k ++ p :: acc.drop k
theorem put_perm (acc : List (Int × Int)) (k : Nat) (p : Int × Int) : (putP acc k p).Perm (acc ++ [p]) := by
 unfold putP
 refine List.perm_middle.trans ?_
 rw [List.take_append_drop]
 exact (List.perm_append_singleton p acc).symm
theorem put_asc {acc : List (Int × Int)} {k : Nat} {p : Int × Int} (hs : acc.Pairwise leP) (hk : k ≤ acc.length) (h1 : ∀ j (h : j < acc.length), k ≤ j → leP p acc[j]) (h2 : ∀ (h : k - 1 < acc.length), 0 < k → leP acc[k - 1] p) : (putP acc k p).Pairwise leP := by
 have htr : ∀ {a b c : Int × Int}, leP a b → leP b c → leP a c := fun {a b c} h1 h2 => by unfold leP at *; omega
 have hlow : ∀ q ∈ acc.take k, leP q p := fun q hq => by
  obtain ⟨j, hj, e⟩ := List.getElem_of_mem hq
  rw [List.length_take] at hj
  rw [List.getElem_take] at e
  have h3 := h2 (by omega) (by omega)
  by_cases hjk : j = k - 1
  ·subst hjk; rw [← e]; exact h3
  ·have h4 := List.pairwise_iff_getElem.1 hs j (k - 1) (by omega) (by omega) (by omega)
   rw [← e]; exact htr h4 h3
 have hhigh : ∀ q ∈ acc.drop k, leP p q := fun q hq => by
  obtain ⟨j, hj, e⟩ := List.getElem_of_mem hq
  rw [List.length_drop] at hj
  rw [List.getElem_drop] at e
  rw [← e]; exact h1 _ (by omega) (by omega)
 unfold putP
 rw [List.pairwise_append, List.pairwise_cons]
 refine ⟨hs.sublist (List.take_sublist k acc), ⟨hhigh, hs.sublist (List.drop_sublist k acc)⟩, fun a ha b hb => ?_⟩
 rcases List.mem_cons.1 hb with rfl | hb
 ·exact hlow a ha
 ·exact htr (hlow a ha) (hhigh b hb)
/-- what is put in behind a sorted list is the sorted list with it -/
theorem put_sort {ps acc : List (Int × Int)} {k : Nat} {p : Int × Int} (he : acc = sortL ps) (hk : k ≤ acc.length) (h1 : ∀ j (h : j < acc.length), k ≤ j → leP p acc[j]) (h2 : ∀ (h : k - 1 < acc.length), 0 < k → leP acc[k - 1] p) : putP acc k p = sortL (ps ++ [p]) := by
 have hs : acc.Pairwise leP := by
  rw [he]
  unfold sortL
  refine (List.pairwise_mergeSort (le := fun x y => !(ltOf cfP) y x) (fun a b c h1 h2 => ?_) (fun a b => ?_) ps).imp (fun h => ?_)
  ·rw [ltP] at *; simp only [Bool.not_eq_true', decide_eq_false_iff_not] at *; omega
  ·rw [ltP, ltP, Bool.or_eq_true]; simp only [Bool.not_eq_true', decide_eq_false_iff_not]; omega
  ·rw [ltP] at h; simp only [Bool.not_eq_true', decide_eq_false_iff_not] at h; unfold leP; omega
 refine (sort_is ((put_perm acc k p).trans ?_) (put_asc hs hk h1 h2)).symm
 rw [he]
 exact (List.mergeSort_perm ps _).append_right [p]
end Go.Proofs.YtkggchklmpmgpaaGreat.H

namespace Go.Proofs.YtkggchklmpmgpaaGreat.H
open Go.RowKit Go.Proofs.YtkggchklmpmgpaaGreatW.PrintWords Go.Proofs.YtkggchklmpmgpaaGreatW.PrintLast
set_option linter.unusedVariables false
set_option linter.unusedSimpArgs false
/-- v is a slice that reads these pairs, wherever it begins -/
def ReadQ (w : World) (v : Value) (ps : List (Int × Int)) : Prop := ∃ (A : Option Addr) (c : Nat), v = .slice A ps.length c ∧ ps.length ≤ c ∧ (A = none → c = 0) ∧ ∀ ad, A = some ad → ∀ (j : Nat) (x : Int), (flat ps)[j]? = some x → w.cell? (ad.add j) = some (.int .i64 x)
theorem ReadQ.below {w w' : World} {v : Value} {ps : List (Int × Int)} (h : ReadQ w v ps) (hb : Below w.heap.size w w') : ReadQ w' v ps := by
 obtain ⟨A, c, e, h1, h2, h3⟩ := h
 exact ⟨A, c, e, h1, h2, fun ad ha j x hj => pw_cell_below hb (h3 ad ha j x hj)⟩
theorem OwnP.readQ {b : Nat} {w : World} {v : Value} {ps : List (Int × Int)} (h : OwnP b w v ps) : ReadQ w v ps := by
 have hr := h.read
 rcases h.2 with ⟨rfl, h0⟩ | ⟨g, cap, cur, rfl, hb, hg, hnc, hcm, hcs, ht⟩
 ·obtain rfl : ps = [] := List.eq_nil_of_length_eq_zero h0
  exact ⟨none, 0, rfl, Nat.le_refl _, fun _ => rfl, fun ad ha => by cases ha⟩
 ·refine ⟨_, _, rfl, hnc, (fun e => by cases e), fun ad ha j x hj => ?_⟩
  cases ha
  have hc := World.ownsRow.cells h (g := g) rfl j (.int .i64 x) (by rw [List.getElem?_map, hj]; rfl)
  exact hc
theorem flat_drop : ∀ (ps : List (Int × Int)) (k : Nat), flat (ps.drop k) = (flat ps).drop (k * 2)
 | [], k => by simp [flat]
 | p :: r, 0 => by simp
 | p :: r, k + 1 => by
  rw [List.drop_succ_cons, flat_drop r k, show (k + 1) * 2 = k * 2 + 1 + 1 by omega]
  rfl
theorem flat_take : ∀ (ps : List (Int × Int)) (k : Nat), flat (ps.take k) = (flat ps).take (k * 2)
 | [], k => by simp [flat]
 | p :: r, 0 => by simp [flat]
 | p :: r, k + 1 => by
  rw [List.take_succ_cons, show (k + 1) * 2 = k * 2 + 1 + 1 by omega]
  simp only [flat, List.take_succ_cons, flat_take r k]
theorem flat_apd : ∀ (a b : List (Int × Int)), flat (a ++ b) = flat a ++ flat b
 | [], b => rfl
 | p :: r, b => by show p.1 :: p.2 :: flat (r ++ b) = _; rw [flat_apd r b]; rfl
/-- ps[k:] -/
theorem ReadQ.from_ {w : World} {A : Option Addr} {n c : Nat} {ps : List (Int × Int)} (h : ReadQ w (.slice A n c) ps) {k : Nat} (hk : k ≤ ps.length) :
  ∃ A' c', (∀ W : World, (Instr.slice 51 (.slice A n c) (some (.int .i64 (k : Int))) none none).run Tryz.prog W = .ok (.slice A' (ps.length - k) c') W) ∧ ReadQ w (.slice A' (ps.length - k) c') (ps.drop k) := by
 obtain ⟨A0, c0, e, hc, hn, hr⟩ := h
 cases e
 obtain ⟨i, hi, hs⟩ := Option.map_eq_some_iff.1 (show (Tryz.prog.info? 83).map (·.size) = some 2 by kernel_rfl)
 have h2 : (k : Int) ≤ (ps.length : Int) := by omega
 have hrun : ∀ W : World, (Instr.slice 51 (.slice A ps.length c) (some (.int .i64 (k : Int))) none none).run Tryz.prog W = .ok (.slice (if c = k then A else A.map (·.add (k * 2))) (ps.length - k) (c - k)) W := fun W => by
  have h3 : ¬ ps.length < k := by omega
  by_cases hck : c = k
  ·simp [Instr.slice, Instr.sliceBounds, Instr.sliceBound, asIntOf, run_underlying Tryz.underlying51, sizeOf, typeInfo, hi, hs, go_sem, h2, h3, hck]
  ·simp [Instr.slice, Instr.sliceBounds, Instr.sliceBound, asIntOf, run_underlying Tryz.underlying51, sizeOf, typeInfo, hi, hs, go_sem, h2, h3, hck]
 refine ⟨_, _, hrun, ⟨_, _, by rw [List.length_drop], by rw [List.length_drop]; omega, fun hA => ?_, fun ad hA j x hj => ?_⟩⟩
 ·split at hA
  ·have := hn hA; omega
  ·cases A with
   | none => have := hn rfl; omega
   | some a => simp at hA
 ·rw [flat_drop, List.getElem?_drop] at hj
  split at hA
  ·next hck =>
   have : (flat ps).length = ps.length * 2 := flat_len ps
   rw [List.getElem?_eq_none (by rw [this]; omega)] at hj
   cases hj
  ·cases A with
   | none => cases hA
   | some a =>
    cases hA
    rw [Go.Proofs.YtkggchklmpmgpaaGreatW.PrintWords.add_add]
    exact hr a rfl _ _ hj
/-- ps[:k] -/
theorem ReadQ.to_ {w : World} {A : Option Addr} {n c : Nat} {ps : List (Int × Int)} (h : ReadQ w (.slice A n c) ps) {k : Nat} (hk : k ≤ ps.length) :
  (∀ W : World, (Instr.slice 51 (.slice A n c) none (some (.int .i64 (k : Int))) none).run Tryz.prog W = .ok (.slice A k c) W) ∧ ReadQ w (.slice A k c) (ps.take k) := by
 obtain ⟨A0, c0, e, hc, hn, hr⟩ := h
 cases e
 obtain ⟨i, hi, hs⟩ := Option.map_eq_some_iff.1 (show (Tryz.prog.info? 83).map (·.size) = some 2 by kernel_rfl)
 have h2 : (k : Int) ≤ (c : Int) := by omega
 have hl : (ps.take k).length = k := by rw [List.length_take]; omega
 refine ⟨fun W => ?_, ⟨A, c, by rw [hl], by rw [hl]; omega, hn, fun ad hA j x hj => ?_⟩⟩
 ·have h3 : ¬ c < k := by omega
  by_cases hc0 : c = 0
  ·obtain rfl : k = 0 := by omega
   simp [Instr.slice, Instr.sliceBounds, Instr.sliceBound, asIntOf, run_underlying Tryz.underlying51, sizeOf, typeInfo, hi, hs, go_sem, h2, h3, hc0]
  ·simp [Instr.slice, Instr.sliceBounds, Instr.sliceBound, asIntOf, run_underlying Tryz.underlying51, sizeOf, typeInfo, hi, hs, go_sem, h2, h3, hc0]
 ·rw [flat_take] at hj
  have hjl : j < k * 2 := by
   have := (List.getElem?_eq_some_iff.1 hj).1
   rw [List.length_take] at this; omega
  rw [List.getElem?_take_of_lt hjl] at hj
  exact hr ad hA j x hj
theorem infoQ : (Tryz.prog.info? 83).map (fun i => (i.zero, i.size, i.bytes)) = some (some (.agg #[.int .i64 0, .int .i64 0]), 2, 16) := by kernel_rfl
theorem runAppP {W : World} (base : Nat) (ty : TypeId) (v : Value) (ps qs : List (Int × Int)) (A : Option Addr) (m c : Nat) (HO : OwnP base W v ps) (HR : ReadQ W (.slice A m c) qs) (hbase : base ≤ W.heap.size) (hl : ps.length + qs.length ≤ 1000000) :
  ∃ v' w', (Builtin.append_ #[51, 51] ty #[v, .slice A m c]).run Tryz.prog W = .ok v' w' ∧ OwnP base w' v' (ps ++ qs) ∧ W.grownBy w' v.ownBlock ∧ (v'.ownBlock = v.ownBlock ∨ v'.ownBlock = some W.heap.size) := by
 obtain ⟨i0, hi, hzz⟩ := Option.map_eq_some_iff.1 infoQ
 simp only [Prod.mk.injEq] at hzz
 obtain ⟨hz0, hz1, hz2⟩ := hzz
 obtain ⟨A', c', e, hle, hn, hr⟩ := HR
 cases e
 cases A with
 | none =>
  have hc0 := hn rfl
  have hq0 : qs = [] := List.eq_nil_of_length_eq_zero (by omega)
  subst hq0
  subst hc0
  refine ⟨v, W, run_append_owned_none (P := Tryz.prog) (w := W) base 51 ty 83 i0 2 Tryz.underlying51 hi v ps.length _ HO, by rw [List.append_nil]; exact HO, ⟨rfl, rfl, rfl, Nat.le_refl _, fun _ _ _ => rfl⟩, .inl rfl⟩
 | some ad =>
  obtain ⟨v', w', hrun, h2, h3, -, h5⟩ := run_append_own_at (P := Tryz.prog) W base 51 ty 83 i0 _ 2 16 Tryz.underlying51 hi hz0 hz1 hz2 rfl (by decide) v ps.length ((flat ps).map (Value.int .i64)) HO ad qs.length c ((flat qs).map (Value.int .i64)) (by rw [List.length_map, flat_len])
   (fun j u hj => by
    rw [List.getElem?_map] at hj
    obtain ⟨y, hy, rfl⟩ := Option.map_eq_some_iff.1 hj
    exact hr ad rfl j y hy) (fun u hu => by
    obtain ⟨y, -, rfl⟩ := List.mem_map.1 hu
    rfl) (by simp only [maxLen]; omega) (by omega) hbase
  refine ⟨v', w', hrun, ?_, h3, h5⟩
  unfold OwnP
  rw [List.length_append, flat_apd, List.map_append]
  exact h2
theorem appP_gives {o : Oper} {ev : Operand → Value} {W : World} (base : Nat) (s x : Operand) (ho : o.op = .call { callee := .builtin .append, args := #[s, x], argTypes := #[51, 51] })
  (v : Value) (ps qs : List (Int × Int)) (A : Option Addr) (m c : Nat) (hs : ev s = v) (hx : ev x = .slice A m c) (HO : OwnP base W v ps) (HR : ReadQ W (.slice A m c) qs) (hbase : base ≤ W.heap.size) (hl : ps.length + qs.length ≤ 1000000) {R : Value → World → Prop}
  (h : ∀ v1 w1, OwnP base w1 v1 (ps ++ qs) → W.grownBy w1 v.ownBlock → R v1 w1) : opGives Tryz.prog o ev W R := by
 obtain ⟨v', w', hrun, h1, h2, -⟩ := runAppP base o.type v ps qs A m c HO HR hbase hl
 refine opGives_value (w' := w') (v := v') ?_ (h v' w' h1 h2)
 unfold execOp
 simp only [ho, resolve, invoke, builtin, Sem.run_bind, Sem.run_pure, Result.andThen_ok, List.map_toArray, List.map_cons, List.map_nil, hs, hx, hrun]
section
variable {ops : Array Oper} {rest : List Oper} {o : Oper} {a : Act} {Q : Exit → Act → World → Prop}
theorem appP_list {W : World} (base : Nat) (hgd : o.guard = none) (s x : Operand) (ho : o.op = .call { callee := .builtin .append, args := #[s, x], argTypes := #[51, 51] })
  (v : Value) (ps qs : List (Int × Int)) (A : Option Addr) (m c : Nat) (hs : a.eval s = v) (hx : a.eval x = .slice A m c) (HO : OwnP base W v ps) (HR : ReadQ W (.slice A m c) qs) (hbase : base ≤ W.heap.size) (hl : ps.length + qs.length ≤ 1000000)
  (h : ∀ v1 w1, OwnP base w1 v1 (ps ++ qs) → W.grownBy w1 v.ownBlock → wpList Tryz.prog ops Q rest (a.put o.dst v1) w1) : wpList Tryz.prog ops Q (o :: rest) a W := by
 obtain ⟨v', w', hrun, h1, h2, -⟩ := runAppP base o.type v ps qs A m c HO HR hbase hl
 refine wpList_plain hgd fun K hK => ?_
 unfold Oper.wp
 simp [execOp, ho, resolve, invoke, builtin, hs, hx, hrun, Result.andThen]
 exact hK _ _ (h v' w' h1 h2)
end
/-- one pair, as a row of the call's own -/
theorem OwnP.single {b : Nat} (W : World) (x y : Int) (hb : b ≤ W.heap.size) : OwnP b (W.alloc (.cells #[.int .i64 x, .int .i64 y] 83)) (.slice (some ⟨W.heap.size, 0, none⟩) 1 1) [(x, y)] :=
 ⟨rfl, .inr ⟨W.heap.size, 1, #[.int .i64 x, .int .i64 y], rfl, hb, heap_alloc_new W _, Nat.le_refl _, by decide, rfl, rfl⟩⟩
/-- a slice expression, its run told -/
theorem slice_execQ {P : Program} {o : Oper} {ev : Operand → Value} {W : World} {t e : TypeId} {s : Operand} {lo hi : Option Operand} {u : Value} (ht : P.underlying t = some (.slice e)) (ho : o.op = .slice t s lo hi none) (hr : (Instr.slice t (ev s) (lo.map ev) (hi.map ev) none).run P W = .ok u W) : (execOp ev o).run P W = .ok (.value u) W := by
 have hel : P.elem t = e := by simp [Program.elem, ht]
 have h1 := run_sliceAt_slice (P := P) (w := W) t (ev s) (lo.map ev) (hi.map ev) none (by rw [hel]; exact ht)
 simp [execOp, ho, h1, hr]
section
variable {P : Program} {ops : Array Oper} {rest : List Oper} {o : Oper} {a : Act} {Q : Exit → Act → World → Prop}
theorem slice_toldQ {W : World} {t e : TypeId} {s : Operand} {lo hi : Option Operand} {u : Value} (ht : P.underlying t = some (.slice e)) (hgd : o.guard = none) (ho : o.op = .slice t s lo hi none) (hr : ∀ W : World, (Instr.slice t (a.eval s) (lo.map a.eval) (hi.map a.eval) none).run P W = .ok u W) (h : wpList P ops Q rest (a.put o.dst u) W) : wpList P ops Q (o :: rest) a W :=
 Kd.event_run hgd (slice_execQ ht ho (hr W)) h
end
end Go.Proofs.YtkggchklmpmgpaaGreat.H
