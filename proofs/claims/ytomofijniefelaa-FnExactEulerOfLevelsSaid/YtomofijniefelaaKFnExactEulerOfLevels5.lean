/- part: the complex of the faces that are as told. How many vertices a face has. Euler numbers. Sets that make a complex: plain word. ImageComplex of the reference. isIn: all vertices of a face are in another one. slices.IndexFunc, slices.ContainsFunc and areAll at [][]int64. What a complex is, of the reference. The code of a complex. Values, functions of a complex, and madeBy: the program's. A complex holds each part of its faces. LevelAt of the program. -/
import Derived.Test.YtomofijniefelaaKFnExactEulerOfLevels1
import Derived.Test.YtomofijniefelaaKFnExactEulerOfLevels2
import Derived.Test.YtomofijniefelaaKFnExactEulerOfLevels3
import Derived.Test.YtomofijniefelaaKFnExactEulerOfLevels4

namespace Go.Proofs.Ytomofijniefelaa.H
open Go.RowKit Go.Proofs.YtomofijniefelaaW.PrintWords Go.Proofs.YtomofijniefelaaW.PrintLast
set_option linter.unusedVariables false
set_option linter.unusedSimpArgs false
/-- two ascending lists of the same numbers -/
theorem asc_ext : ∀ {l l' : List Int}, l.Pairwise (· < ·) → l'.Pairwise (· < ·) → (∀ x, x ∈ l ↔ x ∈ l') → l = l'
 | [], [], _, _, _ => rfl
 | [], b :: l', _, _, h => by have := (h b).2 List.mem_cons_self; cases this
 | a :: l, [], _, _, h => by have := (h a).1 List.mem_cons_self; cases this
 | a :: l, b :: l', h1, h2, h => by
  rw [List.pairwise_cons] at h1 h2
  have hab : a = b := by
   have e1 := (h a).1 List.mem_cons_self
   have e2 := (h b).2 List.mem_cons_self
   rcases List.mem_cons.1 e1 with e1 | e1
   ·exact e1
   ·rcases List.mem_cons.1 e2 with e2 | e2
    ·exact e2.symm
    ·have := h2.1 a e1; have := h1.1 b e2; omega
  subst hab
  rw [asc_ext h1.2 h2.2 (fun x => ?_)]
  constructor
  ·intro hx
   have h3 := h1.1 x hx
   rcases List.mem_cons.1 ((h x).1 (List.mem_cons_of_mem _ hx)) with e | e
   ·omega
   ·exact e
  ·intro hx
   have h3 := h2.1 x hx
   rcases List.mem_cons.1 ((h x).2 (List.mem_cons_of_mem _ hx)) with e | e
   ·omega
   ·exact e
theorem thL_mem {p : Int → Bool} {k : Nat} {x : Int} : x ∈ thL p k ↔ ∃ q : Nat, x = q ∧ 1 ≤ q ∧ q < k ∧ p q = true := by
 unfold thL
 rw [List.mem_filterMap]
 constructor
 ·rintro ⟨q, hq, h⟩
  rw [List.mem_range] at hq
  split at h
  ·next h1 =>
   simp only [Bool.and_eq_true, decide_eq_true_eq] at h1
   exact ⟨q, by cases h; rfl, h1.1, hq, h1.2⟩
  ·cases h
 ·rintro ⟨q, rfl, h1, h2, h3⟩
  exact ⟨q, List.mem_range.2 h2, by simp [h1, h3]⟩
theorem thL_asc (p : Int → Bool) (k : Nat) : (thL p k).Pairwise (· < ·) := by
 induction k with
 | zero => simp [thL]
 | succ k ih =>
  cases hp : p k with
  | false => rw [thL_miss hp]; exact ih
  | true =>
   by_cases h1 : 1 ≤ k
   ·rw [thL_hit h1 hp, List.pairwise_append]
    refine ⟨ih, by simp, fun x hx y hy => ?_⟩
    obtain ⟨q, rfl, _, hq, _⟩ := thL_mem.1 hx
    simp at hy
    omega
   ·obtain rfl : k = 0 := by omega
    rw [thL_one]
    exact List.Pairwise.nil
theorem thL_filter {n : Nat} {xs : List Int} (hc : Cx n xs) (p : Int → Bool) : thL (fun f => decide (f ∈ xs) && p f) (2 ^ n) = xs.filter p := by
 refine asc_ext (thL_asc _ _) (hc.asc.sublist List.filter_sublist) (fun x => ?_)
 rw [thL_mem, List.mem_filter]
 constructor
 ·rintro ⟨q, rfl, _, _, h⟩
  simpa using h
 ·rintro ⟨hx, hp⟩
  have hb := hc.bd x hx
  have := pw6 hc.hi
  refine ⟨x.toNat, by omega, by omega, by omega, ?_⟩
  have e : ((x.toNat : Nat) : Int) = x := by omega
  rw [e]
  simp [hx, hp]
/-- the number of vertices -/
def ones (f : Nat) : Nat := (vs f).length
theorem ones_step : ∀ g, g < 64 → ones g = g % 2 + ones (g / 2) := by decide +kernel
theorem ones_le : ∀ g, g < 64 → ones g ≤ 6 := by decide +kernel
set_option maxRecDepth 100000 in
set_option maxHeartbeats 1000000 in
theorem specOnes (x : Nat) (hx : x < 64) (w : World) : Calls Try.prog 45 #[.int .i64 x] w fun e w' => e = .returned (.int .i64 (ones x : Nat)) ∧ Below w.heap.size w w' := by
 go_enter Try.func45, Try.ntmps45
 go_wp2
 go_loopw [0, 3] (fun s0 s3 wr => ∃ g k : Nat, s0 = .int .i64 g ∧ g < 64 ∧ s3 = .int .i64 k ∧ k ≤ 6 ∧ k + ones g = ones x ∧ wr = w) (fun s0 _ _ => (intOf s0).toNat)
 case atStart => exact ⟨x, 0, rfl, hx, rfl, by decide, by omega, rfl⟩
 case round =>
  obtain ⟨g, k, rfl, hg, rfl, hk, he, rfl⟩ := hrel
  have hox := ones_le x hx
  by_cases h0 : 0 < g
  ·have hst := ones_step g hg
   have h0I : (0 : Int) < (g : Int) := by omega
   have hr1 : Int.tmod (g : Int) 2 = ((g % 2 : Nat) : Int) := by rw [Int.tmod_eq_emod_of_nonneg (by omega)]; omega
   have hq1 : Int.tdiv (g : Int) 2 = ((g / 2 : Nat) : Int) := by rw [Int.tdiv_eq_ediv_of_nonneg (by omega)]; omega
   have hr2 : (g : Int) % 2 = ((g % 2 : Nat) : Int) := by omega
   have hq2 : (g : Int) / 2 = ((g / 2 : Nat) : Int) := by omega
   obtain ⟨r, hr⟩ : ∃ r, r = g % 2 := ⟨_, rfl⟩
   obtain ⟨q, hq⟩ : ∃ q, q = g / 2 := ⟨_, rfl⟩
   have hqg : q < g := by omega
   have hr6 : r ≤ 1 := by omega
   rw [← hr] at hst hr1 hr2
   rw [← hq] at hst hq1 hq2
   clear hr hq
   go_wp2
   go_roundw
   case rel => exact ⟨q, k + r, by first | rfl | (simp [hq1, hq2]) | (simp; omega), by omega, by first | rfl | (simp [hr1, hr2]) | (simp; omega), by omega, by omega, trivial⟩
   case measure => simp [intOf] <;> omega
  ·obtain rfl : g = 0 := by omega
   go_wp2
   go_ret
   have h00 : ones 0 = 0 := by decide
   exact ⟨by rw [← he, h00]; simp, Below.refl _ _⟩
def eulT (x : Int) : Int := 1 - 2 * Int.tmod ((ones x.toNat : Int) - 1) 2
def eulV (xs : List Int) : Int := (xs.map eulT).sum
/-- it lies in one of these -/
def madeAt (ss : List Int) (g : Int) : Bool := ss.any fun s => decide (g.toNat &&& s.toNat = g.toNat)
theorem xor_and_zero (a b : Nat) : (a ^^^ (a &&& b) = 0) ↔ (a &&& b = a) := by
 constructor
 ·intro h
  have h2 := congrArg (a ^^^ ·) h
  simpa [← Nat.xor_assoc] using h2
 ·intro h; rw [h]; simp
theorem isInC (a b : Nat) (ha : a < 64) (hb : b < 64) (w : World) :
  Calls Try.prog 86 #[.int .i64 a, .int .i64 b] w fun e w' => e = .returned (.bool (decide (a &&& b = a))) ∧ Below w.heap.size w w' := by
 have hx := andNot_i64 a b (by omega) (by omega)
 have HX : Aside0 ((((a ^^^ (a &&& b) : Nat) : Int) == 0) = decide (a &&& b = a)) := ⟨by
  rw [Bool.eq_iff_iff, beq_iff_eq, decide_eq_true_eq, ← xor_and_zero]; omega⟩
 go_enter Try.func86, Try.ntmps86
 go_wp2
 go_ret
 exact ⟨by rw [← HX.out]; rfl, by (repeat (first | (with_reducible exact Below.refl _ _) | (with_reducible assumption) | (with_reducible refine below_step ?_ (by assumption)) | (with_reducible apply below_alloc) | (with_reducible apply below_drewN)))⟩
/-- a slice of slices of numbers -/
def ReadS (w : World) (v : Value) (xss : List (List Int)) : Prop := ∃ A c, v = .slice A xss.length c ∧ xss.length ≤ 1000 ∧ ∀ i xs, xss[i]? = some xs → ∃ ad u, A = some ad ∧ w.cell? (ad.add i) = some u ∧ ReadI w u xs
theorem ReadS.below {w w' : World} {v : Value} {xss : List (List Int)} (h : ReadS w v xss) (hb : Below w.heap.size w w') : ReadS w' v xss := by
 obtain ⟨A, c, rfl, hl, hr⟩ := h
 refine ⟨A, c, rfl, hl, fun i xs hi => ?_⟩
 obtain ⟨ad, u, e, hc, hu⟩ := hr i xs hi
 exact ⟨ad, u, e, pw_cell_below hb hc, hu.below hb⟩
/-- a function value of one slice of numbers that answers a bool, and makes memory at the most -/
def PredS (w : World) (fv : Value) (p : List Int → Bool) (dom : List Int → Prop) : Prop :=
 ∃ g first caps, fv = .func (.func g) first caps ∧ Enters g ∧ ∀ w1 u xs, Below w.heap.size w w1 → ReadI w1 u xs → dom xs → Calls Try.prog g (first ++ #[u] ++ caps) w1 fun e w2 => e = .returned (.bool (p xs)) ∧ Below w1.heap.size w1 w2
theorem PredS.below {w w' : World} {fv : Value} {p : List Int → Bool} {dom : List Int → Prop} (h : PredS w fv p dom) (hb : Below w.heap.size w w') : PredS w' fv p dom := by
 obtain ⟨g, first, caps, rfl, hent, hp⟩ := h
 exact ⟨g, first, caps, rfl, hent, fun w1 u xs h1 hx hd => hp w1 u xs (hb.trans (h1.mono hb.size)) hx hd⟩
theorem idxS_found {p : List Int → Bool} {xss : List (List Int)} {i : Nat} {xs : List Int} (hi : xss[i]? = some xs) (h0 : ∀ (j : Nat) (xs : List Int), j < i → xss[j]? = some xs → p xs = false) (h1 : p xs = true) : idx p xss = i := by
 obtain ⟨hl, e1⟩ := List.getElem?_eq_some_iff.1 hi
 have e : xss.findIdx p = i := by
  rw [List.findIdx_eq hl]
  refine ⟨by rw [e1]; exact h1, fun j hj => h0 j _ hj (List.getElem?_eq_getElem (by omega))⟩
 unfold idx; rw [e, if_pos hl]
theorem idxS_none {p : List Int → Bool} {xss : List (List Int)} (h0 : ∀ (j : Nat) (xs : List Int), xss[j]? = some xs → p xs = false) : idx p xss = -1 := by
 have e : ¬ xss.findIdx p < xss.length := by
  rw [List.findIdx_lt_length]
  rintro ⟨x, hx, hp⟩
  obtain ⟨j, hj, rfl⟩ := List.getElem_of_mem hx
  rw [h0 j _ (List.getElem?_eq_getElem hj)] at hp; cases hp
 unfold idx; rw [if_neg e]
set_option maxHeartbeats 1000000 in
theorem indexFuncS (v : Value) (xss : List (List Int)) (fv : Value) (p : List Int → Bool) (dom : List Int → Prop) (w : World) (hr : ReadS w v xss) (hp : PredS w fv p dom) (hd : ∀ xs ∈ xss, dom xs) :
  Calls Try.prog 100 #[v, fv] w fun e w' => e = .returned (.int .i64 (idx p xss)) ∧ Below w.heap.size w w' := by
 obtain ⟨g, first, caps, rfl, hent, hp⟩ := hp
 obtain ⟨A, c, rfl, hl, hr⟩ := hr
 have HR := Aside0.mk hr
 have HP := Aside0.mk hp
 have HD := Aside0.mk hd
 unfold Enters at hent
 clear hr hp hd
 go_enter Try.func100, Try.ntmps100
 go_wp2
 go_loopw [8] (fun v wr => ∃ i : Nat, v = .int .i64 i ∧ i ≤ xss.length ∧ Aside0 (∀ j xs, j < i → xss[j]? = some xs → p xs = false) ∧ Below w.heap.size w wr) (fun v _ => xss.length - (intOf v).toNat)
 case atStart => exact ⟨0, rfl, Nat.zero_le _, ⟨fun j _ hj => absurd hj (Nat.not_lt_zero _)⟩, Below.refl _ _⟩
 case round =>
  obtain ⟨i, rfl, hi, HN, hb⟩ := hrel
  by_cases hlt : i < xss.length
  ·obtain ⟨xs, hxs⟩ : ∃ xs, xss[i]? = some xs := ⟨_, List.getElem?_eq_getElem hlt⟩
   obtain ⟨ad, u, rfl, hcell, hu⟩ := HR.out i xs hxs
   have hcell := pw_cell_below hb hcell
   have HU := Aside0.mk (hu.below hb)
   have HB := Aside0.mk hb
   have HX := Aside0.mk hxs
   have HDX := Aside0.mk (HD.out xs (List.mem_of_getElem? hxs))
   clear hxs hu hb
   cases hpy : p xs with
   | false =>
    go_wp2_with (first | (refine (HP.out _ _ _ HB.out HU.out HDX.out).mono ?_; rintro e w' ⟨rfl, hb2⟩))
    go_roundw
    case rel => exact ⟨i + 1, by go_num, by omega, ⟨fun j xs' hj hx => by
     rcases Nat.lt_succ_iff_lt_or_eq.1 hj with h | rfl
     ·exact HN.out j xs' h hx
     ·have := HX.out; rw [hx] at this; cases this; exact hpy⟩, HB.out.trans (hb2.mono HB.out.size)⟩
    case measure => simp [intOf]; omega
   | true =>
    go_wp2_with (first | (refine (HP.out _ _ _ HB.out HU.out HDX.out).mono ?_; rintro e w' ⟨rfl, hb2⟩))
    go_ret
    exact ⟨by rw [idxS_found HX.out HN.out hpy]; rfl, HB.out.trans (hb2.mono HB.out.size)⟩
  ·go_wp2
   go_ret
   exact ⟨by rw [idxS_none (fun j xs hj => HN.out j xs (by have := (List.getElem?_eq_some_iff.1 hj).1; omega) hj)]; rfl, hb⟩
theorem idxS_any {p : List Int → Bool} {xs : List (List Int)} : decide (0 ≤ idx p xs) = xs.any p := by
 unfold idx
 cases h : xs.any p with
 | true =>
  have : xs.findIdx p < xs.length := by rw [List.findIdx_lt_length]; simpa using h
  rw [if_pos this]; simp
 | false =>
  have : ¬ xs.findIdx p < xs.length := by rw [List.findIdx_lt_length]; simpa using h
  rw [if_neg this]; simp
set_option maxHeartbeats 1000000 in
theorem containsFuncS (v : Value) (xss : List (List Int)) (fv : Value) (p : List Int → Bool) (dom : List Int → Prop) (w : World) (hr : ReadS w v xss) (hp : PredS w fv p dom) (hd : ∀ xs ∈ xss, dom xs) :
  Calls Try.prog 75 #[v, fv] w fun e w' => e = .returned (.bool (xss.any p)) ∧ Below w.heap.size w w' := by
 have HR := Aside0.mk hr
 have HP := Aside0.mk hp
 have HD := Aside0.mk hd
 clear hp hd
 obtain ⟨A, c, rfl, -⟩ := id hr
 clear hr
 go_enter Try.func75, Try.ntmps75
 go_wp2_with (first | (go_at_call 100; refine (indexFuncS _ _ _ _ _ _ HR.out HP.out HD.out).mono ?_; rintro e w' ⟨rfl, hb2⟩))
 go_ret
 exact ⟨by simp [← idxS_any], hb2⟩
theorem areAllS1 (w : World) (b : Nat) (fv : Value) (p : List Int → Bool) (dom : List Int → Prop) (hc : w.cell? ⟨b, 0, none⟩ = some fv) (hp : PredS w fv p dom) :
  PredS w (.func (.func 76) #[] #[.pointer (some ⟨b, 0, none⟩)]) (fun x => !p x) dom := by
 refine ⟨_, _, _, rfl, Enters.mk' Try.func76 rfl rfl, fun w1 u xs hb hx hd => ?_⟩
 obtain ⟨g, first, caps, rfl, hent, hp⟩ := hp
 have hcell : w1.cell? ⟨b, 0, none⟩ = some (.func (.func g) first caps) := pw_cell_below hb hc
 have H := Aside0.mk (hp w1 u xs hb hx hd)
 unfold Enters at hent
 clear hp hb hx hc hd
 show Calls _ _ #[_, _] _ _
 go_enter Try.func76, Try.ntmps76
 go_wp2_with (first | (refine H.out.mono ?_; rintro e w' ⟨rfl, hb2⟩))
 go_ret
 exact ⟨by simp, hb2⟩
set_option maxHeartbeats 1000000 in
theorem areAllS (v : Value) (xss : List (List Int)) (fv : Value) (p : List Int → Bool) (dom : List Int → Prop) (w : World) (hr : ReadS w v xss) (hp : PredS w fv p dom) (hd : ∀ xs ∈ xss, dom xs) :
  Calls Try.prog 47 #[v, fv] w fun e w' => e = .returned (.bool (xss.all p)) ∧ Below w.heap.size w w' := by
 obtain ⟨g, first, caps, rfl, -⟩ := id hp
 have hba : Below w.heap.size w (w.alloc (.cells #[.func (.func g) first caps] 69)) := Below.alloc (Below.refl _ _) (Nat.le_refl _) _
 have HR := Aside0.mk (hr.below hba)
 have HP := Aside0.mk (areAllS1 (w.alloc (.cells #[.func (.func g) first caps] 69)) w.heap.size _ p dom (by simp) (hp.below hba))
 have HD := Aside0.mk hd
 have HB := Aside0.mk hba
 obtain ⟨A, c, rfl, -⟩ := id hr
 clear hr hp hba hd
 go_enter Try.func47, Try.ntmps47
 go_wp2_with (first | (go_at_call 75; refine (containsFuncS _ _ _ _ _ _ HR.out HP.out HD.out).mono ?_; rintro e w' ⟨rfl, hb2⟩))
 go_ret
 exact ⟨by simp [List.all_eq_not_any_not], HB.out.trans (hb2.mono HB.out.size)⟩
theorem all_false {l : List Int} {p : Int → Bool} {i : Nat} {y : Int} (hi : i < l.length) (hy : l.getD i 0 = y) (h : p y = false) : l.all p = false := by
 rw [List.all_eq_false]
 exact ⟨y, mem_at hi hy, by rw [h]; decide⟩
theorem all_true {l : List Int} {p : Int → Bool} (h : ∀ i, i < l.length → p (l.getD i 0) = true) : l.all p = true := by
 rw [List.all_eq_true]
 intro x hx
 obtain ⟨j, hj, rfl⟩ := List.getElem_of_mem hx
 have := h j hj
 simpa [List.getD_eq_getElem?_getD, hj] using this
set_option maxHeartbeats 4000000 in
theorem specIs (a : Int) (u : Value) (l : List Int) (w : World) (hr : ReadI w u l) :
  Calls Try.prog 28 #[cx a u] w fun e w' => e = .returned (.bool (cxOk a l)) ∧ Below w.heap.size w w' := by
 have hba : Below w.heap.size w (w.alloc (.cells #[.int .i64 a, u] 28)) := Below.alloc (Below.refl _ _) (Nat.le_refl _) _
 have HB := Aside0.mk hba
 have HR0 := Aside0.mk (hr.below hba)
 obtain ⟨A, c, rfl, hc, hr⟩ := id hr
 have HR := Aside0.mk (Kd.C_below hr hba)
 have hlen : l.length ≤ 9223372036854775807 := hr.2.1
 clear hr hba
 obtain ⟨w1, hw1⟩ : ∃ w1, w1 = w.alloc (Obj.cells #[.int .i64 a, Value.slice A l.length c] 28) := ⟨_, rfl⟩
 have hc0 : w1.cell? ⟨w.heap.size, 0, none⟩ = some (.int .i64 a) := by rw [hw1]; simp
 have hc1 : w1.cell? ⟨w.heap.size, 1, none⟩ = some (Value.slice A l.length c) := by rw [hw1]; simp
 rw [← hw1] at HB HR HR0
 by_cases ha : 1 ≤ a ∧ a ≤ 6
 ·obtain ⟨n, rfl⟩ : ∃ n : Nat, a = n := ⟨a.toNat, by omega⟩
  have hs : (decide ((1 : Int) ≤ n) && decide ((n : Int) ≤ 6)) = true := by simp; omega
  have hn : 1 ≤ n ∧ n ≤ 6 := by omega
  have HA : Aside0 (cxOk n l = (cxUp n l && l.all (belowIn l))) := ⟨by unfold cxOk; rw [hs]; rfl⟩
  obtain ⟨N, hN⟩ : ∃ N : Nat, N = 2 ^ n := ⟨_, rfl⟩
  have HN := Aside0.mk hN
  clear hN ha
  go_enter Try.func28, Try.ntmps28
  go_wp2_with (first | (rw [← hw1]; clear hw1; go_at_call 54; refine (specIn _ _ _ _).mono ?_; rintro e w2 ⟨rfl, hb⟩; rw [hs]; have hc0 := pw_cell_below hb hc0; have hc1 := pw_cell_below hb hc1; have HB2 := Aside0.mk hb; clear hb))
  go_loopw [3] (fun v wr => ∃ i : Nat, v = .int .i64 i ∧ i ≤ l.length ∧ Aside0 (∀ k, k < i → upAt n l k = true) ∧ Below w2.heap.size w2 wr) (fun v _ => l.length - (intOf v).toNat)
  case atStart => exact ⟨0, rfl, Nat.zero_le _, ⟨fun j hj => absurd hj (Nat.not_lt_zero _)⟩, Below.refl _ _⟩
  case round =>
   obtain ⟨i, rfl, hi, HU, hb⟩ := hrel
   have hc0r := pw_cell_below hb hc0
   have hc1r := pw_cell_below hb hc1
   have HBr := Aside0.mk (HB2.out.trans (hb.mono HB2.out.size))
   have HB3 := Aside0.mk hb
   clear hb hc0 hc1
   by_cases hlt : i < l.length
   ·obtain ⟨ad, y, rfl, hcell, HY⟩ := ReadI.get (Kd.C_below HR.out HBr.out) hlt
    have hx0 : ∀ x : Ext wr, x.1.cell? ⟨w.heap.size, 0, none⟩ = some (.int .i64 n) := fun x => Ext.cell hc0r x
    have hx1 : ∀ x : Ext wr, x.1.cell? ⟨w.heap.size, 1, none⟩ = some (Value.slice (some ad) l.length c) := fun x => Ext.cell hc1r x
    have hx2 : ∀ x : Ext wr, x.1.cell? (ad.add i) = some (.int .i64 y) := fun x => Ext.cell hcell x
    clear hcell
    have HSA : Aside0 (∀ w : World, Calls Try.prog 55 #[.int .i64 n] w fun e w' => e = .returned (.int .i64 ((N : Int) - 1)) ∧ Below w.heap.size w w') := ⟨fun w => by rw [HN.out]; exact specAll n hn.2 w⟩
    cases hwi : (decide ((1 : Int) ≤ y) && decide (y ≤ (N : Int) - 1)) with
    | false =>
     have HSI : Aside0 (∀ w : World, Calls Try.prog 54 #[.int .i64 y, .int .i64 1, .int .i64 ((N : Int) - 1)] w fun e w' => e = .returned (.bool false) ∧ Below w.heap.size w w') := ⟨fun w => by rw [← hwi]; exact specIn _ _ _ w⟩
     have HWI := Aside0.mk hwi
     clear hwi
     go_wp2
     refine wp_region_ext (by kernel_rfl) (by kernel_rfl) ?_
     repeat (go_big_quiet_step ((first | (go_at_call 55; exact Calls.ext_of (HSA.out _)) | (go_at_call 54; exact Calls.ext_of (HSI.out _)))))
     refine wpQuiet_nil ?_
     rintro _ ⟨x, rfl⟩
     have hbx := x.2
     go_wp2
     go_ret
     exact ⟨by rw [HA.out, up_false hlt (by unfold upAt; rw [HY.out, ← HN.out, HWI.out]; rfl)]; rfl, by have := HB.out; have := HBr.out; (repeat (first | (with_reducible exact Below.refl _ _) | (with_reducible assumption) | (with_reducible refine below_step ?_ (by assumption)) | (with_reducible apply below_alloc) | (with_reducible apply below_drewN)))⟩
    | true =>
     have HSI : Aside0 (∀ w : World, Calls Try.prog 54 #[.int .i64 y, .int .i64 1, .int .i64 ((N : Int) - 1)] w fun e w' => e = .returned (.bool true) ∧ Below w.heap.size w w') := ⟨fun w => by rw [← hwi]; exact specIn _ _ _ w⟩
     have HWI := Aside0.mk hwi
     clear hwi
     by_cases h0 : i = 0
     ·have h0' : decide (0 < i) = false := decide_eq_false (by omega)
      clear h0
      have h0'' : ¬ 0 < i := by simpa using h0'
      have H0 := Aside0.mk h0''
      clear h0''
      go_wp2
      refine wp_region_ext (by kernel_rfl) (by kernel_rfl) ?_
      repeat (go_big_quiet_step ((first | (go_at_call 55; exact Calls.ext_of (HSA.out _)) | (go_at_call 54; exact Calls.ext_of (HSI.out _)))))
      refine wpQuiet_nil ?_
      rintro _ ⟨x, rfl⟩
      have hbx := x.2
      go_wp2
      go_roundw
      case rel =>
       refine ⟨i + 1, by go_num, by omega, ⟨fun k hk => ?_⟩, by have := HB3.out; (repeat (first | (with_reducible exact Below.refl _ _) | (with_reducible assumption) | (with_reducible refine below_step ?_ (by assumption)) | (with_reducible apply below_alloc) | (with_reducible apply below_drewN)))⟩
       rcases Nat.lt_succ_iff_lt_or_eq.1 hk with h | rfl
       ·exact HU.out k h
       ·unfold upAt; rw [HY.out, ← HN.out, HWI.out, decide_eq_false H0.out]; rfl
      case measure => simp [intOf]; omega
     ·have h0' : decide (0 < i) = true := decide_eq_true (by omega)
      have h1i : (0 : Int) ≤ (i : Int) - 1 := by omega
      have h2i : (i : Int) - 1 < l.length := by omega
      have h3i : ((i : Int) - 1).toNat = i - 1 := by omega
      obtain ⟨ad', y', e2, hcell2, HY2⟩ := ReadI.get (Kd.C_below HR.out HBr.out) (i := i - 1) (by omega)
      cases e2
      have hx3 : ∀ x : Ext wr, x.1.cell? (ad.add (i - 1)) = some (.int .i64 y') := fun x => Ext.cell hcell2 x
      clear hcell2
      by_cases hle : y ≤ y'
      ·have HLE := Aside0.mk (decide_eq_true hle)
       go_wp2
       refine wp_region_ext (by kernel_rfl) (by kernel_rfl) ?_
       repeat (go_big_quiet_step ((first | (go_at_call 55; exact Calls.ext_of (HSA.out _)) | (go_at_call 54; exact Calls.ext_of (HSI.out _)))))
       refine wpQuiet_nil ?_
       rintro _ ⟨x, rfl⟩
       have hbx := x.2
       go_wp2
       go_ret
       exact ⟨by rw [HA.out, up_false hlt (by unfold upAt; rw [HY.out, HY2.out, ← HN.out, HWI.out, HLE.out, decide_eq_true (by omega)]; rfl)]; rfl, by have := HB.out; have := HBr.out; (repeat (first | (with_reducible exact Below.refl _ _) | (with_reducible assumption) | (with_reducible refine below_step ?_ (by assumption)) | (with_reducible apply below_alloc) | (with_reducible apply below_drewN)))⟩
      ·have HLE := Aside0.mk (decide_eq_false hle)
       go_wp2
       refine wp_region_ext (by kernel_rfl) (by kernel_rfl) ?_
       repeat (go_big_quiet_step ((first | (go_at_call 55; exact Calls.ext_of (HSA.out _)) | (go_at_call 54; exact Calls.ext_of (HSI.out _)))))
       refine wpQuiet_nil ?_
       rintro _ ⟨x, rfl⟩
       have hbx := x.2
       go_wp2
       go_roundw
       case rel =>
        refine ⟨i + 1, by go_num, by omega, ⟨fun k hk => ?_⟩, by have := HB3.out; (repeat (first | (with_reducible exact Below.refl _ _) | (with_reducible assumption) | (with_reducible refine below_step ?_ (by assumption)) | (with_reducible apply below_alloc) | (with_reducible apply below_drewN)))⟩
        rcases Nat.lt_succ_iff_lt_or_eq.1 hk with h | rfl
        ·exact HU.out k h
        ·unfold upAt; rw [HY.out, HY2.out, ← HN.out, HWI.out, HLE.out, Bool.and_false]; rfl
       case measure => simp [intOf]; omega
   ·have hu : cxUp n l = true := up_true (fun k hk => HU.out k (by omega))
    have HUU := Aside0.mk hu
    have HBD : Aside0 (∀ x ∈ l, 1 ≤ x ∧ x ≤ 63) := ⟨fun x hx => by have := cxUp_bd hu x hx; have := pw6 hn.2; omega⟩
    clear hu
    go_wp2
    go_loopw [4] (fun v wr2 => ∃ i : Nat, v = .int .i64 i ∧ i ≤ l.length ∧ Aside0 (∀ k, k < i → belowIn l (l.getD k 0) = true) ∧ Below wr.heap.size wr wr2) (fun v _ => l.length - (intOf v).toNat)
    case atStart => exact ⟨0, rfl, Nat.zero_le _, ⟨fun j hj => absurd hj (Nat.not_lt_zero _)⟩, Below.refl _ _⟩
    case round =>
     obtain ⟨i2, rfl, hi2, HI2, hb2⟩ := hrel
     have hc1s := pw_cell_below hb2 hc1r
     have hc0s := pw_cell_below hb2 hc0r
     have HBs := Aside0.mk (HBr.out.trans (hb2.mono HBr.out.size))
     have HBt := Aside0.mk hb2
     clear hb2
     by_cases hlt2 : i2 < l.length
     ·obtain ⟨ad, y, rfl, hcell, HY⟩ := ReadI.get (Kd.C_below HR.out HBs.out) hlt2
      have hyb := HBD.out y (mem_at hlt2 HY.out)
      obtain ⟨f, rfl⟩ : ∃ f : Nat, y = f := ⟨y.toNat, by omega⟩
      have hf : f ≤ 63 := by omega
      clear hyb
      go_wp2_with (first | (go_at_call 56; refine (specBelow f hf _).mono ?_; rintro e w3 ⟨v3, rfl, ho, hb⟩; obtain ⟨A3, c3, rfl, hc3, hr3⟩ := ho.read; have hc1u := pw_cell_below hb hc1s; have hc0u := pw_cell_below hb hc0s; have HR3 := Aside0.mk hr3; have HB3a := Aside0.mk hb; have hl3 : (below f).length ≤ 9223372036854775807 := hr3.2.1; clear ho hb hr3))
      go_loopw [6] (fun v wr3 => ∃ j : Nat, v = .int .i64 j ∧ j ≤ (below f).length ∧ Aside0 (∀ k, k < j → decide ((below f).getD k 0 ∈ l) = true) ∧ Below w3.heap.size w3 wr3) (fun v _ => (below f).length - (intOf v).toNat)
      case atStart => exact ⟨0, rfl, Nat.zero_le _, ⟨fun j hj => absurd hj (Nat.not_lt_zero _)⟩, Below.refl _ _⟩
      case round =>
       obtain ⟨j, rfl, hj, HJ, hb5⟩ := hrel
       have hc1v := pw_cell_below hb5 hc1u
       have hc0v := pw_cell_below hb5 hc0u
       have HBv := Aside0.mk (HB3a.out.trans (hb5.mono HB3a.out.size))
       have HBx := Aside0.mk (HBs.out.trans (HBv.out.mono HBs.out.size))
       have HBy := Aside0.mk hb5
       by_cases hlt3 : j < (below f).length
       ·obtain ⟨ad3, g, rfl, hcell3, HG⟩ := ReadI.get (Kd.C_below HR3.out hb5) hlt3
        clear hb5 hcell
        have hx0 : ∀ x : Ext wr, x.1.cell? ⟨w.heap.size, 0, none⟩ = some (.int .i64 n) := fun x => Ext.cell hc0v x
        have hx1 : ∀ x : Ext wr, x.1.cell? ⟨w.heap.size, 1, none⟩ = some (Value.slice (some ad) l.length c) := fun x => Ext.cell hc1v x
        have hx2 : ∀ x : Ext wr, x.1.cell? (ad3.add j) = some (.int .i64 g) := fun x => Ext.cell hcell3 x
        clear hcell3
        have hj1 : (0 : Int) ≤ (j : Int) := by omega
        have hj2 : (j : Int) < ((below f).length : Int) := by omega
        cases hg : decide (g ∈ l) with
        | false =>
         have HSH : Aside0 (∀ x : Ext wr, Calls Try.prog 57 #[cx n (.slice (some ad) l.length c), .int .i64 g] x.1 fun e w' => e = .returned (.bool false) ∧ Below x.1.heap.size x.1 w') := ⟨fun x => by rw [← hg]; exact specHas n _ l g x.1 (HR0.out.below (HBx.out.trans (x.2.mono HBx.out.size)))⟩
         have HGG := Aside0.mk hg
         clear hg
         go_wp2
         refine wp_region_ext (by kernel_rfl) (by kernel_rfl) ?_
         repeat (go_big_quiet_step ((first | (go_at_call 57; exact Calls.ext_of (HSH.out _)))))
         refine wpQuiet_nil ?_
         rintro _ ⟨x, rfl⟩
         have hbx := x.2
         go_wp2
         go_ret
         refine ⟨?_, by have := HB.out; have := HBx.out; (repeat (first | (with_reducible exact Below.refl _ _) | (with_reducible assumption) | (with_reducible refine below_step ?_ (by assumption)) | (with_reducible apply below_alloc) | (with_reducible apply below_drewN)))⟩
         have e1 : belowIn l (f : Int) = false := all_false hlt3 HG.out HGG.out
         rw [HA.out, HUU.out, all_false hlt2 HY.out e1]; rfl
        | true =>
         have HSH : Aside0 (∀ x : Ext wr, Calls Try.prog 57 #[cx n (.slice (some ad) l.length c), .int .i64 g] x.1 fun e w' => e = .returned (.bool true) ∧ Below x.1.heap.size x.1 w') := ⟨fun x => by rw [← hg]; exact specHas n _ l g x.1 (HR0.out.below (HBx.out.trans (x.2.mono HBx.out.size)))⟩
         have HGG := Aside0.mk hg
         clear hg
         go_wp2
         refine wp_region_ext (by kernel_rfl) (by kernel_rfl) ?_
         repeat (go_big_quiet_step ((first | (go_at_call 57; exact Calls.ext_of (HSH.out _)))))
         refine wpQuiet_nil ?_
         rintro _ ⟨x, rfl⟩
         have hbx := x.2
         go_wp2
         go_roundw
         case rel =>
          refine ⟨j + 1, by go_num, by omega, ⟨fun k hk => ?_⟩, by have := HBy.out; (repeat (first | (with_reducible exact Below.refl _ _) | (with_reducible assumption) | (with_reducible refine below_step ?_ (by assumption)) | (with_reducible apply below_alloc) | (with_reducible apply below_drewN)))⟩
          rcases Nat.lt_succ_iff_lt_or_eq.1 hk with h | rfl
          ·exact HJ.out k h
          ·rw [HG.out]; exact HGG.out
         case measure => simp [intOf]; omega
       ·clear hb5 hcell
        have HE : Aside0 (belowIn l (f : Int) = true) := ⟨all_true (l := below f) (fun k hk => HJ.out k (by omega))⟩
        go_wp2
        go_roundw
        case rel =>
         refine ⟨i2 + 1, by go_num, by omega, ⟨fun k hk => ?_⟩, by have := HBt.out; have := HBv.out; (repeat (first | (with_reducible exact Below.refl _ _) | (with_reducible assumption) | (with_reducible refine below_step ?_ (by assumption)) | (with_reducible apply below_alloc) | (with_reducible apply below_drewN)))⟩
         rcases Nat.lt_succ_iff_lt_or_eq.1 hk with h | rfl
         ·exact HI2.out k h
         ·rw [HY.out]; exact HE.out
        case measure => simp [intOf]; omega
     ·have HE : Aside0 (l.all (belowIn l) = true) := ⟨all_true (fun k hk => HI2.out k (by omega))⟩
      go_wp2
      go_ret
      exact ⟨by rw [HA.out, HUU.out, HE.out]; rfl, by have := HB.out; have := HBs.out; (repeat (first | (with_reducible exact Below.refl _ _) | (with_reducible assumption) | (with_reducible refine below_step ?_ (by assumption)) | (with_reducible apply below_alloc) | (with_reducible apply below_drewN)))⟩
 ·have hs : (decide ((1 : Int) ≤ a) && decide (a ≤ 6)) = false := by simp; omega
  have HA : Aside0 (cxOk a l = false) := ⟨by unfold cxOk; rw [hs]; rfl⟩
  clear ha
  go_enter Try.func28, Try.ntmps28
  go_wp2_with (first | (rw [← hw1]; clear hw1; go_at_call 54; refine (specIn _ _ _ _).mono ?_; rintro e w2 ⟨rfl, hb⟩; rw [hs]))
  go_ret
  exact ⟨by rw [HA.out]; rfl, by have := HB.out; (repeat (first | (with_reducible exact Below.refl _ _) | (with_reducible assumption) | (with_reducible refine below_step ?_ (by assumption)) | (with_reducible apply below_alloc) | (with_reducible apply below_drewN)))⟩
/-- a function value of nothing that answers b -/
def ThunkB (w : World) (fv : Value) (b : Bool) : Prop :=
 ∃ g first caps, fv = .func (.func g) first caps ∧ Enters g ∧ ∀ w1, Below w.heap.size w w1 → Calls Try.prog g (first ++ #[] ++ caps) w1 fun e w2 => e = .returned (.bool b) ∧ Below w1.heap.size w1 w2
theorem ThunkB.below {w w' : World} {fv : Value} {b : Bool} (h : ThunkB w fv b) (hb : Below w.heap.size w w') : ThunkB w' fv b := by
 obtain ⟨g, first, caps, rfl, hent, hp⟩ := h
 exact ⟨g, first, caps, rfl, hent, fun w1 h1 => hp w1 (hb.trans (h1.mono hb.size))⟩
/-- a value of a function -/
def isVal (v : Int) : Bool := decide (-1000 ≤ v) && decide (v ≤ 1000)
/-- a function of so many faces -/
def isFun (k : Nat) (f : List Int) : Bool := decide (f.length = k) && f.all isVal
/-- the code for functions -/
def codeFun (a : Int) (xs : List Int) (r : Bool) (fs : List (List Int)) : Int := if cxOk a xs then (if r && fs.all (isFun xs.length) then 0 else 2) else 1
theorem isValue (v : Int) (w : World) : Calls Try.prog 78 #[.int .i64 v] w fun e w' => e = .returned (.bool (isVal v)) ∧ Below w.heap.size w w' := by
 have HX : Aside0 (isVal v = (decide (-1000 ≤ v) && decide (v ≤ 1000))) := ⟨rfl⟩
 go_enter Try.func78, Try.ntmps78
 go_wp2_with (first | (go_at_call 90; refine (within _ _ _ _).mono ?_; rintro e w2 ⟨rfl, hb⟩; rw [← HX.out]))
 go_ret
 exact ⟨rfl, hb⟩
theorem isValueP (w : World) : PredI w (.func (.func 78) #[] #[]) isVal (fun _ => True) :=
 ⟨_, _, _, rfl, Enters.mk' Try.func78 rfl rfl, fun w1 x _ _ => isValue x w1⟩
set_option maxHeartbeats 1000000 in
theorem isFunction (a : Int) (ku : Value) (xs : List Int) (v : Value) (f : List Int) (w : World) (hk : ReadI w ku xs) (hv : ReadI w v f) :
  Calls Try.prog 48 #[cx a ku, v] w fun e w' => e = .returned (.bool (isFun xs.length f)) ∧ Below w.heap.size w w' := by
 obtain ⟨w1, hw1⟩ : ∃ w1, w1 = w.alloc (.cells #[.int .i64 a, ku] 28) := ⟨_, rfl⟩
 have hB : Below w.heap.size w w1 := by rw [hw1]; exact Below.alloc (Below.refl _ _) (Nat.le_refl _) _
 have c0 : w1.cell? ⟨w.heap.size, 0, none⟩ = some (.int .i64 a) := by rw [hw1]; simp
 have c1 : w1.cell? ⟨w.heap.size, 1, none⟩ = some ku := by rw [hw1]; simp
 have HV := Aside0.mk (hv.below hB)
 have HB := Aside0.mk hB
 have HP := Aside0.mk (isValueP w1)
 obtain ⟨A1, d1, rfl, -⟩ := id hk
 obtain ⟨A2, d2, rfl, -⟩ := id hv
 have l1 := hk.len
 have l2 := hv.len
 clear hk hv hB
 by_cases hl : f.length = xs.length
 ·have hlb : ((f.length : Int) == (xs.length : Int)) = true := by rw [beq_iff_eq]; omega
  have HA : Aside0 (isFun xs.length f = f.all isVal) := ⟨by unfold isFun; rw [decide_eq_true hl, Bool.true_and]⟩
  clear hl
  go_enter Try.func48, Try.ntmps48
  go_wp2_with (first | (rw [← hw1]; clear hw1; go_at_call 77; refine (areAll _ _ _ isVal (fun _ => True) _ HV.out HP.out (fun _ _ => trivial)).mono ?_; rintro e w2 ⟨rfl, hb⟩; rw [← HA.out]))
  go_ret
  exact ⟨rfl, HB.out.trans (hb.mono HB.out.size)⟩
 ·have hlb : ((f.length : Int) == (xs.length : Int)) = false := by rw [beq_eq_false_iff_ne]; omega
  have HA : Aside0 (isFun xs.length f = false) := ⟨by unfold isFun; rw [decide_eq_false hl, Bool.false_and]⟩
  clear hl
  go_enter Try.func48, Try.ntmps48
  go_wp2
  rw [← hw1]
  go_ret
  exact ⟨by rw [HA.out]; rfl, HB.out⟩
theorem isFunctionP (a : Int) (ku : Value) (xs : List Int) (w : World) (hk : ReadI w ku xs) : PredS w (.func (.func 48) #[cx a ku] #[]) (isFun xs.length) (fun _ => True) :=
 ⟨_, _, _, rfl, Enters.mk' Try.func48 rfl rfl, fun w1 u f hb hu _ => isFunction a ku xs u f w1 (hk.below hb) hu⟩
set_option maxHeartbeats 1000000 in
theorem functionCode1 (w : World) (br bl bk : Nat) (r : Bool) (lv : Value) (fs : List (List Int)) (a : Int) (ku : Value) (xs : List Int) (hl : ReadS w lv fs) (hk : ReadI w ku xs) (h0 : w.cell? ⟨br, 0, none⟩ = some (.bool r)) (h1 : w.cell? ⟨bl, 0, none⟩ = some lv) (h2 : w.cell? ⟨bk, 0, none⟩ = some (.int .i64 a)) (h3 : w.cell? ⟨bk, 1, none⟩ = some ku) :
  ThunkB w (.func (.func 46) #[] #[.pointer (some ⟨br, 0, none⟩), .pointer (some ⟨bl, 0, none⟩), .pointer (some ⟨bk, 0, none⟩)]) (r && fs.all (isFun xs.length)) := by
 refine ⟨_, _, _, rfl, Enters.mk' Try.func46 rfl rfl, fun w1 hb => ?_⟩
 have c0 := pw_cell_below hb h0
 have c1 := pw_cell_below hb h1
 have c2 := pw_cell_below hb h2
 have c3 := pw_cell_below hb h3
 have HL := Aside0.mk (hl.below hb)
 have HP := Aside0.mk (isFunctionP a ku xs w1 (hk.below hb))
 obtain ⟨A1, d1, rfl, -⟩ := id hk
 obtain ⟨A2, d2, rfl, -⟩ := id hl
 clear hb h0 h1 h2 h3 hl hk
 show Calls _ _ #[_, _, _] _ _
 cases r with
 | false =>
  go_enter Try.func46, Try.ntmps46
  go_wp2
  go_ret
  exact ⟨rfl, Below.refl _ _⟩
 | true =>
  go_enter Try.func46, Try.ntmps46
  go_wp2_with (first | (go_at_call 47; refine (areAllS _ _ _ _ _ _ HL.out HP.out (fun _ _ => trivial)).mono ?_; rintro e w4 ⟨rfl, hb4⟩))
  go_ret
  exact ⟨rfl, hb4⟩
set_option maxHeartbeats 2000000 in
theorem complexCode (a : Int) (ku : Value) (xs : List Int) (fv : Value) (r : Bool) (w : World) (hk : ReadI w ku xs) (hf : ThunkB w fv r) :
  Calls Try.prog 33 #[cx a ku, fv] w fun e w' => e = .returned (.int .i64 (if cxOk a xs then (if r then 0 else 2) else 1)) ∧ Below w.heap.size w w' := by
 obtain ⟨w1, hw1⟩ : ∃ w1, w1 = w.alloc (.cells #[.int .i64 a, ku] 28) := ⟨_, rfl⟩
 have hB : Below w.heap.size w w1 := by rw [hw1]; exact Below.alloc (Below.refl _ _) (Nat.le_refl _) _
 have c0 : w1.cell? ⟨w.heap.size, 0, none⟩ = some (.int .i64 a) := by rw [hw1]; simp
 have c1 : w1.cell? ⟨w.heap.size, 1, none⟩ = some ku := by rw [hw1]; simp
 have HK := Aside0.mk (hk.below hB)
 have HB := Aside0.mk hB
 obtain ⟨g, first, caps, rfl, hent, hp⟩ := hf.below hB
 have HP := Aside0.mk hp
 obtain ⟨A1, d1, rfl, -⟩ := id hk
 clear hk hf hp hB
 unfold Enters at hent
 cases h1 : cxOk a xs with
 | false =>
  go_enter Try.func33, Try.ntmps33
  go_wp2_with (first | (rw [← hw1]; clear hw1; go_at_call 64; refine (isComplex _ _ xs _ HK.out).mono ?_; rintro e w2 ⟨rfl, hb⟩; rw [h1]))
  go_ret
  exact ⟨rfl, HB.out.trans (hb.mono HB.out.size)⟩
 | true =>
  cases r with
  | false =>
   go_enter Try.func33, Try.ntmps33
   go_wp2_with (first | (rw [← hw1]; clear hw1; go_at_call 64; refine (isComplex _ _ xs _ HK.out).mono ?_; rintro e w2 ⟨rfl, hb⟩; rw [h1]; have HB2 := Aside0.mk hb; clear hb) | (refine (HP.out _ HB2.out).mono ?_; rintro e w3 ⟨rfl, hb⟩))
   go_ret
   exact ⟨rfl, HB.out.trans ((HB2.out.trans (hb.mono HB2.out.size)).mono HB.out.size)⟩
  | true =>
   go_enter Try.func33, Try.ntmps33
   go_wp2_with (first | (rw [← hw1]; clear hw1; go_at_call 64; refine (isComplex _ _ xs _ HK.out).mono ?_; rintro e w2 ⟨rfl, hb⟩; rw [h1]; have HB2 := Aside0.mk hb; clear hb) | (refine (HP.out _ HB2.out).mono ?_; rintro e w3 ⟨rfl, hb⟩))
   go_ret
   exact ⟨rfl, HB.out.trans ((HB2.out.trans (hb.mono HB2.out.size)).mono HB.out.size)⟩
set_option maxRecDepth 100000 in
set_option maxHeartbeats 1000000 in
theorem functionCode (a : Int) (ku : Value) (xs : List Int) (r : Bool) (lv : Value) (fs : List (List Int)) (w : World) (hk : ReadI w ku xs) (hl : ReadS w lv fs) :
  Calls Try.prog 22 #[cx a ku, .bool r, lv] w fun e w' => e = .returned (.int .i64 (codeFun a xs r fs)) ∧ Below w.heap.size w w' := by
 obtain ⟨w0, hw0⟩ : ∃ w0, w0 = (w.alloc (.cells #[.int .i64 a, ku] 28)).alloc (.cells #[.bool r] 4) := ⟨_, rfl⟩
 obtain ⟨w1, hw1⟩ : ∃ w1, w1 = w0.alloc (.cells #[lv] 51) := ⟨_, rfl⟩
 have hs0 : w0.heap.size = w.heap.size + 1 + 1 := by rw [hw0]; simp
 have hB0 : Below w.heap.size w w0 := by rw [hw0]; exact ((Below.refl _ w).alloc (Nat.le_refl _) _).alloc (by simp) _
 have hB1 : Below w0.heap.size w0 w1 := by rw [hw1]; exact Below.alloc (Below.refl _ _) (Nat.le_refl _) _
 have hB : Below w.heap.size w w1 := hB0.trans (hB1.mono hB0.size)
 have c0 : w1.cell? ⟨w.heap.size, 0, none⟩ = some (.int .i64 a) := pw_cell_below hB1 (by rw [hw0]; simp)
 have c1 : w1.cell? ⟨w.heap.size, 1, none⟩ = some ku := pw_cell_below hB1 (by rw [hw0]; simp)
 have c2 : w1.cell? ⟨w.heap.size + 1, 0, none⟩ = some (.bool r) := pw_cell_below hB1 (by rw [hw0]; simp)
 have c3 : w1.cell? ⟨w.heap.size + 1 + 1, 0, none⟩ = some lv := by rw [hw1, ← hs0]; simp
 have c0a : w0.cell? ⟨w.heap.size, 0, none⟩ = some (.int .i64 a) := by rw [hw0]; simp
 have c1a : w0.cell? ⟨w.heap.size, 1, none⟩ = some ku := by rw [hw0]; simp
 have HK := Aside0.mk (hk.below hB)
 have HT := Aside0.mk (functionCode1 w1 (w.heap.size + 1) (w.heap.size + 1 + 1) w.heap.size r lv fs a ku xs (hl.below hB) (hk.below hB) c2 c3 c0 c1)
 have HB := Aside0.mk hB
 have HX : Aside0 (codeFun a xs r fs = (if cxOk a xs then (if r && fs.all (isFun xs.length) then 0 else 2) else 1)) := ⟨rfl⟩
 obtain ⟨A1, d1, rfl, -⟩ := id hk
 obtain ⟨A2, d2, rfl, -⟩ := id hl
 clear hk hl hB hB0 hB1 hs0
 subst hw0
 go_enter Try.func22, Try.ntmps22
 go_wp2_with (first | (rw [← hw1]; clear hw1 c0a c1a; go_at_call 33; refine (complexCode a _ xs _ _ _ HK.out HT.out).mono ?_; rintro e w2 ⟨rfl, hb⟩; rw [← HX.out]))
 go_ret
 exact ⟨rfl, HB.out.trans (hb.mono HB.out.size)⟩
set_option maxHeartbeats 1000000 in
theorem madeBy11 (w : World) (bg : Nat) (g : Nat) (hg : g < 64) (h0 : w.cell? ⟨bg, 0, none⟩ = some (.int .i64 g)) :
  PredI w (.func (.func 85) #[] #[.pointer (some ⟨bg, 0, none⟩)]) (fun s => decide (g &&& s.toNat = g)) (fun s => ∃ z : Nat, s = z ∧ z < 64) := by
 refine ⟨_, _, _, rfl, Enters.mk' Try.func85 rfl rfl, fun w1 x hb hx => ?_⟩
 obtain ⟨z, rfl, hz⟩ := hx
 have c0 := pw_cell_below hb h0
 clear hb h0
 simp only [Int.toNat_natCast]
 show Calls _ _ #[_, _] _ _
 go_enter Try.func85, Try.ntmps85
 go_wp2_with (first | (go_at_call 86; refine (isInC g z hg hz _).mono ?_; rintro e w2 ⟨rfl, hb⟩))
 go_ret
 exact ⟨rfl, hb⟩
set_option maxRecDepth 100000 in
set_option maxHeartbeats 1000000 in
theorem madeBy1 (w : World) (bs : Nat) (m : Nat) (hm : m ≤ 6) (u : Value) (ss : List Int) (hu : ReadI w u ss) (hs : ∀ s ∈ ss, ∃ z : Nat, s = z ∧ z < 64) (h0 : w.cell? ⟨bs, 0, none⟩ = some u) :
  PredI w (.func (.func 83) #[] #[.pointer (some ⟨bs, 0, none⟩)]) (madeAt ss) (fun g => 1 ≤ g ∧ g < ((2 ^ m : Nat) : Int)) := by
 refine ⟨_, _, _, rfl, Enters.mk' Try.func83 rfl rfl, fun w1 x hb hx => ?_⟩
 obtain ⟨g, rfl⟩ : ∃ g : Nat, x = g := ⟨x.toNat, by omega⟩
 have hg : g < 64 := by have := pw6 hm; omega
 obtain ⟨w2, hw2⟩ : ∃ w2, w2 = w1.alloc (.cells #[.int .i64 g] 2) := ⟨_, rfl⟩
 have hb2 : Below w1.heap.size w1 w2 := by rw [hw2]; exact Below.alloc (Below.refl _ _) (Nat.le_refl _) _
 have hb02 := hb.trans (hb2.mono hb.size)
 have c0 := pw_cell_below hb h0
 have c3 : w2.cell? ⟨w1.heap.size, 0, none⟩ = some (.int .i64 g) := by rw [hw2]; simp
 have HP := Aside0.mk (madeBy11 w2 w1.heap.size g hg c3)
 have HU := Aside0.mk (hu.below hb02)
 have HS := Aside0.mk hs
 have HB2 := Aside0.mk hb2
 have HI : Aside0 (madeAt ss g = ss.any (fun s => decide (g &&& s.toNat = g))) := ⟨rfl⟩
 have c0b : (w1.alloc (.cells #[.int .i64 g] 2)).cell? ⟨bs, 0, none⟩ = some u := by rw [← hw2]; exact pw_cell_below hb2 c0
 obtain ⟨A1, d1, rfl, -⟩ := id hu
 clear hb h0 hu hx hb2 hb02 c3 hs
 show Calls _ _ #[_, _] _ _
 go_enter Try.func83, Try.ntmps83
 go_wp2_with (first | (go_at_call 84; rw [← hw2]; clear hw2 c0b; refine (containsFunc _ ss _ _ _ _ HU.out HP.out HS.out).mono ?_; rintro e w3 ⟨rfl, hb3⟩; rw [← HI.out]))
 go_ret
 exact ⟨rfl, HB2.out.trans (hb3.mono HB2.out.size)⟩
set_option maxRecDepth 100000 in
set_option maxHeartbeats 1000000 in
theorem madeBy (n : Nat) (hn : n ≤ 6) (v : Value) (ss : List Int) (w : World) (hv : ReadI w v ss) (hs : ∀ s ∈ ss, ∃ z : Nat, s = z ∧ z < 64) :
  Calls Try.prog 52 #[.int .i64 n, v] w fun e w' => ∃ u, e = .returned (.agg #[.int .i64 n, u]) ∧ OwnI w.heap.size w' u (thL (madeAt ss) (2 ^ n)) ∧ Below w.heap.size w w' := by
 obtain ⟨wa, hwa⟩ : ∃ wa, wa = w.alloc (.cells #[v] 22) := ⟨_, rfl⟩
 obtain ⟨w0, hw0⟩ : ∃ w0, w0 = wa.alloc (.cells #[.int .i64 0, .slice none 0 0] 28) := ⟨_, rfl⟩
 have hsa : wa.heap.size = w.heap.size + 1 := by rw [hwa]; simp
 have hBa : Below w.heap.size w wa := by rw [hwa]; exact Below.alloc (Below.refl _ _) (Nat.le_refl _) _
 have hB0 : Below wa.heap.size wa w0 := by rw [hw0]; exact Below.alloc (Below.refl _ _) (Nat.le_refl _) _
 have hs0 : w0.heap.size = w.heap.size + 1 + 1 := by rw [hw0]; simp [hsa]
 have hB : Below w.heap.size w w0 := hBa.trans (hB0.mono hBa.size)
 have c0 : w0.cell? ⟨w.heap.size, 0, none⟩ = some v := pw_cell_below hB0 (by rw [hwa]; simp)
 have hb : w0.heap[w.heap.size + 1]? = some (.cells #[.int .i64 0, .slice none 0 0] 28) := by rw [hw0, ← hsa]; exact blk_new _ _
 have HP := Aside0.mk (madeBy1 w0 w.heap.size n hn v ss (hv.below hB) hs c0)
 have HB := Aside0.mk hB
 have HK := Aside0.mk hb
 have HS := Aside0.mk hs0
 obtain ⟨A1, d1, rfl, -⟩ := id hv
 clear hv hs hB hBa hB0 hsa hs0 hb
 subst hwa
 go_enter Try.func52, Try.ntmps52
 go_wp2_with (first | (go_at_call 82; rw [← hw0]; clear hw0; refine (those n hn _ _ _ HP.out).mono ?_; rintro e w2 ⟨u, rfl, ho, hb2⟩; obtain ⟨A2, d2, rfl, -⟩ := ho.read; have HO := Aside0.mk ho; have HB2 := Aside0.mk hb2; have HK2 := Aside0.mk (blk_below HK.out hb2); have c60 : w2.cell? ⟨w.heap.size + 1, 0, none⟩ = some (.int .i64 0) := blk_cell HK2.out 0; have c61 : w2.cell? ⟨w.heap.size + 1, 1, none⟩ = some (.slice none 0 0) := blk_cell HK2.out 1; have f60 : w2.frozen? ⟨w.heap.size + 1, 0, none⟩ = false := blk_frozen HK2.out 0; have f61 : w2.frozen? ⟨w.heap.size + 1, 1, none⟩ = false := blk_frozen HK2.out 1; clear ho hb2))
 refine bodyPost_ret (results_cell_row rfl _ _ (w.heap.size + 1) 28 #[.int .i64 n, .slice A2 (thL (madeAt ss) (2 ^ n)).length d2] (0, 0) _ rfl (by refine blk_put (cs := #[.int .i64 n, .slice none 0 0]) ?_ 1 _ rfl; refine blk_put (cs := #[.int .i64 0, .slice none 0 0]) ?_ 0 _ rfl; exact HK2.out) Try.underlying28 rfl (by kernel_rfl)) rfl ?_
 have hb := HB.out.trans (HB2.out.mono HB.out.size)
 refine ⟨_, rfl, ?_, (hb.setCell (by simp) _).setCell (by simp) _⟩
 have hs := HS.out
 have hbs := HO.out.base
 have ho := HO.out.lower (b' := w.heap.size) (by omega)
 exact (ho.grown (set_grown' _ (w.heap.size + 1) _ _) (fun j hj e => by have := hbs _ hj; cases e; omega)).grown (set_grown' _ (w.heap.size + 1) _ _) (fun j hj e => by have := hbs _ hj; cases e; omega)
set_option maxRecDepth 100000 in
theorem below_step : ∀ x, x < 64 → ∀ y, y < 64 → (y == 0 || y == x || y &&& x != y || (below x).any fun g => decide (0 ≤ g) && decide (g.toNat < x) && (y &&& g.toNat == y)) = true := by decide +kernel
/-- a complex holds each part of its faces -/
theorem sub_in {n : Nat} {xs : List Int} (hc : Cx n xs) (hb : xs.all (belowIn xs) = true) {y : Nat} (hy : y ≠ 0) : ∀ x : Nat, (x : Int) ∈ xs → y &&& x = y → (y : Int) ∈ xs := by
 intro x
 induction x using Nat.strongRecOn with
 | _ x ih =>
  intro hx hyx
  by_cases he : y = x
  ·subst he; exact hx
  ·have hx64 : x < 64 := by have := hc.bd _ hx; have := pw6 hc.hi; omega
   have hy64 : y < 64 := by
    have : y &&& x ≤ x := Nat.and_le_right
    omega
   have h1 := below_step x hx64 y hy64
   have h2 : (y == 0 || y == x || y &&& x != y) = false := by simp [hy, he, hyx]
   rw [h2, Bool.false_or, List.any_eq_true] at h1
   obtain ⟨g, hg, h3⟩ := h1
   simp only [Bool.and_eq_true, decide_eq_true_eq, beq_iff_eq] at h3
   have h4 := List.all_eq_true.1 hb x hx
   unfold belowIn at h4
   rw [Int.toNat_natCast] at h4
   have h5 := List.all_eq_true.1 h4 g hg
   rw [decide_eq_true_eq] at h5
   have hgg : ((g.toNat : Nat) : Int) = g := by omega
   exact ih g.toNat h3.1.2 (by rw [hgg]; exact h5) h3.2
theorem thL_congr {p p' : Int → Bool} {k : Nat} (h : ∀ q : Nat, 1 ≤ q → q < k → p q = p' q) : thL p k = thL p' k := by
 refine asc_ext (thL_asc _ _) (thL_asc _ _) (fun x => ?_)
 rw [thL_mem, thL_mem]
 constructor
 ·rintro ⟨q, rfl, h1, h2, h3⟩; exact ⟨q, rfl, h1, h2, by rw [← h q h1 h2]; exact h3⟩
 ·rintro ⟨q, rfl, h1, h2, h3⟩; exact ⟨q, rfl, h1, h2, by rw [h q h1 h2]; exact h3⟩
/-- the faces with numbers at most c, out of the first k -/
def levTo (xs f : List Int) (c : Int) (k : Nat) : List Int := (List.range k).filterMap fun j => if f.getD j 0 ≤ c then some (xs.getD j 0) else none
theorem levTo_hit {xs f : List Int} {c y z : Int} {k : Nat} (hy : xs.getD k 0 = y) (hz : f.getD k 0 = z) (h : z ≤ c) : levTo xs f c (k + 1) = levTo xs f c k ++ [y] := by
 unfold levTo
 rw [List.range_succ, List.filterMap_append]
 subst hz hy
 simp only [List.filterMap_cons, List.filterMap_nil]
 rw [if_pos h]
theorem levTo_miss {xs f : List Int} {c z : Int} {k : Nat} (hz : f.getD k 0 = z) (h : ¬ z ≤ c) : levTo xs f c (k + 1) = levTo xs f c k := by
 unfold levTo
 rw [List.range_succ, List.filterMap_append]
 subst hz
 simp only [List.filterMap_cons, List.filterMap_nil]
 rw [if_neg h, List.append_nil]
theorem levTo_mem {xs f : List Int} {c : Int} {k : Nat} (hk : k ≤ xs.length) : ∀ x ∈ levTo xs f c k, x ∈ xs := by
 intro x hx
 unfold levTo at hx
 obtain ⟨j, hj, h⟩ := List.mem_filterMap.1 hx
 rw [List.mem_range] at hj
 split at h
 ·cases h
  exact mem_at (by omega) rfl
 ·cases h
theorem levTo_len (xs f : List Int) (c : Int) (k : Nat) : (levTo xs f c k).length ≤ k := by
 unfold levTo
 exact Nat.le_trans (List.length_filterMap_le _ _) (by simp)
theorem codeFun_zero {a : Int} {xs f : List Int} {r : Bool} (h : codeFun a xs r [f] = 0) : ∃ n : Nat, a = n ∧ Cx n xs ∧ xs.all (belowIn xs) = true ∧ f.length = xs.length ∧ r = true := by
 unfold codeFun at h
 split at h
 ·next h1 =>
  obtain ⟨n, rfl, hn, hb⟩ := cxOk_cx h1
  split at h
  ·next h2 =>
   simp only [List.all_cons, List.all_nil, Bool.and_true, Bool.and_eq_true, isFun, decide_eq_true_eq] at h2
   exact ⟨n, rfl, hn, hb, h2.2.1, h2.1⟩
  ·cases h
 ·cases h
theorem lev_law {n : Nat} {xs ss : List Int} (hc : Cx n xs) (hb : xs.all (belowIn xs) = true) (hs : ∀ s ∈ ss, s ∈ xs) : thL (madeAt ss) (2 ^ n) = xs.filter (madeAt ss) := by
 rw [← thL_filter hc]
 refine thL_congr (fun q h1 _ => ?_)
 cases hm : madeAt ss q with
 | false => rw [Bool.and_false]
 | true =>
  rw [Bool.and_true]
  symm
  rw [decide_eq_true_eq]
  unfold madeAt at hm
  rw [List.any_eq_true] at hm
  obtain ⟨s, hsm, h⟩ := hm
  rw [decide_eq_true_eq, Int.toNat_natCast] at h
  obtain ⟨z, rfl, -, -⟩ := hc.nat (hs s hsm)
  rw [Int.toNat_natCast] at h
  exact sub_in hc hb (by omega) z (hs _ hsm) h
set_option maxRecDepth 100000 in
set_option maxHeartbeats 2000000 in
theorem level (n : Nat) (ku : Value) (xs : List Int) (v : Value) (f : List Int) (c : Int) (w : World) (hk : ReadI w ku xs) (hv : ReadI w v f) (hc : Cx n xs) (hl : f.length = xs.length) :
  Calls Try.prog 26 #[cx n ku, v, .int .i64 c] w fun e w' => ∃ u, e = .returned (.agg #[.int .i64 n, u]) ∧ OwnI w.heap.size w' u (thL (madeAt (levTo xs f c xs.length)) (2 ^ n)) ∧ Below w.heap.size w w' := by
 obtain ⟨wa, hwa⟩ : ∃ wa, wa = w.alloc (.cells #[.int .i64 n, ku] 28) := ⟨_, rfl⟩
 obtain ⟨w1, hw1⟩ : ∃ w1, w1 = wa.alloc (.cells #[.int .i64 0, .slice none 0 0] 28) := ⟨_, rfl⟩
 have hsa : wa.heap.size = w.heap.size + 1 := by rw [hwa]; simp
 have hs1 : w1.heap.size = w.heap.size + 1 + 1 := by rw [hw1]; simp [hsa]
 have hBa : Below w.heap.size w wa := by rw [hwa]; exact Below.alloc (Below.refl _ _) (Nat.le_refl _) _
 have hB1 : Below wa.heap.size wa w1 := by rw [hw1]; exact Below.alloc (Below.refl _ _) (Nat.le_refl _) _
 have hB : Below w.heap.size w w1 := hBa.trans (hB1.mono hBa.size)
 have c0 : w1.cell? ⟨w.heap.size, 0, none⟩ = some (.int .i64 n) := pw_cell_below hB1 (by rw [hwa]; simp)
 have c1 : w1.cell? ⟨w.heap.size, 1, none⟩ = some ku := pw_cell_below hB1 (by rw [hwa]; simp)
 have hk1 : w1.heap[w.heap.size + 1]? = some (.cells #[.int .i64 0, .slice none 0 0] 28) := by rw [hw1, ← hsa]; exact blk_new _ _
 have HBK := Aside0.mk hk1
 have HB := Aside0.mk hB
 have hsz := Aside0.mk hs1
 have HN := Aside0.mk hc
 have hl63 := hc.len
 have hlf := Aside0.mk hl
 obtain ⟨A1, d1, rfl, hcc, hr⟩ := hk.below hB
 obtain ⟨A2, d2, rfl, hcv, hrv⟩ := hv.below hB
 have HR := Aside0.mk hr
 have HRV := Aside0.mk hrv
 clear hk hv hB hBa hB1 hk1 hr hrv hs1 hsa hcc hcv hl hc
 subst hwa
 go_enter Try.func26, Try.ntmps26
 go_wp2
 rw [← hw1]
 clear hw1
 go_loopw [7, 13] (fun s7 s13 wr => ∃ i : Nat, s13 = .int .i64 i ∧ i ≤ xs.length ∧ Aside0 (OwnI w1.heap.size wr s7 (levTo xs f c i)) ∧ Aside0 (Below w1.heap.size w1 wr)) (fun _ s13 _ => xs.length - (intOf s13).toNat)
 case atStart => exact ⟨0, rfl, Nat.zero_le _, ⟨OwnI.nil _ _⟩, ⟨Below.refl _ _⟩⟩
 case round =>
  obtain ⟨i, rfl, hi, HO, HBw⟩ := hrel
  have c0 := pw_cell_below HBw.out c0
  have c1 := pw_cell_below HBw.out c1
  have hll := levTo_len xs f c i
  by_cases hlt : i < xs.length
  ·obtain ⟨ad, y, rfl, hcell, HY⟩ := ReadI.get (Kd.C_below HR.out HBw.out) hlt
   have hlt2 : i < f.length := by rw [hlf.out]; exact hlt
   obtain ⟨ad2, z, rfl, hcell2, HZ⟩ := ReadI.get (Kd.C_below HRV.out HBw.out) hlt2
   by_cases hzc : z ≤ c
   ·have HT := Aside0.mk (levTo_hit HY.out HZ.out hzc)
    go_wp2_with (first | (at_builtin; refine app_own (w0 := w1) w1.heap.size rfl (.tmp 24) (.tmp 26) rfl _ (levTo xs f c i) y rfl rfl HO.out HBw.out HBw.out.size ?hl ?_; (case hl => omega); intro v1 w6 ho hb hg hat; have HO1 := Aside0.mk ho; have HB1 := Aside0.mk hb; clear ho hb hg hat))
    go_roundw
    case rel => exact ⟨i + 1, by go_num, by omega, ⟨by rw [HT.out]; exact HO1.out⟩, HB1⟩
    case measure => simp [intOf]; omega
   ·have HT := Aside0.mk (levTo_miss (xs := xs) HZ.out hzc)
    go_wp2
    go_roundw
    case rel => exact ⟨i + 1, by go_num, by omega, ⟨by rw [HT.out]; exact HO.out⟩, HBw⟩
    case measure => simp [intOf]; omega
  ·have e : i = xs.length := by omega
   obtain ⟨Av, cv, rfl, -⟩ := HO.out.read
   have HRD : Aside0 (ReadI wr (.slice Av (levTo xs f c i).length cv) (levTo xs f c xs.length)) := ⟨by rw [← e]; exact HO.out.read⟩
   have HSS : Aside0 (∀ s ∈ levTo xs f c xs.length, ∃ z : Nat, s = z ∧ z < 64) := ⟨fun s hs => by
    obtain ⟨z, rfl, -, h⟩ := HN.out.nat (levTo_mem (Nat.le_refl _) s hs)
    exact ⟨z, rfl, by omega⟩⟩
   clear e
   go_wp2_with (first | (go_at_call 52; refine (madeBy n HN.out.hi _ _ _ HRD.out HSS.out).mono ?_; rintro e w2 ⟨u, rfl, ho, hb2⟩; obtain ⟨A4, d4, rfl, -⟩ := ho.read; have HO2 := Aside0.mk ho; have hwz := hb2.size; have HB2 := Aside0.mk (HBw.out.trans (hb2.mono HBw.out.size)); have HK2 := Aside0.mk (blk_below (blk_below HBK.out HBw.out) hb2); have c60 : w2.cell? ⟨w.heap.size + 1, 0, none⟩ = some (.int .i64 0) := blk_cell HK2.out 0; have c61 : w2.cell? ⟨w.heap.size + 1, 1, none⟩ = some (.slice none 0 0) := blk_cell HK2.out 1; have f60 : w2.frozen? ⟨w.heap.size + 1, 0, none⟩ = false := blk_frozen HK2.out 0; have f61 : w2.frozen? ⟨w.heap.size + 1, 1, none⟩ = false := blk_frozen HK2.out 1; clear ho hb2))
   refine bodyPost_ret (results_cell_row rfl _ _ (w.heap.size + 1) 28 #[.int .i64 n, .slice A4 (thL (madeAt (levTo xs f c xs.length)) (2 ^ n)).length d4] (0, 0) _ rfl (by refine blk_put (cs := #[.int .i64 n, .slice none 0 0]) ?_ 1 _ rfl; refine blk_put (cs := #[.int .i64 0, .slice none 0 0]) ?_ 0 _ rfl; exact HK2.out) Try.underlying28 rfl (by kernel_rfl)) rfl ?_
   have hb := HB.out.trans (HB2.out.mono HB.out.size)
   refine ⟨_, rfl, ?_, (hb.setCell (by simp) _).setCell (by simp) _⟩
   have hs := hsz.out
   have hs2 := HBw.out.size
   have hbs := HO2.out.base
   have ho := HO2.out.lower (b' := w.heap.size) (by omega)
   exact (ho.grown (set_grown' _ (w.heap.size + 1) _ _) (fun j hj e => by have := hbs _ hj; cases e; omega)).grown (set_grown' _ (w.heap.size + 1) _ _) (fun j hj e => by have := hbs _ hj; cases e; omega)
end Go.Proofs.Ytomofijniefelaa.H
