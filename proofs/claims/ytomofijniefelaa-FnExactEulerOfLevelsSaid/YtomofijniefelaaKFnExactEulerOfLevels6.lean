/- Different numbers of a list, ascending: put in one by one, or sorted and made compact. slices.Compact at numbers. How many vertices a face has, of the program: math/bits.OnesCount64, size, dimension. The Euler number, of the program. A slice of one list. EulerOfLevels of the program. The Euler number, of the reference. A region of open order whose last operations come one behind the other. Parts of a row of numbers; append of a row as one operation. l01Own of the reference. -/
import Derived.Deep.AppendLies
import Derived.Maps.AppendAt
import Derived.Test.YtomofijniefelaaKFnExactEulerOfLevels1
import Derived.Test.YtomofijniefelaaKFnExactEulerOfLevels2
import Derived.Test.YtomofijniefelaaKFnExactEulerOfLevels3
import Derived.Test.YtomofijniefelaaKFnExactEulerOfLevels4
import Derived.Test.YtomofijniefelaaKFnExactEulerOfLevels5

namespace Go.Proofs.Ytomofijniefelaa.H
open Go.RowKit Go.Proofs.YtomofijniefelaaW.PrintWords Go.Proofs.YtomofijniefelaaW.PrintLast
set_option linter.unusedVariables false
set_option linter.unusedSimpArgs false
def lowTo (l : List Int) (n : Int) : Nat → Nat
 | 0 => 0
 | k + 1 => if n ≤ l.getD k 0 then lowTo l n k else k + 1
def lowAt (l : List Int) (n : Int) : Nat := lowTo l n l.length
/-- a number put to an ascending list, if it is not there -/
def putU (l : List Int) (n : Int) : List Int := if lowAt l n < l.length ∧ l.getD (lowAt l n) 0 = n then l else l.take (lowAt l n) ++ n :: l.drop (lowAt l n)
def uniqF (f : List Int) : List Int := f.foldl putU []
theorem lowTo_le (l : List Int) (n : Int) : ∀ k, lowTo l n k ≤ k
 | 0 => Nat.le_refl _
 | k + 1 => by
  unfold lowTo
  split
  ·exact Nat.le_succ_of_le (lowTo_le l n k)
  ·exact Nat.le_refl _
theorem lowTo_drop (l : List Int) (n : Int) : ∀ k, ∀ j, lowTo l n k ≤ j → j < k → n ≤ l.getD j 0
 | 0 => fun j _ h => absurd h (Nat.not_lt_zero _)
 | k + 1 => fun j h1 h2 => by
  unfold lowTo at h1
  split at h1
  ·rename_i h3
   rcases Nat.lt_or_ge j k with h | h
   ·exact lowTo_drop l n k j h1 h
   ·obtain rfl : j = k := by omega
    exact h3
  ·omega
theorem lowTo_stop (l : List Int) (n : Int) : ∀ k, lowTo l n k = 0 ∨ ∃ j, lowTo l n k = j + 1 ∧ ¬ n ≤ l.getD j 0
 | 0 => .inl rfl
 | k + 1 => by
  unfold lowTo
  split
  ·exact lowTo_stop l n k
  ·rename_i h
   exact .inr ⟨k, rfl, h⟩
theorem lowAt_take {l : List Int} (ha : l.Pairwise (· < ·)) (n : Int) : ∀ z ∈ l.take (lowAt l n), z < n := fun z hz => by
 rcases lowTo_stop l n l.length with h | ⟨j, h, hj⟩
 ·unfold lowAt at hz; rw [h] at hz; simp at hz
 ·unfold lowAt at hz
  rw [h] at hz
  have hjl : j < l.length := by have := lowTo_le l n l.length; omega
  obtain ⟨i, hi, e⟩ := List.getElem_of_mem hz
  rw [List.length_take] at hi
  rw [List.getElem_take] at e
  have h1 : l.getD j 0 = l[j] := by rw [List.getD_eq_getElem?_getD, List.getElem?_eq_getElem hjl]; rfl
  rcases Nat.lt_or_ge i j with h2 | h2
  ·have := List.pairwise_iff_getElem.1 ha i j (by omega) hjl h2
   omega
  ·obtain rfl : i = j := by omega
   omega
theorem lowAt_drop (l : List Int) (n : Int) : ∀ z ∈ l.drop (lowAt l n), n ≤ z := fun z hz => by
 obtain ⟨i, hi, e⟩ := List.getElem_of_mem hz
 rw [List.length_drop] at hi
 rw [List.getElem_drop] at e
 have h1 := lowTo_drop l n l.length (lowAt l n + i) (by unfold lowAt; omega) (by omega)
 rw [List.getD_eq_getElem?_getD, List.getElem?_eq_getElem (by omega)] at h1
 rw [← e]; exact h1
theorem putU_hit {l : List Int} {n : Int} (h : lowAt l n < l.length) (h2 : l.getD (lowAt l n) 0 = n) : putU l n = l := by
 unfold putU; rw [if_pos ⟨h, h2⟩]
theorem putU_new {l : List Int} {n : Int} (h : ¬ (lowAt l n < l.length ∧ l.getD (lowAt l n) 0 = n)) : putU l n = l.take (lowAt l n) ++ n :: l.drop (lowAt l n) := by
 unfold putU; rw [if_neg h]
theorem putU_ok {l : List Int} (ha : l.Pairwise (· < ·)) (n : Int) : (putU l n).Pairwise (· < ·) ∧ (∀ z, z ∈ putU l n ↔ z ∈ l ∨ z = n) ∧ (putU l n).length ≤ l.length + 1 := by
 by_cases h : lowAt l n < l.length ∧ l.getD (lowAt l n) 0 = n
 ·rw [putU_hit h.1 h.2]
  refine ⟨ha, fun z => ⟨.inl, fun hz => ?_⟩, by omega⟩
  rcases hz with hz | rfl
  ·exact hz
  ·have h2 := h.2
   rw [List.getD_eq_getElem?_getD, List.getElem?_eq_getElem h.1] at h2
   have h3 : l[lowAt l z] ∈ l := List.getElem_mem _
   rw [Option.getD_some] at h2
   rw [h2] at h3
   exact h3
 ·rw [putU_new h]
  have h1 := lowAt_take ha n
  have h2 := lowAt_drop l n
  have h3 : ∀ z ∈ l.drop (lowAt l n), n < z := fun z hz => by
   have h4 := h2 z hz
   by_cases h5 : n = z
   ·exfalso
    subst h5
    obtain ⟨i, hi, e⟩ := List.getElem_of_mem hz
    rw [List.length_drop] at hi
    rw [List.getElem_drop] at e
    have h6 : ¬ l.getD (lowAt l n) 0 = n := fun h7 => h ⟨by omega, h7⟩
    have h8 : l[lowAt l n]'(by omega) ∈ l.drop (lowAt l n) := by
     rw [List.drop_eq_getElem_cons (by omega)]; exact List.mem_cons_self
    have h9 := h2 _ h8
    rw [List.getD_eq_getElem?_getD, List.getElem?_eq_getElem (by omega), Option.getD_some] at h6
    rcases Nat.eq_zero_or_pos i with hi0 | hi0
    ·subst hi0; exact h6 e
    ·have := List.pairwise_iff_getElem.1 ha (lowAt l n) (lowAt l n + i) (by omega) (by omega) (by omega)
     omega
   ·omega
  have hsplit : l = l.take (lowAt l n) ++ l.drop (lowAt l n) := (List.take_append_drop _ _).symm
  refine ⟨?_, fun z => ?_, ?_⟩
  ·rw [List.pairwise_append]
   refine ⟨ha.sublist (List.take_sublist _ _), List.pairwise_cons.2 ⟨h3, ha.sublist (List.drop_sublist _ _)⟩, fun a ha1 b hb1 => ?_⟩
   have := h1 a ha1
   rcases List.mem_cons.1 hb1 with rfl | hb2
   ·exact this
   ·have := h3 b hb2; omega
  ·rw [List.mem_append, List.mem_cons]
   conv => rhs; rw [hsplit, List.mem_append]
   constructor
   ·rintro (h | h | h)
    ·exact .inl (.inl h)
    ·exact .inr h
    ·exact .inl (.inr h)
   ·rintro ((h | h) | h)
    ·exact .inl h
    ·exact .inr (.inr h)
    ·exact .inr (.inl h)
  ·rw [List.length_append, List.length_cons, List.length_take, List.length_drop]; omega
theorem uniq_acc : ∀ (f l : List Int), l.Pairwise (· < ·) → (f.foldl putU l).Pairwise (· < ·) ∧ (∀ z, z ∈ f.foldl putU l ↔ z ∈ l ∨ z ∈ f) ∧ (f.foldl putU l).length ≤ l.length + f.length
 | [], l => fun h => ⟨h, fun z => by simp, by simp⟩
 | a :: r, l => fun h => by
  obtain ⟨h1, h2, h3⟩ := putU_ok h a
  obtain ⟨h4, h5, h6⟩ := uniq_acc r (putU l a) h1
  refine ⟨h4, fun z => ?_, by rw [List.foldl_cons, List.length_cons]; omega⟩
  rw [List.foldl_cons, h5, h2, List.mem_cons, or_assoc]
theorem uniq_ok (f : List Int) : (uniqF f).Pairwise (· < ·) ∧ (∀ z, z ∈ uniqF f ↔ z ∈ f) ∧ (uniqF f).length ≤ f.length := by
 obtain ⟨h1, h2, h3⟩ := uniq_acc f [] List.Pairwise.nil
 exact ⟨h1, fun z => by unfold uniqF; rw [h2]; simp, by unfold uniqF; simpa using h3⟩
theorem uniq_snoc (l : List Int) (x : Int) : uniqF (l ++ [x]) = putU (uniqF l) x := by unfold uniqF; rw [List.foldl_append]; rfl
/-- a list without the numbers that stand behind their like -/
def cpTo (l : List Int) (k : Nat) : List Int := (List.range k).filterMap fun i => if i = 0 ∨ l.getD i 0 ≠ l.getD (i - 1) 0 then some (l.getD i 0) else none
theorem cpTo_new {l : List Int} {k : Nat} (h : k = 0 ∨ l.getD k 0 ≠ l.getD (k - 1) 0) : cpTo l (k + 1) = cpTo l k ++ [l.getD k 0] := by
 unfold cpTo
 rw [List.range_succ, List.filterMap_append]
 congr 1
 simp only [List.filterMap_cons, List.filterMap_nil]
 rw [if_pos h]
theorem cpTo_old {l : List Int} {k : Nat} (h : ¬ k = 0) (h2 : l.getD k 0 = l.getD (k - 1) 0) : cpTo l (k + 1) = cpTo l k := by
 unfold cpTo
 rw [List.range_succ, List.filterMap_append]
 simp only [List.filterMap_cons, List.filterMap_nil]
 rw [if_neg (by omega), List.append_nil]
/-- no number has stood behind its like so far -/
theorem cpTo_all {l : List Int} : ∀ k, k ≤ l.length → (∀ i, 0 < i → i < k → l.getD i 0 ≠ l.getD (i - 1) 0) → cpTo l k = l.take k
 | 0, _, _ => by simp [cpTo]
 | k + 1, hk, h => by
  rw [cpTo_new (by rcases Nat.eq_zero_or_pos k with h0 | h0; exact .inl h0; exact .inr (h k h0 (by omega))), cpTo_all k (by omega) (fun i h1 h2 => h i h1 (by omega)), List.take_succ_eq_append_getElem (by omega)]
  rw [List.getD_eq_getElem?_getD, List.getElem?_eq_getElem (by omega)]; rfl
theorem cpTo_ok {l : List Int} (hl : l.Pairwise (· ≤ ·)) : ∀ k, k ≤ l.length → (cpTo l k).Pairwise (· < ·) ∧ (∀ z, z ∈ cpTo l k ↔ z ∈ l.take k)
 | 0, _ => ⟨List.Pairwise.nil, fun z => by simp [cpTo]⟩
 | k + 1, hk => by
  obtain ⟨h1, h2⟩ := cpTo_ok hl k (by omega)
  have ht : l.take (k + 1) = l.take k ++ [l.getD k 0] := by
   rw [List.take_succ_eq_append_getElem (by omega), List.getD_eq_getElem?_getD, List.getElem?_eq_getElem (by omega)]; rfl
  have hg : ∀ i (h : i < l.length), l.getD i 0 = l[i] := fun i h => by rw [List.getD_eq_getElem?_getD, List.getElem?_eq_getElem h]; rfl
  by_cases h : k = 0 ∨ l.getD k 0 ≠ l.getD (k - 1) 0
  ·rw [cpTo_new h, ht]
   refine ⟨List.pairwise_append.2 ⟨h1, List.pairwise_singleton _ _, fun a ha b hb => ?_⟩, fun z => by rw [List.mem_append, List.mem_append, h2]⟩
   rw [List.mem_singleton] at hb
   subst hb
   rw [h2] at ha
   obtain ⟨i, hi, e⟩ := List.getElem_of_mem ha
   rw [List.length_take] at hi
   rw [List.getElem_take] at e
   subst e
   rcases h with h | h
   ·omega
   ·rw [hg k (by omega), hg (k - 1) (by omega)] at h
    rw [hg k (by omega)]
    have h3 := List.pairwise_iff_getElem.1 hl (k - 1) k (by omega) (by omega) (by omega)
    rcases Nat.lt_or_ge i (k - 1) with h4 | h4
    ·have h5 := List.pairwise_iff_getElem.1 hl i (k - 1) (by omega) (by omega) h4
     omega
    ·obtain rfl : i = k - 1 := by omega
     omega
  ·have h0 : ¬ k = 0 := fun h3 => h (.inl h3)
   have h3 : l.getD k 0 = l.getD (k - 1) 0 := by
    by_cases h4 : l.getD k 0 = l.getD (k - 1) 0
    ·exact h4
    ·exact absurd (.inr h4) h
   rw [cpTo_old h0 h3, ht]
   refine ⟨h1, fun z => ?_⟩
   rw [h2, List.mem_append, List.mem_singleton]
   constructor
   ·exact .inl
   ·rintro (h4 | h4)
    ·exact h4
    ·rw [h4, h3, hg (k - 1) (by omega)]
     have : l.take k = l.take (k - 1) ++ [l[k - 1]'(by omega)] := by
      have := List.take_succ_eq_append_getElem (l := l) (i := k - 1) (by omega)
      rwa [show k - 1 + 1 = k by omega] at this
     rw [this]; exact List.mem_append.2 (.inr (List.mem_singleton.2 rfl))
/-- a sorted list, made compact, has the different numbers -/
theorem cp_uniq (f : List Int) : cpTo (sortN f) (sortN f).length = uniqF f := by
 have hs : (sortN f).Pairwise (· ≤ ·) := by
  refine (List.pairwise_mergeSort (le := fun x y => decide (x ≤ y)) (fun a b c h1 h2 => by simp only [decide_eq_true_eq] at *; omega) (fun a b => by
   rw [Bool.or_eq_true, decide_eq_true_eq, decide_eq_true_eq]; omega) f).imp (fun h => of_decide_eq_true h)
 obtain ⟨h1, h2⟩ := cpTo_ok hs _ (Nat.le_refl _)
 obtain ⟨h3, h4, -⟩ := uniq_ok f
 refine asc_ext h1 h3 (fun x => ?_)
 rw [h2, h4, List.take_length]
 exact (List.mergeSort_perm _ _).mem_iff
/-- what EulerOfLevels answers -/
def ansEulerOfLevels (a : Int) (xs f : List Int) : List Int × Int :=
 if codeFun a xs true [f] = 0 then ((uniqF f).map fun c => eulV (xs.filter (madeAt (levTo xs f c xs.length))), 0) else ([], codeFun a xs true [f])
theorem lenEulerOfLevels (a : Int) (xs f : List Int) : (ansEulerOfLevels a xs f).1.length ≤ 1073741824 := by
 unfold ansEulerOfLevels
 split
 ·rename_i h
  obtain ⟨n, -, hc, -, hl, -⟩ := codeFun_zero h
  rw [List.length_map]
  have := (uniq_ok f).2.2
  have := hc.len
  omega
 ·simp
/-- the row while it is made compact: what is kept of the first j, and from j - 1 on what was there -/
def cpRow (xs : List Int) (j : Nat) (ys : List Int) : Prop := ys.length = xs.length ∧ ys.take (cpTo xs j).length = cpTo xs j ∧ ys.drop (j - 1) = xs.drop (j - 1)
theorem cp_get {xs : List Int} {j : Nat} {ys : List Int} (h : cpRow xs j ys) {i : Nat} (hi : j - 1 ≤ i) : ys.getD i 0 = xs.getD i 0 := by
 have h1 := congrArg (fun l => l.getD (i - (j - 1)) 0) h.2.2
 simp only [List.getD_eq_getElem?_getD, List.getElem?_drop] at h1
 rw [show j - 1 + (i - (j - 1)) = i by omega] at h1
 rw [List.getD_eq_getElem?_getD, List.getD_eq_getElem?_getD]; exact h1
theorem cp_old {xs : List Int} {j : Nat} {ys : List Int} (h0 : 0 < j) (he : xs.getD j 0 = xs.getD (j - 1) 0) (h : cpRow xs j ys) : cpRow xs (j + 1) ys := by
 obtain ⟨h1, h2, h3⟩ := h
 refine ⟨h1, by rw [cpTo_old (by omega) he]; exact h2, ?_⟩
 have := drop_next h3
 rw [show j - 1 + 1 = j by omega] at this
 rw [show j + 1 - 1 = j by omega]; exact this
theorem cp_new {xs : List Int} {j : Nat} {ys : List Int} {y : Int} (h0 : 0 < j) (hj : j < xs.length) (hy : xs.getD j 0 = y) (he : xs.getD j 0 ≠ xs.getD (j - 1) 0) (hk : (cpTo xs j).length < j) (h : cpRow xs j ys) : cpRow xs (j + 1) (ys.set (cpTo xs j).length y) := by
 obtain ⟨h1, h2, h3⟩ := h
 refine ⟨by rw [List.length_set]; exact h1, ?_, ?_⟩
 ·rw [cpTo_new (.inr he), List.length_append, List.length_singleton, set_take_next (by omega), h2, hy]
 ·rw [show j + 1 - 1 = j by omega, List.drop_set_of_lt hk]
  have := drop_next h3
  rwa [show j - 1 + 1 = j by omega] at this
set_option maxRecDepth 100000 in
set_option maxHeartbeats 4000000 in
theorem compactI (w0 w : World) (v : Value) (xs : List Int) (hb : Below w0.heap.size w0 w) (ho : OwnI w0.heap.size w v xs) (hlen : xs.length ≤ 1000000) :
  Calls Try.prog 23 #[v] w fun e w' => ∃ u, e = .returned u ∧ OwnI w0.heap.size w' u (cpTo xs xs.length) ∧ Below w0.heap.size w0 w' := by
 have hmx : Try.prog.follows .mixedOrders = true := by kernel_rfl
 have HO := Aside0.mk ho
 have HB := Aside0.mk hb
 by_cases hsm : xs.length < 2
 ·have hsI : (xs.length : Int) < 2 := by omega
  have HA : Aside0 (cpTo xs xs.length = xs) := ⟨by rw [cpTo_all _ (Nat.le_refl _) (fun i h1 h2 => by omega), List.take_length]⟩
  obtain ⟨A1, d1, rfl, -⟩ := id ho.read
  clear ho hb hsm
  go_enter Try.func23, Try.ntmps23
  go_wp2
  go_ret
  exact ⟨_, rfl, by rw [HA.out]; exact HO.out, HB.out⟩
 ·have hsI : ¬ (xs.length : Int) < 2 := by omega
  obtain ⟨g, cap, rfl, -⟩ := Kd.R_form ho (by omega)
  have hle := own_le ho
  have hge := ho.base g (by simp [Value.ownBlock])
  clear ho hb
  go_enter Try.func23, Try.ntmps23
  go_wp2
  go_loopw [3] (fun s3 wr => ∃ k : Nat, s3 = .int .i64 k ∧ 1 ≤ k ∧ k ≤ xs.length ∧ Aside0 (∀ i, 0 < i → i < k → xs.getD i 0 ≠ xs.getD (i - 1) 0) ∧ Aside0 (OwnI w0.heap.size wr (.slice (some ⟨g, 0, none⟩) xs.length cap) xs) ∧ Aside0 (Below w0.heap.size w0 wr)) (fun s3 _ => xs.length - (intOf s3).toNat)
  case atStart => exact ⟨1, rfl, Nat.le_refl _, by omega, ⟨fun i h1 h2 => by omega⟩, HO, HB⟩
  case round =>
   obtain ⟨k, rfl, hk1, hk, HD, HOr, HBr⟩ := hrel
   by_cases hlt : k < xs.length
   ·have hltI : (k : Int) < (xs.length : Int) := by omega
    have h1i : (0 : Int) ≤ (k : Int) - 1 := by omega
    have h2i : (k : Int) - 1 < (xs.length : Int) := by omega
    have h3i : ((k : Int) - 1).toNat = k - 1 := by omega
    have hrd := HOr.out.read
    obtain ⟨A_, c_, e_, -, hcc⟩ := hrd
    injection e_ with e1 _ e3
    subst e1 e3
    obtain ⟨ad, y, e1, hcell, HY⟩ := ReadI.get hcc hlt
    cases e1
    rw [add_mk] at hcell
    obtain ⟨ad2, z, e1, hcell2, HZ⟩ := ReadI.get hcc (i := k - 1) (by omega)
    cases e1
    rw [add_mk] at hcell2
    clear hcc
    by_cases hyz : y = z
    ·-- the first number that stands behind its like
     subst hyz
     have hck : ¬ cap = k := by omega
     have hEq : xs.getD k 0 = xs.getD (k - 1) 0 := HY.out.trans HZ.out.symm
     have hc0 : cpTo xs k = xs.take k := cpTo_all k hk HD.out
     have hc1 : cpTo xs (k + 1) = cpTo xs k := cpTo_old (by omega) hEq
     have hkl : (cpTo xs (k + 1)).length = k := by rw [hc1, hc0, List.length_take]; omega
     have HKL := Aside0.mk hkl
     have HCR : Aside0 (cpRow xs (k + 1) xs) := ⟨⟨rfl, by rw [hkl, hc1, hc0], rfl⟩⟩
     obtain ⟨m, hm⟩ : ∃ m, m = xs.length - k := ⟨_, rfl⟩
     have hmI : ((xs.length : Int) - (k : Int)) = (m : Int) := by omega
     clear hEq hc0 hc1 hkl
     go_wp2
     go_quiet (fail)
     obtain ⟨wq, hwq⟩ : ∃ wq, wq = wr.drewN nq := ⟨_, rfl⟩
     rw [← hwq]
     have HOq := Aside0.mk (show OwnI w0.heap.size wq _ xs by rw [hwq]; exact HOr.out.below (below_drewN (Below.refl _ _) _))
     have HBq := Aside0.mk (show Below w0.heap.size w0 wq by rw [hwq]; exact below_drewN HBr.out _)
     clear hwq hcell hcell2 HOr HBr HD HY HZ
     go_wp2
     go_loopw [3, 5] (fun s3 s5 wx => ∃ (k2 : Nat) (ys : List Int), s5 = .int .i64 k2 ∧ 1 ≤ k2 ∧ k2 ≤ xs.length - k ∧ s3 = .int .i64 ((cpTo xs (k + k2)).length : Nat) ∧ (cpTo xs (k + k2)).length < k + k2 ∧ Aside0 (cpRow xs (k + k2) ys) ∧ Aside0 (OwnI w0.heap.size wx (.slice (some ⟨g, 0, none⟩) xs.length cap) ys) ∧ Aside0 (Below w0.heap.size w0 wx)) (fun _ s5 _ => xs.length - (intOf s5).toNat)
     case atStart => exact ⟨1, xs, rfl, Nat.le_refl _, by omega, by rw [HKL.out], by rw [HKL.out]; omega, HCR, HOq, HBq⟩
     case round =>
      obtain ⟨k2, ys, rfl, hk21, hk2, rfl, hkj, HC, HOx, HBx⟩ := hrel
      obtain ⟨kl, hkl⟩ : ∃ kl, kl = (cpTo xs (k + k2)).length := ⟨_, rfl⟩
      have HKJ := Aside0.mk hkl
      rw [← hkl] at hkj ⊢
      clear hkl
      by_cases hlt2 : k2 < xs.length - k
      ·have hlt2I : (k2 : Int) < ((xs.length - k : Nat) : Int) := by omega
       have hyl : ys.length = xs.length := HC.out.1
       obtain ⟨A_, c_, e_, -, hcc⟩ := HOx.out.read
       rw [hyl] at e_ hcc
       injection e_ with e1 _ e3
       subst e1 e3
       obtain ⟨ad, y2, e1, hcell, HY⟩ := ReadI.get (xs := ys) (by rw [hyl]; exact hcc) (i := k + k2) (by omega)
       cases e1
       rw [add_mk] at hcell
       obtain ⟨ad2, z2, e1, hcell2, HZ⟩ := ReadI.get (xs := ys) (by rw [hyl]; exact hcc) (i := k + (k2 - 1)) (by omega)
       cases e1
       rw [add_mk] at hcell2
       have hyx : xs.getD (k + k2) 0 = y2 := by rw [← cp_get HC.out (by omega)]; exact HY.out
       have hzx : xs.getD (k + k2 - 1) 0 = z2 := by rw [show k + k2 - 1 = k + (k2 - 1) by omega, ← cp_get HC.out (by omega)]; exact HZ.out
       have HYX := Aside0.mk hyx
       have HZX := Aside0.mk hzx
       have h1j : (0 : Int) ≤ (k2 : Int) - 1 := by omega
       have h2j : (k2 : Int) - 1 < ((xs.length - k : Nat) : Int) := by omega
       have h3j : ((k2 : Int) - 1).toNat = k2 - 1 := by omega
       clear hcc hyl hyx hzx HY HZ
       by_cases hyz : y2 = z2
       ·have hne : (y2 != z2) = false := by simp [hyz]
        have HKN := Aside0.mk (cpTo_old (l := xs) (k := k + k2) (by omega) (by rw [HYX.out, HZX.out]; exact hyz))
        have HCN := Aside0.mk (cp_old (by omega) (by rw [HYX.out, HZX.out]; exact hyz) HC.out)
        clear hyz
        go_wp2
        go_quiet (fail)
        go_wp2
        go_roundw
        case rel => exact ⟨k2 + 1, ys, by go_num, by omega, by omega, by rw [show k + (k2 + 1) = k + k2 + 1 by omega, HKN.out, ← HKJ.out], by rw [show k + (k2 + 1) = k + k2 + 1 by omega, HKN.out, ← HKJ.out]; omega, HCN, ⟨HOx.out.below (below_drewN (Below.refl _ _) _)⟩, ⟨below_drewN HBx.out _⟩⟩
        case measure => simp [intOf]; omega
       ·have hne : (y2 != z2) = true := by simpa using hyz
        have HKN := Aside0.mk (cpTo_new (l := xs) (k := k + k2) (.inr (by rw [HYX.out, HZX.out]; exact hyz)))
        have HCN := Aside0.mk (cp_new (by omega) (by omega) HYX.out (by rw [HYX.out, HZX.out]; exact hyz) (by rw [← HKJ.out]; exact hkj) HC.out)
        rw [← HKJ.out] at HCN
        have hklI : (kl : Int) < (xs.length : Int) := by omega
        clear hyz
        go_wp2
        go_quiet (fail)
        obtain ⟨wy, hwy⟩ : ∃ wy, wy = wr.drewN nq := ⟨_, rfl⟩
        rw [← hwy]
        have HOy := Aside0.mk (show OwnI w0.heap.size wy _ ys by rw [hwy]; exact HOx.out.below (below_drewN (Below.refl _ _) _))
        have HBy := Aside0.mk (show Below w0.heap.size w0 wy by rw [hwy]; exact below_drewN HBx.out _)
        have hcy : wy.cell? ⟨g, k + k2, none⟩ = some (.int .i64 y2) := by rw [hwy]; exact pw_cell_below (below_drewN (Below.refl _ _) _) hcell
        clear hwy hcell hcell2 HOx HBx
        go_wp2_with (first | ((with_reducible refine gate_store (t := 2) (p := 51) rfl ?_); refine store_own (w0 := w0) rfl (p := 51) rfl rfl kl y2 HOy.out ?ha ?hb ?hc ?_; (case ha => omega); (case hb => rfl); (case hc => rfl); intro w4 ho4 hg4 hb4; have HO4 := Aside0.mk ho4; have HB4 := Aside0.mk (HBy.out.trans hb4); clear ho4 hg4 hb4))
        go_roundw
        case rel => exact ⟨k2 + 1, _, by go_num, by omega, by omega, by rw [show k + (k2 + 1) = k + k2 + 1 by omega, HKN.out, List.length_append, ← HKJ.out]; go_num, by rw [show k + (k2 + 1) = k + k2 + 1 by omega, HKN.out, List.length_append, ← HKJ.out]; simp; omega, HCN, HO4, HB4⟩
        case measure => simp [intOf]; omega
      ·have e : k + k2 = xs.length := by omega
       have HE := Aside0.mk e
       have hlt2I : ¬ (k2 : Int) < ((xs.length - k : Nat) : Int) := by omega
       have hkn : kl < xs.length := by omega
       have hck2 : ¬ cap = kl := by omega
       clear e
       go_wp2_with (first | ((with_reducible refine gate_builtin (b := .clear) (xs := #[.tmp 56]) rfl ?_); refine clear_own (b := w0.heap.size) rfl _ rfl kl (cap - kl) hkn HOx.out rfl ?_; intro w4 zs ho4 ht4 hg4; have HO4 := Aside0.mk (ho4.cut (i := kl) (by omega)); have HB4 := Aside0.mk (HBx.out.trans (below_grown hg4 hge HBx.out.size)); have HT4 := Aside0.mk ht4; clear ho4 ht4 hg4))
       go_ret
       refine ⟨_, rfl, ?_, HB4.out⟩
       have h1 := HO4.out
       rw [HT4.out] at h1
       have h2 := HC.out.2.1
       rw [← HKJ.out, HE.out] at h2
       rw [h2] at h1
       exact h1
    ·have hne : (y == z) = false := by rw [beq_eq_false_iff_ne]; exact hyz
     have HN : Aside0 (∀ i, 0 < i → i < k + 1 → xs.getD i 0 ≠ xs.getD (i - 1) 0) := ⟨fun i h1 h2 => by
      rcases Nat.lt_or_ge i k with h | h
      ·exact HD.out i h1 h
      ·obtain rfl : i = k := by omega
       rw [HY.out, HZ.out]; exact hyz⟩
     clear hyz
     go_wp2
     go_quiet (fail)
     go_wp2
     go_roundw
     case rel => exact ⟨k + 1, by go_num, by omega, by omega, HN, ⟨HOr.out.below (below_drewN (Below.refl _ _) _)⟩, ⟨below_drewN HBr.out _⟩⟩
     case measure => simp [intOf]; omega
   ·have HA : Aside0 (cpTo xs xs.length = xs) := ⟨by
     have e : k = xs.length := by omega
     have h := HD.out
     rw [e] at h
     rw [cpTo_all _ (Nat.le_refl _) h, List.take_length]⟩
    go_wp2
    go_ret
    exact ⟨_, rfl, by rw [HA.out]; exact HOr.out, HBr.out⟩
theorem wrapUc {n : Nat} (h : n < 18446744073709551616) : IntKind.u64.wrap (n : Int) = n := by
 show ((n : Int) % 18446744073709551616) = n
 omega
set_option maxRecDepth 100000 in
set_option maxHeartbeats 8000000 in
theorem onesC (x : Nat) (h2 : x < 64) (w : World) : Calls Try.prog 113 #[.int .u64 x] w fun e w' => e = .returned (.int .i64 (ones x : Nat)) ∧ Below w.heap.size w w' := by
 rcases (by omega : x = 0 ∨ x = 1 ∨ x = 2 ∨ x = 3 ∨ x = 4 ∨ x = 5 ∨ x = 6 ∨ x = 7 ∨ x = 8 ∨ x = 9 ∨ x = 10 ∨ x = 11 ∨ x = 12 ∨ x = 13 ∨ x = 14 ∨ x = 15 ∨ x = 16 ∨ x = 17 ∨ x = 18 ∨ x = 19 ∨ x = 20 ∨ x = 21 ∨ x = 22 ∨ x = 23 ∨ x = 24 ∨ x = 25 ∨ x = 26 ∨ x = 27 ∨ x = 28 ∨ x = 29 ∨ x = 30 ∨ x = 31 ∨ x = 32 ∨ x = 33 ∨ x = 34 ∨ x = 35 ∨ x = 36 ∨ x = 37 ∨ x = 38 ∨ x = 39 ∨ x = 40 ∨ x = 41 ∨ x = 42 ∨ x = 43 ∨ x = 44 ∨ x = 45 ∨ x = 46 ∨ x = 47 ∨ x = 48 ∨ x = 49 ∨ x = 50 ∨ x = 51 ∨ x = 52 ∨ x = 53 ∨ x = 54 ∨ x = 55 ∨ x = 56 ∨ x = 57 ∨ x = 58 ∨ x = 59 ∨ x = 60 ∨ x = 61 ∨ x = 62 ∨ x = 63) with rfl | rfl | rfl | rfl | rfl | rfl | rfl | rfl | rfl | rfl | rfl | rfl | rfl | rfl | rfl | rfl | rfl | rfl | rfl | rfl | rfl | rfl | rfl | rfl | rfl | rfl | rfl | rfl | rfl | rfl | rfl | rfl | rfl | rfl | rfl | rfl | rfl | rfl | rfl | rfl | rfl | rfl | rfl | rfl | rfl | rfl | rfl | rfl | rfl | rfl | rfl | rfl | rfl | rfl | rfl | rfl | rfl | rfl | rfl | rfl | rfl | rfl | rfl | rfl
 all_goals
  go_enter Try.func113, Try.ntmps113
  go_wp2
  go_ret
  exact ⟨by kernel_rfl, by (repeat (first | (with_reducible exact Below.refl _ _) | (with_reducible assumption) | (with_reducible refine below_step ?_ (by assumption)) | (with_reducible apply below_alloc) | (with_reducible apply below_drewN)))⟩
theorem size (x : Nat) (h2 : x < 64) (w : World) : Calls Try.prog 87 #[.int .i64 x] w fun e w' => e = .returned (.int .i64 (ones x : Nat)) ∧ Below w.heap.size w w' := by
 have hw : IntKind.u64.wrap (x : Int) = x := wrapUc (by omega)
 have HX := Aside0.mk (onesC x h2)
 go_enter Try.func87, Try.ntmps87
 go_wp2_with (first | (go_at_call 113; refine (HX.out _).mono ?_; rintro e w2 ⟨rfl, hb⟩))
 go_ret
 exact ⟨rfl, hb⟩
theorem dimI (x : Nat) (h2 : x < 64) (w : World) : Calls Try.prog 53 #[.int .i64 x] w fun e w' => e = .returned (.int .i64 ((ones x : Int) - 1)) ∧ Below w.heap.size w w' := by
 have HX := Aside0.mk (size x h2)
 have h6 := ones_le x h2
 go_enter Try.func53, Try.ntmps53
 go_wp2_with (first | (go_at_call 87; refine (HX.out _).mono ?_; rintro e w2 ⟨rfl, hb⟩))
 go_ret
 exact ⟨by first | rfl | (congr 2; omega) | simp, hb⟩
theorem eulT_bd (x : Int) : -1 ≤ eulT x ∧ eulT x ≤ 3 := by
 unfold eulT
 have h0 : (0 : Int) ≤ (ones x.toNat : Int) := by omega
 have h1 : -1 ≤ Int.tmod ((ones x.toNat : Int) - 1) 2 ∧ Int.tmod ((ones x.toNat : Int) - 1) 2 ≤ 1 := by
  by_cases h : ones x.toNat = 0
  ·rw [h]; decide
  ·rw [Int.tmod_eq_emod_of_nonneg (by omega)]; omega
 omega
theorem eulV_bd : ∀ l : List Int, -(l.length : Int) ≤ eulV l ∧ eulV l ≤ 3 * l.length
 | [] => by decide
 | x :: r => by
  have ih := eulV_bd r
  have h := eulT_bd x
  unfold eulV at ih ⊢
  rw [List.map_cons, List.sum_cons, List.length_cons]
  omega
theorem eulV_next {xs : List Int} {i : Nat} {y : Int} (h : i < xs.length) (hy : xs.getD i 0 = y) : eulV (xs.take (i + 1)) = eulV (xs.take i) + eulT y := by
 unfold eulV
 rw [take_get h hy, List.map_append, List.sum_append]
 simp
theorem ones_pos : ∀ f : Nat, f < 64 → 0 < f → 0 < ones f := by decide +kernel
set_option maxRecDepth 100000 in
set_option maxHeartbeats 4000000 in
theorem eulerI (n : Nat) (ku : Value) (xs : List Int) (w : World) (hk : ReadI w ku xs) (hc : Cx n xs) :
  Calls Try.prog 27 #[cx n ku] w fun e w' => e = .returned (.int .i64 (eulV xs)) ∧ Below w.heap.size w w' := by
 obtain ⟨w1, hw1⟩ : ∃ w1, w1 = w.alloc (.cells #[.int .i64 n, ku] 28) := ⟨_, rfl⟩
 have hB : Below w.heap.size w w1 := by rw [hw1]; exact Below.alloc (Below.refl _ _) (Nat.le_refl _) _
 have c0 : w1.cell? ⟨w.heap.size, 0, none⟩ = some (.int .i64 n) := by rw [hw1]; simp
 have c1 : w1.cell? ⟨w.heap.size, 1, none⟩ = some ku := by rw [hw1]; simp
 have HB := Aside0.mk hB
 have HC := Aside0.mk hc
 have hlen := hc.len
 obtain ⟨A1, d1, rfl, hcv, hrv⟩ := hk.below hB
 have HR := Aside0.mk hrv
 clear hk hB hcv hrv hc
 go_enter Try.func27, Try.ntmps27
 go_wp2
 rw [← hw1]
 go_wp2
 go_loopw [3, 9] (fun s3 s9 wr => ∃ i : Nat, s9 = .int .i64 i ∧ s3 = .int .i64 (eulV (xs.take i)) ∧ i ≤ xs.length ∧ Aside0 (Below w1.heap.size w1 wr)) (fun _ s9 _ => xs.length - (intOf s9).toNat)
 case atStart => exact ⟨0, rfl, rfl, Nat.zero_le _, ⟨Below.refl _ _⟩⟩
 case round =>
  obtain ⟨i, rfl, rfl, hi, HBr⟩ := hrel
  by_cases hlt : i < xs.length
  ·have hltI : (i : Int) < (xs.length : Int) := by omega
   obtain ⟨ad, y, rfl, hcell, HY⟩ := ReadI.get (Kd.C_below HR.out HBr.out) hlt
   obtain ⟨f, rfl, hf1, hf2⟩ := HC.out.nat (mem_at hlt HY.out)
   have hbd := eulV_bd (xs.take i)
   rw [List.length_take, Nat.min_eq_left hi] at hbd
   have HN := Aside0.mk (eulV_next hlt HY.out)
   have h0 := ones_pos f (by omega) hf1
   have h6 := ones_le f (by omega)
   obtain ⟨k, hk⟩ : ∃ k : Nat, (ones f : Int) - 1 = k := ⟨ones f - 1, by omega⟩
   have HD := Aside0.mk (dimI f (by omega))
   rw [hk] at HD
   obtain ⟨r, hr⟩ : ∃ r, r = k % 2 := ⟨_, rfl⟩
   have hr1 : Int.tmod (k : Int) 2 = (r : Int) := by rw [Int.tmod_eq_emod_of_nonneg (by omega)]; omega
   have hr2 : (k : Int) % 2 = (r : Int) := by omega
   have hr3 : r ≤ 1 := by omega
   have HT : Aside0 (eulT (f : Int) = 1 - 2 * (r : Int)) := ⟨by unfold eulT; rw [Int.toNat_natCast, hk, hr1]⟩
   obtain ⟨E, hE⟩ : ∃ E, E = eulV (xs.take i) := ⟨_, rfl⟩
   rw [← hE] at hbd ⊢
   rw [← hE] at HN
   clear hE h0 h6 hk hr
   go_wp2_with (first | (go_at_call 53; refine (HD.out _).mono ?_; rintro e w2 ⟨rfl, hb⟩; have HB2 := Aside0.mk (HBr.out.trans (hb.mono HBr.out.size)); clear hb))
   go_roundw
   case rel => exact ⟨i + 1, by go_num, by rw [HN.out, HT.out] <;> first | rfl | (simp [hr1, hr2]) | (simp; omega), by omega, HB2⟩
   case measure => simp [intOf]; omega
  ·have e : i = xs.length := by omega
   have HE := Aside0.mk e
   clear e
   go_wp2
   go_ret
   exact ⟨by rw [HE.out, List.take_length]; rfl, HB.out.trans (HBr.out.mono HB.out.size)⟩
theorem ReadS.one' {W : World} {u : Value} {p : List Int} (h : ReadI W u p) : ReadS (W.alloc (.cells #[u] 22)) (.slice (some ⟨W.heap.size, 0, none⟩) 1 1) [p] := by
 refine ⟨_, 1, rfl, by simp, fun i xs hi => ?_⟩
 cases i with
 | zero =>
  simp at hi
  subst hi
  exact ⟨_, u, rfl, by rw [add_mk]; exact blk_cell (blk_new W _) 0, h.below (Below.alloc (Below.refl _ _) (Nat.le_refl _) _)⟩
 | succ i => simp at hi
theorem Cx.filter {n : Nat} {l : List Int} (h : Cx n l) (p : Int → Bool) : Cx n (l.filter p) :=
 ⟨h.lo, h.hi, h.asc.sublist List.filter_sublist, fun x hx => h.bd x (List.mem_filter.1 hx).1, Nat.le_trans (List.length_filter_le _ _) h.len⟩
/-- the Euler number of a level -/
def eulAt (xs f : List Int) (c : Int) : Int := eulV (xs.filter (madeAt (levTo xs f c xs.length)))
theorem ansEul_hit {a : Int} {xs f : List Int} (h : codeFun a xs true [f] = 0) : ansEulerOfLevels a xs f = ((uniqF f).map (eulAt xs f), 0) := by
 unfold ansEulerOfLevels; rw [if_pos h]; rfl
theorem ansEul_miss {a : Int} {xs f : List Int} (h : codeFun a xs true [f] ≠ 0) : ansEulerOfLevels a xs f = ([], codeFun a xs true [f]) := by
 unfold ansEulerOfLevels; rw [if_neg h]
theorem map_take_get {g : Int → Int} {U : List Int} {i : Nat} {y : Int} (h : i < U.length) (hy : U.getD i 0 = y) : (U.take (i + 1)).map g = (U.take i).map g ++ [g y] := by
 rw [take_get h hy, List.map_append]; rfl
set_option maxRecDepth 100000 in
set_option maxHeartbeats 4000000 in
theorem implEulerOfLevels (a : Int) (ku : Value) (xs : List Int) (v : Value) (f : List Int) (w : World) (hk : ReadI w ku xs) (hv : ReadI w v f) :
  Calls Try.prog 9 #[cx a ku, v] w fun e w' => ∃ u, e = .returned (.tuple #[u, .int .i64 (ansEulerOfLevels a xs f).2]) ∧ OwnI w.heap.size w' u (ansEulerOfLevels a xs f).1 ∧ Below w.heap.size w w' := by
 obtain ⟨wa, hwa⟩ : ∃ wa, wa = w.alloc (.cells #[.int .i64 a, ku] 28) := ⟨_, rfl⟩
 obtain ⟨w1, hw1⟩ : ∃ w1, w1 = wa.alloc (.cells #[v] 22) := ⟨_, rfl⟩
 have hsa : wa.heap.size = w.heap.size + 1 := by rw [hwa]; simp
 have hBa : Below w.heap.size w wa := by rw [hwa]; exact Below.alloc (Below.refl _ _) (Nat.le_refl _) _
 have hB1 : Below wa.heap.size wa w1 := by rw [hw1]; exact Below.alloc (Below.refl _ _) (Nat.le_refl _) _
 have hB : Below w.heap.size w w1 := hBa.trans (hB1.mono hBa.size)
 have c0a : wa.cell? ⟨w.heap.size, 0, none⟩ = some (.int .i64 a) := by rw [hwa]; simp
 have c1a : wa.cell? ⟨w.heap.size, 1, none⟩ = some ku := by rw [hwa]; simp
 have c0 : w1.cell? ⟨w.heap.size, 0, none⟩ = some (.int .i64 a) := pw_cell_below hB1 c0a
 have c1 : w1.cell? ⟨w.heap.size, 1, none⟩ = some ku := pw_cell_below hB1 c1a
 have HB := Aside0.mk hB
 have HK := Aside0.mk (hk.below hB)
 have HV := Aside0.mk (hv.below hB)
 have HS := Aside0.mk (ReadS.one' (hv.below hBa))
 rw [← hw1, hsa] at HS
 have hlf := hv.len
 obtain ⟨A1, d1, rfl, -⟩ := id hk
 obtain ⟨A2, d2, rfl, -⟩ := id hv
 clear hk hv hB hBa hB1 hsa
 subst hwa
 obtain ⟨q, hq⟩ : ∃ q, q = codeFun a xs true [f] := ⟨_, rfl⟩
 have HQ := Aside0.mk hq
 by_cases h0 : q = 0
 ·have h0' := hq.symm.trans h0
  obtain ⟨n, rfl, hcn, hbl, hfl, -⟩ := codeFun_zero h0'
  have HN := Aside0.mk hcn
  have HL := Aside0.mk hfl
  have HBL := Aside0.mk hbl
  have hxl := hcn.len
  have hf63 : f.length ≤ 63 := by omega
  have HA := Aside0.mk (ansEul_hit h0')
  have hUl := (uniq_ok f).2.2
  obtain ⟨U, hU⟩ : ∃ U, U = uniqF f := ⟨_, rfl⟩
  have HU := Aside0.mk hU
  rw [← hU] at HA hUl
  have hUf : U.length ≤ 63 := by omega
  subst h0
  clear hcn hbl hfl h0' hq hU hUl
  go_enter Try.func9, Try.ntmps9
  go_wp2_with (first | (go_at_call 22; rw [← hw1]; clear hw1 c0a c1a; refine (functionCode n _ xs true _ [f] _ HK.out HS.out).mono ?_; rintro e w2 ⟨rfl, hb⟩; rw [← HQ.out]; replace c0 := pw_cell_below hb c0; replace c1 := pw_cell_below hb c1; have HB2 := Aside0.mk hb; clear hb) | (go_at_call 25; refine (sliceValues A2 f.length d2 _).mono ?_; rintro e w3 ⟨rfl, hw3⟩; have hz3 : w3.heap.size = w2.heap.size + 1 := (by rw [hw3]; simp); have hb3 : Below w2.heap.size w2 w3 := (by rw [hw3]; exact Below.alloc (Below.refl _ _) (Nat.le_refl _) _); have HC3 : Aside0 (w3.cell? ⟨w2.heap.size, 0, none⟩ = some (.slice A2 f.length d2)) := ⟨by rw [hw3]; simp⟩; replace c0 := pw_cell_below hb3 c0; replace c1 := pw_cell_below hb3 c1; have HB3 := Aside0.mk (HB2.out.trans (hb3.mono HB2.out.size)); clear hw3 hb3) | (go_at_call 24; refine (sliceSorted _ _ A2 d2 f HV.out w3 HB3.out HC3.out (by omega) (by omega)).mono ?_; rintro e w4 ⟨vs, rfl, ho, hb⟩; obtain ⟨A4, d4, rfl, -⟩ := id ho.read; have HO4 := Aside0.mk ho; have k0 := c0; have k1 := c1; replace c0 := pw_cell_below hb c0; replace c1 := pw_cell_below hb c1; have HB4 := Aside0.mk hb; clear ho hb) | (go_at_call 23; refine (compactI w3 w4 _ (sortN f) HB4.out HO4.out (by have h : (sortN f).length = f.length := List.length_mergeSort _; omega)).mono ?_; rintro e w5 ⟨u, rfl, ho, hb⟩; rw [cp_uniq, ← HU.out] at ho; replace c0 := pw_cell_below hb k0; replace c1 := pw_cell_below hb k1; clear k0 k1; obtain ⟨A5, d5, rfl, -⟩ := id ho.read; have HO5 := Aside0.mk ho; have HB5 := Aside0.mk hb; clear ho hb))
  obtain ⟨wo, hwo⟩ : ∃ wo, wo = w5 := ⟨_, rfl⟩
  have HB5w := Aside0.mk (HB3.out.trans (HB5.out.mono HB3.out.size))
  go_loopw [7, 22] (fun s7 s22 wr => ∃ i : Nat, s22 = .int .i64 i ∧ i ≤ U.length ∧ Aside0 (OwnI w5.heap.size wr s7 ((U.take i).map (eulAt xs f))) ∧ Aside0 (Below w5.heap.size w5 wr)) (fun _ s22 _ => U.length - (intOf s22).toNat)
  case atStart => exact ⟨0, rfl, Nat.zero_le _, ⟨OwnI.nil _ _⟩, ⟨Below.refl _ _⟩⟩
  case round =>
   obtain ⟨i, rfl, hi, HOr, HBr⟩ := hrel
   have hml : ((U.take i).map (eulAt xs f)).length = i := by rw [List.length_map, List.length_take]; omega
   by_cases hlt : i < U.length
   ·have hltI : (i : Int) < (U.length : Int) := by omega
    obtain ⟨ad, y, rfl, hcell, HY⟩ := ReadI.get (by obtain ⟨_, _, e, _, h⟩ := HO5.out.read.below HBr.out; cases e; exact h) hlt
    have HMN := Aside0.mk (map_take_get (g := eulAt xs f) hlt HY.out)
    have HLV : Aside0 (thL (madeAt (levTo xs f y xs.length)) (2 ^ n) = xs.filter (madeAt (levTo xs f y xs.length))) := ⟨lev_law HN.out HBL.out (levTo_mem (Nat.le_refl _))⟩
    have HCL := Aside0.mk (HN.out.filter (madeAt (levTo xs f y xs.length)))
    replace c0 := pw_cell_below HBr.out c0
    replace c1 := pw_cell_below HBr.out c1
    have HBw := Aside0.mk (HB5w.out.trans (HBr.out.mono HB5w.out.size))
    obtain ⟨A7, d7, rfl, -⟩ := id HOr.out.read
    rw [hml] at HOr ⊢
    have HE : Aside0 (eulV (xs.filter (madeAt (levTo xs f y xs.length))) = eulAt xs f y) := ⟨rfl⟩
    obtain ⟨E, hE⟩ : ∃ E, E = eulAt xs f y := ⟨_, rfl⟩
    rw [← hE] at HMN HE
    clear hE hml
    go_wp2_with (first | (go_at_call 26; refine (level n _ xs _ f y _ (HK.out.below HBw.out) (HV.out.below HBw.out) HN.out HL.out).mono ?_; rintro e w6 ⟨u, rfl, ho, hb⟩; rw [HLV.out] at ho; obtain ⟨A6, d6, rfl, -⟩ := id ho.read; have HO6 := Aside0.mk ho; have HOr6 := Aside0.mk (HOr.out.below hb); have HB6 := Aside0.mk (HBr.out.trans (hb.mono HBr.out.size)); clear ho hb) | (go_at_call 27; refine (eulerI n _ _ _ HO6.out.read HCL.out).mono ?_; rintro e w7 ⟨rfl, hb⟩; rw [HE.out]; have HOr7 := Aside0.mk (HOr6.out.below hb); have HB7 := Aside0.mk (HB6.out.trans (hb.mono HB6.out.size)); clear hb) | (at_builtin; refine app_own (w0 := w5) w5.heap.size rfl (.tmp 26) (.tmp 32) rfl _ ((U.take i).map (eulAt xs f)) E rfl rfl HOr7.out HB7.out HB7.out.size ?hl ?_; (case hl => (rw [List.length_map, List.length_take]; omega)); intro v1 w8 ho hb hg hat; have HO8 := Aside0.mk ho; have HB8 := Aside0.mk hb; clear ho hb hg hat))
    go_roundw
    case rel => exact ⟨i + 1, by go_num, by omega, ⟨by rw [HMN.out]; exact HO8.out⟩, HB8⟩
    case measure => simp [intOf]; omega
   ·have e : i = U.length := by omega
    have HE := Aside0.mk e
    obtain ⟨A7, d7, rfl, -⟩ := id HOr.out.read
    rw [hml] at HOr ⊢
    clear e hml
    go_wp2
    go_ret2
    have hsz : w.heap.size ≤ w5.heap.size := Nat.le_trans HB.out.size HB5w.out.size
    have h := HOr.out.lower hsz
    have e2 : U.take i = U := by rw [HE.out, List.take_length]
    rw [e2] at h
    exact ⟨_, by rw [HA.out]; rfl, by rw [HA.out]; exact h, HB.out.trans ((HB5w.out.trans (HBr.out.mono HB5w.out.size)).mono HB.out.size)⟩
 ·have HA := Aside0.mk (ansEul_miss (a := a) (xs := xs) (f := f) (fun e => h0 (hq.trans e)))
  rw [← hq] at HA
  have h0n : (q != 0) = true := by simpa using h0
  clear hq h0
  go_enter Try.func9, Try.ntmps9
  go_wp2_with (first | (go_at_call 22; rw [← hw1]; clear hw1 c0a c1a; refine (functionCode a _ xs true _ [f] _ HK.out HS.out).mono ?_; rintro e w2 ⟨rfl, hb⟩; rw [← HQ.out]; have HB2 := Aside0.mk hb; clear hb))
  go_ret2
  exact ⟨_, by rw [HA.out]; rfl, by rw [HA.out]; exact OwnI.nil _ _, HB.out.trans (HB2.out.mono HB.out.size)⟩
set_option maxRecDepth 100000 in
set_option maxHeartbeats 4000000 in
theorem specEuler (n : Nat) (ku : Value) (xs : List Int) (w : World) (hk : ReadI w ku xs) (hc : Cx n xs) :
  Calls Try.prog 20 #[cx n ku] w fun e w' => e = .returned (.int .i64 (eulV xs)) ∧ Below w.heap.size w w' := by
 obtain ⟨w1, hw1⟩ : ∃ w1, w1 = w.alloc (.cells #[.int .i64 n, ku] 28) := ⟨_, rfl⟩
 have hB : Below w.heap.size w w1 := by rw [hw1]; exact Below.alloc (Below.refl _ _) (Nat.le_refl _) _
 have c0 : w1.cell? ⟨w.heap.size, 0, none⟩ = some (.int .i64 n) := by rw [hw1]; simp
 have c1 : w1.cell? ⟨w.heap.size, 1, none⟩ = some ku := by rw [hw1]; simp
 have HB := Aside0.mk hB
 have HC := Aside0.mk hc
 have hlen := hc.len
 obtain ⟨A1, d1, rfl, hcv, hrv⟩ := hk.below hB
 have HR := Aside0.mk hrv
 clear hk hB hcv hrv hc
 go_enter Try.func20, Try.ntmps20
 go_wp2
 rw [← hw1]
 clear hw1
 go_loopw [3, 4] (fun s3 s4 wr => ∃ i : Nat, s4 = .int .i64 i ∧ s3 = .int .i64 (eulV (xs.take i)) ∧ i ≤ xs.length ∧ Aside0 (Below w1.heap.size w1 wr)) (fun _ s4 _ => xs.length - (intOf s4).toNat)
 case atStart => exact ⟨0, rfl, rfl, Nat.zero_le _, ⟨Below.refl _ _⟩⟩
 case round =>
  obtain ⟨i, rfl, rfl, hi, HBr⟩ := hrel
  replace c0 := pw_cell_below HBr.out c0
  replace c1 := pw_cell_below HBr.out c1
  by_cases hlt : i < xs.length
  ·have hltI : (i : Int) < (xs.length : Int) := by omega
   obtain ⟨ad, y, rfl, hcell, HY⟩ := ReadI.get (Kd.C_below HR.out HBr.out) hlt
   obtain ⟨f, rfl, hf1, hf2⟩ := HC.out.nat (mem_at hlt HY.out)
   have hbd := eulV_bd (xs.take i)
   rw [List.length_take, Nat.min_eq_left hi] at hbd
   have HN := Aside0.mk (eulV_next hlt HY.out)
   have h0 := ones_pos f (by omega) hf1
   have HD := Aside0.mk (specOnes f (by omega))
   have h6 := ones_le f (by omega)
   obtain ⟨o, ho⟩ : ∃ o, o = ones f := ⟨_, rfl⟩
   rw [← ho] at h0 h6 HD
   obtain ⟨r, hr⟩ : ∃ r, r = o % 2 := ⟨_, rfl⟩
   have hr1 : Int.tmod (o : Int) 2 = (r : Int) := by rw [Int.tmod_eq_emod_of_nonneg (by omega)]; omega
   have hr2 : (o : Int) % 2 = (r : Int) := by omega
   have hr3 : r ≤ 1 := by omega
   have HT : Aside0 (eulT (f : Int) = 2 * (r : Int) - 1) := ⟨by unfold eulT; rw [Int.toNat_natCast, ← ho, Int.tmod_eq_emod_of_nonneg (by omega)]; omega⟩
   obtain ⟨E, hE⟩ : ∃ E, E = eulV (xs.take i) := ⟨_, rfl⟩
   rw [← hE] at hbd ⊢
   rw [← hE] at HN
   clear hE h0 h6 ho hr
   go_wp2_with (first | (go_at_call 45; refine (HD.out _).mono ?_; rintro e w2 ⟨rfl, hb⟩; have HB2 := Aside0.mk (HBr.out.trans (hb.mono HBr.out.size)); clear hb))
   go_roundw
   case rel => exact ⟨i + 1, by go_num, by rw [HN.out, HT.out] <;> first | rfl | (congr 1; omega) | (simp; omega), by omega, HB2⟩
   case measure => simp [intOf]; omega
  ·have e : i = xs.length := by omega
   have HE := Aside0.mk e
   clear e
   go_wp2
   go_ret
   exact ⟨by rw [HE.out, List.take_length]; rfl, HB.out.trans (HBr.out.mono HB.out.size)⟩
/-- the operations one behind the other -/
def tailList (P : Program) (Q : Exit → Act → World → Prop) : List Oper → Act → World → Prop
 | [], a, w => Q .normal a w
 | o :: r, a, w => opGives P o a.eval w (fun v w' => tailList P Q r (a.put o.dst v) w') ∨ ∃ w', (execOp a.eval o).run P w = .ok .skip w' ∧ tailList P Q r (a.put o.dst undef) w'
def tailOk (l : List Oper) (B : List Nat) (n k : Nat) : Bool :=
 decide (k < l.length) && (l.take k).all (fun o => o.dst.isSome) && l.all (fun o => o.guard.isNone) && decide (dsOf (l.take k)).Nodup && (dsOf (l.take k)).all (fun d => decide (d < n)) &&
 waitsOk (rtab .any l.toArray).2 B && baseOk (rtab .any l.toArray).2 (List.range l.length) &&
 (List.range l.length).all (fun i => decide (i < k) || (List.range i).all fun j => (B.getD i 0).testBit j) &&
 (List.range k).all (fun i => (List.range l.length).all fun j => decide (j < i) || !(B.getD i 0).testBit j)
theorem opGives_mono {P : Program} {o : Oper} {A : Act} {w : World} {R : Value → World → Prop} {K : Act → World → Prop} (h : opGives P o A.eval w R) (hR : ∀ v w', R v w' → K (A.put o.dst v) w') : opGives P o A.eval w fun v w' => K (A.put o.dst v) w' := by
 unfold opGives at h ⊢
 split
 ·next h1 => rw [h1] at h; exact hR _ _ h
 ·next f args w' h1 =>
  rw [h1] at h
  exact Calls.mono h fun e w'' ⟨v, e1, e2⟩ => ⟨v, e1, hR _ _ e2⟩
 ·next h1 h2 =>
  split at h
  ·next v w' h3 => exact (h1 _ _ h3).elim
  ·next f args w' h3 => exact (h2 _ _ _ h3).elim
  ·exact h
theorem wp_region_tail {P : Program} {id : Nat} {Q : Exit → Act → World → Prop} {a : Act} {w : World} {l : List Oper} (k : Nat) (V : Nat → Value → World → Prop) (B : List Nat) (hm : P.follows .mixedOrders = true) (hok : tailOk l B a.tmps.size k = true)
  (hV : ∀ i v w1 w2, Below w1.heap.size w1 w2 → V i v w1 → V i v w2)
  (hs : phiSteps P (l.take k) B V a w 0 (l.take k))
  (hend : ∀ s w1, Below w.heap.size w w1 → (∀ i, i < k → V i (s i) w1) → tailList P Q (l.drop k) (putAll (dsOf (l.take k)) 0 s a) w1) : (Code.region id l.toArray true).wp P Q a w := by
 simp only [tailOk, Bool.and_eq_true] at hok
 obtain ⟨⟨⟨⟨⟨⟨⟨⟨hk, h1⟩, h0⟩, h2⟩, h3⟩, h4⟩, h5⟩, hBt⟩, hBd⟩ := hok
 have hk : k < l.length := of_decide_eq_true hk
 have hnd : (dsOf (l.take k)).Nodup := of_decide_eq_true h2
 have hBt : ∀ i j, i < l.length → k ≤ i → j < i → (B.getD i 0).testBit j = true := by
  intro i j hi hki hj
  have := List.all_eq_true.1 hBt i (List.mem_range.2 hi)
  rw [decide_eq_false (by omega), Bool.false_or] at this
  exact List.all_eq_true.1 this j (List.mem_range.2 hj)
 have hBd : ∀ i j, i < k → j < l.length → (B.getD i 0).testBit j = true → j < i := by
  intro i j hi hj hij
  have := List.all_eq_true.1 (List.all_eq_true.1 hBd i (List.mem_range.2 hi)) j (List.mem_range.2 hj)
  rw [hij, Bool.not_true, Bool.or_false] at this
  exact of_decide_eq_true this
 have hTl : (rtab .any l.toArray).2.length = l.length := by rw [rtab_length]; simp
 have hdl : ∀ i, i < k → (l.take k)[i]? = l[i]? := fun i hi => by rw [List.getElem?_take_of_lt hi]
 have hlt : (l.take k).length = k := by rw [List.length_take]; omega
 have hds : ∀ (i : Nat) (o : Oper), i < k → l[i]? = some o → o.dst = some ((dsOf (l.take k))[i]?.getD 0) ∧ (dsOf (l.take k))[i]? = some (o.dst.getD 0) := by
  intro i o hi ho
  have ho' : (l.take k)[i]? = some o := (hdl i hi).trans ho
  have e : (dsOf (l.take k))[i]? = some (o.dst.getD 0) := by unfold dsOf; rw [List.getElem?_map, ho']; rfl
  refine ⟨?_, e⟩
  have := List.all_eq_true.1 h1 o (List.mem_of_getElem? ho')
  rw [e]
  cases hd : o.dst with
  | none => rw [hd] at this; cases this
  | some d => rfl
 have hrange : ∀ j, j < l.length → (List.range l.length).contains j = true := fun j hj => by simpa using hj
 refine wp_region_last_drew (S := fun _ => True) (ds := []) hm trivial (fun _ => ?_)
 refine inv_ (T := rtab .any l.toArray) (B := B) (List.range l.length) (fun b a' w' => (b k = false → ∃ s, a' = putAll (dsOf (l.take k)) 0 s a ∧ Below w.heap.size w w' ∧ ∀ i, i < k → b i = true → V i (s i) w') ∧ (∀ n, k < n → n ≤ l.length → (∀ j, j < n → b j = true) → (∀ j, n ≤ j → j < l.length → b j = false) → tailList P Q (l.drop n) a' w')) rfl h4 h5 ?_ ?_ ?_ ?_
 ·rw [hTl, Bool.and_eq_true, beq_iff_eq, beq_iff_eq]
  refine ⟨?_, by simp⟩
  apply List.ext_getElem
  ·simp [lof]
  ·intro i hi1 hi2
   have hi : i < l.length := by simpa [lof] using hi1
   simp [lof, hi]
 ·refine ⟨fun _ => ⟨fun k' => (a.tmps[(dsOf (l.take k))[k']?.getD 0]?).getD undef, ?_, (Below.refl _ _).drew, fun _ _ h => by cases h⟩, fun n hn _ hj _ => by have := hj 0 (by omega); cases this⟩
  refine (putAll_self _ _ _ _ (fun j d hj => ?_)).symm
  have hd := List.all_eq_true.1 h3 d (List.mem_of_getElem? hj)
  have hd' : d < a.tmps.size := of_decide_eq_true hd
  simp [hj, hd']
 ·intro i hi b a' w' ⟨hA, hT⟩ hbi hon hoff
  have hil : i < l.length := List.mem_range.1 hi
  have ho : l[i]? = some l[i] := List.getElem?_eq_getElem hil
  refine ⟨l[i], by simp, fun K hK => ?_⟩
  have hK' := Shut.out hK
  have hg : l[i].guard = none := by
   have := List.all_eq_true.1 h0 l[i] (List.mem_of_getElem? ho)
   cases hq : l[i].guard with
   | none => rfl
   | some g => rw [hq] at this; cases this
  rw [if_pos (by simp [Region.wanted, hg])]
  have hon' : ∀ j, j < l.length → (B.getD i 0).testBit j = true → b j = true := fun j hj hb => hon j (by rw [hrange j hj, hb]; rfl)
  have hoff' : ∀ d, d < l.length → (B.getD d 0).testBit i = true → b d = false := fun d hd hb => hoff d (by rw [hrange d hd, hb]; rfl)
  by_cases hik : i < k
  ·have hbk : b k = false := hoff' k hk (hBt k i hk (Nat.le_refl _) hik)
   obtain ⟨s, rfl, hbw, hvs⟩ := hA hbk
   have hst := phiSteps_at (l.take k) 0 hs i _ ((hdl i hik).trans ho)
   rw [Nat.zero_add] at hst
   refine opGives_wp (hst s w' hbw (fun j hj => ?_) _ (fun v w2 hb2 hv => ?_))
   ·have hj1 := (Bool.and_eq_true _ _ ▸ hj : _ ∧ _)
    have hjk : j < k := by have := hj1.1; rw [hlt] at this; simpa using this
    exact hvs j hjk (hon' j (by omega) hj1.2)
   ·rw [(hds i _ hik ho).1, (hds i _ hik ho).2, Option.getD_some, putAll_put _ _ _ _ _ _ _ hnd (Nat.zero_le _) (by rw [Nat.sub_zero]; exact (hds i _ hik ho).2)]
    refine hK' _ _ ⟨fun _ => ⟨upd s i v, rfl, hbw.trans (hb2.mono hbw.size), fun j hj hbj => ?_⟩, fun n hn hnl hj _ => ?_⟩
    ·by_cases hji : j = i
     ·subst hji; rw [show upd s j v j = v by simp [upd]]; exact hv
     ·rw [up_ne hji] at hbj; rw [show upd s i v j = s j by simp [upd, hji]]
      exact hV _ _ _ _ hb2 (hvs j hj hbj)
    ·have := hj k hn
     rw [up_ne (by omega), hbk] at this
     cases this
  ·have hall : ∀ j, j < i → b j = true := fun j hj => hon' j (by omega) (hBt i j hil (by omega) hj)
   have hnone : ∀ j, i ≤ j → j < l.length → b j = false := by
    intro j hj hjl
    by_cases hji : j = i
    ·subst hji; exact hbi
    ·exact hoff' j hjl (hBt j i hjl (by omega) (by omega))
   have htl : tailList P Q (l.drop i) a' w' := by
    by_cases hki : i = k
    ·subst hki
     obtain ⟨s, rfl, hbw, hvs⟩ := hA hbi
     exact hend s w' hbw (fun j hj => hvs j hj (hall j hj))
    ·exact hT i (by omega) (by omega) hall hnone
   rw [List.drop_eq_getElem_cons hil] at htl
   have hnext : ∀ a2 w2, tailList P Q (l.drop (i + 1)) a2 w2 → K a2 w2 := by
    intro a2 w2 hq
    refine hK' _ _ ⟨fun h => ?_, fun n hn hnl hj hj2 => ?_⟩
    ·by_cases hki : i = k
     ·subst hki; rw [up_self] at h; cases h
     ·rw [up_ne (by omega)] at h
      have := hall k (by omega)
      rw [h] at this; cases this
    ·have hni : n = i + 1 := by
      by_cases h6 : n ≤ i
      ·have := hj2 i h6 hil
       rw [up_self] at this; cases this
      ·by_cases h7 : i + 1 < n
       ·have := hj (i + 1) h7
        rw [up_ne (by omega), hnone (i + 1) (by omega) (by omega)] at this
        cases this
       ·omega
     subst hni
     exact hq
   rcases htl with htl | ⟨w2, h1, h2⟩
   ·refine opGives_wp (opGives_mono htl (fun v w2 hq => hnext _ _ hq))
   ·unfold Oper.wp
    rw [h1]
    exact hnext _ _ h2
 ·intro b a' w' hall ⟨hA, hT⟩
  have := hT l.length hk (Nat.le_refl _) (fun j hj => hall j (hrange j hj)) (fun j h1 h2 => by omega)
  rw [List.drop_length] at this
  exact this
/-- xs[k:] -/
theorem ReadI.from_ {w : World} {A : Option Addr} {n c : Nat} {xs : List Int} (h : ReadI w (.slice A n c) xs) {k : Nat} (hk : k ≤ xs.length) :
  ∃ A' c', (∀ W : World, (Instr.slice 22 (.slice A n c) (some (.int .i64 (k : Int))) none none).run Try.prog W = .ok (.slice A' (xs.length - k) c') W) ∧ ReadI w (.slice A' (xs.length - k) c') (xs.drop k) ∧ (A ≠ none → A' ≠ none) := by
 obtain ⟨A0, c0, e, hc, hr⟩ := h
 cases e
 obtain ⟨i, hi, hs⟩ := Option.map_eq_some_iff.1 (show (Try.prog.info? 2).map (·.size) = some 1 by kernel_rfl)
 have h2 : (k : Int) ≤ (xs.length : Int) := by omega
 have hrun : ∀ W : World, (Instr.slice 22 (.slice A xs.length c) (some (.int .i64 (k : Int))) none none).run Try.prog W = .ok (.slice (if c = k then A else A.map (·.add k)) (xs.length - k) (c - k)) W := fun W => by
  have h3 : ¬ xs.length < k := by omega
  by_cases hck : c = k
  ·simp [Instr.slice, Instr.sliceBounds, Instr.sliceBound, asIntOf, run_underlying Try.underlying22, sizeOf, typeInfo, hi, hs, go_sem, h2, h3, hck]
  ·simp [Instr.slice, Instr.sliceBounds, Instr.sliceBound, asIntOf, run_underlying Try.underlying22, sizeOf, typeInfo, hi, hs, go_sem, h2, h3, hck]
 have hne : A ≠ none → (if c = k then A else A.map (·.add k)) ≠ none := fun hA => by
  split
  ·exact hA
  ·cases A with
   | none => exact absurd rfl hA
   | some a => simp
 refine ⟨_, _, hrun, ⟨_, _, by rw [List.length_drop], by rw [List.length_drop]; omega, Kd.C_of_reads (d := (0 : Int)) (h1 := fun _ => rfl) ⟨rfl, by rw [List.length_drop]; have := hr.2.1; omega, fun hp => ?_⟩⟩, hne⟩
 rw [List.length_drop] at hp
 obtain ⟨ad, e, -⟩ := ReadI.at_ hr (i := k) (by omega)
 refine ⟨ad.add k, by rw [if_neg (by omega), e]; rfl, fun j hj => ?_⟩
 rw [List.length_drop] at hj
 obtain ⟨ad', e', hcell⟩ := ReadI.at_ hr (i := k + j) (by omega)
 rw [e] at e'
 cases e'
 have ha : (ad.add k).add j = ad.add (k + j) := Go.Proofs.YtomofijniefelaaW.PrintWords.add_add ad k j
 rw [ha, hcell]
 simp [List.getD_eq_getElem?_getD]
/-- xs[:k] -/
theorem ReadI.to_ {w : World} {A : Option Addr} {n c : Nat} {xs : List Int} (h : ReadI w (.slice A n c) xs) {k : Nat} (hk : k ≤ xs.length) :
  (∀ W : World, (Instr.slice 22 (.slice A n c) none (some (.int .i64 (k : Int))) none).run Try.prog W = .ok (.slice A k c) W) ∧ ReadI w (.slice A k c) (xs.take k) := by
 obtain ⟨A0, c0, e, hc, hr⟩ := h
 cases e
 obtain ⟨i, hi, hs⟩ := Option.map_eq_some_iff.1 (show (Try.prog.info? 2).map (·.size) = some 1 by kernel_rfl)
 have h2 : (k : Int) ≤ (c : Int) := by omega
 have hl : (xs.take k).length = k := by rw [List.length_take]; omega
 refine ⟨fun W => ?_, ⟨A, c, by rw [hl], by rw [hl]; omega, Kd.C_of_reads (d := (0 : Int)) (h1 := fun _ => rfl) ⟨rfl, by rw [hl]; have := hr.2.1; omega, fun hp => ?_⟩⟩⟩
 ·have h3 : ¬ c < k := by omega
  by_cases hc0 : c = 0
  ·obtain rfl : k = 0 := by omega
   simp [Instr.slice, Instr.sliceBounds, Instr.sliceBound, asIntOf, run_underlying Try.underlying22, sizeOf, typeInfo, hi, hs, go_sem, h2, h3, hc0]
  ·simp [Instr.slice, Instr.sliceBounds, Instr.sliceBound, asIntOf, run_underlying Try.underlying22, sizeOf, typeInfo, hi, hs, go_sem, h2, h3, hc0]
 ·rw [hl] at hp ⊢
  obtain ⟨ad, e, -⟩ := ReadI.at_ hr (i := 0) (by omega)
  refine ⟨ad, e, fun j hj => ?_⟩
  obtain ⟨ad', e', hcell⟩ := ReadI.at_ hr (i := j) (by omega)
  rw [e] at e'
  cases e'
  rw [hcell]
  simp [List.getD_eq_getElem?_getD, List.getElem?_take, hj]
/-- a slice expression, its run told -/
theorem slice_exec {P : Program} {o : Oper} {ev : Operand → Value} {W : World} {t e : TypeId} {s : Operand} {lo hi : Option Operand} {u : Value} (ht : P.underlying t = some (.slice e)) (ho : o.op = .slice t s lo hi none) (hr : (Instr.slice t (ev s) (lo.map ev) (hi.map ev) none).run P W = .ok u W) : (execOp ev o).run P W = .ok (.value u) W := by
 have hel : P.elem t = e := by simp [Program.elem, ht]
 have h1 := run_sliceAt_slice (P := P) (w := W) t (ev s) (lo.map ev) (hi.map ev) none (by rw [hel]; exact ht)
 simp [execOp, ho, h1, hr]
section
variable {P : Program} {ops : Array Oper} {rest : List Oper} {o : Oper} {a : Act} {Q : Exit → Act → World → Prop}
theorem slice_told {W : World} {t e : TypeId} {s : Operand} {lo hi : Option Operand} {u : Value} (ht : P.underlying t = some (.slice e)) (hgd : o.guard = none) (ho : o.op = .slice t s lo hi none) (hr : ∀ W : World, (Instr.slice t (a.eval s) (lo.map a.eval) (hi.map a.eval) none).run P W = .ok u W) (h : wpList P ops Q rest (a.put o.dst u) W) : wpList P ops Q (o :: rest) a W :=
 Kd.event_run hgd (slice_exec ht ho (hr W)) h
end
set_option maxRecDepth 100000 in
set_option maxHeartbeats 1000000 in
theorem specOwnC (v : Value) (xs : List Int) (w : World) (hv : ReadI w v xs) (hl : xs.length ≤ 1000000) :
  Calls Try.prog 44 #[v] w fun e w' => ∃ u, e = .returned u ∧ OwnI w.heap.size w' u xs ∧ Below w.heap.size w w' := by
 obtain ⟨A, c, rfl, hc, hr⟩ := id hv
 obtain ⟨w1, hw1⟩ : ∃ w1, w1 = w.alloc (.cells #[] 2) := ⟨_, rfl⟩
 have hB : Below w.heap.size w w1 := by rw [hw1]; exact Below.alloc (Below.refl _ _) (Nat.le_refl _) _
 have hs1 : w.heap.size ≤ w1.heap.size := hB.size
 have HO := Aside0.mk (show OwnI w.heap.size w1 (.slice (some ⟨w.heap.size, 0, none⟩) 0 0) [] by rw [hw1]; exact OwnI.empty w (Nat.le_refl _))
 have HB := Aside0.mk hB
 have HR := Aside0.mk (Kd.C_below hr hB)
 clear hr hv hB
 go_enter Try.func44, Try.ntmps44
 go_wp2_with (first | ((with_reducible refine gate_builtin (b := .append) (xs := #[.tmp 3, .tmp 4]) rfl ?_); rw [← hw1]; clear hw1; refine Kd.R_append_row (Value.int .i64) (0 : Int) (w0 := w) w.heap.size rfl (.tmp 3) (.tmp 4) 22 2 (.int .i64 0) 8 rfl Try.underlying22 info64 rfl (by decide) _ [] xs A xs.length c (fun _ => True) rfl rfl (fun _ _ => trivial) HO.out HR.out HB.out hs1 (by simp; omega) ?_; intro v1 w2 ho hb hg hat; have HO2 := Aside0.mk ho; have HB2 := Aside0.mk hb; clear ho hb hg hat))
 go_ret
 exact ⟨_, rfl, HO2.out, HB2.out⟩
end Go.Proofs.Ytomofijniefelaa.H
