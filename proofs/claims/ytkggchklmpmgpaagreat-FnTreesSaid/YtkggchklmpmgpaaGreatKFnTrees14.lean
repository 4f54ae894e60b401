/- The code of a pairing, of the program. The code of a pairing, and the high face of a low one, of the reference. Faces that are reached by gradient steps: two worklists, one closure. Best trees: the plain law. Maps between complexes: plain words. Maps between complexes: isMap, mapCode, IsMap. The code for maps; IsMap. PairingByVertex: slices.Contains, append of pairs, byVertex. slices.Clone. Parts of a row of numbers; append of a row as one operation. Pushes and flows of chains: by bits and by lists. slices.IndexFunc, slices.ContainsFunc and areAll at []Pair. Marks over complexes. A slice of the call's own whose capacity was cut; copies of the reference. slices.Clone and slices.DeleteFunc at []int64. -/
import Derived.WalkSpells
import Derived.Deep.AppendLies
import Derived.Maps.AppendAt
import Derived.Lib.SliceRun
import Derived.Test.YtkggchklmpmgpaaGreatKFnTrees1
import Derived.Test.YtkggchklmpmgpaaGreatKFnTrees2
import Derived.Test.YtkggchklmpmgpaaGreatKFnTrees3
import Derived.Test.YtkggchklmpmgpaaGreatKFnTrees4
import Derived.Test.YtkggchklmpmgpaaGreatKFnTrees5
import Derived.Test.YtkggchklmpmgpaaGreatKFnTrees6
import Derived.Test.YtkggchklmpmgpaaGreatKFnTrees7
import Derived.Test.YtkggchklmpmgpaaGreatKFnTrees8
import Derived.Test.YtkggchklmpmgpaaGreatKFnTrees9
import Derived.Test.YtkggchklmpmgpaaGreatKFnTrees10
import Derived.Test.YtkggchklmpmgpaaGreatKFnTrees11
import Derived.Test.YtkggchklmpmgpaaGreatKFnTrees12
import Derived.Test.YtkggchklmpmgpaaGreatKFnTrees13

namespace Go.Proofs.YtkggchklmpmgpaaGreat.H
open Go.RowKit Go.Proofs.YtkggchklmpmgpaaGreatW.PrintWords Go.Proofs.YtkggchklmpmgpaaGreatW.PrintLast
set_option linter.unusedVariables false
set_option linter.unusedSimpArgs false
set_option maxRecDepth 100000 in
set_option maxHeartbeats 1000000 in
theorem pairThunk (w : World) (br bk bl : Nat) (r : Bool) (n : Nat) (ku : Value) (xs : List Int) (v : Value) (ps : List (Int × Int)) (hk : ReadI w ku xs) (hv : ReadP w v ps) (hc : Cx n xs)
  (h0 : w.cell? ⟨br, 0, none⟩ = some (.bool r)) (h1 : w.cell? ⟨bk, 0, none⟩ = some (.int .i64 n)) (h2 : w.cell? ⟨bk, 1, none⟩ = some ku) (h3 : w.cell? ⟨bl, 0, none⟩ = some v) :
  ThunkB w (.func (.func 324) #[] #[.pointer (some ⟨br, 0, none⟩), .pointer (some ⟨bk, 0, none⟩), .pointer (some ⟨bl, 0, none⟩)]) (r && pOk xs ps) := by
 refine ⟨_, _, _, rfl, Enters.mk' Tryz.func324 rfl rfl, fun w1 hb => ?_⟩
 have c0 := pw_cell_below hb h0
 have c1 := pw_cell_below hb h1
 have c2 := pw_cell_below hb h2
 have c3 := pw_cell_below hb h3
 have HI := Aside0.mk (isPairing n ku xs v ps w1 (hk.below hb) (hv.below hb) hc)
 obtain ⟨A1, d1, rfl, -⟩ := id hk
 obtain ⟨A2, d2, rfl, -⟩ := id hv
 clear hb h0 h1 h2 h3 hk hv hc
 show Calls _ _ #[_, _, _] _ _
 cases r with
 | false =>
  go_enter Tryz.func324, Tryz.ntmps324
  go_wp2
  go_ret
  exact ⟨rfl, Below.refl _ _⟩
 | true =>
  go_enter Tryz.func324, Tryz.ntmps324
  go_wp2_with (first | (go_at_call 325; refine HI.out.mono ?_; rintro e w2 ⟨rfl, hb2⟩))
  go_ret
  exact ⟨by rw [Bool.true_and]; rfl, hb2⟩
set_option maxRecDepth 100000 in
set_option maxHeartbeats 2000000 in
theorem pairingCode (a : Int) (ku : Value) (xs : List Int) (v : Value) (ps : List (Int × Int)) (r : Bool) (w : World) (hk : ReadI w ku xs) (hv : ReadP w v ps) :
  Calls Tryz.prog 192 #[cx a ku, v, .bool r] w fun e w' => e = .returned (.int .i64 (if cxOk a xs then (if r && pOk xs ps then 0 else 2) else 1)) ∧ Below w.heap.size w w' := by
 obtain ⟨w2, hw2⟩ : ∃ w2, w2 = (w.alloc (.cells #[.int .i64 a, ku] 26)).alloc (.cells #[v] 51) := ⟨_, rfl⟩
 have hB2 : Below w.heap.size w w2 := by rw [hw2]; exact ((Below.refl _ w).alloc (Nat.le_refl _) _).alloc (by simp) _
 have c0 : w2.cell? ⟨w.heap.size, 0, none⟩ = some (.int .i64 a) := by rw [hw2]; simp
 have c1 : w2.cell? ⟨w.heap.size, 1, none⟩ = some ku := by rw [hw2]; simp
 have c2 : w2.cell? ⟨w.heap.size + 1, 0, none⟩ = some v := by rw [hw2]; simp
 have hz2 : w2.heap.size = w.heap.size + 2 := by rw [hw2]; simp
 obtain ⟨w3, hw3⟩ : ∃ w3, w3 = w2.alloc (.cells #[.bool r] 4) := ⟨_, rfl⟩
 have hb3 : Below w2.heap.size w2 w3 := by rw [hw3]; exact Below.alloc (Below.refl _ _) (Nat.le_refl _) _
 have c3 : w3.cell? ⟨w.heap.size + 2, 0, none⟩ = some (.bool r) := by rw [hw3, ← hz2]; simp
 replace c0 := pw_cell_below hb3 c0
 replace c1 := pw_cell_below hb3 c1
 replace c2 := pw_cell_below hb3 c2
 have hB := hB2.trans (hb3.mono hB2.size)
 have HB := Aside0.mk hB
 have HM := Aside0.mk (complexCode2 a ku xs (.func (.func 324) #[] #[.pointer (some ⟨w.heap.size + 2, 0, none⟩), .pointer (some ⟨w.heap.size, 0, none⟩), .pointer (some ⟨w.heap.size + 1, 0, none⟩)]) (r && pOk xs ps) w3 (hk.below hB)
  (fun hx => by
   obtain ⟨n, rfl, hc, -⟩ := cxOk_cx hx
   exact pairThunk w3 _ _ _ r n ku xs v ps (hk.below hB) (hv.below hB) hc c3 c0 c1 c2) ⟨_, _, _, rfl⟩)
 obtain ⟨E, hE⟩ : ∃ E : Int, E = (if cxOk a xs then (if r && pOk xs ps then 0 else 2) else 1) := ⟨_, rfl⟩
 rw [← hE] at HM ⊢
 obtain ⟨A1, d1, rfl, -⟩ := id hk
 obtain ⟨A2, d2, rfl, -⟩ := id hv
 clear hk hv hB hB2 hb3 hE
 rw [hw2] at hw3
 clear hw2 hz2
 go_enter Tryz.func192, Tryz.ntmps192
 go_wp2_with (first | (go_at_call 188; rw [← hw3]; clear hw3; refine HM.out.mono ?_; rintro e w4 ⟨rfl, hb⟩))
 go_ret
 exact ⟨rfl, HB.out.trans (hb.mono HB.out.size)⟩
/-- the high face of the first pair with a low face -/
def highTo (ps : List (Int × Int)) (a : Int) : Int := match ps.find? (fun p => p.1 == a) with | some p => p.2 | none => 0
theorem high_hit : ∀ (ps : List (Int × Int)) (a : Int) (i : Nat) (x y : Int), ps[i]? = some (x, y) → (x == a) = true → (∀ j p, j < i → ps[j]? = some p → (p.1 == a) = false) → highTo ps a = y
 | [], _, _, _, _, h, _, _ => by simp at h
 | p :: r, a, 0, x, y, h, hx, _ => by
  simp at h
  subst h
  simp [highTo, List.find?, hx]
 | p :: r, a, i + 1, x, y, h, hx, hj => by
  have h0 := hj 0 p (by omega) (by simp)
  have := high_hit r a i x y (by simpa using h) hx (fun j q hq hs => hj (j + 1) q (by omega) (by simpa using hs))
  unfold highTo at this ⊢
  rw [List.find?, h0]
  exact this
theorem high_none (ps : List (Int × Int)) (a : Int) (h : ∀ j p, j < ps.length → ps[j]? = some p → (p.1 == a) = false) : highTo ps a = 0 := by
 unfold highTo
 rw [List.find?_eq_none.2 (fun p hp => by
  obtain ⟨j, hj⟩ := List.mem_iff_getElem?.1 hp
  have hlt := (List.getElem?_eq_some_iff.1 hj).1
  simp [h j p hlt hj])]
/-- the faces to which gradient steps lead -/
def nextOf (ps : List (Int × Int)) (a : Int) : List Int := if highTo ps a = 0 then [] else (below (highTo ps a).toNat).filter fun f => !(f == a)
/-- reached by at least one step -/
def Reach (N : Int → List Int) (a x : Int) : Prop := ∀ T : Int → Prop, (∀ y ∈ N a, T y) → (∀ y z, T y → z ∈ N y → T z) → T x
theorem Reach.one {N : Int → List Int} {a y : Int} (h : y ∈ N a) : Reach N a y := fun T h1 _ => h1 _ h
theorem Reach.step {N : Int → List Int} {a y z : Int} (h : Reach N a y) (hz : z ∈ N y) : Reach N a z := fun T h1 h2 => h2 _ _ (h T h1 h2) hz
/-- numbers of a set below 64 -/
def cnt (S : Int → Bool) : Nat := (List.range 64).countP fun (z : Nat) => S (z : Int)
theorem cnt_le (S : Int → Bool) : cnt S ≤ 64 := by
 unfold cnt
 have := List.countP_le_length (p := fun z : Nat => S (z : Int)) (l := List.range 64)
 simpa using this
theorem countP_add (S : Int → Bool) (x : Nat) (h : S (x : Int) = false) : ∀ n, (List.range n).countP (fun (z : Nat) => (z : Int) == (x : Int) || S (z : Int)) = (List.range n).countP (fun (z : Nat) => S (z : Int)) + (if x < n then 1 else 0)
 | 0 => by simp
 | n + 1 => by
  rw [List.range_succ, List.countP_append, List.countP_append, countP_add S x h n, List.countP_singleton, List.countP_singleton]
  by_cases e : n = x
  ·subst e
   rw [h]
   simp
  ·have e2 : ((n : Int) == (x : Int)) = false := by rw [beq_eq_false_iff_ne]; omega
   rw [e2, Bool.false_or]
   have e3 : (x < n + 1) ↔ x < n := by omega
   simp only [e3]
   omega
theorem cnt_add {S : Int → Bool} {x : Int} (h : S x = false) (h0 : 0 ≤ x) (h1 : x < 64) : cnt (fun z => z == x || S z) = cnt S + 1 := by
 obtain ⟨n, rfl⟩ : ∃ n : Nat, x = n := ⟨x.toNat, by omega⟩
 unfold cnt
 rw [countP_add S n h 64, if_pos (by omega)]
theorem cnt_none : cnt (fun _ => false) = 0 := by decide
/-- a queue -/
def BI (N : Int → List Int) (a : Int) (S : Int → Bool) (Q : List Int) : Prop :=
 (∀ x, S x = true → Reach N a x) ∧ (∀ q ∈ Q, q = a ∨ S q = true) ∧ (∀ x, (x = a ∨ S x = true) → x ∈ Q ∨ ∀ y ∈ N x, S y = true)
theorem BI.start (N : Int → List Int) (a : Int) : BI N a (fun _ => false) [a] := by
 refine ⟨fun x h => (by cases h), fun q hq => .inl (by simpa using hq), fun x h => .inl ?_⟩
 rcases h with h | h
 ·simp [h]
 ·cases h
theorem BI.add {N : Int → List Int} {a : Int} {S : Int → Bool} {Q : List Int} {q f : Int} (h : BI N a S Q) (hq : q ∈ Q) (hf : f ∈ N q) : BI N a (fun z => z == f || S z) (Q ++ [f]) := by
 obtain ⟨h1, h2, h3⟩ := h
 refine ⟨fun x hx => ?_, fun z hz => ?_, fun x hx => ?_⟩
 ·simp only [Bool.or_eq_true, beq_iff_eq] at hx
  rcases hx with rfl | hx
  ·rcases h2 q hq with rfl | hs
   ·exact Reach.one hf
   ·exact Reach.step (h1 q hs) hf
  ·exact h1 x hx
 ·rcases List.mem_append.1 hz with hz | hz
  ·rcases h2 z hz with e | e
   ·exact .inl e
   ·exact .inr (by simp [e])
  ·right; simp at hz; simp [hz]
 ·by_cases e : x = f
  ·left; simp [e]
  ·have hx' : x = a ∨ S x = true := by
    rcases hx with hx | hx
    ·exact .inl hx
    ·simp only [Bool.or_eq_true, beq_iff_eq] at hx
     exact .inr (hx.resolve_left e)
   rcases h3 x hx' with h | h
   ·exact .inl (List.mem_append_left _ h)
   ·exact .inr (fun y hy => by simp [h y hy])
theorem BI.pop {N : Int → List Int} {a : Int} {S : Int → Bool} {Q : List Int} {q : Int} (h : BI N a S (q :: Q)) (hd : ∀ y ∈ N q, S y = true) : BI N a S Q := by
 obtain ⟨h1, h2, h3⟩ := h
 refine ⟨h1, fun z hz => h2 z (List.mem_cons_of_mem _ hz), fun x hx => ?_⟩
 rcases h3 x hx with h | h
 ·rcases List.mem_cons.1 h with rfl | h
  ·exact .inr hd
  ·exact .inl h
 ·exact .inr h
theorem BI.fin {N : Int → List Int} {a : Int} {S : Int → Bool} (h : BI N a S []) (x : Int) : S x = true ↔ Reach N a x := by
 obtain ⟨h1, h2, h3⟩ := h
 refine ⟨h1 x, fun hr => hr (fun z => S z = true) (fun y hy => ?_) (fun y z hy hz => ?_)⟩
 ·exact ((h3 a (.inl rfl)).resolve_left (by simp)) y hy
 ·exact ((h3 y (.inr hy)).resolve_left (by simp)) z hz
/-- a stack -/
def SI (N : Int → List Int) (a : Int) (S : Int → Bool) (T : List Int) : Prop :=
 (∀ x, S x = true → Reach N a x) ∧ (∀ s ∈ T, Reach N a s) ∧ (∀ y ∈ N a, S y = true ∨ y ∈ T) ∧ (∀ x, S x = true → ∀ y ∈ N x, S y = true ∨ y ∈ T)
theorem SI.start (N : Int → List Int) (a : Int) : SI N a (fun _ => false) (N a) :=
 ⟨fun x h => (by cases h), fun s hs => Reach.one hs, fun y hy => .inr hy, fun x h => (by cases h)⟩
theorem SI.skip {N : Int → List Int} {a : Int} {S : Int → Bool} {T T' : List Int} {x : Int} (h : SI N a S T') (e : ∀ z, z ∈ T' ↔ z = x ∨ z ∈ T) (hx : S x = true) : SI N a S T := by
 obtain ⟨h1, h2, h3, h4⟩ := h
 refine ⟨h1, fun s hs => h2 s ((e s).2 (.inr hs)), fun y hy => ?_, fun z hz y hy => ?_⟩
 ·rcases h3 y hy with h | h
  ·exact .inl h
  ·rcases (e y).1 h with rfl | h
   ·exact .inl hx
   ·exact .inr h
 ·rcases h4 z hz y hy with h | h
  ·exact .inl h
  ·rcases (e y).1 h with rfl | h
   ·exact .inl hx
   ·exact .inr h
theorem SI.mark {N : Int → List Int} {a : Int} {S : Int → Bool} {T T' U : List Int} {x : Int} (h : SI N a S T') (e : ∀ z, z ∈ T' ↔ z = x ∨ z ∈ T) (eu : ∀ z, z ∈ U ↔ z ∈ N x ∨ z ∈ T) : SI N a (fun z => z == x || S z) U := by
 obtain ⟨h1, h2, h3, h4⟩ := h
 have hx : Reach N a x := h2 x ((e x).2 (.inl rfl))
 refine ⟨fun z hz => ?_, fun s hs => ?_, fun y hy => ?_, fun z hz y hy => ?_⟩
 ·simp only [Bool.or_eq_true, beq_iff_eq] at hz
  rcases hz with rfl | hz
  ·exact hx
  ·exact h1 z hz
 ·rcases (eu s).1 hs with h | h
  ·exact Reach.step hx h
  ·exact h2 s ((e s).2 (.inr h))
 ·rcases h3 y hy with h | h
  ·exact .inl (by simp [h])
  ·rcases (e y).1 h with rfl | h
   ·exact .inl (by simp)
   ·exact .inr ((eu y).2 (.inr h))
 ·simp only [Bool.or_eq_true, beq_iff_eq] at hz
  rcases hz with rfl | hz
  ·exact .inr ((eu y).2 (.inl hy))
  ·rcases h4 z hz y hy with h | h
   ·exact .inl (by simp [h])
   ·rcases (e y).1 h with rfl | h
    ·exact .inl (by simp)
    ·exact .inr ((eu y).2 (.inr h))
theorem SI.fin {N : Int → List Int} {a : Int} {S : Int → Bool} (h : SI N a S []) (x : Int) : S x = true ↔ Reach N a x := by
 obtain ⟨h1, h2, h3, h4⟩ := h
 refine ⟨h1 x, fun hr => hr (fun z => S z = true) (fun y hy => ?_) (fun y z hy hz => ?_)⟩
 ·exact (h3 y hy).resolve_right (by simp)
 ·exact (h4 y hy z hz).resolve_right (by simp)
/-- what is reached, by a stack -/
def dfs (N : Int → List Int) : Nat → (Int → Bool) → List Int → Int → Bool
 | 0, S, _ => S
 | _ + 1, S, [] => S
 | n + 1, S, x :: T => if S x = true then dfs N n S T else dfs N n (fun z => z == x || S z) (N x ++ T)
theorem dfs_fin {N : Int → List Int} {a : Int} (hN : ∀ x, ∀ y ∈ N x, 0 ≤ y ∧ y < 64) (hl : ∀ x, (N x).length ≤ 6) : ∀ n S T, SI N a S T → (∀ z ∈ T, 0 ≤ z ∧ z < 64) → (64 - cnt S) * 7 + T.length ≤ n → SI N a (dfs N n S T) []
 | 0, S, T, h, _, hm => by
  obtain rfl : T = [] := List.eq_nil_of_length_eq_zero (by omega)
  exact h
 | n + 1, S, [], h, _, _ => h
 | n + 1, S, x :: T, h, hb, hm => by
  simp only [List.length_cons] at hm
  by_cases hx : S x = true
  ·have e : dfs N (n + 1) S (x :: T) = dfs N n S T := by rw [dfs, if_pos hx]
   rw [e]
   exact dfs_fin hN hl n S T (h.skip (x := x) (fun z => by simp) hx) (fun z hz => hb z (List.mem_cons_of_mem _ hz)) (by omega)
  ·have e : dfs N (n + 1) S (x :: T) = dfs N n (fun z => z == x || S z) (N x ++ T) := by rw [dfs, if_neg hx]
   rw [e]
   have hbx := hb x (by simp)
   have hc := cnt_add (S := S) (x := x) (by simpa using hx) hbx.1 hbx.2
   have hc2 := cnt_le (fun z => z == x || S z)
   refine dfs_fin hN hl n _ _ (h.mark (x := x) (T := T) (fun z => by simp) (fun z => by simp)) (fun z hz => ?_) ?_
   ·rcases List.mem_append.1 hz with hz | hz
    ·exact hN x z hz
    ·exact hb z (List.mem_cons_of_mem _ hz)
   ·have := hl x
    rw [hc] at hc2 ⊢
    rw [List.length_append]
    omega
/-- reached -/
def reachB (N : Int → List Int) (a x : Int) : Bool := dfs N 1000 (fun _ => false) (N a) x
theorem reachB_iff {N : Int → List Int} (hN : ∀ x, ∀ y ∈ N x, 0 ≤ y ∧ y < 64) (hl : ∀ x, (N x).length ≤ 6) (a x : Int) : reachB N a x = true ↔ Reach N a x :=
 (dfs_fin hN hl 1000 _ _ (SI.start N a) (hN a) (by rw [cnt_none]; have := hl a; omega)).fin x
theorem reach_of {N : Int → List Int} (hN : ∀ x, ∀ y ∈ N x, 0 ≤ y ∧ y < 64) (hl : ∀ x, (N x).length ≤ 6) {a : Int} {S : Int → Bool} (h : ∀ x, S x = true ↔ Reach N a x) (x : Int) : S x = reachB N a x := by
 rw [Bool.eq_iff_iff, h x, reachB_iff hN hl]
/-- no face comes back to itself -/
def acyB (ps : List (Int × Int)) : Bool := ps.all fun p => !reachB (nextOf ps) p.1 p.1
/-- pairs of faces -/
def PsDom (ps : List (Int × Int)) : Prop := ∀ p ∈ ps, (1 ≤ p.1 ∧ p.1 ≤ 63) ∧ (1 ≤ p.2 ∧ p.2 ≤ 63)
theorem pOk_dom {n : Nat} {xs : List Int} {ps : List (Int × Int)} (hc : Cx n xs) (h : pOk xs ps = true) : PsDom ps := by
 intro p hp
 obtain ⟨i, hi⟩ := List.mem_iff_getElem?.1 hp
 have hlt := (List.getElem?_eq_some_iff.1 hi).1
 unfold pOk at h
 have h1 := List.all_eq_true.1 h i (List.mem_range.2 hlt)
 unfold pOkAt pairAt at h1
 rw [List.getD_eq_getElem?_getD, hi] at h1
 simp only [Option.getD_some, Bool.and_eq_true, decide_eq_true_eq] at h1
 obtain ⟨a, ha, ha1, ha2⟩ := hc.nat h1.1.1
 obtain ⟨b, hb, hb1, hb2⟩ := hc.nat h1.1.2.1
 omega
theorem high_dom {ps : List (Int × Int)} (h : PsDom ps) (a : Int) : 0 ≤ highTo ps a ∧ highTo ps a ≤ 63 := by
 unfold highTo
 cases hf : ps.find? (fun p => p.1 == a) with
 | none => simp
 | some p => have := h p (List.mem_of_find?_eq_some hf); simp only; omega
theorem below_dom : ∀ f, f < 64 → (∀ x ∈ below f, 1 ≤ x ∧ x < 64) ∧ (below f).length ≤ 6 := by decide +kernel
theorem next_dom {ps : List (Int × Int)} (h : PsDom ps) (a : Int) : (∀ y ∈ nextOf ps a, 0 ≤ y ∧ y < 64) ∧ (nextOf ps a).length ≤ 6 := by
 have hh := high_dom h a
 unfold nextOf
 split
 ·simp
 ·have hb := below_dom (highTo ps a).toNat (by omega)
  refine ⟨fun y hy => ?_, Nat.le_trans (List.length_filter_le _ _) hb.2⟩
  have := hb.1 y (List.mem_filter.1 hy).1
  omega
/-- a question that keeps the least number -/
def pickV (n : Nat) (xs : List Int) (p q v : Nat) : Bool := !(p ||| q).testBit v && (lefts n p q == 1 || leastAt n xs p q v == leastV n xs p q)
def bestQ (n : Nat) (xs : List Int) (p q : Nat) : Nat := (List.range n).findIdx (pickV n xs p q)
theorem pick_byV {n : Nat} {xs : List Int} {p q v : Nat} (hf : (p ||| q).testBit v = false) : pickV n xs p q v = (byV n xs p q v == leastV n xs p q) := by
 unfold pickV byV
 rw [hf]
 by_cases h1 : lefts n p q = 1
 ·rw [if_pos h1, h1]
  by_cases ht : 0 ≤ toldV n xs p q
  ·rw [if_pos ht, leastV_told ht]; rfl
  ·rw [if_neg ht, leastV_last ht h1]; rfl
 ·rw [if_neg h1]
  have : (lefts n p q == 1) = false := by rw [beq_eq_false_iff_ne]; exact h1
  rw [this]; rfl
theorem pick_some {n : Nat} (hn : n ≤ 6) {xs : List Int} {p q : Nat} (hp : Pl n p q) (h0 : lefts n p q ≠ 0) : ∃ v, v < n ∧ pickV n xs p q v = true := by
 have hne : frees (p ||| q) n ≠ [] := by intro h; apply h0; unfold lefts; rw [h]; rfl
 obtain ⟨v0, hv0⟩ := List.exists_mem_of_ne_nil _ hne
 have hv0' := frees_mem.1 hv0
 by_cases h1 : lefts n p q = 1
 ·exact ⟨v0, hv0'.1, by unfold pickV; rw [hv0'.2, h1]; rfl⟩
 ·by_cases ht : 0 ≤ toldV n xs p q
  ·refine ⟨v0, hv0'.1, ?_⟩
   unfold pickV leastAt
   rw [hv0'.2, leastV_told ht, leastV_told (told_p ht), leastV_told (told_q ht)]
   simp
  ·have e := leastV_open hn hp ht h1
   rcases leastOf_at 64 (frees (p ||| q) n) (leastAt n xs p q) with h2 | ⟨v, hv, h2⟩
   ·have h3 : leastTo n xs p q n ≤ leastAt n xs p q v0 := leastOf_le.2 v0 hv0
    have i1 := leastV_pow hn xs (hp.yes hv0'.1 hv0'.2)
    have i2 := leastV_pow hn xs (hp.no hv0'.1 hv0'.2)
    have e1 := lefts_p hn hp hv0'.1 hv0'.2
    have e2 := lefts_q hn hp hv0'.1 hv0'.2
    have hb6 : lefts n p q ≤ 6 := Nat.le_trans (frees_len _ _) hn
    have hh : 2 ^ (lefts n p q - 1) ≤ 2 ^ 5 := Nat.pow_le_pow_right (by omega) (by omega)
    rw [show lefts n (p ||| 2 ^ v0) q = lefts n p q - 1 by omega] at i1
    rw [show lefts n p (q ||| 2 ^ v0) = lefts n p q - 1 by omega] at i2
    have h4 : leastTo n xs p q n = 64 := h2
    have h5 : leastAt n xs p q v0 = leastV n xs (p ||| 2 ^ v0) q + leastV n xs p (q ||| 2 ^ v0) := rfl
    refine ⟨v0, hv0'.1, ?_⟩
    unfold pickV
    have h6 : (leastAt n xs p q v0 == leastV n xs p q) = true := by rw [beq_iff_eq, e]; omega
    rw [hv0'.2, h6, Bool.or_true]; rfl
   ·have hv' := frees_mem.1 hv
    refine ⟨v, hv'.1, ?_⟩
    unfold pickV
    have h6 : (leastAt n xs p q v == leastV n xs p q) = true := by rw [beq_iff_eq, e]; exact h2.symm
    rw [hv'.2, h6, Bool.or_true]; rfl
theorem bestQ_lt {n : Nat} (hn : n ≤ 6) {xs : List Int} {p q : Nat} (hp : Pl n p q) (h0 : lefts n p q ≠ 0) : bestQ n xs p q < n ∧ pickV n xs p q (bestQ n xs p q) = true ∧ ∀ j, j < bestQ n xs p q → pickV n xs p q j = false := by
 obtain ⟨v, hv, hpv⟩ := pick_some hn (xs := xs) hp h0
 unfold bestQ
 have hlt : (List.range n).findIdx (pickV n xs p q) < (List.range n).length := List.findIdx_lt_length.2 ⟨v, List.mem_range.2 hv, hpv⟩
 rw [List.length_range] at hlt
 have h1 : (List.range n).findIdx (pickV n xs p q) = (List.range n).findIdx (pickV n xs p q) := rfl
 rw [List.findIdx_eq (by simpa using hlt)] at h1
 refine ⟨hlt, by simpa using h1.1, fun j hj => ?_⟩
 have := h1.2 j hj
 simpa using this
theorem bestQ_free {n : Nat} (hn : n ≤ 6) {xs : List Int} {p q : Nat} (hp : Pl n p q) (h0 : lefts n p q ≠ 0) : (p ||| q).testBit (bestQ n xs p q) = false := by
 have h := (bestQ_lt hn (xs := xs) hp h0).2.1
 unfold pickV at h
 rw [Bool.and_eq_true] at h
 simpa using h.1
/-- what was asked above a place of the best tree -/
def stq (n : Nat) (xs : List Int) (x : Nat) : Nat × Nat :=
 if h : x ≤ 1 then (0, 0) else
  let s := stq n xs (x / 2)
  if x % 2 = 1 then (s.1 ||| 2 ^ bestQ n xs s.1 s.2, s.2) else (s.1, s.2 ||| 2 ^ bestQ n xs s.1 s.2)
termination_by x
decreasing_by omega
theorem stq_one (n : Nat) (xs : List Int) : stq n xs 1 = (0, 0) := by rw [stq]; rfl
/-- the question at a place of the best tree -/
def bq (n : Nat) (xs : List Int) (x : Nat) : Nat := bestQ n xs (stq n xs x).1 (stq n xs x).2
theorem stq_odd {n : Nat} {xs : List Int} {x : Nat} (h : ¬ x ≤ 1) (h2 : x % 2 = 1) : stq n xs x = ((stq n xs (x / 2)).1 ||| 2 ^ bq n xs (x / 2), (stq n xs (x / 2)).2) := by
 conv => lhs; rw [stq]
 rw [dif_neg h]
 simp only
 rw [if_pos h2]; rfl
theorem stq_even {n : Nat} {xs : List Int} {x : Nat} (h : ¬ x ≤ 1) (h2 : ¬ x % 2 = 1) : stq n xs x = ((stq n xs (x / 2)).1, (stq n xs (x / 2)).2 ||| 2 ^ bq n xs (x / 2)) := by
 conv => lhs; rw [stq]
 rw [dif_neg h]
 simp only
 rw [if_neg h2]; rfl
theorem stq_pl {n : Nat} (hn : n ≤ 6) (xs : List Int) : ∀ i x, i ≤ n → 2 ^ i ≤ x → x < 2 ^ (i + 1) → Pl n (stq n xs x).1 (stq n xs x).2 ∧ lefts n (stq n xs x).1 (stq n xs x).2 + i = n
 | 0, x, _, h1, h2 => by
  obtain rfl : x = 1 := by omega
  rw [stq_one]
  refine ⟨⟨Nat.two_pow_pos n, Nat.two_pow_pos n, Nat.and_self 0⟩, ?_⟩
  show lefts n 0 0 + 0 = n
  unfold lefts frees
  rw [List.filter_eq_self.2 (fun v _ => by simp)]
  simp
 | i + 1, x, hi, h1, h2 => by
  rw [Nat.pow_succ] at h1
  rw [Nat.pow_succ] at h2
  have h0 : 1 ≤ 2 ^ i := Nat.one_le_two_pow
  have ih := stq_pl hn xs i (x / 2) (by omega) (by omega) (by rw [Nat.pow_succ] at h2 ⊢; omega)
  have hne : lefts n (stq n xs (x / 2)).1 (stq n xs (x / 2)).2 ≠ 0 := by omega
  have hlt := (bestQ_lt hn (xs := xs) ih.1 hne).1
  have hfr := bestQ_free hn (xs := xs) ih.1 hne
  by_cases hx : x % 2 = 1
  ·rw [stq_odd (by omega) hx]
   exact ⟨ih.1.yes hlt hfr, (by have := lefts_p hn ih.1 hlt hfr; omega : lefts n ((stq n xs (x / 2)).1 ||| 2 ^ bestQ n xs (stq n xs (x / 2)).1 (stq n xs (x / 2)).2) (stq n xs (x / 2)).2 + (i + 1) = n)⟩
  ·rw [stq_even (by omega) hx]
   exact ⟨ih.1.no hlt hfr, (by have := lefts_q hn ih.1 hlt hfr; omega : lefts n (stq n xs (x / 2)).1 ((stq n xs (x / 2)).2 ||| 2 ^ bestQ n xs (stq n xs (x / 2)).1 (stq n xs (x / 2)).2) + (i + 1) = n)⟩
/-- the best tree, and its first k places -/
def bestTo' (n : Nat) (xs : List Int) (k : Nat) : List Int := (List.range k).map fun i => (bq n xs (i + 1) : Int)
theorem bestTo'_succ (n : Nat) (xs : List Int) (k : Nat) : bestTo' n xs (k + 1) = bestTo' n xs k ++ [(bq n xs (k + 1) : Int)] := by unfold bestTo'; rw [List.range_succ, List.map_append]; rfl
theorem bestTo'_len (n : Nat) (xs : List Int) (k : Nat) : (bestTo' n xs k).length = k := by unfold bestTo'; simp
theorem bestTo'_get {n : Nat} {xs : List Int} {k i : Nat} (h : i < k) : (bestTo' n xs k).getD i 0 = (bq n xs (i + 1) : Int) := by unfold bestTo'; simp [List.getD_eq_getElem?_getD, h]
def bestL (n : Nat) (xs : List Int) : List Int := bestTo' n xs (2 ^ n - 1)
/-- what BestTree answers -/
def ansBestTree (a : Int) (xs : List Int) : List Int × Int := if cxOk a xs then (bestL a.toNat xs, 0) else ([], 1)
/-- a level of places -/
theorem level_of {n x : Nat} (h1 : 1 ≤ x) (h2 : x < 2 ^ n) : ∃ i, i < n ∧ 2 ^ i ≤ x ∧ x < 2 ^ (i + 1) := by
 induction n with
 | zero => rw [Nat.pow_zero] at h2; omega
 | succ n ih =>
  by_cases h : x < 2 ^ n
  ·obtain ⟨i, hi, a, b⟩ := ih h
   exact ⟨i, by omega, a, b⟩
  ·exact ⟨n, by omega, by omega, h2⟩
theorem bq_lt {n : Nat} (hn : n ≤ 6) (xs : List Int) {x : Nat} (h1 : 1 ≤ x) (h2 : x < 2 ^ n) : bq n xs x < n := by
 obtain ⟨i, hi, a, b⟩ := level_of h1 h2
 have := stq_pl hn xs i x (by omega) a b
 exact (bestQ_lt hn this.1 (by omega)).1
section
variable {P : Program} {ops : Array Oper} {rest : List Oper} {o : Oper} {a : Act} {Q : Exit → Act → World → Prop}
end
set_option maxRecDepth 100000 in
set_option maxHeartbeats 1000000 in
theorem cloneI (v : Value) (xs : List Int) (w : World) (hv : ReadI w v xs) (hl : xs.length ≤ 1000000) :
  Calls Tryz.prog 328 #[v] w fun e w' => ∃ u, e = .returned u ∧ OwnI w.heap.size w' u xs ∧ Below w.heap.size w w' := by
 obtain ⟨A, c, rfl, hc, hr⟩ := id hv
 cases A with
 | none =>
  have hx : xs = [] := by
   cases xs with
   | nil => rfl
   | cons a r =>
    obtain ⟨ad, e, -⟩ := hr.2.2 (by simp)
    cases e
  subst hx
  have hnil : ∀ W : World, (binOp .eql 24 (.slice none 0 c) (.slice none 0 0)).run Tryz.prog W = .ok (.bool true) W := fun W => Lib.run_eql_slice_nil W 24 2 none 0 c 0 0 Tryz.underlying24
  clear hr hv
  go_enter Tryz.func328, Tryz.ntmps328
  go_wp2
  go_ret
  exact ⟨_, rfl, OwnI.nil _ _, Below.refl _ _⟩
 | some ad =>
  have hnil : ∀ W : World, (binOp .eql 24 (.slice (some ad) xs.length c) (.slice none 0 0)).run Tryz.prog W = .ok (.bool false) W := fun W => Lib.run_eql_slice_nil W 24 2 (some ad) xs.length c 0 0 Tryz.underlying24
  obtain ⟨w1, hw1⟩ : ∃ w1, w1 = w.alloc (.cells #[] 2) := ⟨_, rfl⟩
  have hB : Below w.heap.size w w1 := by rw [hw1]; exact Below.alloc (Below.refl _ _) (Nat.le_refl _) _
  have hs1 : w.heap.size ≤ w1.heap.size := hB.size
  have HO := Aside0.mk (show OwnI w.heap.size w1 (.slice (some ⟨w.heap.size, 0, none⟩) 0 0) [] by rw [hw1]; exact OwnI.empty w (Nat.le_refl _))
  have HB := Aside0.mk hB
  have HR := Aside0.mk (Kd.C_below hr hB)
  clear hr hv hB
  go_enter Tryz.func328, Tryz.ntmps328
  go_wp2_with (first | ((with_reducible refine gate_builtin (b := .append) (xs := #[.tmp 5, .tmp 6]) rfl ?_); rw [← hw1]; clear hw1; refine Kd.R_append_row (Value.int .i64) (0 : Int) (w0 := w) w.heap.size rfl (.tmp 5) (.tmp 6) 24 2 (.int .i64 0) 8 rfl Tryz.underlying24 info64 rfl (by decide) _ [] xs (some ad) xs.length c (fun _ => True) rfl rfl (fun _ _ => trivial) HO.out HR.out HB.out hs1 (by simp; omega) ?_; intro v1 w2 ho hb hg hat; have HO2 := Aside0.mk ho; have HB2 := Aside0.mk hb; clear ho hb hg hat))
  go_ret
  exact ⟨_, rfl, HO2.out, HB2.out⟩
/-- xs[k:] -/
theorem ReadI.from_ {w : World} {A : Option Addr} {n c : Nat} {xs : List Int} (h : ReadI w (.slice A n c) xs) {k : Nat} (hk : k ≤ xs.length) :
  ∃ A' c', (∀ W : World, (Instr.slice 24 (.slice A n c) (some (.int .i64 (k : Int))) none none).run Tryz.prog W = .ok (.slice A' (xs.length - k) c') W) ∧ ReadI w (.slice A' (xs.length - k) c') (xs.drop k) ∧ (A ≠ none → A' ≠ none) := by
 obtain ⟨A0, c0, e, hc, hr⟩ := h
 cases e
 obtain ⟨i, hi, hs⟩ := Option.map_eq_some_iff.1 (show (Tryz.prog.info? 2).map (·.size) = some 1 by kernel_rfl)
 have h2 : (k : Int) ≤ (xs.length : Int) := by omega
 have hrun : ∀ W : World, (Instr.slice 24 (.slice A xs.length c) (some (.int .i64 (k : Int))) none none).run Tryz.prog W = .ok (.slice (if c = k then A else A.map (·.add k)) (xs.length - k) (c - k)) W := fun W => by
  have h3 : ¬ xs.length < k := by omega
  by_cases hck : c = k
  ·simp [Instr.slice, Instr.sliceBounds, Instr.sliceBound, asIntOf, run_underlying Tryz.underlying24, sizeOf, typeInfo, hi, hs, go_sem, h2, h3, hck]
  ·simp [Instr.slice, Instr.sliceBounds, Instr.sliceBound, asIntOf, run_underlying Tryz.underlying24, sizeOf, typeInfo, hi, hs, go_sem, h2, h3, hck]
 have hne : A ≠ none → (if c = k then A else A.map (·.add k)) ≠ none := fun hA => by
  split
  ·exact hA
  ·cases A with
   | none => exact absurd rfl hA
   | some a => simp
 refine ⟨_, _, hrun, ⟨_, _, by rw [List.length_drop], by rw [List.length_drop]; omega, Kd.C_of_reads (d := (0 : Int)) (h1 := fun _ => rfl) ⟨rfl, by rw [List.length_drop]; have := hr.2.1; omega, fun hp => ?_⟩⟩, hne⟩
 rw [List.length_drop] at hp
 obtain ⟨ad, e, -⟩ := ReadI.at_ hr (i := k) (by omega)
 refine ⟨ad.add k, by rw [if_neg (by omega), e]; rfl, fun j hj => ?_⟩
 rw [List.length_drop] at hj
 obtain ⟨ad', e', hcell⟩ := ReadI.at_ hr (i := k + j) (by omega)
 rw [e] at e'
 cases e'
 have ha : (ad.add k).add j = ad.add (k + j) := Go.Proofs.YtkggchklmpmgpaaGreatW.PrintWords.add_add ad k j
 rw [ha, hcell]
 simp [List.getD_eq_getElem?_getD]
/-- xs[:k] -/
theorem ReadI.to_ {w : World} {A : Option Addr} {n c : Nat} {xs : List Int} (h : ReadI w (.slice A n c) xs) {k : Nat} (hk : k ≤ xs.length) :
  (∀ W : World, (Instr.slice 24 (.slice A n c) none (some (.int .i64 (k : Int))) none).run Tryz.prog W = .ok (.slice A k c) W) ∧ ReadI w (.slice A k c) (xs.take k) := by
 obtain ⟨A0, c0, e, hc, hr⟩ := h
 cases e
 obtain ⟨i, hi, hs⟩ := Option.map_eq_some_iff.1 (show (Tryz.prog.info? 2).map (·.size) = some 1 by kernel_rfl)
 have h2 : (k : Int) ≤ (c : Int) := by omega
 have hl : (xs.take k).length = k := by rw [List.length_take]; omega
 refine ⟨fun W => ?_, ⟨A, c, by rw [hl], by rw [hl]; omega, Kd.C_of_reads (d := (0 : Int)) (h1 := fun _ => rfl) ⟨rfl, by rw [hl]; have := hr.2.1; omega, fun hp => ?_⟩⟩⟩
 ·have h3 : ¬ c < k := by omega
  by_cases hc0 : c = 0
  ·obtain rfl : k = 0 := by omega
   simp [Instr.slice, Instr.sliceBounds, Instr.sliceBound, asIntOf, run_underlying Tryz.underlying24, sizeOf, typeInfo, hi, hs, go_sem, h2, h3, hc0]
  ·simp [Instr.slice, Instr.sliceBounds, Instr.sliceBound, asIntOf, run_underlying Tryz.underlying24, sizeOf, typeInfo, hi, hs, go_sem, h2, h3, hc0]
 ·rw [hl] at hp ⊢
  obtain ⟨ad, e, -⟩ := ReadI.at_ hr (i := 0) (by omega)
  refine ⟨ad, e, fun j hj => ?_⟩
  obtain ⟨ad', e', hcell⟩ := ReadI.at_ hr (i := j) (by omega)
  rw [e] at e'
  cases e'
  rw [hcell]
  simp [List.getD_eq_getElem?_getD, List.getElem?_take, hj]
/-- a slice expression, its run told -/
theorem slice_exec {P : Program} {o : Oper} {ev : Operand → Value} {W : World} {t e : TypeId} {s : Operand} {lo hi : Option Operand} {u : Value} (ht : P.underlying t = some (.slice e)) (ho : o.op = .slice t s lo hi none) (hr : (Instr.slice t (ev s) (lo.map ev) (hi.map ev) none).run P W = .ok u W) : (execOp ev o).run P W = .ok (.value u) W := by
 have hel : P.elem t = e := by simp [Program.elem, ht]
 have h1 := run_sliceAt_slice (P := P) (w := W) t (ev s) (lo.map ev) (hi.map ev) none (by rw [hel]; exact ht)
 simp [execOp, ho, h1, hr]
section
variable {P : Program} {ops : Array Oper} {rest : List Oper} {o : Oper} {a : Act} {Q : Exit → Act → World → Prop}
theorem slice_told {W : World} {t e : TypeId} {s : Operand} {lo hi : Option Operand} {u : Value} (ht : P.underlying t = some (.slice e)) (hgd : o.guard = none) (ho : o.op = .slice t s lo hi none) (hr : ∀ W : World, (Instr.slice t (a.eval s) (lo.map a.eval) (hi.map a.eval) none).run P W = .ok u W) (h : wpList P ops Q rest (a.put o.dst u) W) : wpList P ops Q (o :: rest) a W :=
 Kd.event_run hgd (slice_exec ht ho (hr W)) h
end
set_option maxRecDepth 100000 in
/-- append(v, ys...) as one operation -/
theorem appendRow_gives {o : Oper} {ev : Operand → Value} {W : World} (base : Nat) (s x : Operand) (ho : o.op = .call { callee := .builtin .append, args := #[s, x], argTypes := #[24, 24] })
  (v : Value) (xs ys : List Int) (ad : Addr) (n c : Nat) (hs : ev s = v) (hx : ev x = .slice (some ad) n c) (hn : n = ys.length) (hr : ReadI W (.slice (some ad) n c) ys)
  (HO : OwnI base W v xs) (hbase : base ≤ W.heap.size) (hl : xs.length + ys.length < 1000000) {R : Value → World → Prop}
  (h : ∀ v1 w1, OwnI base w1 v1 (xs ++ ys) → W.grownBy w1 v.ownBlock → R v1 w1) : opGives Tryz.prog o ev W R := by
 obtain ⟨i64, hi, hii⟩ := Option.map_eq_some_iff.1 info64
 simp only [Prod.mk.injEq] at hii
 obtain ⟨hi0, hi1, hi2⟩ := hii
 obtain ⟨A0, c0, e0, -, hr⟩ := hr
 cases e0
 have hO := Kd.own_of_R HO
 obtain ⟨v', w', hrun, h2, h3, -⟩ := run_append_own_at (P := Tryz.prog) W base 24 o.type 2 _ (.int .i64 0) 1 8 Tryz.underlying24 hi hi0 hi1 hi2 rfl (by decide) v xs.length (xs.map (Value.int .i64)) hO ad ys.length c (ys.map (Value.int .i64)) (by rw [List.length_map, Nat.mul_one])
  (fun j u hj => by
   rw [List.getElem?_map] at hj
   obtain ⟨y, hy, rfl⟩ := Option.map_eq_some_iff.1 hj
   have hjl := (List.getElem?_eq_some_iff.1 hy).1
   obtain ⟨ad', e', hcell⟩ := ReadI.at_ hr hjl
   cases e'
   rw [hcell, List.getD_eq_getElem?_getD, hy]; rfl) (fun u hu => by
   obtain ⟨y, -, rfl⟩ := List.mem_map.1 hu
   rfl) (by simp only [maxLen]; omega) (by omega) hbase
 refine opGives_value (w' := w') (v := v') ?_ (h v' w' (OwnI.of_row (b := base) (by rw [List.length_append, List.map_append]; exact h2) (Nat.le_refl _)) h3)
 unfold execOp
 simp only [ho, resolve, invoke, builtin, Sem.run_bind, Sem.run_pure, Result.andThen_ok, List.map_toArray, List.map_cons, List.map_nil, hs, hx, hn, hrun]
/-- a function value of one pair that answers a bool, and makes memory at the most -/
def PredP (w : World) (fv : Value) (p : Int × Int → Bool) (dom : Int × Int → Prop) : Prop :=
 ∃ g first caps, fv = .func (.func g) first caps ∧ Enters g ∧ ∀ w1 x y, Below w.heap.size w w1 → dom (x, y) → Calls Tryz.prog g (first ++ #[.agg #[.int .i64 x, .int .i64 y]] ++ caps) w1 fun e w2 => e = .returned (.bool (p (x, y))) ∧ Below w1.heap.size w1 w2
theorem PredP.below {w w' : World} {fv : Value} {p : Int × Int → Bool} {dom : Int × Int → Prop} (h : PredP w fv p dom) (hb : Below w.heap.size w w') : PredP w' fv p dom := by
 obtain ⟨g, first, caps, rfl, hent, hp⟩ := h
 exact ⟨g, first, caps, rfl, hent, fun w1 x y h1 hd => hp w1 x y (hb.trans (h1.mono hb.size)) hd⟩
theorem idxP_found {p : Int × Int → Bool} {ps : List (Int × Int)} {i : Nat} {q : Int × Int} (hi : ps[i]? = some q) (h0 : ∀ (j : Nat) (q : Int × Int), j < i → ps[j]? = some q → p q = false) (h1 : p q = true) : idx p ps = i := by
 obtain ⟨hl, e1⟩ := List.getElem?_eq_some_iff.1 hi
 have e : ps.findIdx p = i := by
  rw [List.findIdx_eq hl]
  refine ⟨by rw [e1]; exact h1, fun j hj => h0 j _ hj (List.getElem?_eq_getElem (by omega))⟩
 unfold idx; rw [e, if_pos hl]
theorem idxP_none {p : Int × Int → Bool} {ps : List (Int × Int)} (h0 : ∀ (j : Nat) (q : Int × Int), ps[j]? = some q → p q = false) : idx p ps = -1 := by
 have e : ¬ ps.findIdx p < ps.length := by
  rw [List.findIdx_lt_length]
  rintro ⟨x, hx, hp⟩
  obtain ⟨j, hj, rfl⟩ := List.getElem_of_mem hx
  rw [h0 j _ (List.getElem?_eq_getElem hj)] at hp; cases hp
 unfold idx; rw [if_neg e]
set_option maxRecDepth 100000 in
set_option maxHeartbeats 1000000 in
theorem indexFuncP (v : Value) (ps : List (Int × Int)) (fv : Value) (p : Int × Int → Bool) (dom : Int × Int → Prop) (w : World) (hr : ReadP w v ps) (hp : PredP w fv p dom) (hd : ∀ q ∈ ps, dom q) :
  Calls Tryz.prog 394 #[v, fv] w fun e w' => e = .returned (.int .i64 (idx p ps)) ∧ Below w.heap.size w w' := by
 obtain ⟨g, first, caps, rfl, hent, hp⟩ := hp
 have HR := Aside0.mk hr
 obtain ⟨A, c, rfl, hl, -⟩ := id hr
 have HP := Aside0.mk hp
 have HD := Aside0.mk hd
 unfold Enters at hent
 clear hr hp hd
 go_enter Tryz.func394, Tryz.ntmps394
 go_wp2
 go_loopw [8] (fun v wr => ∃ i : Nat, v = .int .i64 i ∧ i ≤ ps.length ∧ Aside0 (∀ j q, j < i → ps[j]? = some q → p q = false) ∧ Aside0 (Below w.heap.size w wr)) (fun v _ => ps.length - (intOf v).toNat)
 case atStart => exact ⟨0, rfl, Nat.zero_le _, ⟨fun j _ hj => absurd hj (Nat.not_lt_zero _)⟩, ⟨Below.refl _ _⟩⟩
 case round =>
  obtain ⟨i, rfl, hi, HN, HB⟩ := hrel
  by_cases hlt : i < ps.length
  ·obtain ⟨gb, x, y, rfl, hxy, hc0, hc1⟩ := ReadP.get (HR.out.below HB.out) hlt
   have HX := Aside0.mk hxy
   have HDX := Aside0.mk (HD.out (x, y) (List.mem_of_getElem? hxy))
   clear hxy
   cases hpy : p (x, y) with
   | false =>
    go_wp2_with (first | (refine (HP.out _ _ _ HB.out HDX.out).mono ?_; rintro e w' ⟨rfl, hb2⟩))
    go_roundw
    case rel => exact ⟨i + 1, by go_num, by omega, ⟨fun j q hj hx => by
     rcases Nat.lt_succ_iff_lt_or_eq.1 hj with h | rfl
     ·exact HN.out j q h hx
     ·have := HX.out; rw [hx] at this; cases this; exact hpy⟩, ⟨HB.out.trans (hb2.mono HB.out.size)⟩⟩
    case measure => simp [intOf]; omega
   | true =>
    go_wp2_with (first | (refine (HP.out _ _ _ HB.out HDX.out).mono ?_; rintro e w' ⟨rfl, hb2⟩))
    go_ret
    exact ⟨by rw [idxP_found HX.out HN.out hpy]; rfl, HB.out.trans (hb2.mono HB.out.size)⟩
  ·go_wp2
   go_ret
   exact ⟨by rw [idxP_none (fun j q hj => HN.out j q (by have := (List.getElem?_eq_some_iff.1 hj).1; omega) hj)]; rfl, HB.out⟩
theorem idxP_any {p : Int × Int → Bool} {xs : List (Int × Int)} : decide (0 ≤ idx p xs) = xs.any p := by
 unfold idx
 cases h : xs.any p with
 | true =>
  have : xs.findIdx p < xs.length := by rw [List.findIdx_lt_length]; simpa using h
  rw [if_pos this]; simp
 | false =>
  have : ¬ xs.findIdx p < xs.length := by rw [List.findIdx_lt_length]; simpa using h
  rw [if_neg this]; simp
set_option maxHeartbeats 1000000 in
theorem containsFuncP (v : Value) (ps : List (Int × Int)) (fv : Value) (p : Int × Int → Bool) (dom : Int × Int → Prop) (w : World) (hr : ReadP w v ps) (hp : PredP w fv p dom) (hd : ∀ q ∈ ps, dom q) :
  Calls Tryz.prog 330 #[v, fv] w fun e w' => e = .returned (.bool (ps.any p)) ∧ Below w.heap.size w w' := by
 have HR := Aside0.mk hr
 have HP := Aside0.mk hp
 have HD := Aside0.mk hd
 clear hp hd
 obtain ⟨A, c, rfl, -⟩ := id hr
 clear hr
 go_enter Tryz.func330, Tryz.ntmps330
 go_wp2_with (first | (go_at_call 394; refine (indexFuncP _ _ _ _ _ _ HR.out HP.out HD.out).mono ?_; rintro e w' ⟨rfl, hb2⟩))
 go_ret
 exact ⟨by simp [← idxP_any], hb2⟩
set_option maxRecDepth 100000 in
set_option maxHeartbeats 1000000 in
theorem areAllP1 (w : World) (b : Nat) (fv : Value) (p : Int × Int → Bool) (dom : Int × Int → Prop) (hc : w.cell? ⟨b, 0, none⟩ = some fv) (hp : PredP w fv p dom) :
  PredP w (.func (.func 376) #[] #[.pointer (some ⟨b, 0, none⟩)]) (fun x => !p x) dom := by
 refine ⟨_, _, _, rfl, Enters.mk' Tryz.func376 rfl rfl, fun w1 x y hb hd => ?_⟩
 obtain ⟨g, first, caps, rfl, hent, hp⟩ := hp
 obtain ⟨w2, hw2⟩ : ∃ w2, w2 = w1.alloc (.cells #[.int .i64 x, .int .i64 y] 83) := ⟨_, rfl⟩
 have hB2 : Below w1.heap.size w1 w2 := by rw [hw2]; exact Below.alloc (Below.refl _ _) (Nat.le_refl _) _
 have hcell : w2.cell? ⟨b, 0, none⟩ = some (.func (.func g) first caps) := pw_cell_below hB2 (pw_cell_below hb hc)
 have c0 : w2.cell? ⟨w1.heap.size, 0, none⟩ = some (.int .i64 x) := by rw [hw2]; simp
 have c1 : w2.cell? ⟨w1.heap.size, 1, none⟩ = some (.int .i64 y) := by rw [hw2]; simp
 have hB := hb.trans (hB2.mono hb.size)
 have H := Aside0.mk (fun W (h : Below w2.heap.size w2 W) => hp W x y (hB.trans (h.mono hB.size)) hd)
 have HB := Aside0.mk hB2
 unfold Enters at hent
 have hcell2 : (w1.alloc (.cells #[.int .i64 x, .int .i64 y] 83)).cell? ⟨b, 0, none⟩ = some (.func (.func g) first caps) := by rw [← hw2]; exact hcell
 clear hp hb hd hc hB hB2
 show Calls _ _ #[_, _] _ _
 go_enter Tryz.func376, Tryz.ntmps376
 go_wp2_with (first | (rw [← hw2]; clear hw2 hcell2; refine (H.out _ (Below.refl _ _)).mono ?_; rintro e w' ⟨rfl, hb2⟩))
 go_ret
 exact ⟨by simp, HB.out.trans (hb2.mono HB.out.size)⟩
set_option maxRecDepth 100000 in
set_option maxHeartbeats 1000000 in
theorem areAllP (v : Value) (ps : List (Int × Int)) (fv : Value) (p : Int × Int → Bool) (dom : Int × Int → Prop) (w : World) (hr : ReadP w v ps) (hp : PredP w fv p dom) (hd : ∀ q ∈ ps, dom q) :
  Calls Tryz.prog 278 #[v, fv] w fun e w' => e = .returned (.bool (ps.all p)) ∧ Below w.heap.size w w' := by
 obtain ⟨g, first, caps, rfl, -⟩ := id hp
 have hba : Below w.heap.size w (w.alloc (.cells #[.func (.func g) first caps] 203)) := Below.alloc (Below.refl _ _) (Nat.le_refl _) _
 have HR := Aside0.mk (hr.below hba)
 have HP := Aside0.mk (areAllP1 (w.alloc (.cells #[.func (.func g) first caps] 203)) w.heap.size _ p dom (by simp) (hp.below hba))
 have HD := Aside0.mk hd
 have HB := Aside0.mk hba
 obtain ⟨A, c, rfl, -⟩ := id hr
 clear hr hp hba hd
 go_enter Tryz.func278, Tryz.ntmps278
 go_wp2_with (first | (go_at_call 330; refine (containsFuncP _ _ _ _ _ _ HR.out HP.out HD.out).mono ?_; rintro e w' ⟨rfl, hb2⟩))
 go_ret
 exact ⟨by simp [List.all_eq_not_any_not], HB.out.trans (hb2.mono HB.out.size)⟩
/-- a slice of the call's own, cut -/
theorem OwnI.cut {b : Nat} {w : World} {g n cap : Nat} {xs : List Int} (h : OwnI b w (.slice (some ⟨g, 0, none⟩) n cap) xs) {i : Nat} (hi : i ≤ n) : OwnI b w (.slice (some ⟨g, 0, none⟩) i cap) (xs.take i) := by
 have ho := Kd.own_of_R h
 have hn : xs.length = n := by
  obtain ⟨A, c, e, -⟩ := h.read
  injection e with _ e _
  exact e.symm
 obtain ⟨h1, h2⟩ := ho
 rcases h2 with ⟨h2, _⟩ | ⟨g', cap', cur, e, hb, hh, hl, hm, hs, ht⟩
 ·cases h2
 ·cases e
  refine OwnI.of_row (b' := b) ⟨?_, .inr ⟨g, cap, cur, ?_, hb, hh, ?_, hm, hs, ?_⟩⟩ (Nat.le_refl _)
  ·rw [List.length_map, Nat.mul_one]
  ·rw [List.length_take, Nat.min_eq_left (by omega)]
  ·rw [List.length_take]; omega
  ·have h3 := congrArg (List.take i) ht
   rw [List.take_take, Nat.mul_one, Nat.min_eq_left (by omega)] at h3
   rw [List.length_take, Nat.min_eq_left (by omega), Nat.mul_one, h3]
   show List.take i (xs.map (Value.int .i64)) = _
   rw [List.map_take]
theorem own_le {b : Nat} {w : World} {g n cap : Nat} {xs : List Int} (h : OwnI b w (.slice (some ⟨g, 0, none⟩) n cap) xs) : n ≤ cap := by
 obtain ⟨A, c, e, hle, -⟩ := h.read
 injection e with _ e1 e2
 omega
/-- zeros are written from o on -/
theorem own_zeros {b g n cap : Nat} : ∀ (m o : Nat) (w : World) (xs : List Int), OwnI b w (.slice (some ⟨g, 0, none⟩) n cap) xs → o + m ≤ n →
  ∃ ys, OwnI b (w.setCells g o (List.replicate m (.int .i64 0))) (.slice (some ⟨g, 0, none⟩) n cap) ys ∧ ys.take o = xs.take o ∧ w.grownBy (w.setCells g o (List.replicate m (.int .i64 0))) (some g)
 | 0, o, w, xs, h, _ => ⟨xs, h, rfl, World.grownBy.refl _ _⟩
 | m + 1, o, w, xs, h, hl => by
  have hput := OwnI.put h o 0
  have h2 := Kd.R_putg h (o : Int) 0
  simp only [Int.toNat_natCast] at h2
  obtain ⟨ys, h3, h4, h5⟩ := own_zeros (b := b) (g := g) (n := n) (cap := cap) m (o + 1) _ _ hput (by omega)
  refine ⟨ys, h3, ?_, grown_trans h2.2 h5⟩
  have h6 := congrArg (List.take o) h4
  rw [List.take_take, List.take_take, Nat.min_eq_left (Nat.le_succ o), List.take_set_of_le (Nat.le_refl o)] at h6
  exact h6
theorem zero64 (w : World) : (zeroValue 2).run Tryz.prog w = .ok (.int .i64 0) w := by kernel_rfl
section
variable {ops : Array Oper} {rest : List Oper} {o : Oper} {a : Act} {Q : Exit → Act → World → Prop}
/-- clear(s[i:]) -/
theorem clear_own {W : World} {b g n cap : Nat} {xs : List Int} (hgd : o.guard = none) (x : Operand) (ho : o.op = .call { callee := .builtin .clear, args := #[x], argTypes := #[24] })
  (i c : Nat) (hi : i < n) (HO : OwnI b W (.slice (some ⟨g, 0, none⟩) n cap) xs) (hx : a.eval x = .slice (some ⟨g, i, none⟩) (n - i) c)
  (h : ∀ w' ys, OwnI b w' (.slice (some ⟨g, 0, none⟩) n cap) ys → ys.take i = xs.take i → W.grownBy w' (some g) → wpList Tryz.prog ops Q rest (a.put o.dst (.tuple #[])) w') : wpList Tryz.prog ops Q (o :: rest) a W := by
 have hrun := Lib.run_clear_slice (P := Tryz.prog) W 24 2 o.type (.int .i64 0) Tryz.underlying24 zero64 rfl rfl g i (n - i) c (by omega)
  (fun j hj => by obtain ⟨⟨y, hy⟩, _⟩ := OwnI.slot HO (i := i + j) (by omega); rw [hy]; rfl) (fun j hj => (OwnI.slot HO (i := i + j) (by omega)).2)
 obtain ⟨ys, h1, h2, h3⟩ := own_zeros (n - i) i W xs HO (by omega)
 refine wpList_plain hgd fun K' hK' => ?_
 unfold Oper.wp
 simp [execOp, ho, resolve, invoke, builtin, hx, hrun, Result.andThen]
 exact hK' _ _ (h _ ys h1 h2 h3)
end
/-- what is kept of the first j -/
def keptTo (p : Int → Bool) (xs : List Int) (j : Nat) : List Int := (xs.take j).filter fun x => !p x
theorem kept_hit {p : Int → Bool} {xs : List Int} {j : Nat} {y : Int} (hj : j < xs.length) (hy : xs.getD j 0 = y) (h : p y = false) : keptTo p xs (j + 1) = keptTo p xs j ++ [y] := by
 unfold keptTo; rw [take_get hj hy, List.filter_append]; simp [h]
theorem kept_miss {p : Int → Bool} {xs : List Int} {j : Nat} {y : Int} (hj : j < xs.length) (hy : xs.getD j 0 = y) (h : p y = true) : keptTo p xs (j + 1) = keptTo p xs j := by
 unfold keptTo; rw [take_get hj hy, List.filter_append]; simp [h]
theorem kept_len (p : Int → Bool) (xs : List Int) (j : Nat) : (keptTo p xs j).length ≤ j := by
 unfold keptTo; exact Nat.le_trans (List.length_filter_le _ _) (List.length_take_le _ _)
theorem kept_all (p : Int → Bool) (xs : List Int) : keptTo p xs xs.length = xs.filter fun x => !p x := by unfold keptTo; rw [List.take_length]
theorem kept_first {p : Int → Bool} {xs : List Int} {i : Nat} (hi : i < xs.length) (h : xs.findIdx p = i) : keptTo p xs (i + 1) = xs.take i ∧ p (xs.getD i 0) = true := by
 rw [List.findIdx_eq hi] at h
 obtain ⟨h1, h2⟩ := h
 have e : xs.getD i 0 = xs[i] := by simp [List.getD_eq_getElem?_getD, hi]
 refine ⟨?_, by rw [e]; exact h1⟩
 rw [kept_miss hi e h1]
 unfold keptTo
 rw [List.filter_eq_self]
 intro x hx
 obtain ⟨k, hk, rfl⟩ := List.getElem_of_mem hx
 rw [List.length_take] at hk
 rw [List.getElem_take]
 have := h2 k (by omega)
 rw [this]; rfl
/-- the row while it is cut: the kept ones, and from j on what was there -/
def cutRow (p : Int → Bool) (xs : List Int) (j : Nat) (ys : List Int) : Prop := ys.length = xs.length ∧ ys.take (keptTo p xs j).length = keptTo p xs j ∧ ys.drop j = xs.drop j
theorem cut_get {p : Int → Bool} {xs : List Int} {j : Nat} {ys : List Int} (h : cutRow p xs j ys) : ys.getD j 0 = xs.getD j 0 := by
 have h1 := congrArg (fun l => l.getD 0 0) h.2.2
 simpa [List.getD_eq_getElem?_getD] using h1
theorem drop_next {xs ys : List Int} {j : Nat} (h : ys.drop j = xs.drop j) : ys.drop (j + 1) = xs.drop (j + 1) := by
 have := congrArg (List.drop 1) h
 rwa [List.drop_drop, List.drop_drop] at this
theorem cut_miss {p : Int → Bool} {xs : List Int} {j : Nat} {ys : List Int} {y : Int} (hj : j < xs.length) (hy : xs.getD j 0 = y) (hp : p y = true) (h : cutRow p xs j ys) : cutRow p xs (j + 1) ys := by
 refine ⟨h.1, ?_, drop_next h.2.2⟩
 rw [kept_miss hj hy hp]; exact h.2.1
theorem set_take_next {ys : List Int} {k : Nat} {y : Int} (h : k < ys.length) : (ys.set k y).take (k + 1) = ys.take k ++ [y] := by
 rw [List.take_succ_eq_append_getElem (by rw [List.length_set]; exact h), List.getElem_set_self, List.take_set_of_le (Nat.le_refl k)]
theorem cut_hit {p : Int → Bool} {xs : List Int} {j : Nat} {ys : List Int} {y : Int} (hj : j < xs.length) (hy : xs.getD j 0 = y) (hp : p y = false) (h : cutRow p xs j ys) : cutRow p xs (j + 1) (ys.set (keptTo p xs j).length y) := by
 have hl := kept_len p xs j
 obtain ⟨h1, h2, h3⟩ := h
 refine ⟨by rw [List.length_set]; exact h1, ?_, ?_⟩
 ·rw [kept_hit hj hy hp, List.length_append, List.length_singleton, set_take_next (by omega), h2]
 ·rw [List.drop_set_of_lt (by omega)]
  exact drop_next h3
set_option maxRecDepth 100000 in
set_option maxHeartbeats 4000000 in
theorem deleteFunc (w0 w : World) (v : Value) (xs : List Int) (fv : Value) (p : Int → Bool) (dom : Int → Prop) (hb : Below w0.heap.size w0 w) (ho : OwnI w0.heap.size w v xs) (hp : PredI w0 fv p dom) (hd : ∀ x ∈ xs, dom x) (hlen : xs.length ≤ 1000000) :
  Calls Tryz.prog 327 #[v, fv] w fun e w' => ∃ u, e = .returned u ∧ OwnI w0.heap.size w' u (xs.filter fun x => !p x) ∧ Below w0.heap.size w0 w' := by
 have HO := Aside0.mk ho
 have HB := Aside0.mk hb
 have HP := Aside0.mk hp
 have HD := Aside0.mk hd
 have HPW := Aside0.mk (hp.below hb)
 have HIX := Aside0.mk (indexFunc v xs fv p dom w ho.read (hp.below hb) hd)
 by_cases hfi : xs.findIdx p < xs.length
 ·obtain ⟨i0, hi0⟩ : ∃ i0, i0 = xs.findIdx p := ⟨_, rfl⟩
  have hix : idx p xs = (i0 : Int) := by unfold idx; rw [if_pos hfi, hi0]
  rw [hix] at HIX
  rw [← hi0] at hfi
  obtain ⟨hk0, hpi⟩ := kept_first hfi hi0.symm
  obtain ⟨g, cap, rfl, -⟩ := Kd.R_form ho (by omega)
  have hcr : cutRow p xs (i0 + 1) xs := ⟨rfl, by rw [hk0, List.length_take, Nat.min_eq_left (by omega)], rfl⟩
  have hkl : (keptTo p xs (i0 + 1)).length = i0 := by rw [hk0, List.length_take, Nat.min_eq_left (by omega)]
  have HKL := Aside0.mk hkl
  have HCR := Aside0.mk hcr
  have hle := own_le ho
  have hge := ho.base g (by simp [Value.ownBlock])
  obtain ⟨fg, first, caps, rfl, hent, hpc⟩ := hp
  have HPC := Aside0.mk hpc
  unfold Enters at hent
  have hne : ((i0 : Int) == -1) = false := by rw [beq_eq_false_iff_ne]; omega
  clear hi0 hix hk0 hpi hcr hkl ho hb hd hpc
  go_enter Tryz.func327, Tryz.ntmps327
  go_wp2_with (first | (go_at_call 302; refine HIX.out.mono ?_; rintro e w2 ⟨rfl, hb2⟩; have HO2 := Aside0.mk (HO.out.below hb2); have HB2 := Aside0.mk (HB.out.trans (hb2.mono HB.out.size)); clear hb2))
  go_loopw [5, 6] (fun s5 s6 wr => ∃ (j : Nat) (ys : List Int), s6 = .int .i64 j ∧ i0 < j ∧ j ≤ xs.length ∧ s5 = .int .i64 ((keptTo p xs j).length : Nat) ∧ (keptTo p xs j).length < j ∧ Aside0 (cutRow p xs j ys) ∧ Aside0 (OwnI w0.heap.size wr (.slice (some ⟨g, 0, none⟩) xs.length cap) ys) ∧ Aside0 (Below w0.heap.size w0 wr)) (fun _ s6 _ => xs.length - (intOf s6).toNat)
  case atStart => exact ⟨i0 + 1, xs, by go_num, by omega, by omega, by rw [HKL.out], by rw [HKL.out]; omega, HCR, HO2, HB2⟩
  case round =>
   obtain ⟨j, ys, rfl, hij, hj, rfl, hkj, HC, HOr, HBr⟩ := hrel
   obtain ⟨kl, hkl⟩ : ∃ kl, kl = (keptTo p xs j).length := ⟨_, rfl⟩
   have HKJ := Aside0.mk hkl
   rw [← hkl] at hkj ⊢
   clear hkl
   by_cases hlt : j < xs.length
   ·have hrd := HOr.out.read
    obtain ⟨A_, c_, e_, -, hcc⟩ := hrd
    have hyl : ys.length = xs.length := HC.out.1
    rw [hyl] at e_ hcc
    injection e_ with e1 _ e3
    subst e1 e3
    obtain ⟨ad, y, e1, hcell, HY⟩ := ReadI.get (xs := ys) (by rw [hyl]; exact hcc) (i := j) (by omega)
    cases e1
    rw [add_mk] at hcell
    have hyx : xs.getD j 0 = y := by rw [← cut_get HC.out]; exact HY.out
    have HYX := Aside0.mk hyx
    have hdy : dom y := HD.out y (mem_at hlt hyx)
    have HDY := Aside0.mk hdy
    have HCALL := Aside0.mk (HPC.out wr y HBr.out hdy)
    clear hcc hyl hyx hdy
    cases hpy : p y with
    | true =>
     have HKN := Aside0.mk (kept_miss (p := p) hlt HYX.out hpy)
     have HCN := Aside0.mk (cut_miss hlt HYX.out hpy HC.out)
     go_wp2_with (first | (refine HCALL.out.mono ?_; rintro e w3 ⟨rfl, hb3⟩; have HO3 := Aside0.mk (HOr.out.below hb3); have HB3 := Aside0.mk (HBr.out.trans (hb3.mono HBr.out.size)); clear hb3))
     go_roundw
     case rel => exact ⟨j + 1, ys, by go_num, by omega, by omega, by rw [HKN.out, ← HKJ.out], by rw [HKN.out, ← HKJ.out]; omega, HCN, HO3, HB3⟩
     case measure => simp [intOf]; omega
    | false =>
     have HKN := Aside0.mk (kept_hit (p := p) hlt HYX.out hpy)
     have HCN := Aside0.mk (cut_hit hlt HYX.out hpy HC.out)
     rw [← HKJ.out] at HCN
     go_wp2_with (first | (refine HCALL.out.mono ?_; rintro e w3 ⟨rfl, hb3⟩; have HO3 := Aside0.mk (HOr.out.below hb3); have HB3 := Aside0.mk (HBr.out.trans (hb3.mono HBr.out.size)); have hz3 := hb3.size; clear hb3) | ((with_reducible refine gate_store (t := 2) (p := 33) rfl ?_); refine store_own (w0 := w0) rfl (p := 33) rfl rfl kl y HO3.out ?ha ?hb ?hc ?_; (case ha => omega); (case hb => rfl); (case hc => rfl); intro w4 ho4 hg4 hb4; have HO4 := Aside0.mk ho4; have HB4 := Aside0.mk (HB3.out.trans hb4); clear ho4 hg4 hb4))
     go_roundw
     case rel => exact ⟨j + 1, _, by go_num, by omega, by omega, by rw [HKN.out, List.length_append, ← HKJ.out]; go_num, by rw [HKN.out, List.length_append, ← HKJ.out]; simp; omega, HCN, HO4, HB4⟩
     case measure => simp [intOf]; omega
   ·have e : j = xs.length := by omega
    have HE := Aside0.mk e
    have hkn : kl < xs.length := by omega
    have hck : ¬ cap = kl := by omega
    clear e
    go_wp2_with (first | ((with_reducible refine gate_builtin (b := .clear) (xs := #[.tmp 38]) rfl ?_); refine clear_own (b := w0.heap.size) rfl _ rfl kl (cap - kl) hkn HOr.out rfl ?_; intro w4 zs ho4 ht4 hg4; have HO4 := Aside0.mk (ho4.cut (i := kl) (by omega)); have HB4 := Aside0.mk (HBr.out.trans (below_grown hg4 hge HBr.out.size)); have HT4 := Aside0.mk ht4; clear ho4 ht4 hg4))
    go_ret
    refine ⟨_, rfl, ?_, HB4.out⟩
    have h1 := HO4.out
    rw [HT4.out] at h1
    have h2 := HC.out.2.1
    rw [← HKJ.out] at h2
    rw [h2, HE.out, kept_all] at h1
    exact h1
 ·have hix : idx p xs = -1 := by unfold idx; rw [if_neg hfi]
  rw [hix] at HIX
  have hall : (xs.filter fun x => !p x) = xs := by
   rw [List.filter_eq_self]
   intro x hx
   have h2 := List.findIdx_eq_length (p := p) (xs := xs)
   have h3 := (h2.1 (by have := List.findIdx_le_length (p := p) (xs := xs); omega)) x hx
   rw [h3]; rfl
  have HALL := Aside0.mk hall
  obtain ⟨A1, d1, rfl, -⟩ := id ho.read
  obtain ⟨fg, first, caps, rfl, -⟩ := hp
  clear hix hfi hall ho hb hd
  go_enter Tryz.func327, Tryz.ntmps327
  go_wp2_with (first | (go_at_call 302; refine HIX.out.mono ?_; rintro e w2 ⟨rfl, hb2⟩; have HO2 := Aside0.mk (HO.out.below hb2); have HB2 := Aside0.mk (HB.out.trans (hb2.mono HB.out.size)); clear hb2))
  go_ret
  exact ⟨_, rfl, by rw [HALL.out]; exact HO2.out, HB2.out⟩
end Go.Proofs.YtkggchklmpmgpaaGreat.H
