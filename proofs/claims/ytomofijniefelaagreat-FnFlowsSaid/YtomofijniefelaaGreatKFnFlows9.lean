/- The code of a pairing, of the program. The code of a pairing, and the high face of a low one, of the reference. Faces that are reached by gradient steps: two worklists, one closure. Pushes and flows of chains: by bits and by lists. slices.IndexFunc, slices.ContainsFunc and areAll at []Pair. Marks over complexes. What is known of a world is carried to the next one: the words of the printed laws. A slice of the call's own whose capacity was cut; copies of the reference. slices.Clone and slices.DeleteFunc at []int64. -/
import Derived.Lib.SliceRun
import Derived.Test.YtomofijniefelaaGreatKFnFlows1
import Derived.Test.YtomofijniefelaaGreatKFnFlows2
import Derived.Test.YtomofijniefelaaGreatKFnFlows3
import Derived.Test.YtomofijniefelaaGreatKFnFlows4
import Derived.Test.YtomofijniefelaaGreatKFnFlows5
import Derived.Test.YtomofijniefelaaGreatKFnFlows6
import Derived.Test.YtomofijniefelaaGreatKFnFlows7
import Derived.Test.YtomofijniefelaaGreatKFnFlows8

namespace Go.Proofs.YtomofijniefelaaGreat.H
open Go.RowKit Go.Proofs.YtomofijniefelaaGreatW.PrintWords Go.Proofs.YtomofijniefelaaGreatW.PrintLast
set_option linter.unusedVariables false
set_option linter.unusedSimpArgs false
set_option maxRecDepth 100000 in
set_option maxHeartbeats 1000000 in
theorem pairThunk (w : World) (br bk bl : Nat) (r : Bool) (n : Nat) (ku : Value) (xs : List Int) (v : Value) (ps : List (Int × Int)) (hk : ReadI w ku xs) (hv : ReadP w v ps) (hc : Cx n xs)
  (h0 : w.cell? ⟨br, 0, none⟩ = some (.bool r)) (h1 : w.cell? ⟨bk, 0, none⟩ = some (.int .i64 n)) (h2 : w.cell? ⟨bk, 1, none⟩ = some ku) (h3 : w.cell? ⟨bl, 0, none⟩ = some v) :
  ThunkB w (.func (.func 293) #[] #[.pointer (some ⟨br, 0, none⟩), .pointer (some ⟨bk, 0, none⟩), .pointer (some ⟨bl, 0, none⟩)]) (r && pOk xs ps) := by
 refine ⟨_, _, _, rfl, Enters.mk' Tryz.func293 rfl rfl, fun w1 hb => ?_⟩
 have c0 := pw_cell_below hb h0
 have c1 := pw_cell_below hb h1
 have c2 := pw_cell_below hb h2
 have c3 := pw_cell_below hb h3
 have HI := Aside0.mk (isPairing n ku xs v ps w1 (hk.below hb) (hv.below hb) hc)
 obtain ⟨A1, d1, rfl, -⟩ := id hk
 obtain ⟨A2, d2, rfl, -⟩ := id hv
 clear hb h0 h1 h2 h3 hk hv hc
 show Calls _ _ #[_, _, _] _ _
 cases r with
 | false =>
  go_enter Tryz.func293, Tryz.ntmps293
  go_wp2
  go_ret
  exact ⟨rfl, Below.refl _ _⟩
 | true =>
  go_enter Tryz.func293, Tryz.ntmps293
  go_wp2_with (first | (go_at_call 294; refine HI.out.mono ?_; rintro e w2 ⟨rfl, hb2⟩))
  go_ret
  exact ⟨by rw [Bool.true_and]; rfl, hb2⟩
set_option maxRecDepth 100000 in
set_option maxHeartbeats 2000000 in
theorem pairingCode (a : Int) (ku : Value) (xs : List Int) (v : Value) (ps : List (Int × Int)) (r : Bool) (w : World) (hk : ReadI w ku xs) (hv : ReadP w v ps) :
  Calls Tryz.prog 176 #[cx a ku, v, .bool r] w fun e w' => e = .returned (.int .i64 (if cxOk a xs then (if r && pOk xs ps then 0 else 2) else 1)) ∧ Below w.heap.size w w' := by
 obtain ⟨w2, hw2⟩ : ∃ w2, w2 = (w.alloc (.cells #[.int .i64 a, ku] 26)).alloc (.cells #[v] 51) := ⟨_, rfl⟩
 have hB2 : Below w.heap.size w w2 := by rw [hw2]; exact ((Below.refl _ w).alloc (Nat.le_refl _) _).alloc (by simp) _
 have c0 : w2.cell? ⟨w.heap.size, 0, none⟩ = some (.int .i64 a) := by rw [hw2]; simp
 have c1 : w2.cell? ⟨w.heap.size, 1, none⟩ = some ku := by rw [hw2]; simp
 have c2 : w2.cell? ⟨w.heap.size + 1, 0, none⟩ = some v := by rw [hw2]; simp
 have hz2 : w2.heap.size = w.heap.size + 2 := by rw [hw2]; simp
 obtain ⟨w3, hw3⟩ : ∃ w3, w3 = w2.alloc (.cells #[.bool r] 4) := ⟨_, rfl⟩
 have hb3 : Below w2.heap.size w2 w3 := by rw [hw3]; exact Below.alloc (Below.refl _ _) (Nat.le_refl _) _
 have c3 : w3.cell? ⟨w.heap.size + 2, 0, none⟩ = some (.bool r) := by rw [hw3, ← hz2]; simp
 replace c0 := pw_cell_below hb3 c0
 replace c1 := pw_cell_below hb3 c1
 replace c2 := pw_cell_below hb3 c2
 have hB := hB2.trans (hb3.mono hB2.size)
 have HB := Aside0.mk hB
 have HM := Aside0.mk (complexCode2 a ku xs (.func (.func 293) #[] #[.pointer (some ⟨w.heap.size + 2, 0, none⟩), .pointer (some ⟨w.heap.size, 0, none⟩), .pointer (some ⟨w.heap.size + 1, 0, none⟩)]) (r && pOk xs ps) w3 (hk.below hB)
  (fun hx => by
   obtain ⟨n, rfl, hc, -⟩ := cxOk_cx hx
   exact pairThunk w3 _ _ _ r n ku xs v ps (hk.below hB) (hv.below hB) hc c3 c0 c1 c2) ⟨_, _, _, rfl⟩)
 obtain ⟨E, hE⟩ : ∃ E : Int, E = (if cxOk a xs then (if r && pOk xs ps then 0 else 2) else 1) := ⟨_, rfl⟩
 rw [← hE] at HM ⊢
 obtain ⟨A1, d1, rfl, -⟩ := id hk
 obtain ⟨A2, d2, rfl, -⟩ := id hv
 clear hk hv hB hB2 hb3 hE
 rw [hw2] at hw3
 clear hw2 hz2
 go_enter Tryz.func176, Tryz.ntmps176
 go_wp2_with (first | (go_at_call 172; rw [← hw3]; clear hw3; refine HM.out.mono ?_; rintro e w4 ⟨rfl, hb⟩))
 go_ret
 exact ⟨rfl, HB.out.trans (hb.mono HB.out.size)⟩
/-- the high face of the first pair with a low face -/
def highTo (ps : List (Int × Int)) (a : Int) : Int := match ps.find? (fun p => p.1 == a) with | some p => p.2 | none => 0
theorem high_hit : ∀ (ps : List (Int × Int)) (a : Int) (i : Nat) (x y : Int), ps[i]? = some (x, y) → (x == a) = true → (∀ j p, j < i → ps[j]? = some p → (p.1 == a) = false) → highTo ps a = y
 | [], _, _, _, _, h, _, _ => by simp at h
 | p :: r, a, 0, x, y, h, hx, _ => by
  simp at h
  subst h
  simp [highTo, List.find?, hx]
 | p :: r, a, i + 1, x, y, h, hx, hj => by
  have h0 := hj 0 p (by omega) (by simp)
  have := high_hit r a i x y (by simpa using h) hx (fun j q hq hs => hj (j + 1) q (by omega) (by simpa using hs))
  unfold highTo at this ⊢
  rw [List.find?, h0]
  exact this
theorem high_none (ps : List (Int × Int)) (a : Int) (h : ∀ j p, j < ps.length → ps[j]? = some p → (p.1 == a) = false) : highTo ps a = 0 := by
 unfold highTo
 rw [List.find?_eq_none.2 (fun p hp => by
  obtain ⟨j, hj⟩ := List.mem_iff_getElem?.1 hp
  have hlt := (List.getElem?_eq_some_iff.1 hj).1
  simp [h j p hlt hj])]
set_option maxRecDepth 100000 in
set_option maxHeartbeats 2000000 in
theorem specHigh (v : Value) (ps : List (Int × Int)) (a : Int) (w : World) (hv : ReadP w v ps) :
  Calls Tryz.prog 253 #[v, .int .i64 a] w fun e w' => e = .returned (.int .i64 (highTo ps a)) ∧ Below w.heap.size w w' := by
 have HV := Aside0.mk hv
 obtain ⟨A2, d2, rfl, hl9, -⟩ := id hv
 clear hv
 go_enter Tryz.func253, Tryz.ntmps253
 go_wp2
 go_loopw [5] (fun s5 wr => ∃ i : Nat, s5 = .int .i64 i ∧ i ≤ ps.length ∧ Aside0 (∀ j p, j < i → ps[j]? = some p → (p.1 == a) = false) ∧ Aside0 (Below w.heap.size w wr)) (fun s5 _ => ps.length - (intOf s5).toNat)
 case atStart => exact ⟨0, rfl, Nat.zero_le _, ⟨fun j p h => absurd h (Nat.not_lt_zero _)⟩, ⟨Below.refl _ _⟩⟩
 case round =>
  obtain ⟨i, rfl, hi, HN, HB⟩ := hrel
  by_cases hlt : i < ps.length
  ·obtain ⟨g, x, y, rfl, hxy, hc0, hc1⟩ := ReadP.get (HV.out.below HB.out) hlt
   have hiI : (i : Int) < (ps.length : Int) := by omega
   cases hq : (x == a) with
   | true =>
    have HA : Aside0 (highTo ps a = y) := ⟨high_hit ps a i x y hxy hq HN.out⟩
    clear hxy
    go_wp2
    go_ret
    exact ⟨by rw [HA.out]; rfl, HB.out⟩
   | false =>
    have HN2 : Aside0 (∀ j p, j < i + 1 → ps[j]? = some p → (p.1 == a) = false) := ⟨fun j p hj hp => by
     rcases Nat.lt_succ_iff_lt_or_eq.1 hj with h | h
     ·exact HN.out j p h hp
     ·rw [h, hxy] at hp; cases hp; exact hq⟩
    clear hxy
    go_wp2
    go_roundw
    case rel => exact ⟨i + 1, by go_num, by omega, HN2, HB⟩
    case measure => simp [intOf]; omega
  ·have HA : Aside0 (highTo ps a = 0) := ⟨high_none ps a (fun j p hj hp => HN.out j p (by omega) hp)⟩
   go_wp2
   go_ret
   exact ⟨by rw [HA.out]; rfl, HB.out⟩
set_option maxRecDepth 100000 in
set_option maxHeartbeats 2000000 in
theorem specCode2 (a : Int) (ku : Value) (xs : List Int) (v : Value) (ps : List (Int × Int)) (w : World) (hk : ReadI w ku xs) (hv : ReadP w v ps) :
  Calls Tryz.prog 179 #[cx a ku, v, .slice none 0 0] w fun e w' => e = .returned (.int .i64 (if cxOk a xs then (if pOk xs ps then 0 else 2) else 1)) ∧ Below w.heap.size w w' := by
 obtain ⟨w1, hw1⟩ : ∃ w1, w1 = w.alloc (.cells #[.int .i64 a, ku] 26) := ⟨_, rfl⟩
 have hB : Below w.heap.size w w1 := by rw [hw1]; exact Below.alloc (Below.refl _ _) (Nat.le_refl _) _
 have c0 : w1.cell? ⟨w.heap.size, 0, none⟩ = some (.int .i64 a) := by rw [hw1]; simp
 have c1 : w1.cell? ⟨w.heap.size, 1, none⟩ = some ku := by rw [hw1]; simp
 have HB := Aside0.mk hB
 have HM := Aside0.mk (specIs a ku xs w1 (hk.below hB))
 have HP := Aside0.mk (fun (n : Nat) (hc : Cx n xs) (W : World) hk hv => specIs2 n ku xs v ps W hk hv hc)
 have HK := Aside0.mk (hk.below hB)
 have HV := Aside0.mk (hv.below hB)
 obtain ⟨A1, d1, rfl, -⟩ := id hk
 obtain ⟨A2, d2, rfl, -⟩ := id hv
 clear hk hv hB
 cases hx : cxOk a xs with
 | false =>
  rw [hx] at HM
  clear hx
  go_enter Tryz.func179, Tryz.ntmps179
  go_wp2_with (first | (go_at_call 155; rw [← hw1]; clear hw1; refine HM.out.mono ?_; rintro e w2 ⟨rfl, hb⟩; have HB2 := Aside0.mk hb; clear hb))
  go_ret
  exact ⟨rfl, HB.out.trans (HB2.out.mono HB.out.size)⟩
 | true =>
  rw [hx] at HM
  obtain ⟨n, rfl, hc, -⟩ := cxOk_cx hx
  have HPn := Aside0.mk (HP.out n hc)
  clear hx hc HP
  cases hp : pOk xs ps with
  | false =>
   rw [hp] at HPn
   clear hp
   go_enter Tryz.func179, Tryz.ntmps179
   go_wp2_with (first | (go_at_call 155; rw [← hw1]; clear hw1; refine HM.out.mono ?_; rintro e w2 ⟨rfl, hb⟩; have HB2 := Aside0.mk hb; replace c0 := pw_cell_below hb c0; replace c1 := pw_cell_below hb c1; clear hb) | (go_at_call 301; refine (HPn.out _ (HK.out.below HB2.out) (HV.out.below HB2.out)).mono ?_; rintro e w3 ⟨rfl, hb⟩; have HB3 := Aside0.mk (HB2.out.trans (hb.mono HB2.out.size)); clear hb))
   go_ret
   exact ⟨rfl, HB.out.trans (HB3.out.mono HB.out.size)⟩
  | true =>
   rw [hp] at HPn
   clear hp
   go_enter Tryz.func179, Tryz.ntmps179
   go_wp2_with (first | (go_at_call 155; rw [← hw1]; clear hw1; refine HM.out.mono ?_; rintro e w2 ⟨rfl, hb⟩; have HB2 := Aside0.mk hb; replace c0 := pw_cell_below hb c0; replace c1 := pw_cell_below hb c1; clear hb) | (go_at_call 301; refine (HPn.out _ (HK.out.below HB2.out) (HV.out.below HB2.out)).mono ?_; rintro e w3 ⟨rfl, hb⟩; have HB3 := Aside0.mk (HB2.out.trans (hb.mono HB2.out.size)); clear hb))
   go_loopw [7] (fun s7 wr => s7 = .int .i64 0 ∧ Aside0 (Below w1.heap.size w1 wr)) (fun _ _ => 0)
   case atStart => exact ⟨rfl, HB3⟩
   case round =>
    obtain ⟨rfl, HBr⟩ := hrel
    go_wp2
    go_ret
    exact ⟨rfl, HB.out.trans (HBr.out.mono HB.out.size)⟩
/-- the faces to which gradient steps lead -/
def nextOf (ps : List (Int × Int)) (a : Int) : List Int := if highTo ps a = 0 then [] else (below (highTo ps a).toNat).filter fun f => !(f == a)
/-- reached by at least one step -/
def Reach (N : Int → List Int) (a x : Int) : Prop := ∀ T : Int → Prop, (∀ y ∈ N a, T y) → (∀ y z, T y → z ∈ N y → T z) → T x
theorem Reach.one {N : Int → List Int} {a y : Int} (h : y ∈ N a) : Reach N a y := fun T h1 _ => h1 _ h
theorem Reach.step {N : Int → List Int} {a y z : Int} (h : Reach N a y) (hz : z ∈ N y) : Reach N a z := fun T h1 h2 => h2 _ _ (h T h1 h2) hz
/-- numbers of a set below 64 -/
def cnt (S : Int → Bool) : Nat := (List.range 64).countP fun (z : Nat) => S (z : Int)
theorem cnt_le (S : Int → Bool) : cnt S ≤ 64 := by
 unfold cnt
 have := List.countP_le_length (p := fun z : Nat => S (z : Int)) (l := List.range 64)
 simpa using this
theorem countP_add (S : Int → Bool) (x : Nat) (h : S (x : Int) = false) : ∀ n, (List.range n).countP (fun (z : Nat) => (z : Int) == (x : Int) || S (z : Int)) = (List.range n).countP (fun (z : Nat) => S (z : Int)) + (if x < n then 1 else 0)
 | 0 => by simp
 | n + 1 => by
  rw [List.range_succ, List.countP_append, List.countP_append, countP_add S x h n, List.countP_singleton, List.countP_singleton]
  by_cases e : n = x
  ·subst e
   rw [h]
   simp
  ·have e2 : ((n : Int) == (x : Int)) = false := by rw [beq_eq_false_iff_ne]; omega
   rw [e2, Bool.false_or]
   have e3 : (x < n + 1) ↔ x < n := by omega
   simp only [e3]
   omega
theorem cnt_add {S : Int → Bool} {x : Int} (h : S x = false) (h0 : 0 ≤ x) (h1 : x < 64) : cnt (fun z => z == x || S z) = cnt S + 1 := by
 obtain ⟨n, rfl⟩ : ∃ n : Nat, x = n := ⟨x.toNat, by omega⟩
 unfold cnt
 rw [countP_add S n h 64, if_pos (by omega)]
theorem cnt_none : cnt (fun _ => false) = 0 := by decide
/-- a queue -/
def BI (N : Int → List Int) (a : Int) (S : Int → Bool) (Q : List Int) : Prop :=
 (∀ x, S x = true → Reach N a x) ∧ (∀ q ∈ Q, q = a ∨ S q = true) ∧ (∀ x, (x = a ∨ S x = true) → x ∈ Q ∨ ∀ y ∈ N x, S y = true)
theorem BI.start (N : Int → List Int) (a : Int) : BI N a (fun _ => false) [a] := by
 refine ⟨fun x h => (by cases h), fun q hq => .inl (by simpa using hq), fun x h => .inl ?_⟩
 rcases h with h | h
 ·simp [h]
 ·cases h
theorem BI.add {N : Int → List Int} {a : Int} {S : Int → Bool} {Q : List Int} {q f : Int} (h : BI N a S Q) (hq : q ∈ Q) (hf : f ∈ N q) : BI N a (fun z => z == f || S z) (Q ++ [f]) := by
 obtain ⟨h1, h2, h3⟩ := h
 refine ⟨fun x hx => ?_, fun z hz => ?_, fun x hx => ?_⟩
 ·simp only [Bool.or_eq_true, beq_iff_eq] at hx
  rcases hx with rfl | hx
  ·rcases h2 q hq with rfl | hs
   ·exact Reach.one hf
   ·exact Reach.step (h1 q hs) hf
  ·exact h1 x hx
 ·rcases List.mem_append.1 hz with hz | hz
  ·rcases h2 z hz with e | e
   ·exact .inl e
   ·exact .inr (by simp [e])
  ·right; simp at hz; simp [hz]
 ·by_cases e : x = f
  ·left; simp [e]
  ·have hx' : x = a ∨ S x = true := by
    rcases hx with hx | hx
    ·exact .inl hx
    ·simp only [Bool.or_eq_true, beq_iff_eq] at hx
     exact .inr (hx.resolve_left e)
   rcases h3 x hx' with h | h
   ·exact .inl (List.mem_append_left _ h)
   ·exact .inr (fun y hy => by simp [h y hy])
theorem BI.pop {N : Int → List Int} {a : Int} {S : Int → Bool} {Q : List Int} {q : Int} (h : BI N a S (q :: Q)) (hd : ∀ y ∈ N q, S y = true) : BI N a S Q := by
 obtain ⟨h1, h2, h3⟩ := h
 refine ⟨h1, fun z hz => h2 z (List.mem_cons_of_mem _ hz), fun x hx => ?_⟩
 rcases h3 x hx with h | h
 ·rcases List.mem_cons.1 h with rfl | h
  ·exact .inr hd
  ·exact .inl h
 ·exact .inr h
theorem BI.fin {N : Int → List Int} {a : Int} {S : Int → Bool} (h : BI N a S []) (x : Int) : S x = true ↔ Reach N a x := by
 obtain ⟨h1, h2, h3⟩ := h
 refine ⟨h1 x, fun hr => hr (fun z => S z = true) (fun y hy => ?_) (fun y z hy hz => ?_)⟩
 ·exact ((h3 a (.inl rfl)).resolve_left (by simp)) y hy
 ·exact ((h3 y (.inr hy)).resolve_left (by simp)) z hz
/-- a stack -/
def SI (N : Int → List Int) (a : Int) (S : Int → Bool) (T : List Int) : Prop :=
 (∀ x, S x = true → Reach N a x) ∧ (∀ s ∈ T, Reach N a s) ∧ (∀ y ∈ N a, S y = true ∨ y ∈ T) ∧ (∀ x, S x = true → ∀ y ∈ N x, S y = true ∨ y ∈ T)
theorem SI.start (N : Int → List Int) (a : Int) : SI N a (fun _ => false) (N a) :=
 ⟨fun x h => (by cases h), fun s hs => Reach.one hs, fun y hy => .inr hy, fun x h => (by cases h)⟩
theorem SI.skip {N : Int → List Int} {a : Int} {S : Int → Bool} {T T' : List Int} {x : Int} (h : SI N a S T') (e : ∀ z, z ∈ T' ↔ z = x ∨ z ∈ T) (hx : S x = true) : SI N a S T := by
 obtain ⟨h1, h2, h3, h4⟩ := h
 refine ⟨h1, fun s hs => h2 s ((e s).2 (.inr hs)), fun y hy => ?_, fun z hz y hy => ?_⟩
 ·rcases h3 y hy with h | h
  ·exact .inl h
  ·rcases (e y).1 h with rfl | h
   ·exact .inl hx
   ·exact .inr h
 ·rcases h4 z hz y hy with h | h
  ·exact .inl h
  ·rcases (e y).1 h with rfl | h
   ·exact .inl hx
   ·exact .inr h
theorem SI.mark {N : Int → List Int} {a : Int} {S : Int → Bool} {T T' U : List Int} {x : Int} (h : SI N a S T') (e : ∀ z, z ∈ T' ↔ z = x ∨ z ∈ T) (eu : ∀ z, z ∈ U ↔ z ∈ N x ∨ z ∈ T) : SI N a (fun z => z == x || S z) U := by
 obtain ⟨h1, h2, h3, h4⟩ := h
 have hx : Reach N a x := h2 x ((e x).2 (.inl rfl))
 refine ⟨fun z hz => ?_, fun s hs => ?_, fun y hy => ?_, fun z hz y hy => ?_⟩
 ·simp only [Bool.or_eq_true, beq_iff_eq] at hz
  rcases hz with rfl | hz
  ·exact hx
  ·exact h1 z hz
 ·rcases (eu s).1 hs with h | h
  ·exact Reach.step hx h
  ·exact h2 s ((e s).2 (.inr h))
 ·rcases h3 y hy with h | h
  ·exact .inl (by simp [h])
  ·rcases (e y).1 h with rfl | h
   ·exact .inl (by simp)
   ·exact .inr ((eu y).2 (.inr h))
 ·simp only [Bool.or_eq_true, beq_iff_eq] at hz
  rcases hz with rfl | hz
  ·exact .inr ((eu y).2 (.inl hy))
  ·rcases h4 z hz y hy with h | h
   ·exact .inl (by simp [h])
   ·rcases (e y).1 h with rfl | h
    ·exact .inl (by simp)
    ·exact .inr ((eu y).2 (.inr h))
theorem SI.fin {N : Int → List Int} {a : Int} {S : Int → Bool} (h : SI N a S []) (x : Int) : S x = true ↔ Reach N a x := by
 obtain ⟨h1, h2, h3, h4⟩ := h
 refine ⟨h1 x, fun hr => hr (fun z => S z = true) (fun y hy => ?_) (fun y z hy hz => ?_)⟩
 ·exact (h3 y hy).resolve_right (by simp)
 ·exact (h4 y hy z hz).resolve_right (by simp)
/-- what is reached, by a stack -/
def dfs (N : Int → List Int) : Nat → (Int → Bool) → List Int → Int → Bool
 | 0, S, _ => S
 | _ + 1, S, [] => S
 | n + 1, S, x :: T => if S x = true then dfs N n S T else dfs N n (fun z => z == x || S z) (N x ++ T)
theorem dfs_fin {N : Int → List Int} {a : Int} (hN : ∀ x, ∀ y ∈ N x, 0 ≤ y ∧ y < 64) (hl : ∀ x, (N x).length ≤ 6) : ∀ n S T, SI N a S T → (∀ z ∈ T, 0 ≤ z ∧ z < 64) → (64 - cnt S) * 7 + T.length ≤ n → SI N a (dfs N n S T) []
 | 0, S, T, h, _, hm => by
  obtain rfl : T = [] := List.eq_nil_of_length_eq_zero (by omega)
  exact h
 | n + 1, S, [], h, _, _ => h
 | n + 1, S, x :: T, h, hb, hm => by
  simp only [List.length_cons] at hm
  by_cases hx : S x = true
  ·have e : dfs N (n + 1) S (x :: T) = dfs N n S T := by rw [dfs, if_pos hx]
   rw [e]
   exact dfs_fin hN hl n S T (h.skip (x := x) (fun z => by simp) hx) (fun z hz => hb z (List.mem_cons_of_mem _ hz)) (by omega)
  ·have e : dfs N (n + 1) S (x :: T) = dfs N n (fun z => z == x || S z) (N x ++ T) := by rw [dfs, if_neg hx]
   rw [e]
   have hbx := hb x (by simp)
   have hc := cnt_add (S := S) (x := x) (by simpa using hx) hbx.1 hbx.2
   have hc2 := cnt_le (fun z => z == x || S z)
   refine dfs_fin hN hl n _ _ (h.mark (x := x) (T := T) (fun z => by simp) (fun z => by simp)) (fun z hz => ?_) ?_
   ·rcases List.mem_append.1 hz with hz | hz
    ·exact hN x z hz
    ·exact hb z (List.mem_cons_of_mem _ hz)
   ·have := hl x
    rw [hc] at hc2 ⊢
    rw [List.length_append]
    omega
/-- reached -/
def reachB (N : Int → List Int) (a x : Int) : Bool := dfs N 1000 (fun _ => false) (N a) x
theorem reachB_iff {N : Int → List Int} (hN : ∀ x, ∀ y ∈ N x, 0 ≤ y ∧ y < 64) (hl : ∀ x, (N x).length ≤ 6) (a x : Int) : reachB N a x = true ↔ Reach N a x :=
 (dfs_fin hN hl 1000 _ _ (SI.start N a) (hN a) (by rw [cnt_none]; have := hl a; omega)).fin x
theorem reach_of {N : Int → List Int} (hN : ∀ x, ∀ y ∈ N x, 0 ≤ y ∧ y < 64) (hl : ∀ x, (N x).length ≤ 6) {a : Int} {S : Int → Bool} (h : ∀ x, S x = true ↔ Reach N a x) (x : Int) : S x = reachB N a x := by
 rw [Bool.eq_iff_iff, h x, reachB_iff hN hl]
/-- no face comes back to itself -/
def acyB (ps : List (Int × Int)) : Bool := ps.all fun p => !reachB (nextOf ps) p.1 p.1
/-- pairs of faces -/
def PsDom (ps : List (Int × Int)) : Prop := ∀ p ∈ ps, (1 ≤ p.1 ∧ p.1 ≤ 63) ∧ (1 ≤ p.2 ∧ p.2 ≤ 63)
theorem pOk_dom {n : Nat} {xs : List Int} {ps : List (Int × Int)} (hc : Cx n xs) (h : pOk xs ps = true) : PsDom ps := by
 intro p hp
 obtain ⟨i, hi⟩ := List.mem_iff_getElem?.1 hp
 have hlt := (List.getElem?_eq_some_iff.1 hi).1
 unfold pOk at h
 have h1 := List.all_eq_true.1 h i (List.mem_range.2 hlt)
 unfold pOkAt pairAt at h1
 rw [List.getD_eq_getElem?_getD, hi] at h1
 simp only [Option.getD_some, Bool.and_eq_true, decide_eq_true_eq] at h1
 obtain ⟨a, ha, ha1, ha2⟩ := hc.nat h1.1.1
 obtain ⟨b, hb, hb1, hb2⟩ := hc.nat h1.1.2.1
 omega
theorem high_dom {ps : List (Int × Int)} (h : PsDom ps) (a : Int) : 0 ≤ highTo ps a ∧ highTo ps a ≤ 63 := by
 unfold highTo
 cases hf : ps.find? (fun p => p.1 == a) with
 | none => simp
 | some p => have := h p (List.mem_of_find?_eq_some hf); simp only; omega
theorem below_dom : ∀ f, f < 64 → (∀ x ∈ below f, 1 ≤ x ∧ x < 64) ∧ (below f).length ≤ 6 := by decide +kernel
theorem next_dom {ps : List (Int × Int)} (h : PsDom ps) (a : Int) : (∀ y ∈ nextOf ps a, 0 ≤ y ∧ y < 64) ∧ (nextOf ps a).length ≤ 6 := by
 have hh := high_dom h a
 unfold nextOf
 split
 ·simp
 ·have hb := below_dom (highTo ps a).toNat (by omega)
  refine ⟨fun y hy => ?_, Nat.le_trans (List.length_filter_le _ _) hb.2⟩
  have := hb.1 y (List.mem_filter.1 hy).1
  omega
/-- a sum of numbers, bit by bit -/
def xsum (f : Int → Nat) (l : List Int) : Nat := l.foldl (fun m x => m ^^^ f x) 0
theorem xsum_acc (f : Int → Nat) : ∀ (l : List Int) (m : Nat), l.foldl (fun m x => m ^^^ f x) m = m ^^^ xsum f l
 | [], m => by unfold xsum; simp
 | a :: r, m => by
  unfold xsum
  rw [List.foldl_cons, List.foldl_cons, xsum_acc f r, xsum_acc f r, Nat.zero_xor, Nat.xor_assoc]
theorem xsum_cons (f : Int → Nat) (a : Int) (r : List Int) : xsum f (a :: r) = f a ^^^ xsum f r := by
 unfold xsum
 rw [List.foldl_cons, xsum_acc, Nat.zero_xor]; rfl
theorem xsum_nil (f : Int → Nat) : xsum f [] = 0 := rfl
theorem xor_swap4 (a b c d : Nat) : (a ^^^ b) ^^^ (c ^^^ d) = (a ^^^ c) ^^^ (b ^^^ d) := by
 rw [Nat.xor_assoc, ← Nat.xor_assoc b c d, Nat.xor_comm b c, Nat.xor_assoc c b d, ← Nat.xor_assoc]
theorem xsum_add (f g : Int → Nat) : ∀ l : List Int, xsum (fun x => f x ^^^ g x) l = xsum f l ^^^ xsum g l
 | [] => by simp [xsum_nil]
 | a :: r => by rw [xsum_cons, xsum_cons, xsum_cons, xsum_add f g r, xor_swap4]
theorem xsum_congr {f g : Int → Nat} : ∀ l : List Int, (∀ x ∈ l, f x = g x) → xsum f l = xsum g l
 | [], _ => rfl
 | a :: r, h => by rw [xsum_cons, xsum_cons, h a (by simp), xsum_congr r (fun x hx => h x (List.mem_cons_of_mem _ hx))]
theorem xsum_one (a : Int) (c : Nat) : ∀ l : List Int, l.Pairwise (· < ·) → xsum (fun x => if x = a then c else 0) l = if a ∈ l then c else 0
 | [], _ => by simp [xsum_nil]
 | b :: r, h => by
  have h' := List.pairwise_cons.1 h
  rw [xsum_cons, xsum_one a c r h'.2]
  by_cases e : b = a
  ·subst e
   have hn : b ∉ r := fun hb => by have := h'.1 b hb; omega
   rw [if_pos rfl, if_neg hn, if_pos (by simp)]; simp
  ·rw [if_neg e, Nat.zero_xor]
   by_cases hr : a ∈ r
   ·rw [if_pos hr, if_pos (List.mem_cons_of_mem _ hr)]
   ·rw [if_neg hr, if_neg (fun h => by rcases List.mem_cons.1 h with h | h; exact e h.symm; exact hr h)]
/-- the pushes of the faces of a chain: over the pairs -/
def pushB : List (Int × Int) → Nat → Nat
 | [], _ => 0
 | p :: r, m => (if m.testBit p.1.toNat then 2 ^ p.2.toNat else 0) ^^^ pushB r m
theorem pushB_cons (p : Int × Int) (r : List (Int × Int)) (m : Nat) : pushB (p :: r) m = (if m.testBit p.1.toNat then 2 ^ p.2.toNat else 0) ^^^ pushB r m := rfl
/-- the push of one face -/
def push1 (ps : List (Int × Int)) (x : Int) : Nat := if highTo ps x = 0 then 0 else 2 ^ (highTo ps x).toNat
theorem high_cons (p : Int × Int) (r : List (Int × Int)) (x : Int) : highTo (p :: r) x = if p.1 = x then p.2 else highTo r x := by
 unfold highTo
 rw [List.find?_cons]
 by_cases e : p.1 = x
 ·have : (p.1 == x) = true := by rw [beq_iff_eq]; exact e
  rw [this, if_pos e]
 ·have : (p.1 == x) = false := by rw [beq_eq_false_iff_ne]; exact e
  rw [this, if_neg e]
theorem high_not {ps : List (Int × Int)} {a : Int} (h : ∀ p ∈ ps, p.1 ≠ a) : highTo ps a = 0 :=
 high_none ps a (fun j p hj hp => by rw [beq_eq_false_iff_ne]; exact h p (List.mem_of_getElem? hp))
/-- lows are different -/
def LowsN (ps : List (Int × Int)) : Prop := ps.Pairwise fun p q => p.1 ≠ q.1
theorem push_law {l : List Int} (h1 : l.Pairwise (· < ·)) (h2 : ∀ x ∈ l, 0 ≤ x) : ∀ ps : List (Int × Int), LowsN ps → PsDom ps → xsum (push1 ps) l = pushB ps (bitsI l)
 | [], _, _ => by
  have : xsum (push1 []) l = xsum (fun _ => 0) l := xsum_congr l (fun x _ => rfl)
  rw [this]
  unfold pushB
  clear h1 h2 this
  induction l with
  | nil => rfl
  | cons a r ih => rw [xsum_cons, ih]; rfl
 | p :: r, hn, hd => by
  have hn' := List.pairwise_cons.1 hn
  have hp := hd p (by simp)
  have e : ∀ x ∈ l, push1 (p :: r) x = push1 r x ^^^ (if x = p.1 then 2 ^ p.2.toNat else 0) := by
   intro x _
   unfold push1
   rw [high_cons]
   by_cases hx : p.1 = x
   ·rw [if_pos hx, if_neg (by omega), if_pos hx.symm, if_pos (high_not (fun q hq => by rw [← hx]; exact (hn'.1 q hq).symm)), Nat.zero_xor]
   ·have hx' : ¬ x = p.1 := fun h => hx h.symm
    rw [if_neg hx, show (if x = p.1 then 2 ^ p.2.toNat else 0) = 0 from if_neg hx', Nat.xor_zero]
  rw [xsum_congr l e, xsum_add, xsum_one _ _ l h1, push_law h1 h2 r hn'.2 (fun q hq => hd q (List.mem_cons_of_mem _ hq))]
  rw [pushB_cons]
  have hb := bits_test h1 h2 p.1.toNat
  rw [show ((p.1.toNat : Nat) : Int) = p.1 by omega] at hb
  rw [hb, Nat.xor_comm]
  by_cases hm : p.1 ∈ l
  ·rw [if_pos hm, decide_eq_true hm, if_pos rfl]
  ·rw [if_neg hm, decide_eq_false hm, if_neg (by decide)]
theorem pushB_lt {ps : List (Int × Int)} (hd : PsDom ps) (m : Nat) : pushB ps m < 2 ^ 64 := by
 induction ps with
 | nil => unfold pushB; decide
 | cons p r ih =>
  unfold pushB
  have hp := hd p (by simp)
  refine Nat.xor_lt_two_pow ?_ (ih (fun q hq => hd q (List.mem_cons_of_mem _ hq)))
  split
  ·exact Nat.pow_lt_pow_right (by decide) (by omega)
  ·decide
theorem pushB_zero {ps : List (Int × Int)} (hd : PsDom ps) (m : Nat) : (pushB ps m).testBit 0 = false := by
 induction ps with
 | nil => unfold pushB; simp
 | cons p r ih =>
  unfold pushB
  have hp := hd p (by simp)
  rw [Nat.testBit_xor, ih (fun q hq => hd q (List.mem_cons_of_mem _ hq))]
  split
  ·rw [Nat.testBit_two_pow, decide_eq_false (by omega)]; rfl
  ·simp
/-- the flow of a chain -/
def flowB (ps : List (Int × Int)) (m : Nat) : Nat := m ^^^ bndB (listI (pushB ps m)) ^^^ pushB ps (bndB (listI m))
theorem listI_bd (m : Nat) : ∀ x ∈ listI m, 0 ≤ x ∧ x ≤ 63 := fun x hx => by
 obtain ⟨v, rfl, h1, _⟩ := listI_mem.1 hx
 omega
theorem listI_pos {m : Nat} (h : m.testBit 0 = false) : ∀ x ∈ listI m, 1 ≤ x ∧ x ≤ 63 := fun x hx => by
 obtain ⟨v, rfl, h1, h2⟩ := listI_mem.1 hx
 rcases Nat.eq_zero_or_pos v with h3 | h3
 ·subst h3; rw [h] at h2; cases h2
 ·omega
theorem bits_listI {m : Nat} (hm : m < 2 ^ 64) : bitsI (listI m) = m := by
 apply Nat.eq_of_testBit_eq
 intro v
 rw [bits_test (listI_asc m) (fun x hx => (listI_bd m x hx).1)]
 by_cases hv : v < 64
 ·cases ht : m.testBit v with
  | true => exact decide_eq_true (listI_mem.2 ⟨v, rfl, hv, ht⟩)
  | false => exact decide_eq_false (fun h => by
    obtain ⟨u, e, _, h3⟩ := listI_mem.1 h
    have : u = v := by omega
    rw [this, ht] at h3; cases h3)
 ·rw [Nat.testBit_lt_two_pow (Nat.lt_of_lt_of_le hm (Nat.pow_le_pow_right (by decide) (by omega)))]
  exact decide_eq_false (fun h => by
   obtain ⟨u, e, h2, _⟩ := listI_mem.1 h
   omega)
theorem bndB_lt2 (m : Nat) : bndB (listI m) < 2 ^ 64 := bnd_lt _ (listI_bd m) 0 (by decide)
theorem flowB_lt {ps : List (Int × Int)} (hd : PsDom ps) {m : Nat} (hm : m < 2 ^ 64) : flowB ps m < 2 ^ 64 := by
 unfold flowB
 exact Nat.xor_lt_two_pow (Nat.xor_lt_two_pow hm (bndB_lt2 _)) (pushB_lt hd _)
/-- an ascending list with a number turned -/
theorem tog_out {l : List Int} {k : Nat} {f : Int} (hl : l.Pairwise (· < ·)) (hk : l[k]? = some f) : (l.take k ++ l.drop (k + 1)).Pairwise (· < ·) ∧ ∀ z, z ∈ l.take k ++ l.drop (k + 1) ↔ z ∈ l ∧ z ≠ f := by
 have hlt := (List.getElem?_eq_some_iff.1 hk).1
 have e : l = l.take k ++ f :: l.drop (k + 1) := by
  have := List.take_append_drop k l
  rw [List.drop_eq_getElem_cons hlt, (List.getElem?_eq_some_iff.1 hk).2] at this
  exact this.symm
 have hp := hl
 rw [e, List.pairwise_append, List.pairwise_cons] at hp
 obtain ⟨p1, ⟨p2, p3⟩, p4⟩ := hp
 refine ⟨List.pairwise_append.2 ⟨p1, p3, fun a ha b hb => p4 a ha b (List.mem_cons_of_mem _ hb)⟩, fun z => ?_⟩
 rw [List.mem_append]
 have ez : z ∈ l ↔ z ∈ l.take k ∨ z = f ∨ z ∈ l.drop (k + 1) := by
  have h9 : z ∈ l ↔ z ∈ l.take k ++ f :: l.drop (k + 1) := by rw [← e]
  rw [h9, List.mem_append, List.mem_cons]
 rw [ez]
 constructor
 ·rintro (h | h)
  ·exact ⟨.inl h, fun e2 => by have := p4 z h f (by simp); omega⟩
  ·exact ⟨.inr (.inr h), fun e2 => by have := p2 z h; omega⟩
 ·rintro ⟨h | h | h, h2⟩
  ·exact .inl h
  ·exact absurd h h2
  ·exact .inr h
theorem tog_in {l : List Int} {k : Nat} {f : Int} (hl : l.Pairwise (· < ·)) (h1 : ∀ z ∈ l.take k, z < f) (h2 : ∀ z ∈ l.drop k, f < z) : (l.take k ++ f :: l.drop k).Pairwise (· < ·) ∧ ∀ z, z ∈ l.take k ++ f :: l.drop k ↔ z ∈ l ∨ z = f := by
 have hp := hl
 rw [← List.take_append_drop k l, List.pairwise_append] at hp
 refine ⟨List.pairwise_append.2 ⟨hp.1, List.pairwise_cons.2 ⟨h2, hp.2.1⟩, fun a ha b hb => ?_⟩, fun z => ?_⟩
 ·rcases List.mem_cons.1 hb with rfl | hb
  ·exact h1 a ha
  ·exact hp.2.2 a ha b hb
 ·rw [List.mem_append, List.mem_cons]
  have ez : z ∈ l ↔ z ∈ l.take k ∨ z ∈ l.drop k := by
   have h9 : z ∈ l ↔ z ∈ l.take k ++ l.drop k := by rw [List.take_append_drop]
   rw [h9, List.mem_append]
  rw [ez]
  constructor
  ·rintro (h | h | h)
   ·exact .inl (.inl h)
   ·exact .inr h
   ·exact .inl (.inr h)
  ·rintro ((h | h) | h)
   ·exact .inl h
   ·exact .inr (.inr h)
   ·exact .inr (.inl h)
theorem turn_mem {m f : Nat} (hf : f < 64) (z : Int) : z ∈ listI (m ^^^ 2 ^ f) ↔ (z ∈ listI m ∧ z ≠ (f : Int)) ∨ (z = (f : Int) ∧ ¬ z ∈ listI m) := by
 rw [listI_mem, listI_mem]
 by_cases hz : 0 ≤ z ∧ z ≤ 63
 ·obtain ⟨v, rfl⟩ : ∃ v : Nat, z = v := ⟨z.toNat, by omega⟩
  have hv : v < 64 := by omega
  have e : ∀ q : Nat, (∃ u : Nat, (v : Int) = u ∧ u < 64 ∧ q.testBit u = true) ↔ q.testBit v = true := fun q =>
   ⟨fun ⟨u, h, _, h3⟩ => by have : v = u := by omega
                            rw [this]; exact h3, fun h => ⟨v, rfl, hv, h⟩⟩
  rw [e, e, Nat.testBit_xor, Nat.testBit_two_pow]
  by_cases hvf : v = f
  ·subst hvf
   simp
  ·have h1 : ¬ f = v := fun h => hvf h.symm
   have h2 : ¬ ((v : Int) = (f : Int)) := by omega
   simp [h1, h2]
 ·constructor
  ·rintro ⟨u, rfl, h, _⟩
   exact absurd ⟨by omega, by omega⟩ hz
  ·rintro (⟨⟨u, rfl, h, _⟩, _⟩ | ⟨h, _⟩)
   ·exact absurd ⟨by omega, by omega⟩ hz
   ·exact absurd ⟨by omega, by omega⟩ hz
theorem turn_out {m f k : Nat} (hf : f < 64) (hk : (listI m)[k]? = some (f : Int)) : (listI m).take k ++ (listI m).drop (k + 1) = listI (m ^^^ 2 ^ f) := by
 obtain ⟨h1, h2⟩ := tog_out (listI_asc m) hk
 refine asc_ext h1 (listI_asc _) (fun z => ?_)
 rw [h2, turn_mem hf]
 have hm := List.mem_of_getElem? hk
 constructor
 ·exact fun h => .inl h
 ·rintro (h | ⟨h, h3⟩)
  ·exact h
  ·rw [h] at h3; exact absurd hm h3
theorem turn_in {m f k : Nat} (hf : f < 64) (h1 : ∀ z ∈ (listI m).take k, z < (f : Int)) (h2 : ∀ z ∈ (listI m).drop k, (f : Int) < z) : (listI m).take k ++ (f : Int) :: (listI m).drop k = listI (m ^^^ 2 ^ f) := by
 obtain ⟨h3, h4⟩ := tog_in (listI_asc m) h1 h2
 refine asc_ext h3 (listI_asc _) (fun z => ?_)
 rw [h4, turn_mem hf]
 have hn : (f : Int) ∉ listI m := fun h => by
  rw [← List.take_append_drop k (listI m), List.mem_append] at h
  rcases h with h | h
  ·have := h1 _ h; omega
  ·have := h2 _ h; omega
 constructor
 ·rintro (h | h)
  ·exact .inl ⟨h, fun e => hn (e ▸ h)⟩
  ·exact .inr ⟨h, by rw [h]; exact hn⟩
 ·rintro (⟨h, _⟩ | ⟨h, _⟩)
  ·exact .inl h
  ·exact .inr h
/-- a function value of one pair that answers a bool, and makes memory at the most -/
def PredP (w : World) (fv : Value) (p : Int × Int → Bool) (dom : Int × Int → Prop) : Prop :=
 ∃ g first caps, fv = .func (.func g) first caps ∧ Enters g ∧ ∀ w1 x y, Below w.heap.size w w1 → dom (x, y) → Calls Tryz.prog g (first ++ #[.agg #[.int .i64 x, .int .i64 y]] ++ caps) w1 fun e w2 => e = .returned (.bool (p (x, y))) ∧ Below w1.heap.size w1 w2
theorem PredP.below {w w' : World} {fv : Value} {p : Int × Int → Bool} {dom : Int × Int → Prop} (h : PredP w fv p dom) (hb : Below w.heap.size w w') : PredP w' fv p dom := by
 obtain ⟨g, first, caps, rfl, hent, hp⟩ := h
 exact ⟨g, first, caps, rfl, hent, fun w1 x y h1 hd => hp w1 x y (hb.trans (h1.mono hb.size)) hd⟩
theorem idxP_found {p : Int × Int → Bool} {ps : List (Int × Int)} {i : Nat} {q : Int × Int} (hi : ps[i]? = some q) (h0 : ∀ (j : Nat) (q : Int × Int), j < i → ps[j]? = some q → p q = false) (h1 : p q = true) : idx p ps = i := by
 obtain ⟨hl, e1⟩ := List.getElem?_eq_some_iff.1 hi
 have e : ps.findIdx p = i := by
  rw [List.findIdx_eq hl]
  refine ⟨by rw [e1]; exact h1, fun j hj => h0 j _ hj (List.getElem?_eq_getElem (by omega))⟩
 unfold idx; rw [e, if_pos hl]
theorem idxP_none {p : Int × Int → Bool} {ps : List (Int × Int)} (h0 : ∀ (j : Nat) (q : Int × Int), ps[j]? = some q → p q = false) : idx p ps = -1 := by
 have e : ¬ ps.findIdx p < ps.length := by
  rw [List.findIdx_lt_length]
  rintro ⟨x, hx, hp⟩
  obtain ⟨j, hj, rfl⟩ := List.getElem_of_mem hx
  rw [h0 j _ (List.getElem?_eq_getElem hj)] at hp; cases hp
 unfold idx; rw [if_neg e]
set_option maxRecDepth 100000 in
set_option maxHeartbeats 1000000 in
theorem indexFuncP (v : Value) (ps : List (Int × Int)) (fv : Value) (p : Int × Int → Bool) (dom : Int × Int → Prop) (w : World) (hr : ReadP w v ps) (hp : PredP w fv p dom) (hd : ∀ q ∈ ps, dom q) :
  Calls Tryz.prog 358 #[v, fv] w fun e w' => e = .returned (.int .i64 (idx p ps)) ∧ Below w.heap.size w w' := by
 obtain ⟨g, first, caps, rfl, hent, hp⟩ := hp
 have HR := Aside0.mk hr
 obtain ⟨A, c, rfl, hl, -⟩ := id hr
 have HP := Aside0.mk hp
 have HD := Aside0.mk hd
 unfold Enters at hent
 clear hr hp hd
 go_enter Tryz.func358, Tryz.ntmps358
 go_wp2
 go_loopw [8] (fun v wr => ∃ i : Nat, v = .int .i64 i ∧ i ≤ ps.length ∧ Aside0 (∀ j q, j < i → ps[j]? = some q → p q = false) ∧ Aside0 (Below w.heap.size w wr)) (fun v _ => ps.length - (intOf v).toNat)
 case atStart => exact ⟨0, rfl, Nat.zero_le _, ⟨fun j _ hj => absurd hj (Nat.not_lt_zero _)⟩, ⟨Below.refl _ _⟩⟩
 case round =>
  obtain ⟨i, rfl, hi, HN, HB⟩ := hrel
  by_cases hlt : i < ps.length
  ·obtain ⟨gb, x, y, rfl, hxy, hc0, hc1⟩ := ReadP.get (HR.out.below HB.out) hlt
   have HX := Aside0.mk hxy
   have HDX := Aside0.mk (HD.out (x, y) (List.mem_of_getElem? hxy))
   clear hxy
   cases hpy : p (x, y) with
   | false =>
    go_wp2_with (first | (refine (HP.out _ _ _ HB.out HDX.out).mono ?_; rintro e w' ⟨rfl, hb2⟩))
    go_roundw
    case rel => exact ⟨i + 1, by go_num, by omega, ⟨fun j q hj hx => by
     rcases Nat.lt_succ_iff_lt_or_eq.1 hj with h | rfl
     ·exact HN.out j q h hx
     ·have := HX.out; rw [hx] at this; cases this; exact hpy⟩, ⟨HB.out.trans (hb2.mono HB.out.size)⟩⟩
    case measure => simp [intOf]; omega
   | true =>
    go_wp2_with (first | (refine (HP.out _ _ _ HB.out HDX.out).mono ?_; rintro e w' ⟨rfl, hb2⟩))
    go_ret
    exact ⟨by rw [idxP_found HX.out HN.out hpy]; rfl, HB.out.trans (hb2.mono HB.out.size)⟩
  ·go_wp2
   go_ret
   exact ⟨by rw [idxP_none (fun j q hj => HN.out j q (by have := (List.getElem?_eq_some_iff.1 hj).1; omega) hj)]; rfl, HB.out⟩
theorem idxP_any {p : Int × Int → Bool} {xs : List (Int × Int)} : decide (0 ≤ idx p xs) = xs.any p := by
 unfold idx
 cases h : xs.any p with
 | true =>
  have : xs.findIdx p < xs.length := by rw [List.findIdx_lt_length]; simpa using h
  rw [if_pos this]; simp
 | false =>
  have : ¬ xs.findIdx p < xs.length := by rw [List.findIdx_lt_length]; simpa using h
  rw [if_neg this]; simp
set_option maxHeartbeats 1000000 in
theorem containsFuncP (v : Value) (ps : List (Int × Int)) (fv : Value) (p : Int × Int → Bool) (dom : Int × Int → Prop) (w : World) (hr : ReadP w v ps) (hp : PredP w fv p dom) (hd : ∀ q ∈ ps, dom q) :
  Calls Tryz.prog 299 #[v, fv] w fun e w' => e = .returned (.bool (ps.any p)) ∧ Below w.heap.size w w' := by
 have HR := Aside0.mk hr
 have HP := Aside0.mk hp
 have HD := Aside0.mk hd
 clear hp hd
 obtain ⟨A, c, rfl, -⟩ := id hr
 clear hr
 go_enter Tryz.func299, Tryz.ntmps299
 go_wp2_with (first | (go_at_call 358; refine (indexFuncP _ _ _ _ _ _ HR.out HP.out HD.out).mono ?_; rintro e w' ⟨rfl, hb2⟩))
 go_ret
 exact ⟨by simp [← idxP_any], hb2⟩
set_option maxRecDepth 100000 in
set_option maxHeartbeats 1000000 in
theorem areAllP1 (w : World) (b : Nat) (fv : Value) (p : Int × Int → Bool) (dom : Int × Int → Prop) (hc : w.cell? ⟨b, 0, none⟩ = some fv) (hp : PredP w fv p dom) :
  PredP w (.func (.func 340) #[] #[.pointer (some ⟨b, 0, none⟩)]) (fun x => !p x) dom := by
 refine ⟨_, _, _, rfl, Enters.mk' Tryz.func340 rfl rfl, fun w1 x y hb hd => ?_⟩
 obtain ⟨g, first, caps, rfl, hent, hp⟩ := hp
 obtain ⟨w2, hw2⟩ : ∃ w2, w2 = w1.alloc (.cells #[.int .i64 x, .int .i64 y] 72) := ⟨_, rfl⟩
 have hB2 : Below w1.heap.size w1 w2 := by rw [hw2]; exact Below.alloc (Below.refl _ _) (Nat.le_refl _) _
 have hcell : w2.cell? ⟨b, 0, none⟩ = some (.func (.func g) first caps) := pw_cell_below hB2 (pw_cell_below hb hc)
 have c0 : w2.cell? ⟨w1.heap.size, 0, none⟩ = some (.int .i64 x) := by rw [hw2]; simp
 have c1 : w2.cell? ⟨w1.heap.size, 1, none⟩ = some (.int .i64 y) := by rw [hw2]; simp
 have hB := hb.trans (hB2.mono hb.size)
 have H := Aside0.mk (fun W (h : Below w2.heap.size w2 W) => hp W x y (hB.trans (h.mono hB.size)) hd)
 have HB := Aside0.mk hB2
 unfold Enters at hent
 have hcell2 : (w1.alloc (.cells #[.int .i64 x, .int .i64 y] 72)).cell? ⟨b, 0, none⟩ = some (.func (.func g) first caps) := by rw [← hw2]; exact hcell
 clear hp hb hd hc hB hB2
 show Calls _ _ #[_, _] _ _
 go_enter Tryz.func340, Tryz.ntmps340
 go_wp2_with (first | (rw [← hw2]; clear hw2 hcell2; refine (H.out _ (Below.refl _ _)).mono ?_; rintro e w' ⟨rfl, hb2⟩))
 go_ret
 exact ⟨by simp, HB.out.trans (hb2.mono HB.out.size)⟩
set_option maxRecDepth 100000 in
set_option maxHeartbeats 1000000 in
theorem areAllP (v : Value) (ps : List (Int × Int)) (fv : Value) (p : Int × Int → Bool) (dom : Int × Int → Prop) (w : World) (hr : ReadP w v ps) (hp : PredP w fv p dom) (hd : ∀ q ∈ ps, dom q) :
  Calls Tryz.prog 246 #[v, fv] w fun e w' => e = .returned (.bool (ps.all p)) ∧ Below w.heap.size w w' := by
 obtain ⟨g, first, caps, rfl, -⟩ := id hp
 have hba : Below w.heap.size w (w.alloc (.cells #[.func (.func g) first caps] 184)) := Below.alloc (Below.refl _ _) (Nat.le_refl _) _
 have HR := Aside0.mk (hr.below hba)
 have HP := Aside0.mk (areAllP1 (w.alloc (.cells #[.func (.func g) first caps] 184)) w.heap.size _ p dom (by simp) (hp.below hba))
 have HD := Aside0.mk hd
 have HB := Aside0.mk hba
 obtain ⟨A, c, rfl, -⟩ := id hr
 clear hr hp hba hd
 go_enter Tryz.func246, Tryz.ntmps246
 go_wp2_with (first | (go_at_call 299; refine (containsFuncP _ _ _ _ _ _ HR.out HP.out HD.out).mono ?_; rintro e w' ⟨rfl, hb2⟩))
 go_ret
 exact ⟨by simp [List.all_eq_not_any_not], HB.out.trans (hb2.mono HB.out.size)⟩
/-- where a walk stands -/
structure Stg (n : Nat) : Prop where
theorem stg_next (k k' : Nat) (h : Stg k) : Stg k' := ⟨⟩
theorem new_cell (W : World) (cs : Array Value) (t : TypeId) (i : Nat) (v : Value) (h : cs[i]? = some v) : (W.alloc (.cells cs t)).cell? ⟨W.heap.size, i, none⟩ = some v := by
 rw [blk_cell (blk_new W _) i, h]
theorem below_unalloc {W W' : World} {o : Obj} (h : Below (W.alloc o).heap.size (W.alloc o) W') : Below W.heap.size W W' :=
 (Below.alloc (Below.refl _ _) (Nat.le_refl _) o).trans (h.mono (by simp))
theorem Aside0.belowC {w w1 w' : World} (h : Aside0 (Below w.heap.size w w1)) (hb : Below w1.heap.size w1 w') : Aside0 (Below w.heap.size w w') := ⟨h.out.trans (hb.mono h.out.size)⟩
/-- a slice of the call's own, cut -/
theorem OwnI.cut {b : Nat} {w : World} {g n cap : Nat} {xs : List Int} (h : OwnI b w (.slice (some ⟨g, 0, none⟩) n cap) xs) {i : Nat} (hi : i ≤ n) : OwnI b w (.slice (some ⟨g, 0, none⟩) i cap) (xs.take i) := by
 have ho := Kd.own_of_R h
 have hn : xs.length = n := by
  obtain ⟨A, c, e, -⟩ := h.read
  injection e with _ e _
  exact e.symm
 obtain ⟨h1, h2⟩ := ho
 rcases h2 with ⟨h2, _⟩ | ⟨g', cap', cur, e, hb, hh, hl, hm, hs, ht⟩
 ·cases h2
 ·cases e
  refine OwnI.of_row (b' := b) ⟨?_, .inr ⟨g, cap, cur, ?_, hb, hh, ?_, hm, hs, ?_⟩⟩ (Nat.le_refl _)
  ·rw [List.length_map, Nat.mul_one]
  ·rw [List.length_take, Nat.min_eq_left (by omega)]
  ·rw [List.length_take]; omega
  ·have h3 := congrArg (List.take i) ht
   rw [List.take_take, Nat.mul_one, Nat.min_eq_left (by omega)] at h3
   rw [List.length_take, Nat.min_eq_left (by omega), Nat.mul_one, h3]
   show List.take i (xs.map (Value.int .i64)) = _
   rw [List.map_take]
theorem own_le {b : Nat} {w : World} {g n cap : Nat} {xs : List Int} (h : OwnI b w (.slice (some ⟨g, 0, none⟩) n cap) xs) : n ≤ cap := by
 obtain ⟨A, c, e, hle, -⟩ := h.read
 injection e with _ e1 e2
 omega
/-- zeros are written from o on -/
theorem own_zeros {b g n cap : Nat} : ∀ (m o : Nat) (w : World) (xs : List Int), OwnI b w (.slice (some ⟨g, 0, none⟩) n cap) xs → o + m ≤ n →
  ∃ ys, OwnI b (w.setCells g o (List.replicate m (.int .i64 0))) (.slice (some ⟨g, 0, none⟩) n cap) ys ∧ ys.take o = xs.take o ∧ w.grownBy (w.setCells g o (List.replicate m (.int .i64 0))) (some g)
 | 0, o, w, xs, h, _ => ⟨xs, h, rfl, World.grownBy.refl _ _⟩
 | m + 1, o, w, xs, h, hl => by
  have hput := OwnI.put h o 0
  have h2 := Kd.R_putg h (o : Int) 0
  simp only [Int.toNat_natCast] at h2
  obtain ⟨ys, h3, h4, h5⟩ := own_zeros (b := b) (g := g) (n := n) (cap := cap) m (o + 1) _ _ hput (by omega)
  refine ⟨ys, h3, ?_, grown_trans h2.2 h5⟩
  have h6 := congrArg (List.take o) h4
  rw [List.take_take, List.take_take, Nat.min_eq_left (Nat.le_succ o), List.take_set_of_le (Nat.le_refl o)] at h6
  exact h6
theorem zero64 (w : World) : (zeroValue 2).run Tryz.prog w = .ok (.int .i64 0) w := by kernel_rfl
section
variable {ops : Array Oper} {rest : List Oper} {o : Oper} {a : Act} {Q : Exit → Act → World → Prop}
/-- clear(s[i:]) -/
theorem clear_own {W : World} {b g n cap : Nat} {xs : List Int} (hgd : o.guard = none) (x : Operand) (ho : o.op = .call { callee := .builtin .clear, args := #[x], argTypes := #[24] })
  (i c : Nat) (hi : i < n) (HO : OwnI b W (.slice (some ⟨g, 0, none⟩) n cap) xs) (hx : a.eval x = .slice (some ⟨g, i, none⟩) (n - i) c)
  (h : ∀ w' ys, OwnI b w' (.slice (some ⟨g, 0, none⟩) n cap) ys → ys.take i = xs.take i → W.grownBy w' (some g) → wpList Tryz.prog ops Q rest (a.put o.dst (.tuple #[])) w') : wpList Tryz.prog ops Q (o :: rest) a W := by
 have hrun := Lib.run_clear_slice (P := Tryz.prog) W 24 2 o.type (.int .i64 0) Tryz.underlying24 zero64 rfl rfl g i (n - i) c (by omega)
  (fun j hj => by obtain ⟨⟨y, hy⟩, _⟩ := OwnI.slot HO (i := i + j) (by omega); rw [hy]; rfl) (fun j hj => (OwnI.slot HO (i := i + j) (by omega)).2)
 obtain ⟨ys, h1, h2, h3⟩ := own_zeros (n - i) i W xs HO (by omega)
 refine wpList_plain hgd fun K' hK' => ?_
 unfold Oper.wp
 simp [execOp, ho, resolve, invoke, builtin, hx, hrun, Result.andThen]
 exact hK' _ _ (h _ ys h1 h2 h3)
end
/-- what is kept of the first j -/
def keptTo (p : Int → Bool) (xs : List Int) (j : Nat) : List Int := (xs.take j).filter fun x => !p x
theorem kept_hit {p : Int → Bool} {xs : List Int} {j : Nat} {y : Int} (hj : j < xs.length) (hy : xs.getD j 0 = y) (h : p y = false) : keptTo p xs (j + 1) = keptTo p xs j ++ [y] := by
 unfold keptTo; rw [take_get hj hy, List.filter_append]; simp [h]
theorem kept_miss {p : Int → Bool} {xs : List Int} {j : Nat} {y : Int} (hj : j < xs.length) (hy : xs.getD j 0 = y) (h : p y = true) : keptTo p xs (j + 1) = keptTo p xs j := by
 unfold keptTo; rw [take_get hj hy, List.filter_append]; simp [h]
theorem kept_len (p : Int → Bool) (xs : List Int) (j : Nat) : (keptTo p xs j).length ≤ j := by
 unfold keptTo; exact Nat.le_trans (List.length_filter_le _ _) (List.length_take_le _ _)
theorem kept_all (p : Int → Bool) (xs : List Int) : keptTo p xs xs.length = xs.filter fun x => !p x := by unfold keptTo; rw [List.take_length]
theorem kept_first {p : Int → Bool} {xs : List Int} {i : Nat} (hi : i < xs.length) (h : xs.findIdx p = i) : keptTo p xs (i + 1) = xs.take i ∧ p (xs.getD i 0) = true := by
 rw [List.findIdx_eq hi] at h
 obtain ⟨h1, h2⟩ := h
 have e : xs.getD i 0 = xs[i] := by simp [List.getD_eq_getElem?_getD, hi]
 refine ⟨?_, by rw [e]; exact h1⟩
 rw [kept_miss hi e h1]
 unfold keptTo
 rw [List.filter_eq_self]
 intro x hx
 obtain ⟨k, hk, rfl⟩ := List.getElem_of_mem hx
 rw [List.length_take] at hk
 rw [List.getElem_take]
 have := h2 k (by omega)
 rw [this]; rfl
/-- the row while it is cut: the kept ones, and from j on what was there -/
def cutRow (p : Int → Bool) (xs : List Int) (j : Nat) (ys : List Int) : Prop := ys.length = xs.length ∧ ys.take (keptTo p xs j).length = keptTo p xs j ∧ ys.drop j = xs.drop j
theorem cut_get {p : Int → Bool} {xs : List Int} {j : Nat} {ys : List Int} (h : cutRow p xs j ys) : ys.getD j 0 = xs.getD j 0 := by
 have h1 := congrArg (fun l => l.getD 0 0) h.2.2
 simpa [List.getD_eq_getElem?_getD] using h1
theorem drop_next {xs ys : List Int} {j : Nat} (h : ys.drop j = xs.drop j) : ys.drop (j + 1) = xs.drop (j + 1) := by
 have := congrArg (List.drop 1) h
 rwa [List.drop_drop, List.drop_drop] at this
theorem cut_miss {p : Int → Bool} {xs : List Int} {j : Nat} {ys : List Int} {y : Int} (hj : j < xs.length) (hy : xs.getD j 0 = y) (hp : p y = true) (h : cutRow p xs j ys) : cutRow p xs (j + 1) ys := by
 refine ⟨h.1, ?_, drop_next h.2.2⟩
 rw [kept_miss hj hy hp]; exact h.2.1
theorem set_take_next {ys : List Int} {k : Nat} {y : Int} (h : k < ys.length) : (ys.set k y).take (k + 1) = ys.take k ++ [y] := by
 rw [List.take_succ_eq_append_getElem (by rw [List.length_set]; exact h), List.getElem_set_self, List.take_set_of_le (Nat.le_refl k)]
theorem cut_hit {p : Int → Bool} {xs : List Int} {j : Nat} {ys : List Int} {y : Int} (hj : j < xs.length) (hy : xs.getD j 0 = y) (hp : p y = false) (h : cutRow p xs j ys) : cutRow p xs (j + 1) (ys.set (keptTo p xs j).length y) := by
 have hl := kept_len p xs j
 obtain ⟨h1, h2, h3⟩ := h
 refine ⟨by rw [List.length_set]; exact h1, ?_, ?_⟩
 ·rw [kept_hit hj hy hp, List.length_append, List.length_singleton, set_take_next (by omega), h2]
 ·rw [List.drop_set_of_lt (by omega)]
  exact drop_next h3
set_option maxRecDepth 100000 in
set_option maxHeartbeats 4000000 in
theorem deleteFunc (w0 w : World) (v : Value) (xs : List Int) (fv : Value) (p : Int → Bool) (dom : Int → Prop) (hb : Below w0.heap.size w0 w) (ho : OwnI w0.heap.size w v xs) (hp : PredI w0 fv p dom) (hd : ∀ x ∈ xs, dom x) (hlen : xs.length ≤ 1000000) :
  Calls Tryz.prog 296 #[v, fv] w fun e w' => ∃ u, e = .returned u ∧ OwnI w0.heap.size w' u (xs.filter fun x => !p x) ∧ Below w0.heap.size w0 w' := by
 have HO := Aside0.mk ho
 have HB := Aside0.mk hb
 have HP := Aside0.mk hp
 have HD := Aside0.mk hd
 have HPW := Aside0.mk (hp.below hb)
 have HIX := Aside0.mk (indexFunc v xs fv p dom w ho.read (hp.below hb) hd)
 by_cases hfi : xs.findIdx p < xs.length
 ·obtain ⟨i0, hi0⟩ : ∃ i0, i0 = xs.findIdx p := ⟨_, rfl⟩
  have hix : idx p xs = (i0 : Int) := by unfold idx; rw [if_pos hfi, hi0]
  rw [hix] at HIX
  rw [← hi0] at hfi
  obtain ⟨hk0, hpi⟩ := kept_first hfi hi0.symm
  obtain ⟨g, cap, rfl, -⟩ := Kd.R_form ho (by omega)
  have hcr : cutRow p xs (i0 + 1) xs := ⟨rfl, by rw [hk0, List.length_take, Nat.min_eq_left (by omega)], rfl⟩
  have hkl : (keptTo p xs (i0 + 1)).length = i0 := by rw [hk0, List.length_take, Nat.min_eq_left (by omega)]
  have HKL := Aside0.mk hkl
  have HCR := Aside0.mk hcr
  have hle := own_le ho
  have hge := ho.base g (by simp [Value.ownBlock])
  obtain ⟨fg, first, caps, rfl, hent, hpc⟩ := hp
  have HPC := Aside0.mk hpc
  unfold Enters at hent
  have hne : ((i0 : Int) == -1) = false := by rw [beq_eq_false_iff_ne]; omega
  clear hi0 hix hk0 hpi hcr hkl ho hb hd hpc
  go_enter Tryz.func296, Tryz.ntmps296
  go_wp2_with (first | (go_at_call 271; refine HIX.out.mono ?_; rintro e w2 ⟨rfl, hb2⟩; have HO2 := Aside0.mk (HO.out.below hb2); have HB2 := Aside0.mk (HB.out.trans (hb2.mono HB.out.size)); clear hb2))
  go_loopw [5, 6] (fun s5 s6 wr => ∃ (j : Nat) (ys : List Int), s6 = .int .i64 j ∧ i0 < j ∧ j ≤ xs.length ∧ s5 = .int .i64 ((keptTo p xs j).length : Nat) ∧ (keptTo p xs j).length < j ∧ Aside0 (cutRow p xs j ys) ∧ Aside0 (OwnI w0.heap.size wr (.slice (some ⟨g, 0, none⟩) xs.length cap) ys) ∧ Aside0 (Below w0.heap.size w0 wr)) (fun _ s6 _ => xs.length - (intOf s6).toNat)
  case atStart => exact ⟨i0 + 1, xs, by go_num, by omega, by omega, by rw [HKL.out], by rw [HKL.out]; omega, HCR, HO2, HB2⟩
  case round =>
   obtain ⟨j, ys, rfl, hij, hj, rfl, hkj, HC, HOr, HBr⟩ := hrel
   obtain ⟨kl, hkl⟩ : ∃ kl, kl = (keptTo p xs j).length := ⟨_, rfl⟩
   have HKJ := Aside0.mk hkl
   rw [← hkl] at hkj ⊢
   clear hkl
   by_cases hlt : j < xs.length
   ·have hrd := HOr.out.read
    obtain ⟨A_, c_, e_, -, hcc⟩ := hrd
    have hyl : ys.length = xs.length := HC.out.1
    rw [hyl] at e_ hcc
    injection e_ with e1 _ e3
    subst e1 e3
    obtain ⟨ad, y, e1, hcell, HY⟩ := ReadI.get (xs := ys) (by rw [hyl]; exact hcc) (i := j) (by omega)
    cases e1
    rw [add_mk] at hcell
    have hyx : xs.getD j 0 = y := by rw [← cut_get HC.out]; exact HY.out
    have HYX := Aside0.mk hyx
    have hdy : dom y := HD.out y (mem_at hlt hyx)
    have HDY := Aside0.mk hdy
    have HCALL := Aside0.mk (HPC.out wr y HBr.out hdy)
    clear hcc hyl hyx hdy
    cases hpy : p y with
    | true =>
     have HKN := Aside0.mk (kept_miss (p := p) hlt HYX.out hpy)
     have HCN := Aside0.mk (cut_miss hlt HYX.out hpy HC.out)
     go_wp2_with (first | (refine HCALL.out.mono ?_; rintro e w3 ⟨rfl, hb3⟩; have HO3 := Aside0.mk (HOr.out.below hb3); have HB3 := Aside0.mk (HBr.out.trans (hb3.mono HBr.out.size)); clear hb3))
     go_roundw
     case rel => exact ⟨j + 1, ys, by go_num, by omega, by omega, by rw [HKN.out, ← HKJ.out], by rw [HKN.out, ← HKJ.out]; omega, HCN, HO3, HB3⟩
     case measure => simp [intOf]; omega
    | false =>
     have HKN := Aside0.mk (kept_hit (p := p) hlt HYX.out hpy)
     have HCN := Aside0.mk (cut_hit hlt HYX.out hpy HC.out)
     rw [← HKJ.out] at HCN
     go_wp2_with (first | (refine HCALL.out.mono ?_; rintro e w3 ⟨rfl, hb3⟩; have HO3 := Aside0.mk (HOr.out.below hb3); have HB3 := Aside0.mk (HBr.out.trans (hb3.mono HBr.out.size)); have hz3 := hb3.size; clear hb3) | ((with_reducible refine gate_store (t := 2) (p := 33) rfl ?_); refine store_own (w0 := w0) rfl (p := 33) rfl rfl kl y HO3.out ?ha ?hb ?hc ?_; (case ha => omega); (case hb => rfl); (case hc => rfl); intro w4 ho4 hg4 hb4; have HO4 := Aside0.mk ho4; have HB4 := Aside0.mk (HB3.out.trans hb4); clear ho4 hg4 hb4))
     go_roundw
     case rel => exact ⟨j + 1, _, by go_num, by omega, by omega, by rw [HKN.out, List.length_append, ← HKJ.out]; go_num, by rw [HKN.out, List.length_append, ← HKJ.out]; simp; omega, HCN, HO4, HB4⟩
     case measure => simp [intOf]; omega
   ·have e : j = xs.length := by omega
    have HE := Aside0.mk e
    have hkn : kl < xs.length := by omega
    have hck : ¬ cap = kl := by omega
    clear e
    go_wp2_with (first | ((with_reducible refine gate_builtin (b := .clear) (xs := #[.tmp 38]) rfl ?_); refine clear_own (b := w0.heap.size) rfl _ rfl kl (cap - kl) hkn HOr.out rfl ?_; intro w4 zs ho4 ht4 hg4; have HO4 := Aside0.mk (ho4.cut (i := kl) (by omega)); have HB4 := Aside0.mk (HBr.out.trans (below_grown hg4 hge HBr.out.size)); have HT4 := Aside0.mk ht4; clear ho4 ht4 hg4))
    go_ret
    refine ⟨_, rfl, ?_, HB4.out⟩
    have h1 := HO4.out
    rw [HT4.out] at h1
    have h2 := HC.out.2.1
    rw [← HKJ.out] at h2
    rw [h2, HE.out, kept_all] at h1
    exact h1
 ·have hix : idx p xs = -1 := by unfold idx; rw [if_neg hfi]
  rw [hix] at HIX
  have hall : (xs.filter fun x => !p x) = xs := by
   rw [List.filter_eq_self]
   intro x hx
   have h2 := List.findIdx_eq_length (p := p) (xs := xs)
   have h3 := (h2.1 (by have := List.findIdx_le_length (p := p) (xs := xs); omega)) x hx
   rw [h3]; rfl
  have HALL := Aside0.mk hall
  obtain ⟨A1, d1, rfl, -⟩ := id ho.read
  obtain ⟨fg, first, caps, rfl, -⟩ := hp
  clear hix hfi hall ho hb hd
  go_enter Tryz.func296, Tryz.ntmps296
  go_wp2_with (first | (go_at_call 271; refine HIX.out.mono ?_; rintro e w2 ⟨rfl, hb2⟩; have HO2 := Aside0.mk (HO.out.below hb2); have HB2 := Aside0.mk (HB.out.trans (hb2.mono HB.out.size)); clear hb2))
  go_ret
  exact ⟨_, rfl, by rw [HALL.out]; exact HO2.out, HB2.out⟩
end Go.Proofs.YtomofijniefelaaGreat.H
