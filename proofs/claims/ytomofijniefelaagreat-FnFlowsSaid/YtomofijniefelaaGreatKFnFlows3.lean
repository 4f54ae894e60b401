/- Faces found: binary search, has, full, and the reference's own. slices.Backward over a slice of numbers: what it yields, and that it keeps what lay before. Faces of at most six vertices: their vertices and borders, by the program and by the reference. borders(f): the sets with one vertex less, ascending. What a complex is: of the program and of the reference. -/
import Derived.RangeFuncBox
import Derived.RangeFuncLeaves
import Derived.RangeFuncNested
import Derived.Shelf.RegionOpen
import Derived.Shelf.Abstract
import Derived.WalkKit
import Derived.OwnWalkIn
import Derived.TacticsInMore
import Derived.LoopNIn
import Derived.LoopIn
import Derived.Maps.AppendAt
import Derived.Test.YtomofijniefelaaGreatKFnFlows1
import Derived.Test.YtomofijniefelaaGreatKFnFlows2

namespace Go.Proofs.YtomofijniefelaaGreat.H
open Go.RowKit Go.Proofs.YtomofijniefelaaGreatW.PrintWords Go.Proofs.YtomofijniefelaaGreatW.PrintLast
set_option linter.unusedVariables false
set_option linter.unusedSimpArgs false
/-- the value of a complex -/
abbrev cx (a : Int) (u : Value) : Value := .agg #[.int .i64 a, u]
theorem cmpNaN (x : Int) (w : World) : Calls Tryz.prog 382 #[.int .i64 x] w fun e w' => e = .returned (.bool false) ∧ Below w.heap.size w w' := by
 go_enter Tryz.func382, Tryz.ntmps382
 go_wp2
 go_ret
 exact ⟨by simp, Below.refl _ _⟩
theorem slicesNaN (x : Int) (w : World) : Calls Tryz.prog 342 #[.int .i64 x] w fun e w' => e = .returned (.bool false) ∧ Below w.heap.size w w' := by
 go_enter Tryz.func342, Tryz.ntmps342
 go_wp2
 go_ret
 exact ⟨by simp, Below.refl _ _⟩
theorem cmpLess (x y : Int) (w : World) : Calls Tryz.prog 341 #[.int .i64 x, .int .i64 y] w fun e w' => e = .returned (.bool (decide (x < y))) ∧ Below w.heap.size w w' := by
 go_enter Tryz.func341, Tryz.ntmps341
 go_wp2_with (first | (go_at_call 382; refine (cmpNaN _ _).mono ?_; rintro e w' ⟨rfl, hb⟩))
 all_goals go_ret
 all_goals exact ⟨by simp [*] <;> omega, by (repeat (first | (with_reducible exact Below.refl _ _) | (with_reducible assumption) | (with_reducible refine below_step ?_ (by assumption)) | (with_reducible apply below_alloc) | (with_reducible apply below_drewN)))⟩
theorem asc_lt {xs : List Int} (hs : xs.Pairwise (· < ·)) {i j : Nat} (hij : i < j) (hj : j < xs.length) : xs.getD i 0 < xs.getD j 0 := by
 have := List.pairwise_iff_getElem.1 hs i j (by omega) hj hij
 simpa [List.getD_eq_getElem?_getD, hj, Nat.lt_trans hij hj] using this
theorem mem_at {xs : List Int} {i : Nat} {x : Int} (hi : i < xs.length) (h : xs.getD i 0 = x) : x ∈ xs := by
 rw [← h]; simp [List.getD_eq_getElem?_getD, hi]
theorem mem_none {xs : List Int} (hs : xs.Pairwise (· < ·)) {i : Nat} {x : Int} (hl : ∀ k, k < i → xs.getD k 0 < x) (hg : ∀ k, i ≤ k → k < xs.length → x < xs.getD k 0) : ¬ x ∈ xs := by
 intro hm
 obtain ⟨k, hk, rfl⟩ := List.getElem_of_mem hm
 have e : xs.getD k 0 = xs[k] := by simp [List.getD_eq_getElem?_getD, hk]
 by_cases h : k < i
 ·have := hl k h; omega
 ·have := hg k (by omega) hk; omega
set_option maxHeartbeats 1000000 in
theorem binarySearch (v : Value) (xs : List Int) (x : Int) (w : World) (hr : ReadI w v xs) (hs : xs.Pairwise (· < ·)) (hl : xs.length ≤ 1000) :
  Calls Tryz.prog 248 #[v, .int .i64 x] w fun e w' => ∃ j : Int, e = .returned (.tuple #[.int .i64 j, .bool (decide (x ∈ xs))]) ∧ Below w.heap.size w w' := by
 obtain ⟨A, c, rfl, hc, hr⟩ := hr
 have HR := Aside0.mk hr
 have HS := Aside0.mk hs
 clear hr hs
 go_enter Tryz.func248, Tryz.ntmps248
 go_wp2
 go_loopw [7, 8] (fun vi vj wr => ∃ i j : Nat, vi = .int .i64 i ∧ vj = .int .i64 j ∧ i ≤ j ∧ j ≤ xs.length ∧ Aside0 (∀ k, k < i → xs.getD k 0 < x) ∧ Aside0 (∀ k, j ≤ k → k < xs.length → x ≤ xs.getD k 0) ∧ Below w.heap.size w wr) (fun vi vj _ => (intOf vj).toNat - (intOf vi).toNat)
 case atStart => exact ⟨0, xs.length, rfl, rfl, Nat.zero_le _, Nat.le_refl _, ⟨fun j hj => absurd hj (Nat.not_lt_zero _)⟩, ⟨fun k h1 h2 => by omega⟩, Below.refl _ _⟩
 case round =>
  obtain ⟨i, j, rfl, rfl, hij, hj, HL, HG, hb⟩ := hrel
  have hR := Kd.C_below HR.out hb
  have HB := Aside0.mk hb
  clear hb
  by_cases hlt : i < j
  ·obtain ⟨ad, y, rfl, hcell, HY⟩ := ReadI.get hR (i := (i + j) / 2) (by omega)
   clear hR
   by_cases hyx : y < x
   ·go_wp2_with (first | (go_at_call 341; refine (cmpLess _ _ _).mono ?_; rintro e w' ⟨rfl, hb2⟩; rw [decide_eq_true hyx]))
    go_roundw
    case rel =>
     refine ⟨(i + j) / 2 + 1, j, by go_num, rfl, by omega, hj, ⟨fun k hk => ?_⟩, HG, HB.out.trans (hb2.mono HB.out.size)⟩
     by_cases hk2 : k = (i + j) / 2
     ·rw [hk2, HY.out]; exact hyx
     ·have := asc_lt HS.out (i := k) (j := (i + j) / 2) (by omega) (by omega)
      rw [HY.out] at this; omega
    case measure => simp [intOf]; omega
   ·go_wp2_with (first | (go_at_call 341; refine (cmpLess _ _ _).mono ?_; rintro e w' ⟨rfl, hb2⟩; rw [decide_eq_false hyx]))
    go_roundw
    case rel =>
     refine ⟨i, (i + j) / 2, rfl, by go_num, by omega, by omega, HL, ⟨fun k hk hk3 => ?_⟩, HB.out.trans (hb2.mono HB.out.size)⟩
     by_cases hk2 : k = (i + j) / 2
     ·rw [hk2, HY.out]; omega
     ·have := asc_lt HS.out (i := (i + j) / 2) (j := k) (by omega) (by omega)
      rw [HY.out] at this; omega
    case measure => simp [intOf]; omega
  ·have hij2 : j = i := by omega
   subst hij2
   by_cases hin : j < xs.length
   ·obtain ⟨ad, y, rfl, hcell, HY⟩ := ReadI.get hR hin
    clear hR
    by_cases hyx : y = x
    ·have hyb : (y == x) = true := by simpa using hyx
     go_wp2
     go_ret2
     exact ⟨_, by rw [decide_eq_true (mem_at hin (HY.out.trans hyx))]; rfl, HB.out⟩
    ·have hyb : (y == x) = false := by simpa using hyx
     have HNO : Aside0 (¬ x ∈ xs) := ⟨mem_none HS.out HL.out (fun k h1 h2 => by
      rcases Nat.eq_or_lt_of_le h1 with rfl | h3
      ·have := HG.out j (Nat.le_refl _) hin; rw [HY.out] at this ⊢; omega
      ·have := asc_lt HS.out h3 h2; have := HG.out j (Nat.le_refl _) hin; omega)⟩
     have hb := HB.out
     go_wp2_with (first | (go_at_call 342; refine (slicesNaN _ _).mono ?_; rintro e w' ⟨rfl, hb2⟩))
     go_ret2
     exact ⟨_, by rw [decide_eq_false HNO.out]; rfl, by (repeat (first | (with_reducible exact Below.refl _ _) | (with_reducible assumption) | (with_reducible refine below_step ?_ (by assumption)) | (with_reducible apply below_alloc) | (with_reducible apply below_drewN)))⟩
   ·go_wp2
    go_ret2
    exact ⟨_, by rw [decide_eq_false (mem_none HS.out HL.out (fun k h1 h2 => by omega))]; rfl, HB.out⟩
theorem has (a : Int) (u : Value) (l : List Int) (f : Int) (w : World) (hr : ReadI w u l) (hs : l.Pairwise (· < ·)) (hl : l.length ≤ 1000) :
  Calls Tryz.prog 129 #[cx a u, .int .i64 f] w fun e w' => e = .returned (.bool (decide (f ∈ l))) ∧ Below w.heap.size w w' := by
 have hba : Below w.heap.size w (w.alloc (.cells #[.int .i64 a, u] 26)) := Below.alloc (Below.refl _ _) (Nat.le_refl _) _
 have HR := Aside0.mk (hr.below hba)
 have HS := Aside0.mk hs
 have HB := Aside0.mk hba
 obtain ⟨A, c, rfl, -⟩ := id hr
 clear hr hs hba
 go_enter Tryz.func129, Tryz.ntmps129
 go_wp2_with (first | (go_at_call 248; refine (binarySearch _ _ _ _ HR.out HS.out hl).mono ?_; rintro e w' ⟨j, rfl, hb2⟩))
 go_ret
 exact ⟨rfl, HB.out.trans (hb2.mono HB.out.size)⟩
theorem full (n : Nat) (hn : n ≤ 6) (u : Value) (w : World) :
  Calls Tryz.prog 137 #[cx n u] w fun e w' => e = .returned (.int .i64 (((2 ^ n : Nat) : Int) - 1)) ∧ Below w.heap.size w w' := by
 have hsh := pow_wrap n (by omega)
 have hb : 2 ^ n ≤ 64 := by
  rcases (by omega : n = 0 ∨ n = 1 ∨ n = 2 ∨ n = 3 ∨ n = 4 ∨ n = 5 ∨ n = 6) with rfl | rfl | rfl | rfl | rfl | rfl | rfl <;> decide
 obtain ⟨N, hN⟩ : ∃ N : Nat, N = 2 ^ n := ⟨_, rfl⟩
 rw [← hN] at hsh hb ⊢
 clear hN
 go_enter Tryz.func137, Tryz.ntmps137
 go_wp2
 go_ret
 exact ⟨by simp, by (repeat (first | (with_reducible exact Below.refl _ _) | (with_reducible assumption) | (with_reducible refine below_step ?_ (by assumption)) | (with_reducible apply below_alloc) | (with_reducible apply below_drewN)))⟩
theorem specAll (n : Nat) (hn : n ≤ 6) (w : World) :
  Calls Tryz.prog 268 #[.int .i64 n] w fun e w' => e = .returned (.int .i64 (((2 ^ n : Nat) : Int) - 1)) ∧ Below w.heap.size w w' := by
 have hsh := pow_wrap n (by omega)
 have hb : 2 ^ n ≤ 64 := by
  rcases (by omega : n = 0 ∨ n = 1 ∨ n = 2 ∨ n = 3 ∨ n = 4 ∨ n = 5 ∨ n = 6) with rfl | rfl | rfl | rfl | rfl | rfl | rfl <;> decide
 obtain ⟨N, hN⟩ : ∃ N : Nat, N = 2 ^ n := ⟨_, rfl⟩
 rw [← hN] at hsh hb ⊢
 clear hN
 go_enter Tryz.func268, Tryz.ntmps268
 go_wp2
 go_ret
 exact ⟨by simp, by (repeat (first | (with_reducible exact Below.refl _ _) | (with_reducible assumption) | (with_reducible refine below_step ?_ (by assumption)) | (with_reducible apply below_alloc) | (with_reducible apply below_drewN)))⟩
set_option maxHeartbeats 1000000 in
theorem specHas (a : Int) (u : Value) (l : List Int) (f : Int) (w : World) (hr : ReadI w u l) :
  Calls Tryz.prog 154 #[cx a u, .int .i64 f] w fun e w' => e = .returned (.bool (decide (f ∈ l))) ∧ Below w.heap.size w w' := by
 have hba : Below w.heap.size w (w.alloc (.cells #[.int .i64 a, u] 26)) := Below.alloc (Below.refl _ _) (Nat.le_refl _) _
 have HB := Aside0.mk hba
 obtain ⟨A, c, rfl, hc, hr⟩ := id hr
 have HR := Aside0.mk (Kd.C_below hr hba)
 have hlen : l.length ≤ 9223372036854775807 := hr.2.1
 clear hr hba
 go_enter Tryz.func154, Tryz.ntmps154
 go_wp2
 obtain ⟨w1, hw1⟩ : ∃ w1, w1 = w.alloc (Obj.cells #[.int .i64 a, Value.slice A l.length c] 26) := ⟨_, rfl⟩
 have hc1 : w1.cell? ⟨w.heap.size, 1, none⟩ = some (Value.slice A l.length c) := by rw [hw1]; simp
 rw [← hw1] at HB HR ⊢
 clear hw1
 go_loopw [5] (fun v wr => ∃ i : Nat, v = .int .i64 i ∧ i ≤ l.length ∧ Aside0 (∀ k, k < i → l.getD k 0 ≠ f) ∧ Below w1.heap.size w1 wr) (fun v _ => l.length - (intOf v).toNat)
 case atStart => exact ⟨0, rfl, Nat.zero_le _, ⟨fun j hj => absurd hj (Nat.not_lt_zero _)⟩, Below.refl _ _⟩
 case round =>
  obtain ⟨i, rfl, hi, HN, hb⟩ := hrel
  have hR := Kd.C_below HR.out hb
  have hcr := pw_cell_below hb hc1
  have HB1 := Aside0.mk hb
  clear hb
  by_cases hlt : i < l.length
  ·obtain ⟨ad, y, rfl, hcell, HY⟩ := ReadI.get hR hlt
   clear hR
   by_cases hyf : y = f
   ·go_wp2
    go_ret
    exact ⟨by rw [decide_eq_true (mem_at hlt (HY.out.trans hyf))]; rfl, HB.out.trans (HB1.out.mono HB.out.size)⟩
   ·go_wp2
    go_roundw
    case rel =>
     refine ⟨i + 1, by go_num, by omega, ⟨fun k hk => ?_⟩, HB1.out⟩
     rcases Nat.lt_succ_iff_lt_or_eq.1 hk with h | rfl
     ·exact HN.out k h
     ·rw [HY.out]; exact hyf
    case measure => simp [intOf]; omega
  ·go_wp2
   go_ret
   refine ⟨?_, HB.out.trans (HB1.out.mono HB.out.size)⟩
   rw [decide_eq_false]
   ·rfl
   ·intro hm
    obtain ⟨k, hk, rfl⟩ := List.getElem_of_mem hm
    exact HN.out k (by omega) (by simp [List.getD_eq_getElem?_getD, hk])
end Go.Proofs.YtomofijniefelaaGreat.H

namespace Go.Proofs.YtomofijniefelaaGreat.H
open Go.Shelf
open Go.RowKit Go.Proofs.YtomofijniefelaaGreatW.PrintWords Go.Proofs.YtomofijniefelaaGreatW.PrintLast
set_option linter.unusedVariables false
set_option linter.unusedSimpArgs false
attribute [local go_sem] Oper.semAt_some
/-- the blocks from lo up to hi have not turned -/
def Mid (lo hi : Nat) (W W' : World) : Prop := ∀ k, lo ≤ k → k < hi → W'.heap[k]? = W.heap[k]?
theorem Mid.refl (lo hi : Nat) (W : World) : Mid lo hi W W := fun _ _ _ => rfl
theorem Mid.trans {lo hi : Nat} {A B C : World} (h : Mid lo hi A B) (h' : Mid lo hi B C) : Mid lo hi A C := fun k a b => (h' k a b).trans (h k a b)
theorem Mid.cell {lo hi : Nat} {W W' : World} (h : Mid lo hi W W') {p : Addr} (h1 : lo ≤ p.block) (h2 : p.block < hi) : W'.cell? p = W.cell? p := by
 simp only [World.cell?, h p.block h1 h2]
theorem Mid.of_below {lo hi : Nat} {W W' : World} (h : Below hi W W') : Mid lo hi W W' := fun k _ hk => h.block k hk
/-- what has come when k rounds are over -/
def upto {α : Type} (g : Nat → α) (k : Nat) : List α := (List.range k).map g
theorem upto_succ {α : Type} (g : Nat → α) (k : Nat) : upto g (k + 1) = upto g k ++ [g k] := by simp [upto, List.range_succ]
theorem upto_length {α : Type} (g : Nat → α) (k : Nat) : (upto g k).length = k := by simp [upto]
set_option maxRecDepth 100000 in
set_option maxHeartbeats 2000000 in
theorem back1_in {α : Type} (encs : α → Array Value) (g : Nat → α) (F : Fence) (n : Nat) (h8 : F.fn 356) (hro : F.round = none) (hn : 1 ≤ n) (l Bs lo hi b off cap : Nat) (zs : List Int) (hreach : zs.length * 8 ≤ 140737488351232) (hb : lo ≤ b ∧ b < hi) (J Jx : List α → World → Prop)
  (hg : ∀ k, k < zs.length → encs (g k) = #[.int .i64 ((zs.length : Int) - 1 - k), .int .i64 (zs[zs.length - 1 - k]?.getD 0)])
  (hY : ∀ pre x W, J pre W → pre.length < zs.length → YieldAt F (n - 1) Tryz.prog l (encs x) W fun e W' =>
   (e = .returned (.bool true) ∧ J (pre ++ [x]) W' ∧ Mid lo hi W W') ∨ (e = .returned (.bool false) ∧ Jx (pre ++ [x]) W'))
  (W : World) (hBb : lo ≤ Bs ∧ Bs < hi) (hBs : W.cell? ⟨Bs, 0, none⟩ = some (.slice (some ⟨b, off, none⟩) zs.length cap)) (hc : ∀ j, j < zs.length → W.cell? ⟨b, off + j, none⟩ = some (.int .i64 (zs[j]?.getD 0))) (h0 : J [] W) :
  CallsIn F n Tryz.prog 356 #[.func (.yield l) #[] #[], .pointer (some ⟨Bs, 0, none⟩)] W fun e W' => (∃ v, e = .returned v) ∧
   ((∃ ys, ys = upto g zs.length ∧ J ys W') ∨ (∃ pre, (∃ k, k ≤ zs.length ∧ pre = upto g k) ∧ Jx pre W')) := by
 refine callsIn_of_wp Tryz.func356 rfl h8 ?_ hro
 simp only [Tryz.ntmps356, List.size_toArray, List.length_cons, List.length_nil, Nat.reduceAdd, Nat.reduceSub, Array.replicate_succ, Array.replicate_zero, List.push_toArray, List.append_toArray, List.nil_append, List.cons_append]
 gi_wp2
 gi_loopw [3] (fun i wr => ∃ k : Nat, k ≤ zs.length ∧ i = .int .i64 ((zs.length : Int) - 1 - k) ∧ J (upto g k) wr ∧ Mid lo hi W wr)
  (fun i _ => (intOf i + 1).toNat)
 case atStart => exact ⟨0, Nat.zero_le _, by simp, h0, Mid.refl _ _ _⟩
 case round =>
  obtain ⟨k, hk, rfl, hJs, hnx⟩ := hrel
  have hbs := (hnx.cell (p := ⟨Bs, 0, none⟩) hBb.1 hBb.2).trans hBs
  by_cases hlt : k < zs.length
  ·have hcx' : wr.cell? ⟨b, off + (zs.length - 1 - k), none⟩ = some (.int .i64 (zs[zs.length - 1 - k]?.getD 0)) := (hnx.cell (p := ⟨b, _, none⟩) hb.1 hb.2).trans (hc _ (by omega))
   obtain ⟨fn, tmps, assign, body, hy, hR⟩ := hY _ (g k) wr hJs (by rw [upto_length]; exact hlt)
   rw [hg k hlt] at hy
   have hi0 : (0 : Int) ≤ (zs.length : Int) - 1 - k := by omega
   have hi1 : (zs.length : Int) - 1 - k < zs.length := by omega
   have hi2 : ((zs.length : Int) - 1 - k).toNat = zs.length - 1 - k := by omega
   gi_wp2
   refine hR.mono ?_
   rintro e W3 (⟨rfl, hJ3, hk3⟩ | ⟨rfl, hJx3⟩)
   ·gi_wp2
    go_roundw
    case rel => exact ⟨k + 1, by omega, by go_num, by rw [upto_succ]; exact hJ3, hnx.trans hk3⟩
    case measure => simp [intOf]; omega
   ·gi_wp2
    refine bodyPost_ret (results_none rfl _ _ _) rfl ?_
    exact ⟨⟨_, rfl⟩, .inr ⟨_, ⟨k + 1, by omega, (upto_succ _ _).symm⟩, hJx3⟩⟩
  ·obtain rfl : k = zs.length := by omega
   gi_wp2
   go_end0
   exact ⟨⟨_, rfl⟩, .inl ⟨_, rfl, hJs⟩⟩
set_option maxRecDepth 100000 in
set_option maxHeartbeats 1000000 in
theorem back1_nil_in {α : Type} (F : Fence) (n : Nat) (h8 : F.fn 356) (hro : F.round = none) (l Bs : Nat) (A : Option Addr) (c : Nat) (J : List α → World → Prop) (W : World) (hBs : W.cell? ⟨Bs, 0, none⟩ = some (.slice A 0 c)) (h0 : J [] W) :
  CallsIn F n Tryz.prog 356 #[.func (.yield l) #[] #[], .pointer (some ⟨Bs, 0, none⟩)] W fun e W' => (∃ v, e = .returned v) ∧ J [] W' := by
 refine callsIn_of_wp Tryz.func356 rfl h8 ?_ hro
 simp only [Tryz.ntmps356, List.size_toArray, List.length_cons, List.length_nil, Nat.reduceAdd, Nat.reduceSub, Array.replicate_succ, Array.replicate_zero, List.push_toArray, List.append_toArray, List.nil_append, List.cons_append]
 gi_wp2
 gi_loopw [3] (fun i wr => i = .int .i64 (-1) ∧ J [] wr) (fun _ _ => 0)
 case atStart => exact ⟨rfl, h0⟩
 case round =>
  obtain ⟨rfl, hJs⟩ := hrel
  gi_wp2
  go_end0
  exact ⟨⟨_, rfl⟩, hJs⟩
theorem back_in (F : Fence) (n : Nat) (h6 : F.fn 276) (hro : F.round = none) (a : Option Addr) (len cap : Nat) (w : World) :
  CallsIn F n Tryz.prog 276 #[.slice a len cap] w fun e w' => e = .returned (.func (.func 356) #[] #[.pointer (some ⟨w.heap.size, 0, none⟩)]) ∧ w' = w.alloc (.cells #[.slice a len cap] 24) := by
 refine callsIn_of_wp Tryz.func276 rfl h6 ?_ hro
 simp only [Tryz.ntmps276, List.size_toArray, List.length_cons, List.length_nil, Nat.reduceAdd, Nat.reduceSub, Array.replicate_succ, Array.replicate_zero, List.push_toArray, List.append_toArray, List.nil_append, List.cons_append]
 gi_wp2
 go_ret
 exact ⟨rfl, rfl⟩
/-- slices.Backward(s): the pairs from the last one to the first one, or the first k of them. sv lies in a block that the call made. -/
theorem back_stops {α : Type} (encs : α → Array Value) (g : Nat → α) (F : Fence) (n : Nat) (h8 : F.fn 356) (hro : F.round = none) (hn : 1 ≤ n) (Bs lo hi : Nat) (sv : Value) (zs : List Int) (hreach : zs.length * 8 ≤ 140737488351232) (w : World) (b0 : Nat) (hBs : lo ≤ Bs ∧ Bs < hi) (hn₀ : hi ≤ w.heap.size)
  (hc : w.cell? ⟨Bs, 0, none⟩ = some sv) (hI : OwnI b0 w sv zs) (hg : ∀ k, k < zs.length → encs (g k) = #[.int .i64 ((zs.length : Int) - 1 - k), .int .i64 (zs[zs.length - 1 - k]?.getD 0)]) (hlt : ∀ k, sv.ownBlock = some k → lo ≤ k ∧ k < hi) :
  SeqStopsK F n Tryz.prog 356 #[.pointer (some ⟨Bs, 0, none⟩)] encs (Mid lo hi) (fun ys => ys = upto g zs.length)
   (fun pre => ∃ k, k ≤ zs.length ∧ pre = upto g k) zs.length w := fun l J Jx W hW _ _ hY h0 => by
 have hc' := (hW.cell (p := ⟨Bs, 0, none⟩) (Nat.lt_of_lt_of_le hBs.2 hn₀)).trans hc
 by_cases hz : 0 < zs.length
 ·obtain ⟨gb, cap, rfl, hg1, hg2, -⟩ := Kd.R_form hI hz
  have hgb : lo ≤ gb ∧ gb < hi := hlt gb (by simp [Value.ownBlock])
  refine back1_in encs g F n h8 hro hn l Bs lo hi gb 0 cap zs hreach hgb J Jx hg hY W hBs hc' (fun j hj => ?_) h0
  obtain ⟨A, c, e, -, hr⟩ := OwnI.read hI
  injection e with e1 e2 e3
  obtain ⟨ad, e4, hcell⟩ := ReadI.at_ hr hj
  rw [e4] at e1
  injection e1 with e1
  subst e1
  have h2 : w.cell? ⟨gb, 0 + j, none⟩ = some (.int .i64 (zs.getD j 0)) := by
   have e5 : (⟨gb, 0, none⟩ : Addr).add j = ⟨gb, 0 + j, none⟩ := by
    unfold Addr.add
    split
    ·rename_i h; subst h; rfl
    ·rfl
   rw [e5] at hcell
   exact hcell
  rw [List.getD_eq_getElem?_getD] at h2
  exact (hW.cell (p := ⟨gb, 0 + j, none⟩) (Nat.lt_of_lt_of_le hgb.2 hn₀)).trans h2
 ·obtain rfl : zs = [] := List.eq_nil_of_length_eq_zero (by omega)
  obtain ⟨A, c, rfl, -, hr⟩ := OwnI.read hI
  exact (back1_nil_in F n h8 hro l Bs A c J W hc' h0).mono fun e W' ⟨he, hj⟩ => ⟨he, .inl ⟨_, rfl, hj⟩⟩
end Go.Proofs.YtomofijniefelaaGreat.H

namespace Go.Proofs.YtomofijniefelaaGreat.H
open Go.RowKit Go.Proofs.YtomofijniefelaaGreatW.PrintWords Go.Proofs.YtomofijniefelaaGreatW.PrintLast
set_option linter.unusedVariables false
set_option linter.unusedSimpArgs false
/-- the vertices of a face -/
def vs (f : Nat) : List Int := ((List.range 6).filter fun v => f.testBit v).map fun (v : Nat) => (v : Int)
def vsTo (f k : Nat) : List Int := ((List.range k).filter fun v => f.testBit v).map fun (v : Nat) => (v : Int)
theorem vsTo_succ (f k : Nat) : vsTo f (k + 1) = if f.testBit k then vsTo f k ++ [(k : Int)] else vsTo f k := by
 unfold vsTo
 rw [List.range_succ, List.filter_append, List.map_append]
 by_cases h : f.testBit k <;> simp [h]
theorem vsTo_len (f k : Nat) : (vsTo f k).length ≤ k := by
 unfold vsTo
 rw [List.length_map]
 exact Nat.le_trans (List.length_filter_le _ _) (by simp)
set_option maxHeartbeats 1000000 in
theorem vertices (f : Nat) (hf : f ≤ 63) (w : World) :
  Calls Tryz.prog 272 #[.int .i64 f] w fun e w' => ∃ v, e = .returned v ∧ OwnI w.heap.size w' v (vs f) ∧ Below w.heap.size w w' := by
 go_enter Tryz.func272, Tryz.ntmps272
 go_wp2
 go_loopw [3, 5] (fun v i wr => ∃ k : Nat, i = .int .i64 k ∧ k ≤ 6 ∧ Aside0 (OwnI w.heap.size wr v (vsTo f k)) ∧ Aside0 (Below w.heap.size w wr)) (fun _ i _ => 6 - (intOf i).toNat)
 case atStart => exact ⟨0, rfl, by omega, ⟨OwnI.nil _ _⟩, ⟨Below.refl _ _⟩⟩
 case round =>
  obtain ⟨k, rfl, hk, HO, HB⟩ := hrel
  by_cases hlt : k < 6
  ·have hb2 : Aside0 (vsTo f (k + 1) = if f.testBit k then vsTo f k ++ [(k : Int)] else vsTo f k) := ⟨vsTo_succ f k⟩
   have hbit := bit_of f k (by omega)
   cases ht : f.testBit k with
   | true =>
    rw [ht, if_pos rfl] at hbit
    have HT := Aside0.mk ht
    clear ht
    go_wp2_with (first | (at_builtin; refine app_own (w0 := w) w.heap.size rfl (.tmp 13) (.tmp 15) rfl _ (vsTo f k) k rfl rfl HO.out HB.out HB.out.size ?hl ?_; (case hl => have := vsTo_len f k; omega); intro v1 w1 ho hb hg hat; have HO1 := Aside0.mk ho; have HB1 := Aside0.mk hb; clear ho hb hg hat))
    go_roundw
    case rel => exact ⟨k + 1, by go_num, by omega, ⟨by rw [hb2.out, HT.out, if_pos rfl]; exact HO1.out⟩, HB1⟩
    case measure => simp [intOf]; omega
   | false =>
    rw [ht, if_neg (by decide)] at hbit
    have HT := Aside0.mk ht
    clear ht
    go_wp2
    go_roundw
    case rel => exact ⟨k + 1, by go_num, by omega, ⟨by rw [hb2.out, HT.out, if_neg (by decide)]; exact HO.out⟩, HB⟩
    case measure => simp [intOf]; omega
  ·obtain rfl : k = 6 := by omega
   go_wp2
   go_ret
   exact ⟨_, rfl, HO.out, HB.out⟩
end Go.Proofs.YtomofijniefelaaGreat.H

namespace Go.Proofs.YtomofijniefelaaGreat.H
open Go.Shelf
open Go.RowKit Go.Proofs.YtomofijniefelaaGreatW.PrintWords Go.Proofs.YtomofijniefelaaGreatW.PrintLast
set_option linter.unusedVariables false
set_option linter.unusedSimpArgs false
attribute [local go_sem] Oper.semAt_some
/-- f without v -/
def drop (f : Nat) (v : Nat) : Nat := f ^^^ (f &&& 2 ^ v)
/-- a vertex with its index among those of a face -/
abbrev IV := Nat × { v : Nat // v ≤ 5 }
/-- what is collected over some vertices -/
def bor (f : Nat) (l : List IV) : List Int := (l.filter fun x => decide (drop f x.2.1 ≠ 0)).map fun x => (drop f x.2.1 : Int)
theorem bor_hit (f : Nat) (l : List IV) (x : IV) (h : drop f x.2.1 ≠ 0) : bor f (l ++ [x]) = bor f l ++ [(drop f x.2.1 : Int)] := by simp [bor, h]
theorem bor_miss (f : Nat) (l : List IV) (x : IV) (h : drop f x.2.1 = 0) : bor f (l ++ [x]) = bor f l := by simp [bor, h]
theorem bor_len (f : Nat) (l : List IV) : (bor f l).length ≤ l.length := by
 unfold bor; rw [List.length_map]; exact List.length_filter_le _ _
/-- the k-th vertex from behind -/
def ivAt (f k : Nat) : IV := ((vs f).length - 1 - k, ⟨min ((vs f)[(vs f).length - 1 - k]?.getD 0).toNat 5, Nat.min_le_right _ _⟩)
def ivEnc (x : IV) : Array Value := #[.int .i64 (x.1 : Int), .int .i64 (x.2.1 : Int)]
/-- the sets with one vertex less, other than the empty one, ascending -/
def below (f : Nat) : List Int := (((List.range 6).reverse.filter fun v => f.testBit v).map (drop f)).filterMap fun (g : Nat) => if g = 0 then none else some (g : Int)
theorem below_bor : ∀ f, f < 64 → bor f (upto (ivAt f) (vs f).length) = below f := by decide +kernel
theorem vs_bd : ∀ f, f < 64 → ∀ x ∈ vs f, 0 ≤ x ∧ x ≤ 5 := by decide +kernel
theorem vs_len : ∀ f, f < 64 → (vs f).length ≤ 6 := by decide +kernel
theorem drop_lt {f v : Nat} (hf : f ≤ 63) (hv : v ≤ 5) : drop f v < 64 := by
 unfold drop
 exact Nat.xor_lt_two_pow (n := 6) (by omega) (Nat.and_lt_two_pow _ (by have := pow_bd v hv; omega))
theorem drop_bits (f v : Nat) (hf : f ≤ 63) (hv : v ≤ 5) : bits .andNot .i64 (f : Int) ((2 ^ v : Nat) : Int) = (drop f v : Int) := by
 have := pow_bd v hv
 unfold drop
 exact andNot_i64 f (2 ^ v) (by omega) (by omega)
theorem appended_mid {W w1 : World} {n₀ n₁ B : Nat} {t e : TypeId} {size : Nat} {v v' : Value} {k m : Nat} {xs ys : List Value} {tmp : Obj}
  (hv : Boxed W B t v) (hte : t ≠ e) (hrow : W.ownsRow n₀ e size v k xs) (hn₁ : n₁ ≤ n₀) (hn₀ : n₀ ≤ W.heap.size) (hB : n₁ ≤ B)
  (hown' : w1.ownsRow n₀ e size v' m ys) (hgrow : (W.alloc tmp).grownBy w1 v.ownBlock) :
  Boxed w1 B t v ∧ Boxed (w1.setCell ⟨B, 0, none⟩ v') B t v' ∧ (w1.setCell ⟨B, 0, none⟩ v').ownsRow n₀ e size v' m ys ∧ KeepsOthers W (w1.setCell ⟨B, 0, none⟩ v') ∧ Below n₁ W (w1.setCell ⟨B, 0, none⟩ v') ∧ ∀ j, j < n₀ → j ≠ B → (w1.setCell ⟨B, 0, none⟩ v').heap[j]? = W.heap[j]? := by
 obtain ⟨a1, a2, -, a4, a5⟩ := hv.appended hte (own_less hrow hn₁) (Nat.le_trans hn₁ hn₀) hB (own_less hown' hn₁) hgrow
 refine ⟨a1, a2, hown'.kept (grownBy_setCell' w1 B v') (.inr (a1.not_row hte hown').symm), a4, a5, fun j hj1 hj2 => ?_⟩
 have hne : some j ≠ v.ownBlock := by
  rcases hrow.2 with ⟨rfl, _⟩ | ⟨g, cap, cur, rfl, hb, _, _⟩
  ·simp [Value.ownBlock]
  ·simp [Value.ownBlock]; omega
 have h1 := (grownBy_setCell' w1 B v').block j (by have := hgrow.size; simp at this; omega) (by simp; omega)
 have h2 := hgrow.block j (by simp; omega) hne
 rw [h1, h2]
 exact (World.grownBy_alloc W tmp none).block j (by omega) (by simp)
theorem iv_enc {f k : Nat} (hf : f < 64) (hk : k < (vs f).length) : ivEnc (ivAt f k) = #[.int .i64 (((vs f).length : Int) - 1 - k), .int .i64 ((vs f)[(vs f).length - 1 - k]?.getD 0)] := by
 have h : (vs f).length - 1 - k < (vs f).length := by omega
 have hb := vs_bd f hf _ (List.getElem_mem h)
 have e1 : (((vs f).length - 1 - k : Nat) : Int) = ((vs f).length : Int) - 1 - k := by omega
 have e2 : ((min ((vs f)[(vs f).length - 1 - k]?.getD 0).toNat 5 : Nat) : Int) = (vs f)[(vs f).length - 1 - k]?.getD 0 := by
  rw [List.getElem?_eq_getElem h, Option.getD_some]; omega
 unfold ivEnc ivAt
 rw [e1, e2]
set_option maxRecDepth 100000 in
set_option maxHeartbeats 2000000 in
theorem borders_in (n : Nat) (hn : 3 ≤ n) (f : Nat) (hf : f ≤ 63) (w : World) :
  CallsIn Fence.wide n Tryz.prog 140 #[.int .i64 f] w fun e w' => ∃ v, e = .returned v ∧ OwnI w.heap.size w' v (below f) ∧ Below w.heap.size w w' := by
 have h1 : 1 ≤ n := by omega
 obtain ⟨i0, hi, hz0, hz1, hz2⟩ := info_parts info64
 refine callsIn_of_wp_marks Tryz.func140 rfl trivial ?_ rfl
 simp only [Tryz.ntmps140, List.size_toArray, List.length_cons, List.length_nil, Nat.reduceAdd, Nat.reduceSub, Array.replicate_succ, Array.replicate_zero, List.push_toArray, List.append_toArray, List.nil_append, List.cons_append]
 gi_wp2_with (first | (refine ⟨trivial, ?_⟩; gi_at_call 272; refine (callsIn_wide.2 (vertices f hf _)).mono ?_; rintro e w3 ⟨v3, rfl, ho3, hb3⟩; obtain ⟨A3, c3, rfl, -⟩ := ho3.read) | (refine ⟨trivial, ?_⟩; gi_at_call 276; refine (back_in Fence.wide (n - 1) trivial rfl _ _ _ _).mono ?_; rintro e w' ⟨rfl, rfl⟩))
 have hf' : f < 64 := by omega
 have hlen := vs_len f hf'
 obtain ⟨w2, hw2⟩ : ∃ w2, w2 = (w.alloc (Obj.cells #[Value.int IntKind.i64 ↑f] 2)).alloc (Obj.cells #[Value.slice none 0 0] 24) := ⟨_, rfl⟩
 have bF : Boxed w2 w.heap.size 2 (.int .i64 f) := by rw [hw2]; exact (Boxed.new w _ _).alloc _
 have bO : Boxed w2 (w.heap.size + 1) 24 (.slice none 0 0) := by rw [hw2]; have := Boxed.new (w.alloc (Obj.cells #[Value.int IntKind.i64 ↑f] 2)) 24 (.slice none 0 0); rwa [World.size_alloc] at this
 have hB2 : Below w.heap.size w w2 := by rw [hw2]; exact ((Below.refl _ w).alloc (Nat.le_refl _) _).alloc (by simp) _
 rw [← hw2] at hb3 ho3
 clear hw2
 have hB3 : Below w.heap.size w w3 := hB2.trans (hb3.mono hB2.size)
 have bF3 : Boxed w3 w.heap.size 2 (.int .i64 f) := (hb3.block _ bF.lt).trans bF
 have bO3 : Boxed w3 (w.heap.size + 1) 24 (.slice none 0 0) := (hb3.block _ bO.lt).trans bO
 have bN := Boxed.new w3 24 (.slice A3 (vs f).length c3)
 have hlt3 := ho3.lt
 have hblt := bO.lt
 have hbsz := hb3.size
 have hbs3 := ho3.base
 obtain ⟨w4, hw4⟩ : ∃ w4, w4 = w3.alloc (Obj.cells #[Value.slice A3 (vs f).length c3] 24) := ⟨_, rfl⟩
 have ho4 : OwnI w2.heap.size w4 (.slice A3 (vs f).length c3) (vs f) := by rw [hw4]; exact ho3.below (Below.alloc (Below.refl _ _) (Nat.le_refl _) _)
 have bF4 : Boxed w4 w.heap.size 2 (.int .i64 f) := by rw [hw4]; exact bF3.alloc _
 have bO4 : Boxed w4 (w.heap.size + 1) 24 (.slice none 0 0) := by rw [hw4]; exact bO3.alloc _
 have hB4 : Below w.heap.size w w4 := by rw [hw4]; exact hB3.alloc hB3.size _
 have hs4 : w4.heap.size = w3.heap.size + 1 := by rw [hw4]; simp
 rw [← hw4] at bN ⊢
 clear hw4
 refine wpIn_rangeFunc_ownG rfl h1 (gf := 356) (lb := #[.pointer (some ⟨w3.heap.size, 0, none⟩)]) rfl trivial (enters_of Tryz.func356 (by kernel_rfl) rfl)
  (back_stops ivEnc (ivAt f) Fence.wide (n - 1) trivial rfl (by omega) w3.heap.size w2.heap.size w4.heap.size _ (vs f) (by omega) w4 _ (by have := hb3.size; omega) (Nat.le_refl _) bN.cell ho4 (fun k hk => iv_enc hf' hk) (fun k hk => by have := hlt3 k hk; have := hbs3 k hk; omega)) (fun a b => Mid.trans a b) ?hKb (Below.refl _ _) (fun _ => rfl)
  (fun pre W => (∃ v, Boxed W (w.heap.size + 1) 24 v ∧ W.ownsRow w4.heap.size 2 1 v (bor f pre).length ((bor f pre).map (Value.int .i64)) ∧ True) ∧ (Boxed W w.heap.size 2 (.int .i64 f) ∧ Below w.heap.size w W ∧ w4.heap.size ≤ W.heap.size))
  (fun _ _ _ => False)
  ?hI (fun _ _ _ _ _ hs _ _ => hs) ?h0
  (fun x => { tmps := #[.int .i64 f, .pointer (some ⟨w.heap.size, 0, none⟩), .slice none 0 0, .pointer (some ⟨w.heap.size + 1, 0, none⟩), undef, .int .i64 (x.2.1 : Int), undef, .int .i64 f, .slice A3 (vs f).length c3, .func (.func 356) #[] #[.pointer (some ⟨w3.heap.size, 0, none⟩)], .int .i64 (x.1 : Int), .int .i64 (x.2.1 : Int), undef, undef, undef, undef, undef, undef, undef, undef, undef, undef, undef], defers := [] }) ?assign ?body ?done ?stop
 case hI => exact OwnFrom.and (Own.from (holdsRow_own w4.heap.size (w.heap.size + 1) 24 2 1 (fun pre => (bor f pre).length) (fun pre => (bor f pre).map (Value.int .i64)) (fun pre v => True)) _) (OwnFrom.and (Own.from (boxed_own _ _ _) _) (OwnFrom.and (ownFrom_below (Nat.le_refl _) (by have := hB4.size; omega)) (fun s W W' row hs hg hr => Nat.le_trans hs hg.size)))
 case hKb => exact fun W l o o' hl ho h1 h2 => Mid.of_below (belowK_b (w := w4) (Nat.le_refl _) W l o o' hl ho h1 h2)
 case h0 => exact ⟨⟨_, bO4, World.ownsRow_nil _ _ _ _, trivial⟩, bF4, hB4, Nat.le_refl _⟩
 case assign =>
  intro l x W K hK
  unfold ivEnc
  gi_wp2
  exact hK
 case body =>
  rintro l pre ⟨j, v, hv5⟩ W ⟨⟨v0, hv, hrow, -⟩, hbF, hB, hz4⟩ hlt
  have hc := hv.cell
  have hcf := hbF.cell
  have hpl := bor_len f pre
  have hmx : Tryz.prog.follows .mixedOrders = true := by kernel_rfl
  obtain ⟨p, hp⟩ : ∃ p : Nat, p = 2 ^ v := ⟨_, rfl⟩
  have hpb : p ≤ 32 := by rw [hp]; exact pow_bd v hv5
  have hsh : wrap64 ((2 : Int) ^ v) = (p : Int) := by rw [hp]; exact pow_wrap v (by omega)
  have hdn : bits .andNot .i64 (f : Int) (p : Int) = (drop f v : Int) := by rw [hp]; exact drop_bits f v hf hv5
  have hdl := drop_lt hf hv5
  have HP := Aside0.mk hp
  clear hp
  obtain ⟨d, hd⟩ : ∃ d, d = drop f v := ⟨_, rfl⟩
  rw [← hd] at hdn hdl
  have HD := Aside0.mk hd
  clear hd
  have hshr : IntKind.i64.wrap ((2 : Int) ^ v) = (p : Int) := by rw [HP.out]; exact pow_wrap' v (by omega)
  have hps := hB.size
  by_cases h0 : d = 0
  ·have h0b : ((d : Int) != 0) = false := by rw [h0]; rfl
   have HZ := Aside0.mk h0
   clear h0
   gi_wp2
   gi_region_with_o (fail)
   all_goals gi_wp2
   all_goals exact ⟨⟨Nat.le_refl _, fun _ _ _ h _ => h⟩, fun _ _ _ => rfl, ⟨v0, hv, by rw [bor_miss f pre (j, ⟨v, hv5⟩) (HD.out.symm.trans HZ.out)]; exact hrow, trivial⟩, hbF, hB.drew, hz4⟩
  ·have h0b : ((d : Int) != 0) = true := by simp; exact h0
   have HZ := Aside0.mk h0
   clear h0
   gi_wp2
   gi_region_with_o (fail)
   all_goals (obtain ⟨W1, hW1⟩ : ∃ W1, W1 = W.drew := ⟨_, rfl⟩)
   all_goals (have hk1 : KeepsFrom w4.heap.size W W1 := (by rw [hW1]; exact ⟨Nat.le_refl _, fun _ _ _ h _ => h⟩))
   all_goals (have hm1 : Mid w2.heap.size w4.heap.size W W1 := (by rw [hW1]; exact fun _ _ _ => rfl))
   all_goals (replace hv : Boxed W1 (w.heap.size + 1) 24 v0 := (by rw [hW1]; exact hv))
   all_goals (replace hbF : Boxed W1 w.heap.size 2 (.int .i64 f) := (by rw [hW1]; exact hbF))
   all_goals (replace hrow : W1.ownsRow w4.heap.size 2 1 v0 (bor f pre).length ((bor f pre).map (Value.int .i64)) := (by rw [hW1]; exact hrow))
   all_goals (replace hB : Below w.heap.size w W1 := (by rw [hW1]; exact hB.drew))
   all_goals (replace hz4 : w4.heap.size ≤ W1.heap.size := (by rw [hW1]; exact hz4))
   all_goals rw [← hW1]
   all_goals clear hW1 hc hcf hps
   all_goals (have hmL : 100 ≤ maxLen := (by decide))
   all_goals (have hc := hv.cell; have hcf := hbF.cell; have hps := hB.size)
   all_goals gi_wp2_with (gi_at_builtin; refine wpListIn_append_own _ rfl _ _ 24 rfl w4.heap.size 2 i0 (.int .i64 0) 1 8 Tryz.underlying24 hi hz0 hz1 hz2 rfl (by decide) _ _ _ rfl (hrow.alloc _) ⟨W1.heap.size, 0, none⟩ 1 1 [.int .i64 d] rfl rfl (cell_one_new _ _ _) (by simp [Value.oneCell']) (by omega) (by omega) (by simp; omega) ?_; intro v' w1 hown' hgrow _; obtain ⟨g', cap', rfl⟩ := ownsRow_succ hown'; obtain ⟨hv1, hv2, hr2, hk2, hb2, hm2⟩ := appended_mid hv (by decide) hrow hB4.size hz4 (Nat.le_succ _) hown' hgrow; have hc1 := hv1.cell; have hf1 := hv1.frozen)
   all_goals exact ⟨hk1.trans (hk2.from _), hm1.trans fun k k1 k2 => hm2 k k2 (by omega), ⟨_, hv2, by rw [bor_hit f pre (j, ⟨v, hv5⟩) (fun e => HZ.out (HD.out.trans e))]; simpa [← HD.out] using hr2, trivial⟩, (hm2 _ (by omega) (by omega)).trans hbF, hB.trans hb2, Nat.le_trans hz4 hk2.size⟩
 case done =>
  rintro D ys W hD rfl ⟨⟨v0, hv, hrow, -⟩, hbF, hB, hz4⟩ hK
  have hc := hv.cell
  gi_wp2
  refine ⟨by simp, .inl ⟨_, _, rfl, run_takeDeferred hK, ?_⟩⟩
  have hBD := hB.trans (belowK_b (w := w) (Nat.le_refl _) W D _ (.deferred none) (by have := hB4.size; omega) hK rfl rfl)
  rw [below_bor f hf'] at hrow
  exact ⟨_, results_tmp rfl _ _ _, v0, rfl, OwnI.of_row (ownsRow_putObj hrow _ hK rfl) hB4.size, hBD⟩
 case stop =>
  rintro D c pre W _ _ h _
  exact h.elim
theorem borders (f : Nat) (hf : f ≤ 63) (w : World) :
  Calls Tryz.prog 140 #[.int .i64 f] w fun e w' => ∃ v, e = .returned v ∧ OwnI w.heap.size w' v (below f) ∧ Below w.heap.size w w' :=
 callsIn_wide.1 (borders_in 3 (Nat.le_refl _) f hf w)
end Go.Proofs.YtomofijniefelaaGreat.H

namespace Go.Proofs.YtomofijniefelaaGreat.H
open Go.RowKit Go.Proofs.YtomofijniefelaaGreatW.PrintWords Go.Proofs.YtomofijniefelaaGreatW.PrintLast
set_option linter.unusedVariables false
set_option linter.unusedSimpArgs false
theorem pow_wrap62 : ∀ v, v < 63 → wrap64 ((2 : Int) ^ v) = ((2 ^ v : Nat) : Int) := by decide +kernel
theorem pow_bd62 : ∀ v, v < 63 → 1 ≤ 2 ^ v ∧ 2 ^ v ≤ 4611686018427387904 := by decide +kernel
theorem OwnI.empty {b : Nat} (w : World) (hb : b ≤ w.heap.size) : OwnI b (w.alloc (.cells #[] 2)) (.slice (some ⟨w.heap.size, 0, none⟩) 0 0) [] :=
 OwnI.of_row (xs := []) ⟨rfl, .inr ⟨w.heap.size, 0, #[], rfl, hb, World.alloc_heap_new _ _, Nat.le_refl _, by decide, rfl, rfl⟩⟩ (Nat.le_refl _)
/-- what the reference collects over the first k places, from 62 down -/
def blw (f k : Nat) : List Int := (List.range k).filterMap fun i => if f.testBit (62 - i) && !(f == 2 ^ (62 - i)) then some ((f : Int) - ((2 ^ (62 - i) : Nat) : Int)) else none
theorem blw_hit (f v : Nat) (hv : v ≤ 62) (h : f.testBit v = true) (h2 : ¬ f = 2 ^ v) : blw f (62 - v + 1) = blw f (62 - v) ++ [(f : Int) - ((2 ^ v : Nat) : Int)] := by
 unfold blw
 rw [List.range_succ, List.filterMap_append]
 have e : 62 - (62 - v) = v := by omega
 simp [e, h, h2]
theorem blw_miss (f v : Nat) (hv : v ≤ 62) (h : f.testBit v = false ∨ f = 2 ^ v) : blw f (62 - v + 1) = blw f (62 - v) := by
 unfold blw
 rw [List.range_succ, List.filterMap_append]
 have e : 62 - (62 - v) = v := by omega
 rcases h with h | h <;> simp [e, h]
theorem blw_len (f k : Nat) : (blw f k).length ≤ k := by
 unfold blw
 exact Nat.le_trans (List.length_filterMap_le _ _) (by simp)
theorem blw_all : ∀ f, f < 64 → blw f 63 = below f := by decide +kernel
set_option maxHeartbeats 1000000 in
theorem specBelow (f : Nat) (hf : f ≤ 63) (w : World) :
  Calls Tryz.prog 285 #[.int .i64 f] w fun e w' => ∃ v, e = .returned v ∧ OwnI w.heap.size w' v (below f) ∧ Below w.heap.size w w' := by
 rw [← blw_all f (by omega)]
 go_enter Tryz.func285, Tryz.ntmps285
 go_wp2
 go_loopw [3, 4] (fun v i wr => ∃ k : Nat, i = .int .i64 ((k : Int) - 1) ∧ k ≤ 63 ∧ Aside0 (OwnI w.heap.size wr v (blw f (63 - k))) ∧ Aside0 (Below w.heap.size w wr)) (fun _ i _ => (intOf i + 1).toNat)
 case atStart => exact ⟨63, rfl, by omega, ⟨by simp [blw]; exact OwnI.empty _ (Nat.le_refl _)⟩, ⟨Below.alloc (Below.refl _ _) (Nat.le_refl _) _⟩⟩
 case round =>
  obtain ⟨k, rfl, hk, HO, HB⟩ := hrel
  by_cases hlt : 0 < k
  ·obtain ⟨v, rfl⟩ : ∃ v, k = v + 1 := ⟨k - 1, by omega⟩
   have ev : (((v + 1 : Nat) : Int) - 1) = (v : Int) := by omega
   rw [ev]
   have e62 : 63 - (v + 1) = 62 - v := by omega
   rw [e62] at HO
   have hbit := bit_of f v (by omega)
   have hsh := pow_wrap62 v (by omega)
   have hpb := pow_bd62 v (by omega)
   have HE : Aside0 (63 - v = 62 - v + 1) := ⟨by omega⟩
   obtain ⟨p, hp⟩ : ∃ p : Nat, p = 2 ^ v := ⟨_, rfl⟩
   rw [← hp] at hsh hpb
   have HP := Aside0.mk hp
   clear hp ev e62
   cases ht : f.testBit v with
   | true =>
    rw [ht, if_pos rfl] at hbit
    have HT := Aside0.mk ht
    clear ht
    by_cases hfp : f = p
    ·have hfb : ((f : Int) != (p : Int)) = false := by simp; omega
     have HF := Aside0.mk hfp
     clear hfp
     go_wp2
     go_roundw
     case rel => exact ⟨v, by go_num, by omega, ⟨by rw [HE.out, blw_miss f v (by omega) (.inr (HF.out.trans HP.out))]; exact HO.out⟩, HB⟩
     case measure => simp [intOf]
    ·have hfb : ((f : Int) != (p : Int)) = true := by simp; omega
     have HF := Aside0.mk hfp
     clear hfp
     go_wp2_with (first | (at_builtin; refine app_own (w0 := w) w.heap.size rfl (.tmp 23) (.tmp 29) rfl _ (blw f (62 - v)) ((f : Int) - p) rfl rfl HO.out HB.out HB.out.size ?hl ?_; (case hl => have := blw_len f (62 - v); omega); intro v1 w1 ho hb hg hat; have HO1 := Aside0.mk ho; have HB1 := Aside0.mk hb; clear ho hb hg hat))
     go_roundw
     case rel => exact ⟨v, by go_num, by omega, ⟨by rw [HE.out, blw_hit f v (by omega) HT.out (fun e => HF.out (e.trans HP.out.symm)), ← HP.out]; exact HO1.out⟩, HB1⟩
     case measure => simp [intOf]
   | false =>
    rw [ht, if_neg (by decide)] at hbit
    have HT := Aside0.mk ht
    clear ht
    go_wp2
    go_roundw
    case rel => exact ⟨v, by go_num, by omega, ⟨by rw [HE.out, blw_miss f v (by omega) (.inl HT.out)]; exact HO.out⟩, HB⟩
    case measure => simp [intOf]
  ·obtain rfl : k = 0 := by omega
   go_wp2
   go_ret
   exact ⟨_, rfl, HO.out, HB.out⟩
/-- the i-th face is as it has to be -/
def upAt (n : Nat) (l : List Int) (i : Nat) : Bool := (decide (1 ≤ l.getD i 0) && decide (l.getD i 0 ≤ ((2 ^ n : Nat) : Int) - 1)) && !(decide (0 < i) && decide (l.getD i 0 ≤ l.getD (i - 1) 0))
def belowIn (l : List Int) (f : Int) : Bool := (below f.toNat).all fun g => decide (g ∈ l)
def cxUp (n : Nat) (l : List Int) : Bool := (List.range l.length).all (upAt n l)
/-- these make a complex -/
def cxOk (a : Int) (l : List Int) : Bool := (decide (1 ≤ a) && decide (a ≤ 6)) && (cxUp a.toNat l && l.all (belowIn l))
theorem cxUp_at {n : Nat} {l : List Int} {i : Nat} (h : cxUp n l = true) (hi : i < l.length) : upAt n l i = true := by
 unfold cxUp at h
 rw [List.all_eq_true] at h
 exact h i (List.mem_range.2 hi)
theorem cxUp_bd {n : Nat} {l : List Int} (h : cxUp n l = true) : ∀ x ∈ l, 1 ≤ x ∧ x ≤ ((2 ^ n : Nat) : Int) - 1 := by
 intro x hx
 obtain ⟨i, hi, rfl⟩ := List.getElem_of_mem hx
 have := cxUp_at h hi
 unfold upAt at this
 simp only [Bool.and_eq_true, decide_eq_true_eq] at this
 have e : l.getD i 0 = l[i] := by simp [List.getD_eq_getElem?_getD, hi]
 rw [e] at this
 exact this.1
theorem cxUp_asc {n : Nat} {l : List Int} (h : cxUp n l = true) : l.Pairwise (· < ·) := by
 have key : ∀ k i, i + k < l.length → 0 < k → l.getD i 0 < l.getD (i + k) 0 := by
  intro k
  induction k with
  | zero => intro i _ h0; omega
  | succ k ih =>
   intro i hi _
   have h1 := cxUp_at h (i := i + (k + 1)) hi
   unfold upAt at h1
   simp only [Bool.and_eq_true, Bool.not_eq_true', Bool.and_eq_false_iff, decide_eq_false_iff_not] at h1
   have h2 : l.getD (i + k) 0 < l.getD (i + (k + 1)) 0 := by
    rcases h1.2 with h3 | h3
    ·omega
    ·have e : i + (k + 1) - 1 = i + k := by omega
     rw [e] at h3; omega
   by_cases hk : k = 0
   ·subst hk; exact h2
   ·have := ih i (by omega) (by omega)
    omega
 rw [List.pairwise_iff_getElem]
 intro i j hi hj hij
 have := key (j - i) i (by omega) (by omega)
 have e : i + (j - i) = j := by omega
 rw [e] at this
 simpa [List.getD_eq_getElem?_getD, hi, hj] using this
theorem pw6 {n : Nat} (h : n ≤ 6) : 1 ≤ 2 ^ n ∧ 2 ^ n ≤ 64 := by
 rcases (by omega : n = 0 ∨ n = 1 ∨ n = 2 ∨ n = 3 ∨ n = 4 ∨ n = 5 ∨ n = 6) with rfl | rfl | rfl | rfl | rfl | rfl | rfl <;> decide
theorem asc_len {l : List Int} (h : l.Pairwise (· < ·)) {b : Nat} (hb : ∀ x ∈ l, 1 ≤ x ∧ x ≤ (b : Int)) : l.length ≤ b := by
 have key : ∀ i, i < l.length → (i : Int) + 1 ≤ l.getD i 0 := by
  intro i
  induction i with
  | zero => intro h0; have := (hb _ (mem_at h0 rfl)).1; simpa using this
  | succ i ih => intro hi; have h1 := ih (by omega); have h2 := asc_lt h (show i < i + 1 by omega) hi; push_cast; omega
 cases hl : l.length with
 | zero => omega
 | succ m =>
  have h1 := key m (by omega)
  have h2 := (hb _ (mem_at (i := m) (by omega) rfl)).2
  omega
theorem cxUp_len {n : Nat} (hn : n ≤ 6) {l : List Int} (h : cxUp n l = true) : l.length ≤ 63 := by
 have := pw6 hn
 have h1 := asc_len (cxUp_asc h) (b := 2 ^ n - 1) (fun x hx => by have := cxUp_bd h x hx; omega)
 omega
/-- what is known of a complex -/
structure Cx (n : Nat) (l : List Int) : Prop where
 lo : 1 ≤ n
 hi : n ≤ 6
 asc : l.Pairwise (· < ·)
 bd : ∀ x ∈ l, 1 ≤ x ∧ x ≤ ((2 ^ n : Nat) : Int) - 1
 len : l.length ≤ 63
theorem cxOk_cx {a : Int} {l : List Int} (h : cxOk a l = true) : ∃ n : Nat, a = n ∧ Cx n l ∧ l.all (belowIn l) = true := by
 unfold cxOk at h
 simp only [Bool.and_eq_true, decide_eq_true_eq] at h
 obtain ⟨⟨h1, h2⟩, h3, h4⟩ := h
 refine ⟨a.toNat, by omega, ⟨by omega, by omega, cxUp_asc h3, cxUp_bd h3, cxUp_len (by omega) h3⟩, h4⟩
theorem Cx.nat {n : Nat} {l : List Int} (h : Cx n l) {x : Int} (hx : x ∈ l) : ∃ f : Nat, x = f ∧ 1 ≤ f ∧ f ≤ 63 := by
 have := h.bd x hx
 have := pw6 h.hi
 exact ⟨x.toNat, by omega, by omega, by omega⟩
/-- has as a function value -/
theorem hasPred {w : World} {a : Int} {u : Value} {l : List Int} (hr : ReadI w u l) (hs : l.Pairwise (· < ·)) (hl : l.length ≤ 1000) :
  PredI w (.func (.func 129) #[cx a u] #[]) (fun f => decide (f ∈ l)) (fun _ => True) :=
 ⟨_, _, _, rfl, Enters.mk' Tryz.func129 rfl rfl, fun w1 x hb _ => has a u l x w1 (hr.below hb) hs hl⟩
set_option maxHeartbeats 1000000 in
theorem isComplex1 (w : World) (b : Nat) (a : Int) (u : Value) (l : List Int) (hr : ReadI w u l) (hs : l.Pairwise (· < ·)) (hl : l.length ≤ 1000) (h0 : w.cell? ⟨b, 0, none⟩ = some (.int .i64 a)) (h1 : w.cell? ⟨b, 1, none⟩ = some u) :
  PredI w (.func (.func 139) #[] #[.pointer (some ⟨b, 0, none⟩)]) (belowIn l) (fun f => 1 ≤ f ∧ f ≤ 63) := by
 refine ⟨_, _, _, rfl, Enters.mk' Tryz.func139 rfl rfl, fun w1 x hb hx => ?_⟩
 obtain ⟨f, rfl⟩ : ∃ f : Nat, x = f := ⟨x.toNat, by omega⟩
 have hf : f ≤ 63 := by omega
 have hc0 : w1.cell? ⟨b, 0, none⟩ = some (.int .i64 a) := pw_cell_below hb h0
 have hc1 : w1.cell? ⟨b, 1, none⟩ = some u := pw_cell_below hb h1
 have HR := Aside0.mk (hr.below hb)
 have HS := Aside0.mk hs
 clear hb h0 h1 hs hx
 show Calls _ _ #[_, _] _ _
 go_enter Tryz.func139, Tryz.ntmps139
 go_wp2
 have hmx : Tryz.prog.follows .mixedOrders = true := by kernel_rfl
 have hD : Below w1.heap.size w1 w1.drew := (Below.refl _ _).drew
 go_region_with (first | (go_at_call 140; refine (borders f hf _).mono ?_; rintro e w3 ⟨v, rfl, ho, hb⟩; have hc0' := pw_cell_below hb (show w1.drew.cell? _ = _ from hc0); have hc1' := pw_cell_below hb (show w1.drew.cell? _ = _ from hc1); obtain ⟨A3, c3, rfl, -⟩ := ho.read; have HO := Aside0.mk ho; clear ho) | (go_at_call 138; refine (areAll _ _ _ (fun g => decide (g ∈ l)) (fun _ => True) _ HO.out.read (hasPred (HR.out.below ?hx) HS.out hl) (fun _ _ => trivial)).mono ?_; (case hx => (repeat (first | (with_reducible exact Below.refl _ _) | (with_reducible assumption) | (with_reducible refine below_step ?_ (by assumption)) | (with_reducible apply below_alloc) | (with_reducible apply below_drewN)))); rintro e w4 ⟨rfl, hb4⟩))
 all_goals go_wp2
 all_goals go_ret
 all_goals exact ⟨rfl, by (repeat (first | (with_reducible exact Below.refl _ _) | (with_reducible assumption) | (with_reducible refine below_step ?_ (by assumption)) | (with_reducible apply below_alloc) | (with_reducible apply below_drewN)))⟩
theorem up_false {n : Nat} {l : List Int} {i : Nat} (hi : i < l.length) (h : upAt n l i = false) : cxUp n l = false := by
 unfold cxUp
 rw [List.all_eq_false]
 exact ⟨i, List.mem_range.2 hi, by rw [h]; decide⟩
theorem up_true {n : Nat} {l : List Int} (h : ∀ i, i < l.length → upAt n l i = true) : cxUp n l = true := by
 unfold cxUp
 rw [List.all_eq_true]
 exact fun i hi => h i (List.mem_range.1 hi)
set_option maxHeartbeats 2000000 in
theorem isComplex (a : Int) (u : Value) (l : List Int) (w : World) (hr : ReadI w u l) :
  Calls Tryz.prog 16 #[cx a u] w fun e w' => e = .returned (.bool (cxOk a l)) ∧ Below w.heap.size w w' := by
 have hba : Below w.heap.size w (w.alloc (.cells #[.int .i64 a, u] 26)) := Below.alloc (Below.refl _ _) (Nat.le_refl _) _
 have HB := Aside0.mk hba
 have HR0 := Aside0.mk (hr.below hba)
 obtain ⟨A, c, rfl, hc, hr⟩ := id hr
 have HR := Aside0.mk (Kd.C_below hr hba)
 have hlen : l.length ≤ 9223372036854775807 := hr.2.1
 clear hr hba
 obtain ⟨w1, hw1⟩ : ∃ w1, w1 = w.alloc (Obj.cells #[.int .i64 a, Value.slice A l.length c] 26) := ⟨_, rfl⟩
 have hc0 : w1.cell? ⟨w.heap.size, 0, none⟩ = some (.int .i64 a) := by rw [hw1]; simp
 have hc1 : w1.cell? ⟨w.heap.size, 1, none⟩ = some (Value.slice A l.length c) := by rw [hw1]; simp
 rw [← hw1] at HB HR HR0
 by_cases ha : 1 ≤ a ∧ a ≤ 6
 ·obtain ⟨n, rfl⟩ : ∃ n : Nat, a = n := ⟨a.toNat, by omega⟩
  have hs : (decide ((1 : Int) ≤ n) && decide ((n : Int) ≤ 6)) = true := by simp; omega
  have hn : 1 ≤ n ∧ n ≤ 6 := by omega
  have HA : Aside0 (cxOk n l = (cxUp n l && l.all (belowIn l))) := ⟨by unfold cxOk; rw [hs]; rfl⟩
  obtain ⟨N, hN⟩ : ∃ N : Nat, N = 2 ^ n := ⟨_, rfl⟩
  have HN := Aside0.mk hN
  clear hN ha
  go_enter Tryz.func16, Tryz.ntmps16
  go_wp2_with (first | (rw [← hw1]; clear hw1; go_at_call 135; refine (isSize _ _).mono ?_; rintro e w2 ⟨rfl, hb⟩; rw [hs]; have hc0 := pw_cell_below hb hc0; have hc1 := pw_cell_below hb hc1; have HB2 := Aside0.mk hb; clear hb))
  go_loopw [12] (fun v wr => ∃ i : Nat, v = .int .i64 i ∧ i ≤ l.length ∧ Aside0 (∀ k, k < i → upAt n l k = true) ∧ Below w2.heap.size w2 wr) (fun v _ => l.length - (intOf v).toNat)
  case atStart => exact ⟨0, rfl, Nat.zero_le _, ⟨fun j hj => absurd hj (Nat.not_lt_zero _)⟩, Below.refl _ _⟩
  case round =>
   obtain ⟨i, rfl, hi, HU, hb⟩ := hrel
   have hc0r := pw_cell_below hb hc0
   have hc1r := pw_cell_below hb hc1
   have HBr := Aside0.mk (HB2.out.trans (hb.mono HB2.out.size))
   have HB3 := Aside0.mk hb
   clear hb
   by_cases hlt : i < l.length
   ·obtain ⟨ad, y, rfl, hcell, HY⟩ := ReadI.get (Kd.C_below HR.out HBr.out) hlt
    cases hwi : (decide ((1 : Int) ≤ y) && decide (y ≤ (N : Int) - 1)) with
    | false =>
     go_wp2_with (first | (go_at_call 137; refine (full n hn.2 _ _).mono ?_; rintro e w3 ⟨rfl, hb3⟩; rw [← HN.out]) | (go_at_call 136; refine (within _ _ _ _).mono ?_; rintro e w4 ⟨rfl, hb4⟩; rw [hwi]))
     go_ret
     exact ⟨by rw [HA.out, up_false hlt (by unfold upAt; rw [HY.out, ← HN.out, hwi]; rfl)]; rfl, by have := HB.out; have := HBr.out; (repeat (first | (with_reducible exact Below.refl _ _) | (with_reducible assumption) | (with_reducible refine below_step ?_ (by assumption)) | (with_reducible apply below_alloc) | (with_reducible apply below_drewN)))⟩
    | true =>
     by_cases h0 : i = 0
     ·have h0' : ¬ (0 : Int) < (i : Int) := by omega
      clear h0
      go_wp2_with (first | (go_at_call 137; refine (full n hn.2 _ _).mono ?_; rintro e w3 ⟨rfl, hb3⟩; rw [← HN.out]) | (go_at_call 136; refine (within _ _ _ _).mono ?_; rintro e w4 ⟨rfl, hb4⟩; rw [hwi]))
      go_roundw
      case rel =>
       refine ⟨i + 1, by go_num, by omega, ⟨fun k hk => ?_⟩, by have := HB3.out; (repeat (first | (with_reducible exact Below.refl _ _) | (with_reducible assumption) | (with_reducible refine below_step ?_ (by assumption)) | (with_reducible apply below_alloc) | (with_reducible apply below_drewN)))⟩
       rcases Nat.lt_succ_iff_lt_or_eq.1 hk with h | rfl
       ·exact HU.out k h
       ·unfold upAt; rw [HY.out, ← HN.out, hwi, decide_eq_false (by omega)]; rfl
      case measure => simp [intOf]; omega
     ·have h0' : (0 : Int) < (i : Int) := by omega
      obtain ⟨ad', y', e2, hcell2, HY2⟩ := ReadI.get (Kd.C_below HR.out HBr.out) (i := i - 1) (by omega)
      cases e2
      by_cases hle : y ≤ y'
      ·have HLE := Aside0.mk (decide_eq_true hle)
       go_wp2_with (first | (go_at_call 137; refine (full n hn.2 _ _).mono ?_; rintro e w3 ⟨rfl, hb3⟩; rw [← HN.out]; have hcell2 := pw_cell_below hb3 hcell2; have hc1r := pw_cell_below hb3 hc1r) | (go_at_call 136; refine (within _ _ _ _).mono ?_; rintro e w4 ⟨rfl, hb4⟩; rw [hwi]; have hcell2 := pw_cell_below hb4 hcell2; have hc1r := pw_cell_below hb4 hc1r))
       go_ret
       exact ⟨by rw [HA.out, up_false hlt (by unfold upAt; rw [HY.out, HY2.out, ← HN.out, hwi, HLE.out, decide_eq_true (by omega)]; rfl)]; rfl, by have := HB.out; have := HBr.out; (repeat (first | (with_reducible exact Below.refl _ _) | (with_reducible assumption) | (with_reducible refine below_step ?_ (by assumption)) | (with_reducible apply below_alloc) | (with_reducible apply below_drewN)))⟩
      ·have HLE := Aside0.mk (decide_eq_false hle)
       go_wp2_with (first | (go_at_call 137; refine (full n hn.2 _ _).mono ?_; rintro e w3 ⟨rfl, hb3⟩; rw [← HN.out]; have hcell2 := pw_cell_below hb3 hcell2; have hc1r := pw_cell_below hb3 hc1r) | (go_at_call 136; refine (within _ _ _ _).mono ?_; rintro e w4 ⟨rfl, hb4⟩; rw [hwi]; have hcell2 := pw_cell_below hb4 hcell2; have hc1r := pw_cell_below hb4 hc1r))
       go_roundw
       case rel =>
        refine ⟨i + 1, by go_num, by omega, ⟨fun k hk => ?_⟩, by have := HB3.out; (repeat (first | (with_reducible exact Below.refl _ _) | (with_reducible assumption) | (with_reducible refine below_step ?_ (by assumption)) | (with_reducible apply below_alloc) | (with_reducible apply below_drewN)))⟩
        rcases Nat.lt_succ_iff_lt_or_eq.1 hk with h | rfl
        ·exact HU.out k h
        ·unfold upAt; rw [HY.out, HY2.out, ← HN.out, hwi, HLE.out, Bool.and_false]; rfl
       case measure => simp [intOf]; omega
   ·have hu : cxUp n l = true := up_true (fun k hk => HU.out k (by omega))
    have HP := Aside0.mk (isComplex1 wr w.heap.size n (.slice A l.length c) l (HR0.out.below HBr.out) (cxUp_asc hu) (by have := cxUp_len hn.2 hu; omega) hc0r hc1r)
    have HBD : Aside0 (∀ x ∈ l, 1 ≤ x ∧ x ≤ 63) := ⟨fun x hx => by have := cxUp_bd hu x hx; have := pw6 hn.2; omega⟩
    have HUU := Aside0.mk hu
    clear hu
    go_wp2_with (first | (go_at_call 138; refine (areAll _ _ _ (belowIn l) _ _ (HR0.out.below HBr.out) HP.out HBD.out).mono ?_; rintro e w' ⟨rfl, hb3⟩))
    go_ret
    exact ⟨by rw [HA.out, HUU.out]; rfl, by have := HB.out; have := HBr.out; (repeat (first | (with_reducible exact Below.refl _ _) | (with_reducible assumption) | (with_reducible refine below_step ?_ (by assumption)) | (with_reducible apply below_alloc) | (with_reducible apply below_drewN)))⟩
 ·have hs : (decide ((1 : Int) ≤ a) && decide (a ≤ 6)) = false := by simp; omega
  have HA : Aside0 (cxOk a l = false) := ⟨by unfold cxOk; rw [hs]; rfl⟩
  clear ha
  go_enter Tryz.func16, Tryz.ntmps16
  go_wp2_with (first | (rw [← hw1]; clear hw1; go_at_call 135; refine (isSize _ _).mono ?_; rintro e w2 ⟨rfl, hb⟩; rw [hs]))
  go_ret
  exact ⟨by rw [HA.out]; rfl, by have := HB.out; (repeat (first | (with_reducible exact Below.refl _ _) | (with_reducible assumption) | (with_reducible refine below_step ?_ (by assumption)) | (with_reducible apply below_alloc) | (with_reducible apply below_drewN)))⟩
end Go.Proofs.YtomofijniefelaaGreat.H
