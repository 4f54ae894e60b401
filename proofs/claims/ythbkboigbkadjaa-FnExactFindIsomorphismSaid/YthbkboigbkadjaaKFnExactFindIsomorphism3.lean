/- Faces found: binary search, has, full, and the reference's own. those: the complex of the sets that are as told. slices.Backward over a slice of numbers: what it yields, and that it keeps what lay before. Faces of at most six vertices: their vertices and borders, by the program and by the reference. borders(f): the sets with one vertex less, ascending. -/
import Derived.RangeFuncBox
import Derived.RangeFuncLeaves
import Derived.RangeFuncNested
import Derived.Shelf.RegionOpen
import Derived.Shelf.Abstract
import Derived.WalkKit
import Derived.OwnWalkIn
import Derived.TacticsInMore
import Derived.LoopNIn
import Derived.LoopIn
import Derived.Maps.AppendAt
import Derived.Test.YthbkboigbkadjaaKFnExactFindIsomorphism1
import Derived.Test.YthbkboigbkadjaaKFnExactFindIsomorphism2

namespace Go.Proofs.Ythbkboigbkadjaa.H
open Go.RowKit Go.Proofs.YthbkboigbkadjaaW.PrintWords Go.Proofs.YthbkboigbkadjaaW.PrintLast Go.Proofs.YthbkboigbkadjaaW.PrintMore
set_option linter.unusedVariables false
set_option linter.unusedSimpArgs false

/-- the value of a complex -/
abbrev cx (a : Int) (u : Value) : Value := .agg #[.int .i64 a, u]

theorem cmpNaN (x : Int) (w : World) : Calls Try.prog 191 #[.int .i64 x] w fun e w' => e = .returned (.bool false) ∧ Below w.heap.size w w' := by
  go_enter Try.func191, Try.ntmps191
  go_wp2
  go_ret
  exact ⟨by simp, Below.refl _ _⟩
theorem slicesNaN (x : Int) (w : World) : Calls Try.prog 166 #[.int .i64 x] w fun e w' => e = .returned (.bool false) ∧ Below w.heap.size w w' := by
  go_enter Try.func166, Try.ntmps166
  go_wp2
  go_ret
  exact ⟨by simp, Below.refl _ _⟩
theorem cmpLess (x y : Int) (w : World) : Calls Try.prog 165 #[.int .i64 x, .int .i64 y] w fun e w' => e = .returned (.bool (decide (x < y))) ∧ Below w.heap.size w w' := by
  go_enter Try.func165, Try.ntmps165
  go_wp2_with (first | (go_at_call 191; refine (cmpNaN _ _).mono ?_; rintro e w' ⟨rfl, hb⟩))
  all_goals go_ret
  all_goals exact ⟨by simp [*] <;> omega, by (repeat (first | (with_reducible exact Below.refl _ _) | (with_reducible assumption) | (with_reducible refine below_step ?_ (by assumption)) | (with_reducible apply below_alloc) | (with_reducible apply below_drewN)))⟩

theorem asc_lt {xs : List Int} (hs : xs.Pairwise (· < ·)) {i j : Nat} (hij : i < j) (hj : j < xs.length) : xs.getD i 0 < xs.getD j 0 := by
  have := List.pairwise_iff_getElem.1 hs i j (by omega) hj hij
  simpa [List.getD_eq_getElem?_getD, hj, Nat.lt_trans hij hj] using this
theorem mem_at {xs : List Int} {i : Nat} {x : Int} (hi : i < xs.length) (h : xs.getD i 0 = x) : x ∈ xs := by
  rw [← h]; simp [List.getD_eq_getElem?_getD, hi]
theorem mem_none {xs : List Int} (hs : xs.Pairwise (· < ·)) {i : Nat} {x : Int} (hl : ∀ k, k < i → xs.getD k 0 < x) (hg : ∀ k, i ≤ k → k < xs.length → x < xs.getD k 0) : ¬ x ∈ xs := by
  intro hm
  obtain ⟨k, hk, rfl⟩ := List.getElem_of_mem hm
  have e : xs.getD k 0 = xs[k] := by simp [List.getD_eq_getElem?_getD, hk]
  by_cases h : k < i
  · have := hl k h; omega
  · have := hg k (by omega) hk; omega

set_option maxHeartbeats 1000000 in
theorem binarySearch (v : Value) (xs : List Int) (x : Int) (w : World) (hr : ReadI w v xs) (hs : xs.Pairwise (· < ·)) (hl : xs.length ≤ 1000) :
    Calls Try.prog 122 #[v, .int .i64 x] w fun e w' => ∃ j : Int, e = .returned (.tuple #[.int .i64 j, .bool (decide (x ∈ xs))]) ∧ Below w.heap.size w w' := by
  obtain ⟨A, c, rfl, hc, hr⟩ := hr
  have HR := Aside0.mk hr
  have HS := Aside0.mk hs
  clear hr hs
  go_enter Try.func122, Try.ntmps122
  go_wp2
  go_loopw [7, 8] (fun vi vj wr => ∃ i j : Nat, vi = .int .i64 i ∧ vj = .int .i64 j ∧ i ≤ j ∧ j ≤ xs.length ∧ Aside0 (∀ k, k < i → xs.getD k 0 < x) ∧ Aside0 (∀ k, j ≤ k → k < xs.length → x ≤ xs.getD k 0) ∧ Below w.heap.size w wr) (fun vi vj _ => (intOf vj).toNat - (intOf vi).toNat)
  case atStart => exact ⟨0, xs.length, rfl, rfl, Nat.zero_le _, Nat.le_refl _, ⟨fun j hj => absurd hj (Nat.not_lt_zero _)⟩, ⟨fun k h1 h2 => by omega⟩, Below.refl _ _⟩
  case round =>
    obtain ⟨i, j, rfl, rfl, hij, hj, HL, HG, hb⟩ := hrel
    have hR := Kd.C_below HR.out hb
    have HB := Aside0.mk hb
    clear hb
    by_cases hlt : i < j
    · obtain ⟨ad, y, rfl, hcell, HY⟩ := ReadI.get hR (i := (i + j) / 2) (by omega)
      clear hR
      by_cases hyx : y < x
      · go_wp2_with (first | (go_at_call 165; refine (cmpLess _ _ _).mono ?_; rintro e w' ⟨rfl, hb2⟩; rw [decide_eq_true hyx]))
        go_roundw
        case rel =>
          refine ⟨(i + j) / 2 + 1, j, by go_num, rfl, by omega, hj, ⟨fun k hk => ?_⟩, HG, HB.out.trans (hb2.mono HB.out.size)⟩
          by_cases hk2 : k = (i + j) / 2
          · rw [hk2, HY.out]; exact hyx
          · have := asc_lt HS.out (i := k) (j := (i + j) / 2) (by omega) (by omega)
            rw [HY.out] at this; omega
        case measure => simp [intOf]; omega
      · go_wp2_with (first | (go_at_call 165; refine (cmpLess _ _ _).mono ?_; rintro e w' ⟨rfl, hb2⟩; rw [decide_eq_false hyx]))
        go_roundw
        case rel =>
          refine ⟨i, (i + j) / 2, rfl, by go_num, by omega, by omega, HL, ⟨fun k hk hk3 => ?_⟩, HB.out.trans (hb2.mono HB.out.size)⟩
          by_cases hk2 : k = (i + j) / 2
          · rw [hk2, HY.out]; omega
          · have := asc_lt HS.out (i := (i + j) / 2) (j := k) (by omega) (by omega)
            rw [HY.out] at this; omega
        case measure => simp [intOf]; omega
    · have hij2 : j = i := by omega
      subst hij2
      by_cases hin : j < xs.length
      · obtain ⟨ad, y, rfl, hcell, HY⟩ := ReadI.get hR hin
        clear hR
        by_cases hyx : y = x
        · have hyb : (y == x) = true := by simpa using hyx
          go_wp2
          go_ret2
          exact ⟨_, by rw [decide_eq_true (mem_at hin (HY.out.trans hyx))]; rfl, HB.out⟩
        · have hyb : (y == x) = false := by simpa using hyx
          have HNO : Aside0 (¬ x ∈ xs) := ⟨mem_none HS.out HL.out (fun k h1 h2 => by
            rcases Nat.eq_or_lt_of_le h1 with rfl | h3
            · have := HG.out j (Nat.le_refl _) hin; rw [HY.out] at this ⊢; omega
            · have := asc_lt HS.out h3 h2; have := HG.out j (Nat.le_refl _) hin; omega)⟩
          have hb := HB.out
          go_wp2_with (first | (go_at_call 166; refine (slicesNaN _ _).mono ?_; rintro e w' ⟨rfl, hb2⟩))
          go_ret2
          exact ⟨_, by rw [decide_eq_false HNO.out]; rfl, by (repeat (first | (with_reducible exact Below.refl _ _) | (with_reducible assumption) | (with_reducible refine below_step ?_ (by assumption)) | (with_reducible apply below_alloc) | (with_reducible apply below_drewN)))⟩
      · go_wp2
        go_ret2
        exact ⟨_, by rw [decide_eq_false (mem_none HS.out HL.out (fun k h1 h2 => by omega))]; rfl, HB.out⟩

theorem has (a : Int) (u : Value) (l : List Int) (f : Int) (w : World) (hr : ReadI w u l) (hs : l.Pairwise (· < ·)) (hl : l.length ≤ 1000) :
    Calls Try.prog 62 #[cx a u, .int .i64 f] w fun e w' => e = .returned (.bool (decide (f ∈ l))) ∧ Below w.heap.size w w' := by
  have hba : Below w.heap.size w (w.alloc (.cells #[.int .i64 a, u] 28)) := Below.alloc (Below.refl _ _) (Nat.le_refl _) _
  have HR := Aside0.mk (hr.below hba)
  have HS := Aside0.mk hs
  have HB := Aside0.mk hba
  obtain ⟨A, c, rfl, -⟩ := id hr
  clear hr hs hba
  go_enter Try.func62, Try.ntmps62
  go_wp2_with (first | (go_at_call 122; refine (binarySearch _ _ _ _ HR.out HS.out hl).mono ?_; rintro e w' ⟨j, rfl, hb2⟩))
  go_ret
  exact ⟨rfl, HB.out.trans (hb2.mono HB.out.size)⟩

theorem full (n : Nat) (hn : n ≤ 6) (u : Value) (w : World) :
    Calls Try.prog 99 #[cx n u] w fun e w' => e = .returned (.int .i64 (((2 ^ n : Nat) : Int) - 1)) ∧ Below w.heap.size w w' := by
  have hsh := pow_wrap n (by omega)
  have hb : 2 ^ n ≤ 64 := by
    rcases (by omega : n = 0 ∨ n = 1 ∨ n = 2 ∨ n = 3 ∨ n = 4 ∨ n = 5 ∨ n = 6) with rfl | rfl | rfl | rfl | rfl | rfl | rfl <;> decide
  obtain ⟨N, hN⟩ : ∃ N : Nat, N = 2 ^ n := ⟨_, rfl⟩
  rw [← hN] at hsh hb ⊢
  clear hN
  go_enter Try.func99, Try.ntmps99
  go_wp2
  go_ret
  exact ⟨by simp, by (repeat (first | (with_reducible exact Below.refl _ _) | (with_reducible assumption) | (with_reducible refine below_step ?_ (by assumption)) | (with_reducible apply below_alloc) | (with_reducible apply below_drewN)))⟩

theorem specAll (n : Nat) (hn : n ≤ 6) (w : World) :
    Calls Try.prog 104 #[.int .i64 n] w fun e w' => e = .returned (.int .i64 (((2 ^ n : Nat) : Int) - 1)) ∧ Below w.heap.size w w' := by
  have hsh := pow_wrap n (by omega)
  have hb : 2 ^ n ≤ 64 := by
    rcases (by omega : n = 0 ∨ n = 1 ∨ n = 2 ∨ n = 3 ∨ n = 4 ∨ n = 5 ∨ n = 6) with rfl | rfl | rfl | rfl | rfl | rfl | rfl <;> decide
  obtain ⟨N, hN⟩ : ∃ N : Nat, N = 2 ^ n := ⟨_, rfl⟩
  rw [← hN] at hsh hb ⊢
  clear hN
  go_enter Try.func104, Try.ntmps104
  go_wp2
  go_ret
  exact ⟨by simp, by (repeat (first | (with_reducible exact Below.refl _ _) | (with_reducible assumption) | (with_reducible refine below_step ?_ (by assumption)) | (with_reducible apply below_alloc) | (with_reducible apply below_drewN)))⟩

set_option maxHeartbeats 1000000 in
theorem specHas (a : Int) (u : Value) (l : List Int) (f : Int) (w : World) (hr : ReadI w u l) :
    Calls Try.prog 57 #[cx a u, .int .i64 f] w fun e w' => e = .returned (.bool (decide (f ∈ l))) ∧ Below w.heap.size w w' := by
  have hba : Below w.heap.size w (w.alloc (.cells #[.int .i64 a, u] 28)) := Below.alloc (Below.refl _ _) (Nat.le_refl _) _
  have HB := Aside0.mk hba
  obtain ⟨A, c, rfl, hc, hr⟩ := id hr
  have HR := Aside0.mk (Kd.C_below hr hba)
  have hlen : l.length ≤ 9223372036854775807 := hr.2.1
  clear hr hba
  go_enter Try.func57, Try.ntmps57
  go_wp2
  obtain ⟨w1, hw1⟩ : ∃ w1, w1 = w.alloc (Obj.cells #[.int .i64 a, Value.slice A l.length c] 28) := ⟨_, rfl⟩
  have hc1 : w1.cell? ⟨w.heap.size, 1, none⟩ = some (Value.slice A l.length c) := by rw [hw1]; simp
  rw [← hw1] at HB HR ⊢
  clear hw1
  go_loopw [5] (fun v wr => ∃ i : Nat, v = .int .i64 i ∧ i ≤ l.length ∧ Aside0 (∀ k, k < i → l.getD k 0 ≠ f) ∧ Below w1.heap.size w1 wr) (fun v _ => l.length - (intOf v).toNat)
  case atStart => exact ⟨0, rfl, Nat.zero_le _, ⟨fun j hj => absurd hj (Nat.not_lt_zero _)⟩, Below.refl _ _⟩
  case round =>
    obtain ⟨i, rfl, hi, HN, hb⟩ := hrel
    have hR := Kd.C_below HR.out hb
    have hcr := pw_cell_below hb hc1
    have HB1 := Aside0.mk hb
    clear hb
    by_cases hlt : i < l.length
    · obtain ⟨ad, y, rfl, hcell, HY⟩ := ReadI.get hR hlt
      clear hR
      by_cases hyf : y = f
      · go_wp2
        go_ret
        exact ⟨by rw [decide_eq_true (mem_at hlt (HY.out.trans hyf))]; rfl, HB.out.trans (HB1.out.mono HB.out.size)⟩
      · go_wp2
        go_roundw
        case rel =>
          refine ⟨i + 1, by go_num, by omega, ⟨fun k hk => ?_⟩, HB1.out⟩
          rcases Nat.lt_succ_iff_lt_or_eq.1 hk with h | rfl
          · exact HN.out k h
          · rw [HY.out]; exact hyf
        case measure => simp [intOf]; omega
    · go_wp2
      go_ret
      refine ⟨?_, HB.out.trans (HB1.out.mono HB.out.size)⟩
      rw [decide_eq_false]
      · rfl
      · intro hm
        obtain ⟨k, hk, rfl⟩ := List.getElem_of_mem hm
        exact HN.out k (by omega) (by simp [List.getD_eq_getElem?_getD, hk])
end Go.Proofs.Ythbkboigbkadjaa.H

namespace Go.Proofs.Ythbkboigbkadjaa.H
open Go.RowKit Go.Proofs.YthbkboigbkadjaaW.PrintWords Go.Proofs.YthbkboigbkadjaaW.PrintLast Go.Proofs.YthbkboigbkadjaaW.PrintMore
set_option linter.unusedVariables false
set_option linter.unusedSimpArgs false

/-- those of 1 .. k - 1 that are as told -/
def thL (p : Int → Bool) (k : Nat) : List Int := (List.range k).filterMap fun (f : Nat) => if decide (1 ≤ f) && p (f : Int) then some (f : Int) else none
theorem thL_hit {p : Int → Bool} {k : Nat} (h1 : 1 ≤ k) (h : p k = true) : thL p (k + 1) = thL p k ++ [(k : Int)] := by
  unfold thL
  rw [List.range_succ, List.filterMap_append]
  simp [h, h1]
theorem thL_miss {p : Int → Bool} {k : Nat} (h : p k = false) : thL p (k + 1) = thL p k := by
  unfold thL
  rw [List.range_succ, List.filterMap_append]
  simp [h]
theorem thL_len (p : Int → Bool) (k : Nat) : (thL p k).length ≤ k := by
  unfold thL
  exact Nat.le_trans (List.length_filterMap_le _ _) (by simp)
theorem thL_one (p : Int → Bool) : thL p 1 = [] := by simp [thL]
theorem set_grown' (w : World) (b i : Nat) (v : Value) : w.grownBy (w.setCell ⟨b, i, none⟩ v) (some b) :=
  ⟨rfl, rfl, rfl, by simp, fun k _ hne => Below.heap_setCell w ⟨b, i, none⟩ v k (fun e => hne (by rw [e]))⟩

set_option maxHeartbeats 2000000 in
theorem those (n : Nat) (hn : n ≤ 6) (fv : Value) (p : Int → Bool) (w : World) (hp : PredI w fv p (fun f => 1 ≤ f ∧ f < ((2 ^ n : Nat) : Int))) :
    Calls Try.prog 182 #[.int .i64 n, fv] w fun e w' => ∃ u, e = .returned (.agg #[.int .i64 n, u]) ∧ OwnI w.heap.size w' u (thL p (2 ^ n)) ∧ Below w.heap.size w w' := by
  obtain ⟨g, first, caps, rfl, hent, hp⟩ := hp
  have HP := Aside0.mk hp
  unfold Enters at hent
  have hsh := pow_wrap n (by omega)
  have hb64 : 1 ≤ 2 ^ n ∧ 2 ^ n ≤ 64 := by
    rcases (by omega : n = 0 ∨ n = 1 ∨ n = 2 ∨ n = 3 ∨ n = 4 ∨ n = 5 ∨ n = 6) with rfl | rfl | rfl | rfl | rfl | rfl | rfl <;> decide
  obtain ⟨N, hN⟩ : ∃ N : Nat, N = 2 ^ n := ⟨_, rfl⟩
  rw [← hN] at hsh hb64 HP ⊢
  clear hp hN
  obtain ⟨w0, hw0⟩ : ∃ w0, w0 = (w.alloc (Obj.cells #[Value.int IntKind.i64 0, Value.slice none 0 0] 28)).alloc (Obj.cells #[Value.int IntKind.i64 n, Value.slice none 0 0] 28) := ⟨_, rfl⟩
  have hs0 : w0.heap.size = w.heap.size + 1 + 1 := by rw [hw0]; simp
  have hb1 : w0.heap[w.heap.size]? = some (Obj.cells #[Value.int IntKind.i64 0, Value.slice none 0 0] 28) := by
    rw [hw0]; exact blk_alloc (blk_new w _) _
  have hb2 : w0.heap[w.heap.size + 1]? = some (Obj.cells #[Value.int IntKind.i64 n, Value.slice none 0 0] 28) := by
    rw [hw0]
    have := blk_new (w.alloc (Obj.cells #[Value.int IntKind.i64 0, Value.slice none 0 0] 28)) (Obj.cells #[Value.int IntKind.i64 n, Value.slice none 0 0] 28)
    rwa [World.size_alloc] at this
  have hB0 : Below w.heap.size w w0 := by rw [hw0]; exact ((Below.refl _ w).alloc (Nat.le_refl _) _).alloc (by simp) _
  have HB0 := Aside0.mk hB0
  have HK1 := Aside0.mk hb1
  have HK2 := Aside0.mk hb2
  have HS0 := Aside0.mk hs0
  clear hB0 hb1 hb2 hs0
  go_enter Try.func182, Try.ntmps182
  go_wp2
  rw [← hw0]
  clear hw0
  go_loopw [6] (fun s wr => ∃ k : Nat, s = .int .i64 k ∧ 1 ≤ k ∧ k ≤ N ∧ (∃ v, Aside0 (wr.heap[w.heap.size + 1]? = some (Obj.cells #[.int .i64 n, v] 28)) ∧ Aside0 (OwnI w0.heap.size wr v (thL p k))) ∧ Aside0 (wr.heap[w.heap.size]? = some (Obj.cells #[.int .i64 0, .slice none 0 0] 28)) ∧ Aside0 (Below w.heap.size w wr)) (fun s _ => N - (intOf s).toNat)
  case atStart => exact ⟨1, rfl, by omega, hb64.1, ⟨_, HK2, ⟨by rw [thL_one]; exact OwnI.nil _ _⟩⟩, HK1, HB0⟩
  case round =>
    obtain ⟨k, rfl, hk1, hkN, ⟨v, HKb, HO⟩, HKa, HB⟩ := hrel
    obtain ⟨Av, cv, rfl, -⟩ := HO.out.read
    by_cases hlt : k < N
    · have hdom : 1 ≤ (k : Int) ∧ (k : Int) < N := by omega
      have HD := Aside0.mk hdom
      have hll := thL_len p k
      clear hdom
      cases hpk : p k with
      | true =>
        have HH := Aside0.mk (thL_hit hk1 hpk)
        go_wp2_with (first | (refine (HP.out _ _ HB.out HD.out).mono ?_; rintro e w5 ⟨rfl, hb⟩; have HKb5 := Aside0.mk (blk_below HKb.out hb); have HKa5 := Aside0.mk (blk_below HKa.out hb); have HO5 := Aside0.mk (OwnI.below HO.out hb); have HB5 := Aside0.mk (HB.out.trans (hb.mono HB.out.size)); have c51 : w5.cell? ⟨w.heap.size + 1, 1, none⟩ = some (.slice Av (thL p k).length cv) := blk_cell HKb5.out 1; have hz5 : w0.heap.size ≤ w5.heap.size := (by have := HS0.out; have := blk_lt HKb5.out; omega); clear hb) | (at_builtin; refine app_own (w0 := w5) w0.heap.size rfl (.tmp 19) (.tmp 21) rfl _ (thL p k) k rfl rfl HO5.out (Below.refl _ _) hz5 ?hl ?_; (case hl => omega); intro v1 w6 ho hb2 hg hat; have hne : some (w.heap.size + 1) ≠ (Value.slice Av (thL p k).length cv).ownBlock := (fun e => by have := HO5.out.base _ e.symm; have := HS0.out; omega); have hne2 : some w.heap.size ≠ (Value.slice Av (thL p k).length cv).ownBlock := (fun e => by have := HO5.out.base _ e.symm; have := HS0.out; omega); have HKb6 := Aside0.mk ((hg.block _ (blk_lt HKb5.out) hne).trans HKb5.out); have HKa6 := Aside0.mk ((hg.block _ (blk_lt HKa5.out) hne2).trans HKa5.out); have HO6 := Aside0.mk ho; have HB6 := Aside0.mk (HB5.out.trans (hb2.mono (by have := HS0.out; omega))); have c61 : w6.cell? ⟨w.heap.size + 1, 1, none⟩ = some (.slice Av (thL p k).length cv) := blk_cell HKb6.out 1; have f61 : w6.frozen? ⟨w.heap.size + 1, 1, none⟩ = false := blk_frozen HKb6.out 1; obtain ⟨A6, d6, rfl, -⟩ := ho.read; clear ho hb2 hg hat hne hne2))
        go_roundw
        case rel =>
          refine ⟨k + 1, by go_num, by omega, by omega, ⟨_, ⟨blk_put HKb6.out 1 _ rfl⟩, ⟨?_⟩⟩, ⟨blk_far HKa6.out (by simp) _⟩, ⟨HB6.out.setCell (by simp) _⟩⟩
          rw [HH.out]
          have h6 := HO6.out
          rw [List.length_append, List.length_singleton] at h6
          exact h6.grown (set_grown' _ (w.heap.size + 1) _ _) (fun j hj e => by have := h6.base _ hj; have := HS0.out; cases e; omega)
        case measure => simp [intOf]; omega
      | false =>
        have HH := Aside0.mk (thL_miss hpk)
        go_wp2_with (first | (refine (HP.out _ _ HB.out HD.out).mono ?_; rintro e w5 ⟨rfl, hb⟩))
        go_roundw
        case rel => exact ⟨k + 1, by go_num, by omega, by omega, ⟨_, ⟨blk_below HKb.out hb⟩, ⟨by rw [HH.out]; exact OwnI.below HO.out hb⟩⟩, ⟨blk_below HKa.out hb⟩, ⟨HB.out.trans (hb.mono HB.out.size)⟩⟩
        case measure => simp [intOf]; omega
    · have e : k = N := by omega
      have HE := Aside0.mk e
      have c10 : wr.cell? ⟨w.heap.size + 1, 0, none⟩ = some (.int .i64 n) := blk_cell HKb.out 0
      have c11 : wr.cell? ⟨w.heap.size + 1, 1, none⟩ = some (.slice Av (thL p k).length cv) := blk_cell HKb.out 1
      have c00 : wr.cell? ⟨w.heap.size, 0, none⟩ = some (.int .i64 0) := blk_cell HKa.out 0
      have c01 : wr.cell? ⟨w.heap.size, 1, none⟩ = some (.slice none 0 0) := blk_cell HKa.out 1
      have f00 : wr.frozen? ⟨w.heap.size, 0, none⟩ = false := blk_frozen HKa.out 0
      have f01 : wr.frozen? ⟨w.heap.size, 1, none⟩ = false := blk_frozen HKa.out 1
      clear e
      go_wp2
      refine bodyPost_ret (results_cell_row rfl _ _ w.heap.size 28 #[.int .i64 n, .slice Av (thL p k).length cv] (0, 0) _ rfl (by refine blk_put (cs := #[.int .i64 n, .slice none 0 0]) ?_ 1 _ rfl; refine blk_put (cs := #[.int .i64 0, .slice none 0 0]) ?_ 0 _ rfl; exact HKa.out) Try.underlying28 rfl (by kernel_rfl)) rfl ?_
      refine ⟨_, rfl, ?_, (HB.out.setCell (by simp) _).setCell (by simp) _⟩
      rw [← HE.out]
      have hn := HO.out.base
      have hs := HS0.out
      have ho := HO.out.lower (b' := w.heap.size) (by omega)
      exact (ho.grown (set_grown' _ w.heap.size _ _) (fun j hj e => by have := hn _ hj; cases e; omega)).grown (set_grown' _ w.heap.size _ _) (fun j hj e => by have := hn _ hj; cases e; omega)
end Go.Proofs.Ythbkboigbkadjaa.H

namespace Go.Proofs.Ythbkboigbkadjaa.H
open Go.Shelf
open Go.RowKit Go.Proofs.YthbkboigbkadjaaW.PrintWords Go.Proofs.YthbkboigbkadjaaW.PrintLast Go.Proofs.YthbkboigbkadjaaW.PrintMore
set_option linter.unusedVariables false
set_option linter.unusedSimpArgs false
attribute [local go_sem] Oper.semAt_some

/-- the blocks from lo up to hi have not turned -/
def Mid (lo hi : Nat) (W W' : World) : Prop := ∀ k, lo ≤ k → k < hi → W'.heap[k]? = W.heap[k]?
theorem Mid.refl (lo hi : Nat) (W : World) : Mid lo hi W W := fun _ _ _ => rfl
theorem Mid.trans {lo hi : Nat} {A B C : World} (h : Mid lo hi A B) (h' : Mid lo hi B C) : Mid lo hi A C := fun k a b => (h' k a b).trans (h k a b)
theorem Mid.cell {lo hi : Nat} {W W' : World} (h : Mid lo hi W W') {p : Addr} (h1 : lo ≤ p.block) (h2 : p.block < hi) : W'.cell? p = W.cell? p := by
  simp only [World.cell?, h p.block h1 h2]
theorem Mid.of_below {lo hi : Nat} {W W' : World} (h : Below hi W W') : Mid lo hi W W' := fun k _ hk => h.block k hk
/-- what has come when k rounds are over -/
def upto {α : Type} (g : Nat → α) (k : Nat) : List α := (List.range k).map g
theorem upto_succ {α : Type} (g : Nat → α) (k : Nat) : upto g (k + 1) = upto g k ++ [g k] := by simp [upto, List.range_succ]
theorem upto_length {α : Type} (g : Nat → α) (k : Nat) : (upto g k).length = k := by simp [upto]

set_option maxRecDepth 100000 in
set_option maxHeartbeats 2000000 in
theorem back1_in {α : Type} (encs : α → Array Value) (g : Nat → α) (F : Fence) (n : Nat) (h8 : F.fn 199) (hro : F.round = none) (hn : 1 ≤ n) (l Bs lo hi b off cap : Nat) (zs : List Int) (hreach : zs.length * 8 ≤ 140737488351232) (hb : lo ≤ b ∧ b < hi) (J Jx : List α → World → Prop)
    (hg : ∀ k, k < zs.length → encs (g k) = #[.int .i64 ((zs.length : Int) - 1 - k), .int .i64 (zs[zs.length - 1 - k]?.getD 0)])
    (hY : ∀ pre x W, J pre W → pre.length < zs.length → YieldAt F (n - 1) Try.prog l (encs x) W fun e W' =>
      (e = .returned (.bool true) ∧ J (pre ++ [x]) W' ∧ Mid lo hi W W') ∨ (e = .returned (.bool false) ∧ Jx (pre ++ [x]) W'))
    (W : World) (hBb : lo ≤ Bs ∧ Bs < hi) (hBs : W.cell? ⟨Bs, 0, none⟩ = some (.slice (some ⟨b, off, none⟩) zs.length cap)) (hc : ∀ j, j < zs.length → W.cell? ⟨b, off + j, none⟩ = some (.int .i64 (zs[j]?.getD 0))) (h0 : J [] W) :
    CallsIn F n Try.prog 199 #[.func (.yield l) #[] #[], .pointer (some ⟨Bs, 0, none⟩)] W fun e W' => (∃ v, e = .returned v) ∧
      ((∃ ys, ys = upto g zs.length ∧ J ys W') ∨ (∃ pre, (∃ k, k ≤ zs.length ∧ pre = upto g k) ∧ Jx pre W')) := by
  refine callsIn_of_wp Try.func199 rfl h8 ?_ hro
  simp only [Try.ntmps199, List.size_toArray, List.length_cons, List.length_nil, Nat.reduceAdd, Nat.reduceSub, Array.replicate_succ, Array.replicate_zero, List.push_toArray, List.append_toArray, List.nil_append, List.cons_append]
  gi_wp2
  gi_loopw [3] (fun i wr => ∃ k : Nat, k ≤ zs.length ∧ i = .int .i64 ((zs.length : Int) - 1 - k) ∧ J (upto g k) wr ∧ Mid lo hi W wr)
    (fun i _ => (intOf i + 1).toNat)
  case atStart => exact ⟨0, Nat.zero_le _, by simp, h0, Mid.refl _ _ _⟩
  case round =>
    obtain ⟨k, hk, rfl, hJs, hnx⟩ := hrel
    have hbs := (hnx.cell (p := ⟨Bs, 0, none⟩) hBb.1 hBb.2).trans hBs
    by_cases hlt : k < zs.length
    · have hcx' : wr.cell? ⟨b, off + (zs.length - 1 - k), none⟩ = some (.int .i64 (zs[zs.length - 1 - k]?.getD 0)) := (hnx.cell (p := ⟨b, _, none⟩) hb.1 hb.2).trans (hc _ (by omega))
      obtain ⟨fn, tmps, assign, body, hy, hR⟩ := hY _ (g k) wr hJs (by rw [upto_length]; exact hlt)
      rw [hg k hlt] at hy
      have hi0 : (0 : Int) ≤ (zs.length : Int) - 1 - k := by omega
      have hi1 : (zs.length : Int) - 1 - k < zs.length := by omega
      have hi2 : ((zs.length : Int) - 1 - k).toNat = zs.length - 1 - k := by omega
      gi_wp2
      refine hR.mono ?_
      rintro e W3 (⟨rfl, hJ3, hk3⟩ | ⟨rfl, hJx3⟩)
      · gi_wp2
        go_roundw
        case rel => exact ⟨k + 1, by omega, by go_num, by rw [upto_succ]; exact hJ3, hnx.trans hk3⟩
        case measure => simp [intOf]; omega
      · gi_wp2
        refine bodyPost_ret (results_none rfl _ _ _) rfl ?_
        exact ⟨⟨_, rfl⟩, .inr ⟨_, ⟨k + 1, by omega, (upto_succ _ _).symm⟩, hJx3⟩⟩
    · obtain rfl : k = zs.length := by omega
      gi_wp2
      go_end0
      exact ⟨⟨_, rfl⟩, .inl ⟨_, rfl, hJs⟩⟩

set_option maxRecDepth 100000 in
set_option maxHeartbeats 1000000 in
theorem back1_nil_in {α : Type} (F : Fence) (n : Nat) (h8 : F.fn 199) (hro : F.round = none) (l Bs : Nat) (A : Option Addr) (c : Nat) (J : List α → World → Prop) (W : World) (hBs : W.cell? ⟨Bs, 0, none⟩ = some (.slice A 0 c)) (h0 : J [] W) :
    CallsIn F n Try.prog 199 #[.func (.yield l) #[] #[], .pointer (some ⟨Bs, 0, none⟩)] W fun e W' => (∃ v, e = .returned v) ∧ J [] W' := by
  refine callsIn_of_wp Try.func199 rfl h8 ?_ hro
  simp only [Try.ntmps199, List.size_toArray, List.length_cons, List.length_nil, Nat.reduceAdd, Nat.reduceSub, Array.replicate_succ, Array.replicate_zero, List.push_toArray, List.append_toArray, List.nil_append, List.cons_append]
  gi_wp2
  gi_loopw [3] (fun i wr => i = .int .i64 (-1) ∧ J [] wr) (fun _ _ => 0)
  case atStart => exact ⟨rfl, h0⟩
  case round =>
    obtain ⟨rfl, hJs⟩ := hrel
    gi_wp2
    go_end0
    exact ⟨⟨_, rfl⟩, hJs⟩

theorem back_in (F : Fence) (n : Nat) (h6 : F.fn 161) (hro : F.round = none) (a : Option Addr) (len cap : Nat) (w : World) :
    CallsIn F n Try.prog 161 #[.slice a len cap] w fun e w' => e = .returned (.func (.func 199) #[] #[.pointer (some ⟨w.heap.size, 0, none⟩)]) ∧ w' = w.alloc (.cells #[.slice a len cap] 22) := by
  refine callsIn_of_wp Try.func161 rfl h6 ?_ hro
  simp only [Try.ntmps161, List.size_toArray, List.length_cons, List.length_nil, Nat.reduceAdd, Nat.reduceSub, Array.replicate_succ, Array.replicate_zero, List.push_toArray, List.append_toArray, List.nil_append, List.cons_append]
  gi_wp2
  go_ret
  exact ⟨rfl, rfl⟩

/-- slices.Backward(s): the pairs from the last one to the first one, or the first k of them. sv lies in a block that the call made. -/
theorem back_stops {α : Type} (encs : α → Array Value) (g : Nat → α) (F : Fence) (n : Nat) (h8 : F.fn 199) (hro : F.round = none) (hn : 1 ≤ n) (Bs lo hi : Nat) (sv : Value) (zs : List Int) (hreach : zs.length * 8 ≤ 140737488351232) (w : World) (b0 : Nat) (hBs : lo ≤ Bs ∧ Bs < hi) (hn₀ : hi ≤ w.heap.size)
    (hc : w.cell? ⟨Bs, 0, none⟩ = some sv) (hI : OwnI b0 w sv zs) (hg : ∀ k, k < zs.length → encs (g k) = #[.int .i64 ((zs.length : Int) - 1 - k), .int .i64 (zs[zs.length - 1 - k]?.getD 0)]) (hlt : ∀ k, sv.ownBlock = some k → lo ≤ k ∧ k < hi) :
    SeqStopsK F n Try.prog 199 #[.pointer (some ⟨Bs, 0, none⟩)] encs (Mid lo hi) (fun ys => ys = upto g zs.length)
      (fun pre => ∃ k, k ≤ zs.length ∧ pre = upto g k) zs.length w := fun l J Jx W hW _ _ hY h0 => by
  have hc' := (hW.cell (p := ⟨Bs, 0, none⟩) (Nat.lt_of_lt_of_le hBs.2 hn₀)).trans hc
  by_cases hz : 0 < zs.length
  · obtain ⟨gb, cap, rfl, hg1, hg2, -⟩ := Kd.R_form hI hz
    have hgb : lo ≤ gb ∧ gb < hi := hlt gb (by simp [Value.ownBlock])
    refine back1_in encs g F n h8 hro hn l Bs lo hi gb 0 cap zs hreach hgb J Jx hg hY W hBs hc' (fun j hj => ?_) h0
    obtain ⟨A, c, e, -, hr⟩ := OwnI.read hI
    injection e with e1 e2 e3
    obtain ⟨ad, e4, hcell⟩ := ReadI.at_ hr hj
    rw [e4] at e1
    injection e1 with e1
    subst e1
    have h2 : w.cell? ⟨gb, 0 + j, none⟩ = some (.int .i64 (zs.getD j 0)) := by
      have e5 : (⟨gb, 0, none⟩ : Addr).add j = ⟨gb, 0 + j, none⟩ := by
        unfold Addr.add
        split
        · rename_i h; subst h; rfl
        · rfl
      rw [e5] at hcell
      exact hcell
    rw [List.getD_eq_getElem?_getD] at h2
    exact (hW.cell (p := ⟨gb, 0 + j, none⟩) (Nat.lt_of_lt_of_le hgb.2 hn₀)).trans h2
  · obtain rfl : zs = [] := List.eq_nil_of_length_eq_zero (by omega)
    obtain ⟨A, c, rfl, -, hr⟩ := OwnI.read hI
    exact (back1_nil_in F n h8 hro l Bs A c J W hc' h0).mono fun e W' ⟨he, hj⟩ => ⟨he, .inl ⟨_, rfl, hj⟩⟩
end Go.Proofs.Ythbkboigbkadjaa.H

namespace Go.Proofs.Ythbkboigbkadjaa.H
open Go.RowKit Go.Proofs.YthbkboigbkadjaaW.PrintWords Go.Proofs.YthbkboigbkadjaaW.PrintLast Go.Proofs.YthbkboigbkadjaaW.PrintMore
set_option linter.unusedVariables false
set_option linter.unusedSimpArgs false

/-- the vertices of a face -/
def vs (f : Nat) : List Int := ((List.range 6).filter fun v => f.testBit v).map fun (v : Nat) => (v : Int)
def vsTo (f k : Nat) : List Int := ((List.range k).filter fun v => f.testBit v).map fun (v : Nat) => (v : Int)
theorem vsTo_succ (f k : Nat) : vsTo f (k + 1) = if f.testBit k then vsTo f k ++ [(k : Int)] else vsTo f k := by
  unfold vsTo
  rw [List.range_succ, List.filter_append, List.map_append]
  by_cases h : f.testBit k <;> simp [h]
theorem vsTo_len (f k : Nat) : (vsTo f k).length ≤ k := by
  unfold vsTo
  rw [List.length_map]
  exact Nat.le_trans (List.length_filter_le _ _) (by simp)

set_option maxHeartbeats 1000000 in
theorem vertices (f : Nat) (hf : f ≤ 63) (w : World) :
    Calls Try.prog 162 #[.int .i64 f] w fun e w' => ∃ v, e = .returned v ∧ OwnI w.heap.size w' v (vs f) ∧ Below w.heap.size w w' := by
  go_enter Try.func162, Try.ntmps162
  go_wp2
  go_loopw [3, 5] (fun v i wr => ∃ k : Nat, i = .int .i64 k ∧ k ≤ 6 ∧ Aside0 (OwnI w.heap.size wr v (vsTo f k)) ∧ Aside0 (Below w.heap.size w wr)) (fun _ i _ => 6 - (intOf i).toNat)
  case atStart => exact ⟨0, rfl, by omega, ⟨OwnI.nil _ _⟩, ⟨Below.refl _ _⟩⟩
  case round =>
    obtain ⟨k, rfl, hk, HO, HB⟩ := hrel
    by_cases hlt : k < 6
    · have hb2 : Aside0 (vsTo f (k + 1) = if f.testBit k then vsTo f k ++ [(k : Int)] else vsTo f k) := ⟨vsTo_succ f k⟩
      have hbit := bit_of f k (by omega)
      cases ht : f.testBit k with
      | true =>
        rw [ht, if_pos rfl] at hbit
        have HT := Aside0.mk ht
        clear ht
        go_wp2_with (first | (at_builtin; refine app_own (w0 := w) w.heap.size rfl (.tmp 13) (.tmp 15) rfl _ (vsTo f k) k rfl rfl HO.out HB.out HB.out.size ?hl ?_; (case hl => have := vsTo_len f k; omega); intro v1 w1 ho hb hg hat; have HO1 := Aside0.mk ho; have HB1 := Aside0.mk hb; clear ho hb hg hat))
        go_roundw
        case rel => exact ⟨k + 1, by go_num, by omega, ⟨by rw [hb2.out, HT.out, if_pos rfl]; exact HO1.out⟩, HB1⟩
        case measure => simp [intOf]; omega
      | false =>
        rw [ht, if_neg (by decide)] at hbit
        have HT := Aside0.mk ht
        clear ht
        go_wp2
        go_roundw
        case rel => exact ⟨k + 1, by go_num, by omega, ⟨by rw [hb2.out, HT.out, if_neg (by decide)]; exact HO.out⟩, HB⟩
        case measure => simp [intOf]; omega
    · obtain rfl : k = 6 := by omega
      go_wp2
      go_ret
      exact ⟨_, rfl, HO.out, HB.out⟩
end Go.Proofs.Ythbkboigbkadjaa.H

namespace Go.Proofs.Ythbkboigbkadjaa.H
open Go.Shelf
open Go.RowKit Go.Proofs.YthbkboigbkadjaaW.PrintWords Go.Proofs.YthbkboigbkadjaaW.PrintLast Go.Proofs.YthbkboigbkadjaaW.PrintMore
set_option linter.unusedVariables false
set_option linter.unusedSimpArgs false
attribute [local go_sem] Oper.semAt_some

/-- f without v -/
def drop (f : Nat) (v : Nat) : Nat := f ^^^ (f &&& 2 ^ v)
/-- a vertex with its index among those of a face -/
abbrev IV := Nat × { v : Nat // v ≤ 5 }
/-- what is collected over some vertices -/
def bor (f : Nat) (l : List IV) : List Int := (l.filter fun x => decide (drop f x.2.1 ≠ 0)).map fun x => (drop f x.2.1 : Int)
theorem bor_hit (f : Nat) (l : List IV) (x : IV) (h : drop f x.2.1 ≠ 0) : bor f (l ++ [x]) = bor f l ++ [(drop f x.2.1 : Int)] := by simp [bor, h]
theorem bor_miss (f : Nat) (l : List IV) (x : IV) (h : drop f x.2.1 = 0) : bor f (l ++ [x]) = bor f l := by simp [bor, h]
theorem bor_len (f : Nat) (l : List IV) : (bor f l).length ≤ l.length := by
  unfold bor; rw [List.length_map]; exact List.length_filter_le _ _
/-- the k-th vertex from behind -/
def ivAt (f k : Nat) : IV := ((vs f).length - 1 - k, ⟨min ((vs f)[(vs f).length - 1 - k]?.getD 0).toNat 5, Nat.min_le_right _ _⟩)
def ivEnc (x : IV) : Array Value := #[.int .i64 (x.1 : Int), .int .i64 (x.2.1 : Int)]
/-- the sets with one vertex less, other than the empty one, ascending -/
def below (f : Nat) : List Int := (((List.range 6).reverse.filter fun v => f.testBit v).map (drop f)).filterMap fun (g : Nat) => if g = 0 then none else some (g : Int)
theorem below_bor : ∀ f, f < 64 → bor f (upto (ivAt f) (vs f).length) = below f := by decide +kernel
theorem vs_bd : ∀ f, f < 64 → ∀ x ∈ vs f, 0 ≤ x ∧ x ≤ 5 := by decide +kernel
theorem vs_len : ∀ f, f < 64 → (vs f).length ≤ 6 := by decide +kernel
theorem drop_lt {f v : Nat} (hf : f ≤ 63) (hv : v ≤ 5) : drop f v < 64 := by
  unfold drop
  exact Nat.xor_lt_two_pow (n := 6) (by omega) (Nat.and_lt_two_pow _ (by have := pow_bd v hv; omega))
theorem drop_bits (f v : Nat) (hf : f ≤ 63) (hv : v ≤ 5) : bits .andNot .i64 (f : Int) ((2 ^ v : Nat) : Int) = (drop f v : Int) := by
  have := pow_bd v hv
  unfold drop
  exact andNot_i64 f (2 ^ v) (by omega) (by omega)
theorem appended_mid {W w1 : World} {n₀ n₁ B : Nat} {t e : TypeId} {size : Nat} {v v' : Value} {k m : Nat} {xs ys : List Value} {tmp : Obj}
    (hv : Boxed W B t v) (hte : t ≠ e) (hrow : W.ownsRow n₀ e size v k xs) (hn₁ : n₁ ≤ n₀) (hn₀ : n₀ ≤ W.heap.size) (hB : n₁ ≤ B)
    (hown' : w1.ownsRow n₀ e size v' m ys) (hgrow : (W.alloc tmp).grownBy w1 v.ownBlock) :
    Boxed w1 B t v ∧ Boxed (w1.setCell ⟨B, 0, none⟩ v') B t v' ∧ (w1.setCell ⟨B, 0, none⟩ v').ownsRow n₀ e size v' m ys ∧ KeepsOthers W (w1.setCell ⟨B, 0, none⟩ v') ∧ Below n₁ W (w1.setCell ⟨B, 0, none⟩ v') ∧ ∀ j, j < n₀ → j ≠ B → (w1.setCell ⟨B, 0, none⟩ v').heap[j]? = W.heap[j]? := by
  obtain ⟨a1, a2, -, a4, a5⟩ := hv.appended hte (own_less hrow hn₁) (Nat.le_trans hn₁ hn₀) hB (own_less hown' hn₁) hgrow
  refine ⟨a1, a2, hown'.kept (grownBy_setCell' w1 B v') (.inr (a1.not_row hte hown').symm), a4, a5, fun j hj1 hj2 => ?_⟩
  have hne : some j ≠ v.ownBlock := by
    rcases hrow.2 with ⟨rfl, _⟩ | ⟨g, cap, cur, rfl, hb, _, _⟩
    · simp [Value.ownBlock]
    · simp [Value.ownBlock]; omega
  have h1 := (grownBy_setCell' w1 B v').block j (by have := hgrow.size; simp at this; omega) (by simp; omega)
  have h2 := hgrow.block j (by simp; omega) hne
  rw [h1, h2]
  exact (World.grownBy_alloc W tmp none).block j (by omega) (by simp)
theorem iv_enc {f k : Nat} (hf : f < 64) (hk : k < (vs f).length) : ivEnc (ivAt f k) = #[.int .i64 (((vs f).length : Int) - 1 - k), .int .i64 ((vs f)[(vs f).length - 1 - k]?.getD 0)] := by
  have h : (vs f).length - 1 - k < (vs f).length := by omega
  have hb := vs_bd f hf _ (List.getElem_mem h)
  have e1 : (((vs f).length - 1 - k : Nat) : Int) = ((vs f).length : Int) - 1 - k := by omega
  have e2 : ((min ((vs f)[(vs f).length - 1 - k]?.getD 0).toNat 5 : Nat) : Int) = (vs f)[(vs f).length - 1 - k]?.getD 0 := by
    rw [List.getElem?_eq_getElem h, Option.getD_some]; omega
  unfold ivEnc ivAt
  rw [e1, e2]

set_option maxRecDepth 100000 in
set_option maxHeartbeats 2000000 in
theorem borders_in (n : Nat) (hn : 3 ≤ n) (f : Nat) (hf : f ≤ 63) (w : World) :
    CallsIn Fence.wide n Try.prog 116 #[.int .i64 f] w fun e w' => ∃ v, e = .returned v ∧ OwnI w.heap.size w' v (below f) ∧ Below w.heap.size w w' := by
  have h1 : 1 ≤ n := by omega
  obtain ⟨i0, hi, hz0, hz1, hz2⟩ := info_parts info64
  refine callsIn_of_wp_marks Try.func116 rfl trivial ?_ rfl
  simp only [Try.ntmps116, List.size_toArray, List.length_cons, List.length_nil, Nat.reduceAdd, Nat.reduceSub, Array.replicate_succ, Array.replicate_zero, List.push_toArray, List.append_toArray, List.nil_append, List.cons_append]
  gi_wp2_with (first | (refine ⟨trivial, ?_⟩; gi_at_call 162; refine (callsIn_wide.2 (vertices f hf _)).mono ?_; rintro e w3 ⟨v3, rfl, ho3, hb3⟩; obtain ⟨A3, c3, rfl, -⟩ := ho3.read) | (refine ⟨trivial, ?_⟩; gi_at_call 161; refine (back_in Fence.wide (n - 1) trivial rfl _ _ _ _).mono ?_; rintro e w' ⟨rfl, rfl⟩))
  have hf' : f < 64 := by omega
  have hlen := vs_len f hf'
  obtain ⟨w2, hw2⟩ : ∃ w2, w2 = (w.alloc (Obj.cells #[Value.int IntKind.i64 ↑f] 2)).alloc (Obj.cells #[Value.slice none 0 0] 22) := ⟨_, rfl⟩
  have bF : Boxed w2 w.heap.size 2 (.int .i64 f) := by rw [hw2]; exact (Boxed.new w _ _).alloc _
  have bO : Boxed w2 (w.heap.size + 1) 22 (.slice none 0 0) := by rw [hw2]; have := Boxed.new (w.alloc (Obj.cells #[Value.int IntKind.i64 ↑f] 2)) 22 (.slice none 0 0); rwa [World.size_alloc] at this
  have hB2 : Below w.heap.size w w2 := by rw [hw2]; exact ((Below.refl _ w).alloc (Nat.le_refl _) _).alloc (by simp) _
  rw [← hw2] at hb3 ho3
  clear hw2
  have hB3 : Below w.heap.size w w3 := hB2.trans (hb3.mono hB2.size)
  have bF3 : Boxed w3 w.heap.size 2 (.int .i64 f) := (hb3.block _ bF.lt).trans bF
  have bO3 : Boxed w3 (w.heap.size + 1) 22 (.slice none 0 0) := (hb3.block _ bO.lt).trans bO
  have bN := Boxed.new w3 22 (.slice A3 (vs f).length c3)
  have hlt3 := ho3.lt
  have hblt := bO.lt
  have hbsz := hb3.size
  have hbs3 := ho3.base
  obtain ⟨w4, hw4⟩ : ∃ w4, w4 = w3.alloc (Obj.cells #[Value.slice A3 (vs f).length c3] 22) := ⟨_, rfl⟩
  have ho4 : OwnI w2.heap.size w4 (.slice A3 (vs f).length c3) (vs f) := by rw [hw4]; exact ho3.below (Below.alloc (Below.refl _ _) (Nat.le_refl _) _)
  have bF4 : Boxed w4 w.heap.size 2 (.int .i64 f) := by rw [hw4]; exact bF3.alloc _
  have bO4 : Boxed w4 (w.heap.size + 1) 22 (.slice none 0 0) := by rw [hw4]; exact bO3.alloc _
  have hB4 : Below w.heap.size w w4 := by rw [hw4]; exact hB3.alloc hB3.size _
  have hs4 : w4.heap.size = w3.heap.size + 1 := by rw [hw4]; simp
  rw [← hw4] at bN ⊢
  clear hw4
  refine wpIn_rangeFunc_ownG rfl h1 (gf := 199) (lb := #[.pointer (some ⟨w3.heap.size, 0, none⟩)]) rfl trivial (enters_of Try.func199 (by kernel_rfl) rfl)
    (back_stops ivEnc (ivAt f) Fence.wide (n - 1) trivial rfl (by omega) w3.heap.size w2.heap.size w4.heap.size _ (vs f) (by omega) w4 _ (by have := hb3.size; omega) (Nat.le_refl _) bN.cell ho4 (fun k hk => iv_enc hf' hk) (fun k hk => by have := hlt3 k hk; have := hbs3 k hk; omega)) (fun a b => Mid.trans a b) ?hKb (Below.refl _ _) (fun _ => rfl)
    (fun pre W => (∃ v, Boxed W (w.heap.size + 1) 22 v ∧ W.ownsRow w4.heap.size 2 1 v (bor f pre).length ((bor f pre).map (Value.int .i64)) ∧ True) ∧ (Boxed W w.heap.size 2 (.int .i64 f) ∧ Below w.heap.size w W ∧ w4.heap.size ≤ W.heap.size))
    (fun _ _ _ => False)
    ?hI (fun _ _ _ _ _ hs _ _ => hs) ?h0
    (fun x => { tmps := #[.int .i64 f, .pointer (some ⟨w.heap.size, 0, none⟩), .slice none 0 0, .pointer (some ⟨w.heap.size + 1, 0, none⟩), undef, .int .i64 (x.2.1 : Int), undef, .int .i64 f, .slice A3 (vs f).length c3, .func (.func 199) #[] #[.pointer (some ⟨w3.heap.size, 0, none⟩)], .int .i64 (x.1 : Int), .int .i64 (x.2.1 : Int), undef, undef, undef, undef, undef, undef, undef, undef, undef, undef, undef], defers := [] }) ?assign ?body ?done ?stop
  case hI => exact OwnFrom.and (Own.from (holdsRow_own w4.heap.size (w.heap.size + 1) 22 2 1 (fun pre => (bor f pre).length) (fun pre => (bor f pre).map (Value.int .i64)) (fun pre v => True)) _) (OwnFrom.and (Own.from (boxed_own _ _ _) _) (OwnFrom.and (ownFrom_below (Nat.le_refl _) (by have := hB4.size; omega)) (fun s W W' row hs hg hr => Nat.le_trans hs hg.size)))
  case hKb => exact fun W l o o' hl ho h1 h2 => Mid.of_below (belowK_b (w := w4) (Nat.le_refl _) W l o o' hl ho h1 h2)
  case h0 => exact ⟨⟨_, bO4, World.ownsRow_nil _ _ _ _, trivial⟩, bF4, hB4, Nat.le_refl _⟩
  case assign =>
    intro l x W K hK
    unfold ivEnc
    gi_wp2
    exact hK
  case body =>
    rintro l pre ⟨j, v, hv5⟩ W ⟨⟨v0, hv, hrow, -⟩, hbF, hB, hz4⟩ hlt
    have hc := hv.cell
    have hcf := hbF.cell
    have hpl := bor_len f pre
    have hmx : Try.prog.follows .mixedOrders = true := by kernel_rfl
    obtain ⟨p, hp⟩ : ∃ p : Nat, p = 2 ^ v := ⟨_, rfl⟩
    have hpb : p ≤ 32 := by rw [hp]; exact pow_bd v hv5
    have hsh : wrap64 ((2 : Int) ^ v) = (p : Int) := by rw [hp]; exact pow_wrap v (by omega)
    have hdn : bits .andNot .i64 (f : Int) (p : Int) = (drop f v : Int) := by rw [hp]; exact drop_bits f v hf hv5
    have hdl := drop_lt hf hv5
    have HP := Aside0.mk hp
    clear hp
    obtain ⟨d, hd⟩ : ∃ d, d = drop f v := ⟨_, rfl⟩
    rw [← hd] at hdn hdl
    have HD := Aside0.mk hd
    clear hd
    have hshr : IntKind.i64.wrap ((2 : Int) ^ v) = (p : Int) := by rw [HP.out]; exact pow_wrap' v (by omega)
    have hps := hB.size
    by_cases h0 : d = 0
    · have h0b : ((d : Int) != 0) = false := by rw [h0]; rfl
      have HZ := Aside0.mk h0
      clear h0
      gi_wp2
      gi_region_with_o (fail)
      all_goals gi_wp2
      all_goals exact ⟨⟨Nat.le_refl _, fun _ _ _ h _ => h⟩, fun _ _ _ => rfl, ⟨v0, hv, by rw [bor_miss f pre (j, ⟨v, hv5⟩) (HD.out.symm.trans HZ.out)]; exact hrow, trivial⟩, hbF, hB.drew, hz4⟩
    · have h0b : ((d : Int) != 0) = true := by simp; exact h0
      have HZ := Aside0.mk h0
      clear h0
      gi_wp2
      gi_region_with_o (fail)
      all_goals (obtain ⟨W1, hW1⟩ : ∃ W1, W1 = W.drew := ⟨_, rfl⟩)
      all_goals (have hk1 : KeepsFrom w4.heap.size W W1 := (by rw [hW1]; exact ⟨Nat.le_refl _, fun _ _ _ h _ => h⟩))
      all_goals (have hm1 : Mid w2.heap.size w4.heap.size W W1 := (by rw [hW1]; exact fun _ _ _ => rfl))
      all_goals (replace hv : Boxed W1 (w.heap.size + 1) 22 v0 := (by rw [hW1]; exact hv))
      all_goals (replace hbF : Boxed W1 w.heap.size 2 (.int .i64 f) := (by rw [hW1]; exact hbF))
      all_goals (replace hrow : W1.ownsRow w4.heap.size 2 1 v0 (bor f pre).length ((bor f pre).map (Value.int .i64)) := (by rw [hW1]; exact hrow))
      all_goals (replace hB : Below w.heap.size w W1 := (by rw [hW1]; exact hB.drew))
      all_goals (replace hz4 : w4.heap.size ≤ W1.heap.size := (by rw [hW1]; exact hz4))
      all_goals rw [← hW1]
      all_goals clear hW1 hc hcf hps
      all_goals (have hmL : 100 ≤ maxLen := (by decide))
      all_goals (have hc := hv.cell; have hcf := hbF.cell; have hps := hB.size)
      all_goals gi_wp2_with (gi_at_builtin; refine wpListIn_append_own _ rfl _ _ 22 rfl w4.heap.size 2 i0 (.int .i64 0) 1 8 Try.underlying22 hi hz0 hz1 hz2 rfl (by decide) _ _ _ rfl (hrow.alloc _) ⟨W1.heap.size, 0, none⟩ 1 1 [.int .i64 d] rfl rfl (cell_one_new _ _ _) (by simp [Value.oneCell']) (by omega) (by omega) (by simp; omega) ?_; intro v' w1 hown' hgrow _; obtain ⟨g', cap', rfl⟩ := ownsRow_succ hown'; obtain ⟨hv1, hv2, hr2, hk2, hb2, hm2⟩ := appended_mid hv (by decide) hrow hB4.size hz4 (Nat.le_succ _) hown' hgrow; have hc1 := hv1.cell; have hf1 := hv1.frozen)
      all_goals exact ⟨hk1.trans (hk2.from _), hm1.trans fun k k1 k2 => hm2 k k2 (by omega), ⟨_, hv2, by rw [bor_hit f pre (j, ⟨v, hv5⟩) (fun e => HZ.out (HD.out.trans e))]; simpa [← HD.out] using hr2, trivial⟩, (hm2 _ (by omega) (by omega)).trans hbF, hB.trans hb2, Nat.le_trans hz4 hk2.size⟩
  case done =>
    rintro D ys W hD rfl ⟨⟨v0, hv, hrow, -⟩, hbF, hB, hz4⟩ hK
    have hc := hv.cell
    gi_wp2
    refine ⟨by simp, .inl ⟨_, _, rfl, run_takeDeferred hK, ?_⟩⟩
    have hBD := hB.trans (belowK_b (w := w) (Nat.le_refl _) W D _ (.deferred none) (by have := hB4.size; omega) hK rfl rfl)
    rw [below_bor f hf'] at hrow
    exact ⟨_, results_tmp rfl _ _ _, v0, rfl, OwnI.of_row (ownsRow_putObj hrow _ hK rfl) hB4.size, hBD⟩
  case stop =>
    rintro D c pre W _ _ h _
    exact h.elim
theorem borders (f : Nat) (hf : f ≤ 63) (w : World) :
    Calls Try.prog 116 #[.int .i64 f] w fun e w' => ∃ v, e = .returned v ∧ OwnI w.heap.size w' v (below f) ∧ Below w.heap.size w w' :=
  callsIn_wide.1 (borders_in 3 (Nat.le_refl _) f hf w)
end Go.Proofs.Ythbkboigbkadjaa.H
