/- those: the complex of the sets that are as told. -/
import Derived.Test.YtcbkchnfjeegmaaHas
import Derived.Test.YtcbkchnfjeegmaaHof
namespace Go.Proofs.Ytcbkchnfjeegmaa.H
open Go.RowKit Go.Proofs.YtcbkchnfjeegmaaW.PrintWords Go.Proofs.YtcbkchnfjeegmaaW.PrintLast Go.Proofs.YtcbkchnfjeegmaaW.PrintMore
set_option linter.unusedVariables false
set_option linter.unusedSimpArgs false

/-- those of 1 .. k - 1 that are as told -/
def thL (p : Int → Bool) (k : Nat) : List Int := (List.range k).filterMap fun (f : Nat) => if decide (1 ≤ f) && p (f : Int) then some (f : Int) else none
theorem thL_hit {p : Int → Bool} {k : Nat} (h1 : 1 ≤ k) (h : p k = true) : thL p (k + 1) = thL p k ++ [(k : Int)] := by
  unfold thL
  rw [List.range_succ, List.filterMap_append]
  simp [h, h1]
theorem thL_miss {p : Int → Bool} {k : Nat} (h : p k = false) : thL p (k + 1) = thL p k := by
  unfold thL
  rw [List.range_succ, List.filterMap_append]
  simp [h]
theorem thL_len (p : Int → Bool) (k : Nat) : (thL p k).length ≤ k := by
  unfold thL
  exact Nat.le_trans (List.length_filterMap_le _ _) (by simp)
theorem thL_one (p : Int → Bool) : thL p 1 = [] := by simp [thL]
theorem set_grown' (w : World) (b i : Nat) (v : Value) : w.grownBy (w.setCell ⟨b, i, none⟩ v) (some b) :=
  ⟨rfl, rfl, rfl, by simp, fun k _ hne => Below.heap_setCell w ⟨b, i, none⟩ v k (fun e => hne (by rw [e]))⟩

set_option maxHeartbeats 2000000 in
theorem those (n : Nat) (hn : n ≤ 6) (fv : Value) (p : Int → Bool) (w : World) (hp : PredI w fv p (fun f => 1 ≤ f ∧ f < ((2 ^ n : Nat) : Int))) :
    Calls Try.prog 185 #[.int .i64 n, fv] w fun e w' => ∃ u, e = .returned (.agg #[.int .i64 n, u]) ∧ OwnI w.heap.size w' u (thL p (2 ^ n)) ∧ Below w.heap.size w w' := by
  obtain ⟨g, first, caps, rfl, hent, hp⟩ := hp
  have HP := Aside0.mk hp
  unfold Enters at hent
  have hsh := pow_wrap n (by omega)
  have hb64 : 1 ≤ 2 ^ n ∧ 2 ^ n ≤ 64 := by
    rcases (by omega : n = 0 ∨ n = 1 ∨ n = 2 ∨ n = 3 ∨ n = 4 ∨ n = 5 ∨ n = 6) with rfl | rfl | rfl | rfl | rfl | rfl | rfl <;> decide
  obtain ⟨N, hN⟩ : ∃ N : Nat, N = 2 ^ n := ⟨_, rfl⟩
  rw [← hN] at hsh hb64 HP ⊢
  clear hp hN
  obtain ⟨w0, hw0⟩ : ∃ w0, w0 = (w.alloc (Obj.cells #[Value.int IntKind.i64 0, Value.slice none 0 0] 28)).alloc (Obj.cells #[Value.int IntKind.i64 n, Value.slice none 0 0] 28) := ⟨_, rfl⟩
  have hs0 : w0.heap.size = w.heap.size + 1 + 1 := by rw [hw0]; simp
  have hb1 : w0.heap[w.heap.size]? = some (Obj.cells #[Value.int IntKind.i64 0, Value.slice none 0 0] 28) := by
    rw [hw0]; exact blk_alloc (blk_new w _) _
  have hb2 : w0.heap[w.heap.size + 1]? = some (Obj.cells #[Value.int IntKind.i64 n, Value.slice none 0 0] 28) := by
    rw [hw0]
    have := blk_new (w.alloc (Obj.cells #[Value.int IntKind.i64 0, Value.slice none 0 0] 28)) (Obj.cells #[Value.int IntKind.i64 n, Value.slice none 0 0] 28)
    rwa [World.size_alloc] at this
  have hB0 : Below w.heap.size w w0 := by rw [hw0]; exact ((Below.refl _ w).alloc (Nat.le_refl _) _).alloc (by simp) _
  have HB0 := Aside0.mk hB0
  have HK1 := Aside0.mk hb1
  have HK2 := Aside0.mk hb2
  have HS0 := Aside0.mk hs0
  clear hB0 hb1 hb2 hs0
  go_enter Try.func185, Try.ntmps185
  go_wp2
  rw [← hw0]
  clear hw0
  go_loopw [6] (fun s wr => ∃ k : Nat, s = .int .i64 k ∧ 1 ≤ k ∧ k ≤ N ∧ (∃ v, Aside0 (wr.heap[w.heap.size + 1]? = some (Obj.cells #[.int .i64 n, v] 28)) ∧ Aside0 (OwnI w0.heap.size wr v (thL p k))) ∧ Aside0 (wr.heap[w.heap.size]? = some (Obj.cells #[.int .i64 0, .slice none 0 0] 28)) ∧ Aside0 (Below w.heap.size w wr)) (fun s _ => N - (intOf s).toNat)
  case atStart => exact ⟨1, rfl, by omega, hb64.1, ⟨_, HK2, ⟨by rw [thL_one]; exact OwnI.nil _ _⟩⟩, HK1, HB0⟩
  case round =>
    obtain ⟨k, rfl, hk1, hkN, ⟨v, HKb, HO⟩, HKa, HB⟩ := hrel
    obtain ⟨Av, cv, rfl, -⟩ := HO.out.read
    by_cases hlt : k < N
    · have hdom : 1 ≤ (k : Int) ∧ (k : Int) < N := by omega
      have HD := Aside0.mk hdom
      have hll := thL_len p k
      clear hdom
      cases hpk : p k with
      | true =>
        have HH := Aside0.mk (thL_hit hk1 hpk)
        go_wp2_with (first | (refine (HP.out _ _ HB.out HD.out).mono ?_; rintro e w5 ⟨rfl, hb⟩; have HKb5 := Aside0.mk (blk_below HKb.out hb); have HKa5 := Aside0.mk (blk_below HKa.out hb); have HO5 := Aside0.mk (OwnI.below HO.out hb); have HB5 := Aside0.mk (HB.out.trans (hb.mono HB.out.size)); have c51 : w5.cell? ⟨w.heap.size + 1, 1, none⟩ = some (.slice Av (thL p k).length cv) := blk_cell HKb5.out 1; have hz5 : w0.heap.size ≤ w5.heap.size := (by have := HS0.out; have := blk_lt HKb5.out; omega); clear hb) | (at_builtin; refine app_own (w0 := w5) w0.heap.size rfl (.tmp 19) (.tmp 21) rfl _ (thL p k) k rfl rfl HO5.out (Below.refl _ _) hz5 ?hl ?_; (case hl => omega); intro v1 w6 ho hb2 hg hat; have hne : some (w.heap.size + 1) ≠ (Value.slice Av (thL p k).length cv).ownBlock := (fun e => by have := HO5.out.base _ e.symm; have := HS0.out; omega); have hne2 : some w.heap.size ≠ (Value.slice Av (thL p k).length cv).ownBlock := (fun e => by have := HO5.out.base _ e.symm; have := HS0.out; omega); have HKb6 := Aside0.mk ((hg.block _ (blk_lt HKb5.out) hne).trans HKb5.out); have HKa6 := Aside0.mk ((hg.block _ (blk_lt HKa5.out) hne2).trans HKa5.out); have HO6 := Aside0.mk ho; have HB6 := Aside0.mk (HB5.out.trans (hb2.mono (by have := HS0.out; omega))); have c61 : w6.cell? ⟨w.heap.size + 1, 1, none⟩ = some (.slice Av (thL p k).length cv) := blk_cell HKb6.out 1; have f61 : w6.frozen? ⟨w.heap.size + 1, 1, none⟩ = false := blk_frozen HKb6.out 1; obtain ⟨A6, d6, rfl, -⟩ := ho.read; clear ho hb2 hg hat hne hne2))
        go_roundw
        case rel =>
          refine ⟨k + 1, by go_num, by omega, by omega, ⟨_, ⟨blk_put HKb6.out 1 _ rfl⟩, ⟨?_⟩⟩, ⟨blk_far HKa6.out (by simp) _⟩, ⟨HB6.out.setCell (by simp) _⟩⟩
          rw [HH.out]
          have h6 := HO6.out
          rw [List.length_append, List.length_singleton] at h6
          exact h6.grown (set_grown' _ (w.heap.size + 1) _ _) (fun j hj e => by have := h6.base _ hj; have := HS0.out; cases e; omega)
        case measure => simp [intOf]; omega
      | false =>
        have HH := Aside0.mk (thL_miss hpk)
        go_wp2_with (first | (refine (HP.out _ _ HB.out HD.out).mono ?_; rintro e w5 ⟨rfl, hb⟩))
        go_roundw
        case rel => exact ⟨k + 1, by go_num, by omega, by omega, ⟨_, ⟨blk_below HKb.out hb⟩, ⟨by rw [HH.out]; exact OwnI.below HO.out hb⟩⟩, ⟨blk_below HKa.out hb⟩, ⟨HB.out.trans (hb.mono HB.out.size)⟩⟩
        case measure => simp [intOf]; omega
    · have e : k = N := by omega
      have HE := Aside0.mk e
      have c10 : wr.cell? ⟨w.heap.size + 1, 0, none⟩ = some (.int .i64 n) := blk_cell HKb.out 0
      have c11 : wr.cell? ⟨w.heap.size + 1, 1, none⟩ = some (.slice Av (thL p k).length cv) := blk_cell HKb.out 1
      have c00 : wr.cell? ⟨w.heap.size, 0, none⟩ = some (.int .i64 0) := blk_cell HKa.out 0
      have c01 : wr.cell? ⟨w.heap.size, 1, none⟩ = some (.slice none 0 0) := blk_cell HKa.out 1
      have f00 : wr.frozen? ⟨w.heap.size, 0, none⟩ = false := blk_frozen HKa.out 0
      have f01 : wr.frozen? ⟨w.heap.size, 1, none⟩ = false := blk_frozen HKa.out 1
      clear e
      go_wp2
      refine bodyPost_ret (results_cell_row rfl _ _ w.heap.size 28 #[.int .i64 n, .slice Av (thL p k).length cv] (0, 0) _ rfl (by refine blk_put (cs := #[.int .i64 n, .slice none 0 0]) ?_ 1 _ rfl; refine blk_put (cs := #[.int .i64 0, .slice none 0 0]) ?_ 0 _ rfl; exact HKa.out) Try.underlying28 rfl (by kernel_rfl)) rfl ?_
      refine ⟨_, rfl, ?_, (HB.out.setCell (by simp) _).setCell (by simp) _⟩
      rw [← HE.out]
      have hn := HO.out.base
      have hs := HS0.out
      have ho := HO.out.lower (b' := w.heap.size) (by omega)
      exact (ho.grown (set_grown' _ w.heap.size _ _) (fun j hj e => by have := hn _ hj; cases e; omega)).grown (set_grown' _ w.heap.size _ _) (fun j hj e => by have := hn _ hj; cases e; omega)
end Go.Proofs.Ytcbkchnfjeegmaa.H
