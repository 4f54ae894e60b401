/- ImageComplex of the reference. -/
import Derived.Test.YtllmbbaffhpheaaIma
namespace Go.Proofs.Ytllmbbaffhpheaa.H
open Go.RowKit Go.Proofs.YtllmbbaffhpheaaW.PrintWords Go.Proofs.YtllmbbaffhpheaaW.PrintLast Go.Proofs.YtllmbbaffhpheaaW.PrintMore
set_option linter.unusedVariables false
set_option linter.unusedSimpArgs false

theorem made_hit {ss : List Int} {t : Nat} {k z : Nat} (ht : t < ss.length) (hz : ss.getD t 0 = z) (h : k &&& z = k) : madeAt ss k = true := by
  unfold madeAt
  rw [List.any_eq_true]
  exact ⟨z, mem_at ht hz, by simp [h]⟩
theorem made_miss {ss : List Int} {k : Nat} (h : ∀ t, t < ss.length → ∀ z : Nat, ss.getD t 0 = z → k &&& z ≠ k) (hn : ∀ s ∈ ss, ∃ z : Nat, s = z ∧ z < 64) : madeAt ss k = false := by
  unfold madeAt
  rw [List.any_eq_false]
  intro s hs
  obtain ⟨z, rfl, -⟩ := hn s hs
  obtain ⟨t, ht, e⟩ := List.getElem_of_mem hs
  have := h t ht z (by rw [List.getD_eq_getElem?_getD, List.getElem?_eq_getElem ht]; simpa using e)
  simpa using this

set_option maxRecDepth 100000 in
set_option maxHeartbeats 2000000 in
theorem specMade (n : Nat) (hn : n ≤ 6) (v : Value) (ss : List Int) (w : World) (hv : ReadI w v ss) (hss : ∀ s ∈ ss, ∃ z : Nat, s = z ∧ z < 64) :
    Calls Try.prog 95 #[.int .i64 n, v] w fun e w' => ∃ u, e = .returned (.agg #[.int .i64 n, u]) ∧ OwnI w.heap.size w' u (thL (madeAt ss) (2 ^ n)) ∧ Below w.heap.size w w' := by
  have hb64 : 1 ≤ 2 ^ n ∧ 2 ^ n ≤ 64 := by
    rcases (by omega : n = 0 ∨ n = 1 ∨ n = 2 ∨ n = 3 ∨ n = 4 ∨ n = 5 ∨ n = 6) with rfl | rfl | rfl | rfl | rfl | rfl | rfl <;> decide
  obtain ⟨N, hN⟩ : ∃ N : Nat, N = 2 ^ n := ⟨_, rfl⟩
  have HALL : Aside0 (∀ W : World, Calls Try.prog 115 #[.int .i64 n] W fun e w' => e = .returned (.int .i64 ((N : Int) - 1)) ∧ Below W.heap.size W w') := ⟨fun W => by rw [hN]; exact specAll n hn W⟩
  rw [← hN] at hb64 ⊢
  clear hN
  have hlen := hv.len
  obtain ⟨A1, d1, rfl, hcc, hr⟩ := hv
  have HR := Aside0.mk hr
  have HSS := Aside0.mk hss
  obtain ⟨wb, hwb⟩ : ∃ wb, wb = (w.alloc (.cells #[.int .i64 0, .slice none 0 0] 28)).alloc (.cells #[] 2) := ⟨_, rfl⟩
  obtain ⟨w0, hw0⟩ : ∃ w0, w0 = wb.alloc (.cells #[.int .i64 n, .slice (some ⟨w.heap.size + 1, 0, none⟩) 0 0] 28) := ⟨_, rfl⟩
  have hsb : wb.heap.size = w.heap.size + 1 + 1 := by rw [hwb]; simp
  have hbb : Below w.heap.size w wb := by rw [hwb]; exact ((Below.refl _ w).alloc (Nat.le_refl _) _).alloc (by simp) _
  have hb0 : Below wb.heap.size wb w0 := by rw [hw0]; exact Below.alloc (Below.refl _ _) (Nat.le_refl _) _
  have hB0 : Below w.heap.size w w0 := hbb.trans (hb0.mono hbb.size)
  have hk1 : w0.heap[w.heap.size]? = some (.cells #[.int .i64 0, .slice none 0 0] 28) := by rw [hw0]; refine blk_alloc ?_ _; rw [hwb]; exact blk_alloc (blk_new w _) _
  have hk2 : w0.heap[w.heap.size + 1 + 1]? = some (.cells #[.int .i64 n, .slice (some ⟨w.heap.size + 1, 0, none⟩) 0 0] 28) := by rw [hw0, ← hsb]; exact blk_new _ _
  have ho0 : OwnI (w.heap.size + 1) w0 (.slice (some ⟨w.heap.size + 1, 0, none⟩) 0 0) [] := by
    have h1 := (OwnI.empty (b := w.heap.size + 1) (w.alloc (.cells #[.int .i64 0, .slice none 0 0] 28)) (by simp))
    rw [← hwb] at h1
    rw [World.size_alloc] at h1
    exact h1.below hb0
  have HB0 := Aside0.mk hB0
  have HK1 := Aside0.mk hk1
  have HK2 := Aside0.mk hk2
  have HO0 := Aside0.mk ho0
  clear hB0 hk1 hk2 ho0 hb0 hbb hsb hcc hr hss
  subst hwb
  go_enter Try.func95, Try.ntmps95
  go_wp2
  rw [← hw0]
  clear hw0
  go_loopw [6] (fun s wr => ∃ k : Nat, s = .int .i64 k ∧ 1 ≤ k ∧ k ≤ N ∧ (∃ v, Aside0 (wr.heap[w.heap.size + 1 + 1]? = some (Obj.cells #[.int .i64 n, v] 28)) ∧ Aside0 (OwnI (w.heap.size + 1) wr v (thL (madeAt ss) k)) ∧ Aside0 (∀ j, v.ownBlock = some j → j ≠ w.heap.size + 1 + 1)) ∧ Aside0 (wr.heap[w.heap.size]? = some (Obj.cells #[.int .i64 0, .slice none 0 0] 28)) ∧ Aside0 (Below w.heap.size w wr)) (fun s _ => N - (intOf s).toNat)
  case atStart =>
    refine ⟨1, rfl, by omega, hb64.1, ⟨_, HK2, ⟨by rw [thL_one]; exact HO0.out⟩, ⟨fun j hj e => ?_⟩⟩, HK1, HB0⟩
    have : w.heap.size + 1 = j := by simpa [Value.ownBlock] using hj
    omega
  case round =>
    obtain ⟨k, rfl, hk1, hkN, ⟨v, HKb, HO, HNE⟩, HKa, HB⟩ := hrel
    obtain ⟨Av, cv, rfl, -⟩ := HO.out.read
    by_cases hlt : k < N
    · have hle : (k : Int) ≤ (N : Int) - 1 := by omega
      have hll := thL_len (madeAt ss) k
      go_wp2_with (first | (go_at_call 115; refine (HALL.out _).mono ?_; rintro e w5 ⟨rfl, hb⟩; have HKb5 := Aside0.mk (blk_below HKb.out hb); have HKa5 := Aside0.mk (blk_below HKa.out hb); have HO5 := Aside0.mk (OwnI.below HO.out hb); have HB5 := Aside0.mk (HB.out.trans (hb.mono HB.out.size)); clear hb HKb HKa HO HB))
      go_loopw [7] (fun s wr => ∃ j : Nat, s = .int .i64 j ∧ j ≤ ss.length ∧ Aside0 (∀ t, t < j → ∀ z : Nat, ss.getD t 0 = z → k &&& z ≠ k) ∧ wr = w5) (fun s _ => ss.length - (intOf s).toNat)
      case atStart => exact ⟨0, rfl, Nat.zero_le _, ⟨fun t h => absurd h (Nat.not_lt_zero _)⟩, rfl⟩
      case round =>
        obtain ⟨j, rfl, hj, HJ, rfl⟩ := hrel
        obtain ⟨w6, hw6⟩ : ∃ w6, w6 = wr := ⟨_, rfl⟩
        subst hw6
        by_cases hlt2 : j < ss.length
        · obtain ⟨ad, y, rfl, hcell, HY⟩ := ReadI.get (Kd.C_below HR.out HB5.out) hlt2
          obtain ⟨z, rfl, hz⟩ := HSS.out y (mem_at hlt2 HY.out)
          have hand := and_i64 k z (by omega) (by omega)
          cases hh : (((k &&& z : Nat) : Int) == (k : Int)) with
          | true =>
            have HH := Aside0.mk (thL_hit hk1 (made_hit hlt2 HY.out (by have := beq_iff_eq.1 hh; omega)))
            have c51 := blk_cell HKb5.out 1
            go_wp2_with (first | (at_builtin; refine app_own (w0 := w6) (w.heap.size + 1) rfl (.tmp 32) (.tmp 34) rfl _ (thL (madeAt ss) k) k rfl rfl HO5.out (Below.refl _ _) (by have := blk_lt HKb5.out; omega) ?hl ?_; (case hl => omega); intro v1 w7 ho hb2 hg hat; have hne : some (w.heap.size + 1 + 1) ≠ (Value.slice Av (thL (madeAt ss) k).length cv).ownBlock := (fun e => HNE.out _ e.symm rfl); have hne2 : some w.heap.size ≠ (Value.slice Av (thL (madeAt ss) k).length cv).ownBlock := (fun e => by have := HO5.out.base _ e.symm; omega); have HKb6 := Aside0.mk ((hg.block _ (blk_lt HKb5.out) hne).trans HKb5.out); have HKa6 := Aside0.mk ((hg.block _ (blk_lt HKa5.out) hne2).trans HKa5.out); have HO6 := Aside0.mk ho; have HB6 := Aside0.mk (HB5.out.trans (hb2.mono (by omega))); have HNE6 : Aside0 (∀ i, v1.ownBlock = some i → i ≠ w.heap.size + 1 + 1) := ⟨(fun i hi => by rcases hat with hat | ⟨b, hb, hlb⟩; (rw [hat] at hi; exact HNE.out i hi); (rw [hb] at hi; have := blk_lt HKb5.out; cases hi; omega))⟩; have c61 := blk_cell HKb6.out 1; have f61 := blk_frozen HKb6.out 1; obtain ⟨A6, d6, rfl, -⟩ := ho.read; clear ho hb2 hg hat hne hne2))
            go_roundw
            case rel =>
              have h6 := HO6.out
              have h7 := HNE6.out
              rw [List.length_append, List.length_singleton] at h6 h7
              refine ⟨k + 1, by go_num, by omega, by omega, ⟨_, ⟨blk_put HKb6.out 1 _ rfl⟩, ⟨?_⟩, ⟨h7⟩⟩, ⟨blk_far HKa6.out (by simp <;> omega) _⟩, ⟨HB6.out.setCell (by simp; omega) _⟩⟩
              rw [HH.out]
              exact h6.grown (set_grown' _ (w.heap.size + 1 + 1) _ _) (fun i hi e => by have := h7 i hi; cases e; omega)
            case measure => simp [intOf]; omega
          | false =>
            have hh' : k &&& z ≠ k := fun e => by rw [e] at hh; simp at hh
            go_wp2
            go_roundw
            case rel =>
              refine ⟨j + 1, by go_num, by omega, ⟨fun t ht z' hz' => ?_⟩, trivial⟩
              rcases Nat.lt_succ_iff_lt_or_eq.1 ht with h2 | rfl
              · exact HJ.out t h2 z' hz'
              · have e := HY.out.symm.trans hz'
                have : z = z' := by omega
                rw [← this]; exact hh'
            case measure => simp [intOf]; omega
        · have HH := Aside0.mk (thL_miss (made_miss (k := k) (fun t ht => HJ.out t (by omega)) HSS.out))
          go_wp2
          go_roundw
          case rel => exact ⟨k + 1, by go_num, by omega, by omega, ⟨_, HKb5, ⟨by rw [HH.out]; exact HO5.out⟩, HNE⟩, HKa5, HB5⟩
          case measure => simp [intOf]; omega
    · have e : k = N := by omega
      have HE := Aside0.mk e
      have hle : ¬ (k : Int) ≤ (N : Int) - 1 := by omega
      clear e
      go_wp2_with (first | (go_at_call 115; refine (HALL.out _).mono ?_; rintro e w5 ⟨rfl, hb⟩; have HKb5 := Aside0.mk (blk_below HKb.out hb); have HKa5 := Aside0.mk (blk_below HKa.out hb); have HO5 := Aside0.mk (OwnI.below HO.out hb); have HB5 := Aside0.mk (HB.out.trans (hb.mono HB.out.size)); have c10 : w5.cell? ⟨w.heap.size + 1 + 1, 0, none⟩ = some (.int .i64 n) := blk_cell HKb5.out 0; have c11 : w5.cell? ⟨w.heap.size + 1 + 1, 1, none⟩ = some (.slice Av (thL (madeAt ss) k).length cv) := blk_cell HKb5.out 1; have c00 : w5.cell? ⟨w.heap.size, 0, none⟩ = some (.int .i64 0) := blk_cell HKa5.out 0; have c01 : w5.cell? ⟨w.heap.size, 1, none⟩ = some (.slice none 0 0) := blk_cell HKa5.out 1; have f00 : w5.frozen? ⟨w.heap.size, 0, none⟩ = false := blk_frozen HKa5.out 0; have f01 : w5.frozen? ⟨w.heap.size, 1, none⟩ = false := blk_frozen HKa5.out 1; clear hb HKb HKa HO HB))
      refine bodyPost_ret (results_cell_row rfl _ _ w.heap.size 28 #[.int .i64 n, .slice Av (thL (madeAt ss) k).length cv] (0, 0) _ rfl (by refine blk_put (cs := #[.int .i64 n, .slice none 0 0]) ?_ 1 _ rfl; refine blk_put (cs := #[.int .i64 0, .slice none 0 0]) ?_ 0 _ rfl; exact HKa5.out) Try.underlying28 rfl (by kernel_rfl)) rfl ?_
      refine ⟨_, rfl, ?_, (HB5.out.setCell (by simp) _).setCell (by simp) _⟩
      have ho := HO5.out
      have hbs := ho.base
      have ho := ho.lower (b' := w.heap.size) (by omega)
      rw [← HE.out]
      exact (ho.grown (set_grown' _ w.heap.size _ _) (fun j hj e => by have := hbs _ hj; cases e; omega)).grown (set_grown' _ w.heap.size _ _) (fun j hj e => by have := hbs _ hj; cases e; omega)
end Go.Proofs.Ytllmbbaffhpheaa.H
