/- CountSimplicial of the program. -/
import Derived.Test.YteeanddkkmelnaaDig
import Derived.Test.YteeanddkkmelnaaIsSimp
namespace Go.Proofs.Yteeanddkkmelnaa.H
open Go.RowKit Go.Proofs.YteeanddkkmelnaaW.PrintWords Go.Proofs.YteeanddkkmelnaaW.PrintLast Go.Proofs.YteeanddkkmelnaaW.PrintMore
set_option linter.unusedVariables false
set_option linter.unusedSimpArgs false

theorem countRange (w : World) (bk bl : Nat) (a b : Int) (h0 : w.cell? ⟨bk, 0, none⟩ = some (.int .i64 a)) (h2 : w.cell? ⟨bl, 0, none⟩ = some (.int .i64 b)) :
    ThunkB w (.func (.func 39) #[] #[.pointer (some ⟨bk, 0, none⟩), .pointer (some ⟨bl, 0, none⟩)]) (decide (a ≤ 5) && decide (b ≤ 4)) := by
  refine ⟨_, _, _, rfl, Enters.mk' Try.func39 rfl rfl, fun w1 hb => ?_⟩
  have c0 := pw_cell_below hb h0
  have c2 := pw_cell_below hb h2
  clear hb h0 h2
  show Calls _ _ #[_, _] _ _
  by_cases h : a ≤ 5
  · have hA : Aside0 (decide (a ≤ 5) = true) := ⟨decide_eq_true h⟩
    go_enter Try.func39, Try.ntmps39
    go_wp2
    go_ret
    exact ⟨by rw [hA.out]; rfl, Below.refl _ _⟩
  · have hA : Aside0 (decide (a ≤ 5) = false) := ⟨decide_eq_false h⟩
    go_enter Try.func39, Try.ntmps39
    go_wp2
    go_ret
    exact ⟨by rw [hA.out]; rfl, Below.refl _ _⟩

theorem add_mk (g i : Nat) : (⟨g, 0, none⟩ : Addr).add i = ⟨g, i, none⟩ := by
  unfold Addr.add
  split
  · next h => subst h; rfl
  · simp
theorem OwnI.put {b g n cap : Nat} {W : World} {xs : List Int} (HO : OwnI b W (.slice (some ⟨g, 0, none⟩) n cap) xs) (i : Nat) (x : Int) : OwnI b (W.setCell ⟨g, i, none⟩ (.int .i64 x)) (.slice (some ⟨g, 0, none⟩) n cap) (xs.set i x) := by
  have hp := Kd.R_putg HO (i : Int) x
  simp only [Int.toNat_natCast] at hp
  exact hp.1
theorem OwnI.drewN {b : Nat} {W : World} {v : Value} {xs : List Int} (HO : OwnI b W v xs) (q : Nat) : OwnI b (W.drewN q) v xs := HO.below (below_drewN (Below.refl _ _) q)
theorem zero_set {l : List Int} {n i : Nat} (hl : l.length = n) (h : i < n) : (List.replicate i (0 : Int) ++ l.drop i).set i 0 = List.replicate (i + 1) 0 ++ l.drop (i + 1) := by
  rw [List.set_append_right _ _ (by simp), List.length_replicate, Nat.sub_self, List.drop_eq_getElem_cons (by omega), List.set_cons_zero, List.replicate_succ']
  simp
theorem codeMap_none (a b : Int) (xs ys : List Int) (r : Bool) : codeMap a b xs ys [] r = if cxOk a xs && cxOk b ys then (if r then 0 else 2) else 1 := by
  unfold codeMap; simp

set_option maxHeartbeats 4000000 in
theorem implCountSimplicial (a : Int) (ku : Value) (xs : List Int) (b : Int) (lu : Value) (ys : List Int) (w : World) (hk : ReadI w ku xs) (hl : ReadI w lu ys) :
    Calls Try.prog 24 #[cx a ku, cx b lu] w fun e w' => e = .returned (.tuple #[.int .i64 (ansCountSimplicial a xs b ys).1, .int .i64 (ansCountSimplicial a xs b ys).2]) ∧ Below w.heap.size w w' := by
  obtain ⟨w1, hw1⟩ : ∃ w1, w1 = (w.alloc (.cells #[.int .i64 a, ku] 35)).alloc (.cells #[.int .i64 b, lu] 35) := ⟨_, rfl⟩
  have hB : Below w.heap.size w w1 := by rw [hw1]; exact ((Below.refl _ w).alloc (Nat.le_refl _) _).alloc (by simp) _
  have hs1 : w1.heap.size = w.heap.size + 1 + 1 := by rw [hw1]; simp
  have c0 : w1.cell? ⟨w.heap.size, 0, none⟩ = some (.int .i64 a) := by rw [hw1]; simp
  have c1 : w1.cell? ⟨w.heap.size, 1, none⟩ = some ku := by rw [hw1]; simp
  have c2 : w1.cell? ⟨w.heap.size + 1, 0, none⟩ = some (.int .i64 b) := by rw [hw1]; simp
  have c3 : w1.cell? ⟨w.heap.size + 1, 1, none⟩ = some lu := by rw [hw1]; simp
  have HK := Aside0.mk (hk.below hB)
  have HL := Aside0.mk (hl.below hB)
  have HB := Aside0.mk hB
  have HS1 := Aside0.mk hs1
  obtain ⟨A1, d1, rfl, -⟩ := id hk
  obtain ⟨A2, d2, rfl, -⟩ := id hl
  clear hk hl hB hs1
  have HM := Aside0.mk (mapCode a b _ _ xs ys _ _ (decide (a ≤ 5) && decide (b ≤ 4)) [] w1 HK.out HL.out (fun _ _ => countRange w1 _ _ a b c0 c2) ⟨_, _, _, rfl⟩ (ReadS.nil w1))
  cases h1 : (cxOk a xs && cxOk b ys) with
  | false =>
    have HA : Aside0 (ansCountSimplicial a xs b ys = (0, 1)) := ⟨by unfold ansCountSimplicial; rw [h1]; rfl⟩
    have hcd : codeMap a b xs ys [] (decide (a ≤ 5) && decide (b ≤ 4)) = 1 := by rw [codeMap_none, h1]; rfl
    go_enter Try.func24, Try.ntmps24
    go_wp2_with (first | (rw [← hw1]; clear hw1; go_at_call 34; refine HM.out.mono ?_; rintro e w2 ⟨rfl, hb⟩; rw [hcd]))
    go_ret2
    exact ⟨by rw [HA.out]; rfl, by have := HB.out; (repeat (first | (with_reducible exact Below.refl _ _) | (with_reducible assumption) | (with_reducible refine below_step ?_ (by assumption)) | (with_reducible apply below_alloc) | (with_reducible apply below_drewN)))⟩
  | true =>
    cases h2 : (decide (a ≤ 5) && decide (b ≤ 4)) with
    | false =>
      have HA : Aside0 (ansCountSimplicial a xs b ys = (0, 2)) := ⟨by unfold ansCountSimplicial; rw [h1, h2]; rfl⟩
      have hcd : codeMap a b xs ys [] (decide (a ≤ 5) && decide (b ≤ 4)) = 2 := by rw [codeMap_none, h1, h2]; rfl
      clear h1 h2
      go_enter Try.func24, Try.ntmps24
      go_wp2_with (first | (rw [← hw1]; clear hw1; go_at_call 34; refine HM.out.mono ?_; rintro e w2 ⟨rfl, hb⟩; rw [hcd]))
      go_ret2
      exact ⟨by rw [HA.out]; rfl, by have := HB.out; (repeat (first | (with_reducible exact Below.refl _ _) | (with_reducible assumption) | (with_reducible refine below_step ?_ (by assumption)) | (with_reducible apply below_alloc) | (with_reducible apply below_drewN)))⟩
    | true =>
      have hx := h1
      rw [Bool.and_eq_true] at hx
      obtain ⟨n, rfl, hcn, -⟩ := cxOk_cx hx.1
      obtain ⟨m, rfl, hcm, -⟩ := cxOk_cx hx.2
      have h2' := h2
      rw [Bool.and_eq_true, decide_eq_true_eq, decide_eq_true_eq] at h2'
      have hn1 : 1 ≤ n := hcn.lo
      have hn5 : n ≤ 5 := by omega
      have hm1 : 1 ≤ m := hcm.lo
      have hm4 : m ≤ 4 := by omega
      obtain ⟨M, hM⟩ : ∃ M, M = m ^ n := ⟨_, rfl⟩
      have hMb : M ≤ 1024 := by rw [hM]; exact pow_le_1024 m (by omega) n (by omega)
      have hM1 : 1 ≤ M := by rw [hM]; exact Nat.pow_pos hm1
      have HA : Aside0 (ansCountSimplicial n xs m ys = (((cntTo xs ys n m M : Nat) : Int), 0)) := ⟨by unfold ansCountSimplicial; rw [h1, h2, Int.toNat_natCast, Int.toNat_natCast, ← hM]; rfl⟩
      have hcd : codeMap n m xs ys [] (decide ((n : Int) ≤ 5) && decide ((m : Int) ≤ 4)) = 0 := by rw [codeMap_none, h1, h2]; rfl
      have HN := Aside0.mk hcn
      have HM2 := Aside0.mk hcm
      have HMM := Aside0.mk hM
      clear hx hcn hcm h1 h2 h2' hM
      go_enter Try.func24, Try.ntmps24
      go_wp2_with (first | (rw [← hw1]; clear hw1; go_at_call 34; refine HM.out.mono ?_; rintro e w2 ⟨rfl, hb⟩; rw [hcd]; have c0 := pw_cell_below hb c0; have c1 := pw_cell_below hb c1; have c2 := pw_cell_below hb c2; have c3 := pw_cell_below hb c3; have HB2 := Aside0.mk hb; clear hb) | ((with_reducible refine gate_dst (N := 19) rfl ?_); refine make_own (w0 := w2) w2.heap.size rfl (N := 19) rfl _ _ rfl n rfl rfl (by omega) (Below.refl _ _) (Nat.le_refl _) ?_; intro v1 w3 ho hb hg hn; have HO := Aside0.mk ho; have HB3 := Aside0.mk hb; clear ho hb hg hn))
      obtain ⟨g, cap, rfl, -⟩ := Kd.R_form HO.out (by simp; omega)
      rw [List.length_replicate] at HO ⊢
      have HBS := Aside0.mk (HO.out.base g rfl)
      go_loopg [8] M (fun k s8 wr => ∃ c, c + k = M ∧ 1 ≤ k ∧ s8 = .int .i64 ((cntTo xs ys n m c : Nat) : Int) ∧ Aside0 (OwnI w2.heap.size wr (.slice (some ⟨g, 0, none⟩) n cap) (dg m n c)) ∧ Aside0 (Below w2.heap.size w2 wr))
      case atStart => exact ⟨0, by omega, hM1, rfl, ⟨by rw [dg_zero]; exact HO.out⟩, HB3⟩
      case round =>
        obtain ⟨c, hck, hk1, rfl, HOc, HBc⟩ := hrel
        have c0r := pw_cell_below HBc.out c0
        have c1r := pw_cell_below HBc.out c1
        have c2r := pw_cell_below HBc.out c2
        have c3r := pw_cell_below HBc.out c3
        have hcb := cntTo_le xs ys n m c
        have HC1 := Aside0.mk (cntTo_succ xs ys n m c)
        obtain ⟨q, hq⟩ : ∃ q, q = cntTo xs ys n m c := ⟨_, rfl⟩
        rw [← hq] at hcb ⊢
        have HQ := Aside0.mk hq
        clear hq
        cases hs : simpOk xs ys (dg m n c) with
        | true =>
          go_wp2_with (first | (go_at_call 38; refine (isSimplicial n m _ _ _ xs ys (dg m n c) _ (HK.out.below (HB2.out.trans (HBc.out.mono HB2.out.size))) (HL.out.below (HB2.out.trans (HBc.out.mono HB2.out.size))) HOc.out.read HN.out HM2.out (dg_mp hm1 n c)).mono ?_; rintro e w5 ⟨rfl, hb⟩; rw [hs]; have HO5 := Aside0.mk (HOc.out.below hb); have HB5 := Aside0.mk (HBc.out.trans (hb.mono HBc.out.size)); clear hb))
          go_loopw [9] (fun v wr2 => ∃ i : Nat, v = .int .i64 i ∧ i ≤ n ∧ Aside0 (∀ j, j < i → (dg m n c).getD j 0 = (m : Int) - 1) ∧ Aside0 (OwnI w2.heap.size wr2 (.slice (some ⟨g, 0, none⟩) n cap) (List.replicate i 0 ++ (dg m n c).drop i)) ∧ Aside0 (Below w2.heap.size w2 wr2)) (fun v _ => n - (intOf v).toNat)
          case atStart => exact ⟨0, rfl, Nat.zero_le _, ⟨fun j hj => absurd hj (Nat.not_lt_zero _)⟩, by simpa using HO5, HB5⟩
          case round =>
            obtain ⟨i, rfl, hi, HJ, HOi, HBi⟩ := hrel
            have c2 := pw_cell_below HBi.out c2
            by_cases hlt : i < n
            · have el : (List.replicate i (0 : Int) ++ (dg m n c).drop i).length = n := by simp [dg_len]; omega
              obtain ⟨A9, d9, e9, -, hr9⟩ := HOi.out.read
              rw [el] at e9
              cases e9
              obtain ⟨ad, y, e8, hcell, HY⟩ := ReadI.get hr9 (i := i) (by omega)
              cases e8
              obtain ⟨-, hf2⟩ := OwnI.slot HOi.out (i := i) hlt
              have hcell : wr.cell? ⟨g, i, none⟩ = some (.int .i64 y) := by rw [add_mk] at hcell; exact hcell
              have hyd : (dg m n c).getD i 0 = y := by
                rw [← HY.out]
                simp [List.getD_eq_getElem?_getD, List.getElem?_append_right]
              have HYD := Aside0.mk hyd
              clear hyd hr9 el
              have hd : decide (i < n) = true := decide_eq_true hlt
              have hj1 : (0 : Int) ≤ (i : Int) := by omega
              have hj2 : (i : Int) < (n : Int) := by omega
              have hybd := dg_bd hm1 n c _ (mem_at (i := i) (by rw [dg_len]; omega) HYD.out)
              cases hyb : (y == (m : Int) - 1) with
              | true =>
                have HYB := Aside0.mk hyb
                go_wp2
                go_quiet (fail)
                go_wp2
                go_roundw
                case rel =>
                  refine ⟨i + 1, by go_num, by omega, ⟨fun j hj => ?_⟩, ⟨?_⟩, ⟨(below_drewN HBi.out _).setCell HBS.out _⟩⟩
                  · rcases Nat.lt_succ_iff_lt_or_eq.1 hj with h | rfl
                    · exact HJ.out j h
                    · rw [HYD.out]; exact eq_of_beq HYB.out
                  · rw [← zero_set (dg_len m n c) hlt]
                    exact (HOi.out.drewN _).put i 0
                case measure => simp [intOf]; omega
              | false =>
                have HYB := Aside0.mk hyb
                go_wp2
                go_quiet (fail)
                go_wp2
                have hnx := next_dg hm1 n c i hlt HJ.out (by rw [HYD.out]; intro e; have := HYB.out; rw [e] at this; simp at this)
                rw [HYD.out] at hnx
                have hlt2 := hnx.2 (by have := HMM.out; omega)
                go_roundg (gk - 1)
                case measure => omega
                case rel =>
                  refine ⟨c + 1, by omega, by have := HMM.out; omega, ?_, ⟨?_⟩, ⟨(below_drewN HBi.out _).setCell HBS.out _⟩⟩
                  · rw [HC1.out, hs, if_pos rfl, ← HQ.out]; go_num
                  · rw [← hnx.1]
                    exact (HOi.out.drewN _).put i _
            · have e : i = n := by omega
              have HE := Aside0.mk e
              have hd : decide (i < n) = false := decide_eq_false hlt
              have hqm : Aside0 (c + 1 = M) := ⟨by rw [HMM.out]; exact last_dg hm1 n c (fun j hj => HJ.out j (by omega)) (by have := HMM.out; omega)⟩
              go_wp2
              go_quiet (fail)
              subst e
              go_wp2
              go_ret2
              refine ⟨?_, HB.out.trans ((HB2.out.trans ((below_drewN HBi.out _).mono HB2.out.size)).mono HB.out.size)⟩
              rw [HA.out, ← hqm.out, HC1.out, hs, if_pos rfl, ← HQ.out]; rfl
        | false =>
          go_wp2_with (first | (go_at_call 38; refine (isSimplicial n m _ _ _ xs ys (dg m n c) _ (HK.out.below (HB2.out.trans (HBc.out.mono HB2.out.size))) (HL.out.below (HB2.out.trans (HBc.out.mono HB2.out.size))) HOc.out.read HN.out HM2.out (dg_mp hm1 n c)).mono ?_; rintro e w5 ⟨rfl, hb⟩; rw [hs]; have HO5 := Aside0.mk (HOc.out.below hb); have HB5 := Aside0.mk (HBc.out.trans (hb.mono HBc.out.size)); clear hb))
          go_loopw [9] (fun v wr2 => ∃ i : Nat, v = .int .i64 i ∧ i ≤ n ∧ Aside0 (∀ j, j < i → (dg m n c).getD j 0 = (m : Int) - 1) ∧ Aside0 (OwnI w2.heap.size wr2 (.slice (some ⟨g, 0, none⟩) n cap) (List.replicate i 0 ++ (dg m n c).drop i)) ∧ Aside0 (Below w2.heap.size w2 wr2)) (fun v _ => n - (intOf v).toNat)
          case atStart => exact ⟨0, rfl, Nat.zero_le _, ⟨fun j hj => absurd hj (Nat.not_lt_zero _)⟩, by simpa using HO5, HB5⟩
          case round =>
            obtain ⟨i, rfl, hi, HJ, HOi, HBi⟩ := hrel
            have c2 := pw_cell_below HBi.out c2
            by_cases hlt : i < n
            · have el : (List.replicate i (0 : Int) ++ (dg m n c).drop i).length = n := by simp [dg_len]; omega
              obtain ⟨A9, d9, e9, -, hr9⟩ := HOi.out.read
              rw [el] at e9
              cases e9
              obtain ⟨ad, y, e8, hcell, HY⟩ := ReadI.get hr9 (i := i) (by omega)
              cases e8
              obtain ⟨-, hf2⟩ := OwnI.slot HOi.out (i := i) hlt
              have hcell : wr.cell? ⟨g, i, none⟩ = some (.int .i64 y) := by rw [add_mk] at hcell; exact hcell
              have hyd : (dg m n c).getD i 0 = y := by
                rw [← HY.out]
                simp [List.getD_eq_getElem?_getD, List.getElem?_append_right]
              have HYD := Aside0.mk hyd
              clear hyd hr9 el
              have hd : decide (i < n) = true := decide_eq_true hlt
              have hj1 : (0 : Int) ≤ (i : Int) := by omega
              have hj2 : (i : Int) < (n : Int) := by omega
              have hybd := dg_bd hm1 n c _ (mem_at (i := i) (by rw [dg_len]; omega) HYD.out)
              cases hyb : (y == (m : Int) - 1) with
              | true =>
                have HYB := Aside0.mk hyb
                go_wp2
                go_quiet (fail)
                go_wp2
                go_roundw
                case rel =>
                  refine ⟨i + 1, by go_num, by omega, ⟨fun j hj => ?_⟩, ⟨?_⟩, ⟨(below_drewN HBi.out _).setCell HBS.out _⟩⟩
                  · rcases Nat.lt_succ_iff_lt_or_eq.1 hj with h | rfl
                    · exact HJ.out j h
                    · rw [HYD.out]; exact eq_of_beq HYB.out
                  · rw [← zero_set (dg_len m n c) hlt]
                    exact (HOi.out.drewN _).put i 0
                case measure => simp [intOf]; omega
              | false =>
                have HYB := Aside0.mk hyb
                go_wp2
                go_quiet (fail)
                go_wp2
                have hnx := next_dg hm1 n c i hlt HJ.out (by rw [HYD.out]; intro e; have := HYB.out; rw [e] at this; simp at this)
                rw [HYD.out] at hnx
                have hlt2 := hnx.2 (by have := HMM.out; omega)
                go_roundg (gk - 1)
                case measure => omega
                case rel =>
                  refine ⟨c + 1, by omega, by have := HMM.out; omega, ?_, ⟨?_⟩, ⟨(below_drewN HBi.out _).setCell HBS.out _⟩⟩
                  · rw [HC1.out, hs, if_neg (by decide), ← HQ.out]
                  · rw [← hnx.1]
                    exact (HOi.out.drewN _).put i _
            · have e : i = n := by omega
              have HE := Aside0.mk e
              have hd : decide (i < n) = false := decide_eq_false hlt
              have hqm : Aside0 (c + 1 = M) := ⟨by rw [HMM.out]; exact last_dg hm1 n c (fun j hj => HJ.out j (by omega)) (by have := HMM.out; omega)⟩
              go_wp2
              go_quiet (fail)
              subst e
              go_wp2
              go_ret2
              refine ⟨?_, HB.out.trans ((HB2.out.trans ((below_drewN HBi.out _).mono HB2.out.size)).mono HB.out.size)⟩
              rw [HA.out, ← hqm.out, HC1.out, hs, if_neg (by decide), ← HQ.out]; rfl
end Go.Proofs.Yteeanddkkmelnaa.H
