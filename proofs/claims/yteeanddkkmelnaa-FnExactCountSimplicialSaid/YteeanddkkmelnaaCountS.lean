/- CountSimplicial of the reference. -/
import Derived.Test.YteeanddkkmelnaaCountI
namespace Go.Proofs.Yteeanddkkmelnaa.H
open Go.RowKit Go.Proofs.YteeanddkkmelnaaW.PrintWords Go.Proofs.YteeanddkkmelnaaW.PrintLast Go.Proofs.YteeanddkkmelnaaW.PrintMore
set_option linter.unusedVariables false
set_option linter.unusedSimpArgs false

set_option maxHeartbeats 4000000 in
theorem specCountSimplicial (a : Int) (ku : Value) (xs : List Int) (b : Int) (lu : Value) (ys : List Int) (w : World) (hk : ReadI w ku xs) (hl : ReadI w lu ys) :
    Calls Try.prog 23 #[cx a ku, cx b lu] w fun e w' => e = .returned (.tuple #[.int .i64 (ansCountSimplicial a xs b ys).1, .int .i64 (ansCountSimplicial a xs b ys).2]) ∧ Below w.heap.size w w' := by
  obtain ⟨w1, hw1⟩ : ∃ w1, w1 = (w.alloc (.cells #[.int .i64 a, ku] 35)).alloc (.cells #[.int .i64 b, lu] 35) := ⟨_, rfl⟩
  have hB : Below w.heap.size w w1 := by rw [hw1]; exact ((Below.refl _ w).alloc (Nat.le_refl _) _).alloc (by simp) _
  have c0 : w1.cell? ⟨w.heap.size, 0, none⟩ = some (.int .i64 a) := by rw [hw1]; simp
  have c1 : w1.cell? ⟨w.heap.size, 1, none⟩ = some ku := by rw [hw1]; simp
  have c2 : w1.cell? ⟨w.heap.size + 1, 0, none⟩ = some (.int .i64 b) := by rw [hw1]; simp
  have c3 : w1.cell? ⟨w.heap.size + 1, 1, none⟩ = some lu := by rw [hw1]; simp
  have HK := Aside0.mk (hk.below hB)
  have HL := Aside0.mk (hl.below hB)
  have HB := Aside0.mk hB
  obtain ⟨A1, d1, rfl, -⟩ := id hk
  obtain ⟨A2, d2, rfl, -⟩ := id hl
  clear hk hl hB
  cases h1 : cxOk a xs with
  | false =>
    have HA : Aside0 (ansCountSimplicial a xs b ys = (0, 1)) := ⟨by unfold ansCountSimplicial; rw [h1]; rfl⟩
    go_enter Try.func23, Try.ntmps23
    go_wp2_with (first | (rw [← hw1]; clear hw1; go_at_call 32; refine (specIs _ _ xs _ HK.out).mono ?_; rintro e w2 ⟨rfl, hb⟩; rw [h1]))
    go_ret2
    exact ⟨by rw [HA.out]; rfl, by have := HB.out; (repeat (first | (with_reducible exact Below.refl _ _) | (with_reducible assumption) | (with_reducible refine below_step ?_ (by assumption)) | (with_reducible apply below_alloc) | (with_reducible apply below_drewN)))⟩
  | true =>
    obtain ⟨n, rfl, hcn, -⟩ := cxOk_cx h1
    cases h2 : cxOk b ys with
    | false =>
      have HA : Aside0 (ansCountSimplicial n xs b ys = (0, 1)) := ⟨by unfold ansCountSimplicial; rw [h1, h2]; rfl⟩
      go_enter Try.func23, Try.ntmps23
      go_wp2_with (first | (rw [← hw1]; clear hw1; go_at_call 32; refine (specIs _ _ xs _ HK.out).mono ?_; rintro e w2 ⟨rfl, hb⟩; rw [h1]; have c2 := pw_cell_below hb c2; have c3 := pw_cell_below hb c3) | (go_at_call 32; refine (specIs _ _ ys _ (HL.out.below ?hx)).mono ?_; (case hx => (repeat (first | (with_reducible exact Below.refl _ _) | (with_reducible assumption) | (with_reducible refine below_step ?_ (by assumption)) | (with_reducible apply below_alloc) | (with_reducible apply below_drewN)))); rintro e w2 ⟨rfl, hb⟩; rw [h2]))
      go_ret2
      exact ⟨by rw [HA.out]; rfl, by have := HB.out; (repeat (first | (with_reducible exact Below.refl _ _) | (with_reducible assumption) | (with_reducible refine below_step ?_ (by assumption)) | (with_reducible apply below_alloc) | (with_reducible apply below_drewN)))⟩
    | true =>
      obtain ⟨m, rfl, hcm, -⟩ := cxOk_cx h2
      by_cases h5 : n ≤ 5
      · by_cases h4 : m ≤ 4
        · have hr : (decide ((n : Int) ≤ 5) && decide ((m : Int) ≤ 4)) = true := by simp; omega
          have hn1 : 1 ≤ n := hcn.lo
          have hm1 : 1 ≤ m := hcm.lo
          obtain ⟨M, hM⟩ : ∃ M, M = m ^ n := ⟨_, rfl⟩
          have hMb : M ≤ 1024 := by rw [hM]; exact pow_le_1024 m (by omega) n (by omega)
          have HA : Aside0 (ansCountSimplicial n xs m ys = (((cntTo xs ys n m M : Nat) : Int), 0)) := ⟨by unfold ansCountSimplicial; rw [h1, h2, hr, Int.toNat_natCast, Int.toNat_natCast, ← hM]; rfl⟩
          have HN := Aside0.mk hcn
          have HM2 := Aside0.mk hcm
          have HMM := Aside0.mk hM
          clear hcn hcm hr hM
          go_enter Try.func23, Try.ntmps23
          go_wp2_with (first | (rw [← hw1]; clear hw1; go_at_call 32; refine (specIs _ _ xs _ HK.out).mono ?_; rintro e w2 ⟨rfl, hb⟩; rw [h1]; have c0 := pw_cell_below hb c0; have c1 := pw_cell_below hb c1; have c2 := pw_cell_below hb c2; have c3 := pw_cell_below hb c3; have HB2 := Aside0.mk hb; clear hb) | (go_at_call 32; refine (specIs _ _ ys _ (HL.out.below HB2.out)).mono ?_; rintro e w3 ⟨rfl, hb⟩; rw [h2]; have c0 := pw_cell_below hb c0; have c1 := pw_cell_below hb c1; have c2 := pw_cell_below hb c2; have c3 := pw_cell_below hb c3; have HB3 := Aside0.mk (HB2.out.trans (hb.mono HB2.out.size)); clear hb))
          go_loopw [6, 8] (fun s6 s8 wr => ∃ v : Nat, s8 = .int .i64 v ∧ v ≤ n ∧ s6 = .int .i64 ((m ^ v : Nat) : Int) ∧ wr = w3) (fun _ s8 _ => n - (intOf s8).toNat)
          case atStart => exact ⟨0, rfl, Nat.zero_le _, by simp, rfl⟩
          case round =>
            obtain ⟨v, rfl, hv, rfl, rfl⟩ := hrel
            obtain ⟨z, hz⟩ : ∃ z, z = m ^ v := ⟨_, rfl⟩
            have hzb : z ≤ 1024 := by rw [hz]; exact pow_le_1024 m (by omega) v (by omega)
            rw [← hz]
            have hzm : z * m ≤ 1024 * 4 := Nat.mul_le_mul hzb h4
            have hzm' : (z : Int) * m ≤ 4096 := by have : ((z * m : Nat) : Int) ≤ 4096 := by omega
                                                   rwa [Int.natCast_mul] at this
            have hzp : (0 : Int) ≤ (z : Int) * m := by rw [← Int.natCast_mul]; omega
            have HZ := Aside0.mk hz
            clear hz
            by_cases hlt : v < n
            · go_wp2
              go_roundw
              case rel => exact ⟨v + 1, by go_num, by omega, by rw [Nat.pow_succ, ← HZ.out]; go_num, trivial⟩
              case measure => simp [intOf]; omega
            · have e : v = n := by omega
              have hzM : z = M := by rw [HZ.out, HMM.out, e]
              subst hzM
              clear e
              go_wp2
              obtain ⟨wa, rfl⟩ : ∃ wa, wa = wr := ⟨_, rfl⟩
              go_loopw [7, 9] (fun s7 s9 wr2 => ∃ c : Nat, s9 = .int .i64 c ∧ c ≤ z ∧ s7 = .int .i64 ((cntTo xs ys n m c : Nat) : Int) ∧ Below wa.heap.size wa wr2) (fun _ s9 _ => z - (intOf s9).toNat)
              case atStart => exact ⟨0, rfl, Nat.zero_le _, rfl, Below.refl _ _⟩
              case round =>
                obtain ⟨c, rfl, hc, rfl, hb⟩ := hrel
                obtain ⟨w5, rfl⟩ : ∃ w5, w5 = wr := ⟨_, rfl⟩
                have c0r := pw_cell_below hb c0
                have c1r := pw_cell_below hb c1
                have c2r := pw_cell_below hb c2
                have c3r := pw_cell_below hb c3
                have HBr := Aside0.mk (HB3.out.trans (hb.mono HB3.out.size))
                have HBw := Aside0.mk hb
                clear hb
                have hcb := cntTo_le xs ys n m c
                have HC1 := Aside0.mk (cntTo_succ xs ys n m c)
                obtain ⟨q, hq⟩ : ∃ q, q = cntTo xs ys n m c := ⟨_, rfl⟩
                rw [← hq] at hcb ⊢
                have HQ := Aside0.mk hq
                clear hq
                by_cases hlc : c < z
                · go_wp2
                  go_loopw [10, 11, 12] (fun s10 s11 s12 wr2 => ∃ v : Nat, s12 = .int .i64 v ∧ v ≤ n ∧ s11 = .int .i64 ((c / m ^ v : Nat) : Int) ∧ Aside0 (OwnI w5.heap.size wr2 s10 (dg m v c)) ∧ Aside0 (Below w5.heap.size w5 wr2)) (fun _ _ s12 _ => n - (intOf s12).toNat)
                  case atStart => exact ⟨0, rfl, Nat.zero_le _, by simp, ⟨OwnI.empty _ (Nat.le_refl _)⟩, ⟨Below.alloc (Below.refl _ _) (Nat.le_refl _) _⟩⟩
                  case round =>
                    obtain ⟨v2, rfl, hv2, rfl, HO, HB5⟩ := hrel
                    have c0s := pw_cell_below HB5.out c0r
                    have c1s := pw_cell_below HB5.out c1r
                    have c2s := pw_cell_below HB5.out c2r
                    have c3s := pw_cell_below HB5.out c3r
                    have HDS := Aside0.mk (dg_snoc m v2 c)
                    obtain ⟨r, hr⟩ : ∃ r, r = c / m ^ v2 := ⟨_, rfl⟩
                    have hrb : r ≤ 1024 := by rw [hr]; exact Nat.le_trans (Nat.div_le_self _ _) (by omega)
                    have hnx : Aside0 (c / m ^ (v2 + 1) = r / m) := ⟨by rw [hr, Nat.div_div_eq_div_mul, Nat.pow_succ]⟩
                    rw [← hr]
                    rw [← hr] at HDS
                    have HR := Aside0.mk hr
                    clear hr
                    have hdq : (r : Int) / m = ((r / m : Nat) : Int) := by simp
                    have hdb : r / m ≤ 1024 := Nat.le_trans (Nat.div_le_self _ _) hrb
                    have hd0 : (0 : Int) ≤ (r : Int) / m := by rw [hdq]; exact Int.natCast_nonneg _
                    have hd1 : (r : Int) / m ≤ 1024 := by rw [hdq]; exact Int.ofNat_le.2 hdb
                    clear hdq hdb
                    by_cases hlv : v2 < n
                    · go_wp2_with (first | (at_builtin; refine app_own (w0 := w5) w5.heap.size rfl (.tmp 54) (.tmp 59) rfl _ (dg m v2 c) ((r : Int) % m) rfl rfl HO.out HB5.out HB5.out.size ?hl ?_; (case hl => rw [dg_len]; omega); intro v1 w6 ho hb hg hat; have HO1 := Aside0.mk ho; have HB1 := Aside0.mk hb; have c0t := pw_cell_below HB1.out c0r; have c2t := pw_cell_below HB1.out c2r; clear ho hb hg hat))
                      go_roundw
                      case rel => exact ⟨v2 + 1, by go_num, by omega, by rw [hnx.out]; go_num, ⟨by rw [HDS.out]; exact HO1.out⟩, HB1⟩
                      case measure => simp [intOf]; omega
                    · have e2 : v2 = n := by omega
                      obtain ⟨A6, d6, rfl, -⟩ := HO.out.read
                      have hl6 := dg_len m v2 c
                      have HO6 : Aside0 (ReadI wr (.slice A6 (dg m v2 c).length d6) (dg m n c)) := ⟨by have := HO.out.read; rw [e2] at this ⊢; exact this⟩
                      have hb5 := HB5.out
                      clear e2 hl6
                      cases hs : simpOk xs ys (dg m n c) with
                      | true =>
                        go_wp2_with (first | (go_at_call 37; refine (specSimplicial n m _ _ _ xs ys (dg m n c) _ (HK.out.below (HBr.out.trans (HB5.out.mono HBr.out.size))) (HL.out.below (HBr.out.trans (HB5.out.mono HBr.out.size))) HO6.out HN.out HM2.out (dg_mp hm1 n c)).mono ?_; rintro e w7 ⟨rfl, hb7⟩; rw [hs]))
                        go_roundw
                        case rel => exact ⟨c + 1, by go_num, by omega, by rw [HC1.out, hs, if_pos rfl, ← HQ.out]; go_num, by have := HBw.out; (repeat (first | (with_reducible exact Below.refl _ _) | (with_reducible assumption) | (with_reducible refine below_step ?_ (by assumption)) | (with_reducible apply below_alloc) | (with_reducible apply below_drewN)))⟩
                        case measure => simp [intOf]; omega
                      | false =>
                        go_wp2_with (first | (go_at_call 37; refine (specSimplicial n m _ _ _ xs ys (dg m n c) _ (HK.out.below (HBr.out.trans (HB5.out.mono HBr.out.size))) (HL.out.below (HBr.out.trans (HB5.out.mono HBr.out.size))) HO6.out HN.out HM2.out (dg_mp hm1 n c)).mono ?_; rintro e w7 ⟨rfl, hb7⟩; rw [hs]))
                        go_roundw
                        case rel => exact ⟨c + 1, by go_num, by omega, by rw [HC1.out, hs, if_neg (by decide), ← HQ.out], by have := HBw.out; (repeat (first | (with_reducible exact Below.refl _ _) | (with_reducible assumption) | (with_reducible refine below_step ?_ (by assumption)) | (with_reducible apply below_alloc) | (with_reducible apply below_drewN)))⟩
                        case measure => simp [intOf]; omega
                · have e3 : c = z := by omega
                  have HE := Aside0.mk e3
                  clear e3
                  go_wp2
                  go_ret2
                  exact ⟨by rw [HA.out, ← HE.out, ← HQ.out]; rfl, HB.out.trans (HBr.out.mono HB.out.size)⟩
        · have hr : (decide ((n : Int) ≤ 5) && decide ((m : Int) ≤ 4)) = false := by simp; omega
          have HA : Aside0 (ansCountSimplicial n xs m ys = (0, 2)) := ⟨by unfold ansCountSimplicial; rw [h1, h2, hr]; rfl⟩
          clear hcn hcm hr
          go_enter Try.func23, Try.ntmps23
          go_wp2_with (first | (rw [← hw1]; clear hw1; go_at_call 32; refine (specIs _ _ xs _ HK.out).mono ?_; rintro e w2 ⟨rfl, hb⟩; rw [h1]; have c0 := pw_cell_below hb c0; have c1 := pw_cell_below hb c1; have c2 := pw_cell_below hb c2; have c3 := pw_cell_below hb c3; have HB2 := Aside0.mk hb; clear hb) | (go_at_call 32; refine (specIs _ _ ys _ (HL.out.below HB2.out)).mono ?_; rintro e w3 ⟨rfl, hb⟩; rw [h2]; have c0 := pw_cell_below hb c0; have c1 := pw_cell_below hb c1; have c2 := pw_cell_below hb c2; have c3 := pw_cell_below hb c3; have HB3 := Aside0.mk (HB2.out.trans (hb.mono HB2.out.size)); clear hb))
          all_goals go_ret2
          all_goals exact ⟨by rw [HA.out]; rfl, HB.out.trans (HB3.out.mono HB.out.size)⟩
      · have hr : (decide ((n : Int) ≤ 5) && decide ((m : Int) ≤ 4)) = false := by simp; omega
        have HA : Aside0 (ansCountSimplicial n xs m ys = (0, 2)) := ⟨by unfold ansCountSimplicial; rw [h1, h2, hr]; rfl⟩
        clear hcn hcm hr
        go_enter Try.func23, Try.ntmps23
        go_wp2_with (first | (rw [← hw1]; clear hw1; go_at_call 32; refine (specIs _ _ xs _ HK.out).mono ?_; rintro e w2 ⟨rfl, hb⟩; rw [h1]; have c0 := pw_cell_below hb c0; have c1 := pw_cell_below hb c1; have c2 := pw_cell_below hb c2; have c3 := pw_cell_below hb c3; have HB2 := Aside0.mk hb; clear hb) | (go_at_call 32; refine (specIs _ _ ys _ (HL.out.below HB2.out)).mono ?_; rintro e w3 ⟨rfl, hb⟩; rw [h2]; have c0 := pw_cell_below hb c0; have c1 := pw_cell_below hb c1; have c2 := pw_cell_below hb c2; have c3 := pw_cell_below hb c3; have HB3 := Aside0.mk (HB2.out.trans (hb.mono HB2.out.size)); clear hb))
        all_goals go_ret2
        all_goals exact ⟨by rw [HA.out]; rfl, HB.out.trans (HB3.out.mono HB.out.size)⟩
end Go.Proofs.Yteeanddkkmelnaa.H
