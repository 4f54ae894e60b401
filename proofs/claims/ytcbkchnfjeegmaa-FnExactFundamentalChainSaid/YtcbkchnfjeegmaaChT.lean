/- IsCycle of the reference. -/
import Derived.Test.YtcbkchnfjeegmaaChS
namespace Go.Proofs.Ytcbkchnfjeegmaa.H
open Go.RowKit Go.Proofs.YtcbkchnfjeegmaaW.PrintWords Go.Proofs.YtcbkchnfjeegmaaW.PrintLast Go.Proofs.YtcbkchnfjeegmaaW.PrintMore
set_option linter.unusedVariables false
set_option linter.unusedSimpArgs false

theorem below_len : ∀ f, f < 64 → (below f).length ≤ 6 := by decide +kernel
theorem bndL_snoc (l : List Int) (x : Int) : bndL (l ++ [x]) = symd (bndL l) (below x.toNat) := by unfold bndL; rw [List.foldl_append]; rfl
theorem listI_len (m : Nat) : (listI m).length ≤ 64 := by
  unfold listI; rw [List.length_map]; exact Nat.le_trans (List.length_filter_le _ _) (by simp)

set_option maxRecDepth 100000 in
set_option maxHeartbeats 1000000 in
theorem specBoundary (v : Value) (l : List Int) (w : World) (hv : ReadI w v l) (hb : ∀ x ∈ l, 1 ≤ x ∧ x ≤ 63) :
    Calls Try.prog 51 #[v] w fun e w' => ∃ u, e = .returned u ∧ OwnI w.heap.size w' u (bndL l) ∧ Below w.heap.size w w' := by
  have hlen := hv.len
  obtain ⟨A1, d1, rfl, hcc, hr⟩ := hv
  have HR := Aside0.mk hr
  have HB := Aside0.mk hb
  clear hr hcc hb
  go_enter Try.func51, Try.ntmps51
  go_wp2
  go_loopw [3, 4] (fun s3 s4 wr => ∃ i : Nat, s4 = .int .i64 i ∧ i ≤ l.length ∧ Aside0 (OwnI w.heap.size wr s3 (bndL (l.take i))) ∧ Aside0 (Below w.heap.size w wr)) (fun _ s4 _ => l.length - (intOf s4).toNat)
  case atStart => exact ⟨0, rfl, Nat.zero_le _, ⟨OwnI.empty w (Nat.le_refl _)⟩, ⟨Below.alloc (Below.refl _ _) (Nat.le_refl _) _⟩⟩
  case round =>
    obtain ⟨i, rfl, hi, HO, HBi⟩ := hrel
    by_cases hlt : i < l.length
    · obtain ⟨ad, y, rfl, hcell, HY⟩ := ReadI.get (Kd.C_below HR.out HBi.out) hlt
      have hy := HB.out y (mem_at hlt HY.out)
      obtain ⟨p, rfl⟩ : ∃ p : Nat, y = p := ⟨y.toNat, by omega⟩
      have HT : Aside0 (bndL (l.take (i + 1)) = symd (bndL (l.take i)) (below p)) := ⟨by rw [take_get hlt HY.out, bndL_snoc, Int.toNat_natCast]⟩
      have hl1 : Aside0 ((bndL (l.take i)).length ≤ 1000000) := ⟨by
        rw [bnd_law (fun x hx => by have := HB.out x (List.mem_of_mem_take hx); omega)]
        exact Nat.le_trans (listI_len _) (by decide)⟩
      have hl2 : Aside0 ((below p).length ≤ 1000000) := ⟨Nat.le_trans (below_len p (by omega)) (by decide)⟩
      have hp63 : p ≤ 63 := by omega
      clear hy
      obtain ⟨Av, cv, rfl, -⟩ := HO.out.read
      go_wp2_with (first | (go_at_call 103; refine (specBelow p hp63 _).mono ?_; rintro e w5 ⟨u, rfl, ho, hb5⟩; have HO5 := Aside0.mk ho; have HOA := Aside0.mk (OwnI.below HO.out hb5); obtain ⟨A5, d5, rfl, -⟩ := ho.read; have HB5 := Aside0.mk (HBi.out.trans (hb5.mono HBi.out.size)); clear ho hb5) | (go_at_call 102; refine (specSum _ (bndL (l.take i)) _ (below p) _ HOA.out.read HO5.out.read hl1.out hl2.out).mono ?_; rintro e w6 ⟨u, rfl, ho, hb6⟩; have HO6 := Aside0.mk (ho.lower HB5.out.size); obtain ⟨A6, d6, rfl, -⟩ := ho.read; have HB6 := Aside0.mk (HB5.out.trans (hb6.mono HB5.out.size)); clear ho hb6))
      go_roundw
      case rel => exact ⟨i + 1, by go_num, by omega, ⟨by rw [HT.out]; exact HO6.out⟩, HB6⟩
      case measure => simp [intOf]; omega
    · have e : i = l.length := by omega
      go_wp2
      go_ret
      exact ⟨_, rfl, by have := HO.out; rw [e, List.take_length] at this; exact this, HBi.out⟩

set_option maxRecDepth 100000 in
set_option maxHeartbeats 4000000 in
theorem specChain (a : Int) (ku : Value) (xs : List Int) (v : Value) (l : List Int) (w : World) (hk : ReadI w ku xs) (hv : ReadI w v l) :
    Calls Try.prog 50 #[cx a ku, v] w fun e w' => e = .returned (.int .i64 (codeChn a xs l)) ∧ Below w.heap.size w w' := by
  obtain ⟨w1, hw1⟩ : ∃ w1, w1 = w.alloc (.cells #[.int .i64 a, ku] 28) := ⟨_, rfl⟩
  have hB : Below w.heap.size w w1 := by rw [hw1]; exact Below.alloc (Below.refl _ _) (Nat.le_refl _) _
  have c0 : w1.cell? ⟨w.heap.size, 0, none⟩ = some (.int .i64 a) := by rw [hw1]; simp
  have c1 : w1.cell? ⟨w.heap.size, 1, none⟩ = some ku := by rw [hw1]; simp
  have HB := Aside0.mk hB
  have HK := Aside0.mk (hk.below hB)
  have l2 := hv.len
  obtain ⟨A1, d1, rfl, -⟩ := id hk
  obtain ⟨A2, d2, rfl, hcv, hrv⟩ := hv.below hB
  have HR := Aside0.mk hrv
  clear hk hv hB hcv hrv
  cases h1 : cxOk a xs with
  | false =>
    have HA : Aside0 (codeChn a xs l = 1) := ⟨by unfold codeChn; rw [h1]; rfl⟩
    go_enter Try.func50, Try.ntmps50
    go_wp2_with (first | (rw [← hw1]; clear hw1; go_at_call 56; refine (specIs _ _ xs _ HK.out).mono ?_; rintro e w2 ⟨rfl, hb⟩; rw [h1]))
    go_ret
    exact ⟨by rw [HA.out]; rfl, HB.out.trans (hb.mono HB.out.size)⟩
  | true =>
    have HA : Aside0 (codeChn a xs l = if chOk xs l then 0 else 2) := ⟨by unfold codeChn; rw [h1]; rfl⟩
    obtain ⟨n, rfl, hc, -⟩ := cxOk_cx h1
    have HN := Aside0.mk hc
    clear hc
    go_enter Try.func50, Try.ntmps50
    go_wp2_with (first | (rw [← hw1]; clear hw1; go_at_call 56; refine (specIs _ _ xs _ HK.out).mono ?_; rintro e w2 ⟨rfl, hb⟩; rw [h1]; have HB2 := Aside0.mk hb; have c0 := pw_cell_below hb c0; have c1 := pw_cell_below hb c1; clear hb))
    go_loopw [5] (fun s wr => ∃ i : Nat, s = .int .i64 i ∧ i ≤ l.length ∧ Aside0 (∀ t, t < i → chAt xs l t = true) ∧ Aside0 (Below w2.heap.size w2 wr)) (fun s _ => l.length - (intOf s).toNat)
    case atStart => exact ⟨0, rfl, Nat.zero_le _, ⟨fun t h => absurd h (Nat.not_lt_zero _)⟩, ⟨Below.refl _ _⟩⟩
    case round =>
      obtain ⟨i, rfl, hi, HI, HBi⟩ := hrel
      have HBw := Aside0.mk (HB2.out.trans (HBi.out.mono HB2.out.size))
      have c0 := pw_cell_below HBi.out c0
      have c1 := pw_cell_below HBi.out c1
      by_cases hlt : i < l.length
      · obtain ⟨ad, y, rfl, hcell, HY⟩ := ReadI.get (Kd.C_below HR.out HBw.out) hlt
        have x0 : ∀ x : Ext wr, x.1.cell? ⟨w.heap.size, 0, none⟩ = some (.int .i64 n) := fun x => Ext.cell c0 x
        have x1 : ∀ x : Ext wr, x.1.cell? ⟨w.heap.size, 1, none⟩ = some (.slice A1 xs.length d1) := fun x => Ext.cell c1 x
        have xc : ∀ x : Ext wr, x.1.cell? (ad.add i) = some (.int .i64 y) := fun x => Ext.cell hcell x
        have hiI : (i : Int) < (l.length : Int) := by omega
        obtain ⟨b, hbm⟩ : ∃ b, b = decide (y ∈ xs) := ⟨_, rfl⟩
        have HH : Aside0 (∀ x : Ext wr, Calls Try.prog 100 #[cx n (.slice A1 xs.length d1), .int .i64 y] x.1 fun e w' => e = .returned (.bool b) ∧ Below x.1.heap.size x.1 w') := ⟨fun x => by rw [hbm]; exact specHas n _ xs y x.1 ((HK.out.below HBw.out).below x.2)⟩
        cases b with
        | false =>
          have HF : Aside0 (chOk xs l = false) := ⟨chOk_false hlt (by unfold chAt; rw [HY.out, ← hbm]; rfl)⟩
          clear hbm
          go_wp2
          refine wp_region_ext (by kernel_rfl) (by kernel_rfl) ?_
          repeat (go_big_quiet_step ((first | (go_at_call 100; exact Calls.ext_of (HH.out _)))))
          refine wpQuiet_nil ?_
          rintro _ ⟨x, rfl⟩
          have hbx := x.2
          go_wp2
          go_ret
          exact ⟨by rw [HA.out, HF.out]; rfl, HB.out.trans ((HBw.out.trans (hbx.mono HBw.out.size)).mono HB.out.size)⟩
        | true =>
          have hym : y ∈ xs := of_decide_eq_true hbm.symm
          obtain ⟨z, rfl, hz1, hz2⟩ := HN.out.nat hym
          by_cases h0 : i = 0
          · have HF : Aside0 (∀ t, t < i + 1 → chAt xs l t = true) := ⟨fun t ht => by
              rcases Nat.lt_succ_iff_lt_or_eq.1 ht with h | h
              · exact HI.out t h
              · rw [h]; unfold chAt; rw [HY.out, ← hbm, decide_eq_true h0]; rw [show l.getD 0 0 = (z : Int) by rw [← HY.out, h0]]; simp⟩
            have h0' : decide (0 < i) = false := decide_eq_false (by omega)
            clear h0 hbm hym
            go_wp2
            refine wp_region_ext (by kernel_rfl) (by kernel_rfl) ?_
            repeat (go_big_quiet_step ((first | (go_at_call 100; exact Calls.ext_of (HH.out _)))))
            refine wpQuiet_nil ?_
            rintro _ ⟨x, rfl⟩
            have hbx := x.2
            go_wp2
            go_roundw
            case rel => exact ⟨i + 1, by go_num, by omega, HF, ⟨HBi.out.trans (hbx.mono HBi.out.size)⟩⟩
            case measure => simp [intOf]; omega
          · have h0lt : 0 < l.length := by omega
            obtain ⟨ad', y0, e0, hcell0, HY0⟩ := ReadI.get (Kd.C_below HR.out HBw.out) h0lt
            cases e0
            obtain ⟨z0, rfl, hz01, hz02⟩ : ∃ z0 : Nat, y0 = z0 ∧ 1 ≤ z0 ∧ z0 ≤ 63 := by
              have := chAt_mem (HI.out 0 (by omega)); rw [HY0.out] at this; exact HN.out.nat this
            rw [show ad.add 0 = ad by cases ad; rfl] at hcell0
            have x2 : ∀ x : Ext wr, x.1.cell? ad = some (.int .i64 z0) := fun x => Ext.cell hcell0 x
            obtain ⟨s1, hs1⟩ : ∃ s, s = ones z := ⟨_, rfl⟩
            obtain ⟨s0, hs0⟩ : ∃ s, s = ones z0 := ⟨_, rfl⟩
            have HS1 : Aside0 (∀ x : Ext wr, Calls Try.prog 101 #[.int .i64 z] x.1 fun e w' => e = .returned (.int .i64 (s1 : Nat)) ∧ Below x.1.heap.size x.1 w') := ⟨fun x => by rw [hs1]; exact specOnes z (by omega) x.1⟩
            have HS0 : Aside0 (∀ x : Ext wr, Calls Try.prog 101 #[.int .i64 z0] x.1 fun e w' => e = .returned (.int .i64 (s0 : Nat)) ∧ Below x.1.heap.size x.1 w') := ⟨fun x => by rw [hs0]; exact specOnes z0 (by omega) x.1⟩
            have h0' : decide (0 < i) = true := decide_eq_true (by omega)
            have h1i : (0 : Int) ≤ (i : Int) - 1 := by omega
            have h2i : (i : Int) - 1 < l.length := by omega
            have h3i : ((i : Int) - 1).toNat = i - 1 := by omega
            obtain ⟨ad'', y', e2, hcell2, HY2⟩ := ReadI.get (Kd.C_below HR.out HBw.out) (i := i - 1) (by omega)
            cases e2
            have hx3 : ∀ x : Ext wr, x.1.cell? (ad.add (i - 1)) = some (.int .i64 y') := fun x => Ext.cell hcell2 x
            have HC : Aside0 (chAt xs l i = ((((s1 : Nat) : Int) == ((s0 : Nat) : Int)) && decide (y' < (z : Int)))) := ⟨by unfold chAt; rw [HY.out, HY0.out, HY2.out, ← hbm, Bool.true_and, Int.toNat_natCast, Int.toNat_natCast, ← hs1, ← hs0, decide_eq_false h0, Bool.false_or]⟩
            clear hbm hym hs1 hs0 hcell0 hcell2 h0
            by_cases hle : (z : Int) ≤ y'
            · have hled : decide ((z : Int) ≤ y') = true := decide_eq_true hle
              have HF : Aside0 (chOk xs l = false) := ⟨chOk_false hlt (by rw [HC.out, decide_eq_false (show ¬ y' < (z : Int) by omega), Bool.and_false])⟩
              go_wp2
              refine wp_region_ext (by kernel_rfl) (by kernel_rfl) ?_
              repeat (go_big_quiet_step ((first | (go_at_call 100; exact Calls.ext_of (HH.out _)) | (go_at_call 101; with_reducible exact Calls.ext_of (HS1.out _)) | (go_at_call 101; with_reducible exact Calls.ext_of (HS0.out _)))))
              refine wpQuiet_nil ?_
              rintro _ ⟨x, rfl⟩
              have hbx := x.2
              go_wp2
              go_ret
              exact ⟨by rw [HA.out, HF.out]; rfl, HB.out.trans ((HBw.out.trans (hbx.mono HBw.out.size)).mono HB.out.size)⟩
            · have hled : decide ((z : Int) ≤ y') = false := decide_eq_false hle
              rw [decide_eq_true (show y' < (z : Int) by omega), Bool.and_true] at HC
              by_cases hss : s1 = s0
              · have hse : (((s1 : Nat) : Int) != ((s0 : Nat) : Int)) = false := by simp [hss]
                have hsb : (((s1 : Nat) : Int) == ((s0 : Nat) : Int)) = true := by simp [hss]
                rw [hsb] at HC
                have HF : Aside0 (∀ t, t < i + 1 → chAt xs l t = true) := ⟨fun t ht => by
                  rcases Nat.lt_succ_iff_lt_or_eq.1 ht with h | h
                  · exact HI.out t h
                  · rw [h]; exact HC.out⟩
                clear hss hsb
                go_wp2
                refine wp_region_ext (by kernel_rfl) (by kernel_rfl) ?_
                repeat (go_big_quiet_step ((first | (go_at_call 100; exact Calls.ext_of (HH.out _)) | (go_at_call 101; with_reducible exact Calls.ext_of (HS1.out _)) | (go_at_call 101; with_reducible exact Calls.ext_of (HS0.out _)))))
                refine wpQuiet_nil ?_
                rintro _ ⟨x, rfl⟩
                have hbx := x.2
                go_wp2
                go_roundw
                case rel => exact ⟨i + 1, by go_num, by omega, HF, ⟨HBi.out.trans (hbx.mono HBi.out.size)⟩⟩
                case measure => simp [intOf]; omega
              · have hse : (((s1 : Nat) : Int) != ((s0 : Nat) : Int)) = true := by simp; omega
                have HF : Aside0 (chOk xs l = false) := ⟨chOk_false hlt (by rw [HC.out]; simp; omega)⟩
                clear hss
                go_wp2
                refine wp_region_ext (by kernel_rfl) (by kernel_rfl) ?_
                repeat (go_big_quiet_step ((first | (go_at_call 100; exact Calls.ext_of (HH.out _)) | (go_at_call 101; with_reducible exact Calls.ext_of (HS1.out _)) | (go_at_call 101; with_reducible exact Calls.ext_of (HS0.out _)))))
                refine wpQuiet_nil ?_
                rintro _ ⟨x, rfl⟩
                have hbx := x.2
                go_wp2
                go_ret
                exact ⟨by rw [HA.out, HF.out]; rfl, HB.out.trans ((HBw.out.trans (hbx.mono HBw.out.size)).mono HB.out.size)⟩
      · have HF := Aside0.mk (chOk_true (xs := xs) (fun t ht => HI.out t (by omega)))
        go_wp2
        go_ret
        exact ⟨by rw [HA.out, HF.out]; rfl, HB.out.trans (HBw.out.mono HB.out.size)⟩
end Go.Proofs.Ytcbkchnfjeegmaa.H
