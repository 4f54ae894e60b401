/- Chains of the reference: sums, boundaries. -/
import Derived.Test.YtcbkchnfjeegmaaChC
namespace Go.Proofs.Ytcbkchnfjeegmaa.H
open Go.RowKit Go.Proofs.YtcbkchnfjeegmaaW.PrintWords Go.Proofs.YtcbkchnfjeegmaaW.PrintLast Go.Proofs.YtcbkchnfjeegmaaW.PrintMore
set_option linter.unusedVariables false
set_option linter.unusedSimpArgs false

theorem symd_l {x : Int} (a : List Int) : symd (x :: a) [] = x :: symd a [] := by rw [symd_nil, symd_nil]
theorem symd_r (b : List Int) : symd [] b = b := by unfold symd; rfl
theorem symd_lt {x y : Int} (a b : List Int) (h : x < y) : symd (x :: a) (y :: b) = x :: symd a (y :: b) := by rw [symd, if_pos h]
theorem symd_gt {x y : Int} (a b : List Int) (h : ¬ x < y) (h2 : y < x) : symd (x :: a) (y :: b) = y :: symd (x :: a) b := by rw [symd, if_neg h, if_pos h2]
theorem symd_eq {x y : Int} (a b : List Int) (h : ¬ x < y) (h2 : ¬ y < x) : symd (x :: a) (y :: b) = symd a b := by rw [symd, if_neg h, if_neg h2]
theorem drop_at {l : List Int} {i : Nat} {x : Int} (h : i < l.length) (hx : l.getD i 0 = x) : l.drop i = x :: l.drop (i + 1) := by
  rw [List.drop_eq_getElem_cons h]
  rw [List.getD_eq_getElem?_getD, List.getElem?_eq_getElem h, Option.getD_some] at hx
  rw [hx]

set_option maxRecDepth 100000 in
set_option maxHeartbeats 4000000 in
theorem specSum (u : Value) (a : List Int) (v : Value) (b : List Int) (w : World) (hu : ReadI w u a) (hv : ReadI w v b) (ha : a.length ≤ 1000000) (hb : b.length ≤ 1000000) :
    Calls Try.prog 102 #[u, v] w fun e w' => ∃ r, e = .returned r ∧ OwnI w.heap.size w' r (symd a b) ∧ Below w.heap.size w w' := by
  obtain ⟨A1, d1, rfl, hcc, hr⟩ := hu
  obtain ⟨A2, d2, rfl, hcv, hrv⟩ := hv
  have HR := Aside0.mk hr
  have HRV := Aside0.mk hrv
  clear hr hrv hcc hcv
  go_enter Try.func102, Try.ntmps102
  go_wp2
  go_loopw [5, 6, 7] (fun s5 s6 s7 wr => ∃ i k : Nat, s6 = .int .i64 i ∧ s7 = .int .i64 k ∧ i ≤ a.length ∧ k ≤ b.length ∧ (∃ o, o.length ≤ i + k ∧ Aside0 (o ++ symd (a.drop i) (b.drop k) = symd a b) ∧ Aside0 (OwnI w.heap.size wr s5 o)) ∧ Aside0 (Below w.heap.size w wr)) (fun _ s6 s7 _ => a.length + b.length - ((intOf s6).toNat + (intOf s7).toNat))
  case atStart => exact ⟨0, 0, rfl, rfl, Nat.zero_le _, Nat.zero_le _, ⟨[], Nat.le_refl _, ⟨by rw [List.drop_zero, List.drop_zero]; rfl⟩, ⟨OwnI.empty w (Nat.le_refl _)⟩⟩, ⟨Below.alloc (Below.refl _ _) (Nat.le_refl _) _⟩⟩
  case round =>
    obtain ⟨i, k, rfl, rfl, hi, hk, ⟨o, hol, HS, HO⟩, HB⟩ := hrel
    have hol' : o.length < 17592186044416 := by omega
    by_cases hia : i < a.length
    · obtain ⟨ad, x, rfl, hcell, HX⟩ := ReadI.get (Kd.C_below HR.out HB.out) hia
      have hdi : decide ((i : Int) < (a.length : Int)) = true := decide_eq_true (by omega)
      have hei : ((i : Int) == (a.length : Int)) = false := by rw [beq_eq_false_iff_ne]; omega
      have hiI : (i : Int) < (a.length : Int) := by omega
      have x1 : ∀ x' : Ext wr, x'.1.cell? (ad.add i) = some (.int .i64 x) := fun x' => Ext.cell hcell x'
      by_cases hkb : k < b.length
      · obtain ⟨ad2, y, rfl, hcell2, HY⟩ := ReadI.get (Kd.C_below HRV.out HB.out) hkb
        have hek : ((k : Int) == (b.length : Int)) = false := by rw [beq_eq_false_iff_ne]; omega
        have hkI : (k : Int) < (b.length : Int) := by omega
        have x2 : ∀ x' : Ext wr, x'.1.cell? (ad2.add k) = some (.int .i64 y) := fun x' => Ext.cell hcell2 x'
        have HD : Aside0 (o ++ symd (x :: a.drop (i + 1)) (y :: b.drop (k + 1)) = symd a b) := ⟨by rw [← drop_at hia HX.out, ← drop_at hkb HY.out]; exact HS.out⟩
        by_cases hxy : x < y
        · have hlt : decide (x < y) = true := decide_eq_true hxy
          have HN : Aside0 ((o ++ [x]) ++ symd (a.drop (i + 1)) (b.drop k) = symd a b) := ⟨by rw [← HD.out, symd_lt _ _ hxy, ← drop_at hkb HY.out, List.append_assoc]; rfl⟩
          go_wp2
          refine wp_region_ext (by kernel_rfl) (by kernel_rfl) ?_
          repeat (go_big_quiet_step (fail))
          refine wpQuiet_nil ?_
          rintro _ ⟨xx, rfl⟩
          have HO2 := Aside0.mk (OwnI.below HO.out xx.2)
          have HB2 := Aside0.mk (HB.out.trans (xx.2.mono HB.out.size))
          have hcell := pw_cell_below xx.2 hcell
          go_wp2_with (first | (at_builtin; refine app_own (w0 := w) w.heap.size rfl (.tmp 45) (.tmp 50) rfl _ o x rfl rfl HO2.out HB2.out HB2.out.size hol' ?_; intro v1 w6 ho hb hg hat; have HO1 := Aside0.mk ho; have HB1 := Aside0.mk hb; clear ho hb hg hat))
          go_roundw
          case rel => exact ⟨i + 1, k, by go_num, rfl, by omega, hk, ⟨o ++ [x], by rw [List.length_append, List.length_singleton]; omega, HN, HO1⟩, HB1⟩
          case measure => simp [intOf]; omega
        · have hlt : decide (x < y) = false := decide_eq_false hxy
          by_cases hyx : y < x
          · have hgt : decide (y < x) = true := decide_eq_true hyx
            have HN : Aside0 ((o ++ [y]) ++ symd (a.drop i) (b.drop (k + 1)) = symd a b) := ⟨by rw [← HD.out, symd_gt _ _ hxy hyx, ← drop_at hia HX.out, List.append_assoc]; rfl⟩
            go_wp2
            refine wp_region_ext (by kernel_rfl) (by kernel_rfl) ?_
            repeat (go_big_quiet_step (fail))
            refine wpQuiet_nil ?_
            rintro _ ⟨xx, rfl⟩
            have HO2 := Aside0.mk (OwnI.below HO.out xx.2)
            have HB2 := Aside0.mk (HB.out.trans (xx.2.mono HB.out.size))
            have hcell := pw_cell_below xx.2 hcell
            have hcell2 := pw_cell_below xx.2 hcell2
            obtain ⟨wx, hwx⟩ : ∃ wx, wx = xx.1 := ⟨_, rfl⟩
            rw [← hwx] at HO2 HB2 hcell hcell2 ⊢
            clear hwx xx x1 x2
            have x1 : ∀ x' : Ext wx, x'.1.cell? (ad.add i) = some (.int .i64 x) := fun x' => Ext.cell hcell x'
            have x2 : ∀ x' : Ext wx, x'.1.cell? (ad2.add k) = some (.int .i64 y) := fun x' => Ext.cell hcell2 x'
            go_wp2
            refine wp_region_ext (by kernel_rfl) (by kernel_rfl) ?_
            repeat (go_big_quiet_step (fail))
            refine wpQuiet_nil ?_
            rintro _ ⟨xx, rfl⟩
            have HO3 := Aside0.mk (OwnI.below HO2.out xx.2)
            have HB3 := Aside0.mk (HB2.out.trans (xx.2.mono HB2.out.size))
            have hcell2 := pw_cell_below xx.2 hcell2
            go_wp2_with (first | (at_builtin; refine app_own (w0 := w) w.heap.size rfl (.tmp 70) (.tmp 75) rfl _ o y rfl rfl HO3.out HB3.out HB3.out.size hol' ?_; intro v1 w6 ho hb hg hat; have HO1 := Aside0.mk ho; have HB1 := Aside0.mk hb; clear ho hb hg hat))
            go_roundw
            case rel => exact ⟨i, k + 1, rfl, by go_num, hi, by omega, ⟨o ++ [y], by rw [List.length_append, List.length_singleton]; omega, HN, HO1⟩, HB1⟩
            case measure => simp [intOf]; omega
          · have hgt : decide (y < x) = false := decide_eq_false hyx
            have HN : Aside0 (o ++ symd (a.drop (i + 1)) (b.drop (k + 1)) = symd a b) := ⟨by rw [← HD.out, symd_eq _ _ hxy hyx]⟩
            go_wp2
            refine wp_region_ext (by kernel_rfl) (by kernel_rfl) ?_
            repeat (go_big_quiet_step (fail))
            refine wpQuiet_nil ?_
            rintro _ ⟨xx, rfl⟩
            have HO2 := Aside0.mk (OwnI.below HO.out xx.2)
            have HB2 := Aside0.mk (HB.out.trans (xx.2.mono HB.out.size))
            have hcell := pw_cell_below xx.2 hcell
            have hcell2 := pw_cell_below xx.2 hcell2
            obtain ⟨wx, hwx⟩ : ∃ wx, wx = xx.1 := ⟨_, rfl⟩
            rw [← hwx] at HO2 HB2 hcell hcell2 ⊢
            clear hwx xx x1 x2
            have x1 : ∀ x' : Ext wx, x'.1.cell? (ad.add i) = some (.int .i64 x) := fun x' => Ext.cell hcell x'
            have x2 : ∀ x' : Ext wx, x'.1.cell? (ad2.add k) = some (.int .i64 y) := fun x' => Ext.cell hcell2 x'
            go_wp2
            refine wp_region_ext (by kernel_rfl) (by kernel_rfl) ?_
            repeat (go_big_quiet_step (fail))
            refine wpQuiet_nil ?_
            rintro _ ⟨xx, rfl⟩
            have HO3 := Aside0.mk (OwnI.below HO2.out xx.2)
            have HB3 := Aside0.mk (HB2.out.trans (xx.2.mono HB2.out.size))
            go_wp2
            go_roundw
            case rel => exact ⟨i + 1, k + 1, by go_num, by go_num, by omega, by omega, ⟨o, by omega, HN, HO3⟩, HB3⟩
            case measure => simp [intOf]; omega
      · have e : k = b.length := by omega
        have hek : ((k : Int) == (b.length : Int)) = true := by rw [beq_iff_eq]; omega
        have hkI : ¬ (k : Int) < (b.length : Int) := by omega
        have HN : Aside0 ((o ++ [x]) ++ symd (a.drop (i + 1)) (b.drop k) = symd a b) := ⟨by
          rw [← HS.out, drop_at hia HX.out, show b.drop k = [] by rw [e, List.drop_length], symd_l, List.append_assoc]; rfl⟩
        go_wp2
        refine wp_region_ext (by kernel_rfl) (by kernel_rfl) ?_
        repeat (go_big_quiet_step (fail))
        refine wpQuiet_nil ?_
        rintro _ ⟨xx, rfl⟩
        have HO2 := Aside0.mk (OwnI.below HO.out xx.2)
        have HB2 := Aside0.mk (HB.out.trans (xx.2.mono HB.out.size))
        have hcell := pw_cell_below xx.2 hcell
        go_wp2_with (first | (at_builtin; refine app_own (w0 := w) w.heap.size rfl (.tmp 45) (.tmp 50) rfl _ o x rfl rfl HO2.out HB2.out HB2.out.size hol' ?_; intro v1 w6 ho hb hg hat; have HO1 := Aside0.mk ho; have HB1 := Aside0.mk hb; clear ho hb hg hat))
        go_roundw
        case rel => exact ⟨i + 1, k, by go_num, by rw [e], by omega, hk, ⟨o ++ [x], by rw [List.length_append, List.length_singleton]; omega, HN, HO1⟩, HB1⟩
        case measure => simp [intOf]; omega
    · have e : i = a.length := by omega
      have hdi : decide ((i : Int) < (a.length : Int)) = false := decide_eq_false (by omega)
      have hei : ((i : Int) == (a.length : Int)) = true := by rw [beq_iff_eq]; omega
      have hda : a.drop i = [] := by rw [e, List.drop_length]
      by_cases hkb : k < b.length
      · obtain ⟨ad2, y, rfl, hcell2, HY⟩ := ReadI.get (Kd.C_below HRV.out HB.out) hkb
        have hek : ((k : Int) == (b.length : Int)) = false := by rw [beq_eq_false_iff_ne]; omega
        have hkI : (k : Int) < (b.length : Int) := by omega
        have HN : Aside0 ((o ++ [y]) ++ symd (a.drop i) (b.drop (k + 1)) = symd a b) := ⟨by
          rw [← HS.out, drop_at hkb HY.out, hda, symd_r, symd_r, List.append_assoc]; rfl⟩
        clear e hda
        go_wp2
        refine wp_region_ext (by kernel_rfl) (by kernel_rfl) ?_
        repeat (go_big_quiet_step (fail))
        refine wpQuiet_nil ?_
        rintro _ ⟨xx, rfl⟩
        have HO2 := Aside0.mk (OwnI.below HO.out xx.2)
        have HB2 := Aside0.mk (HB.out.trans (xx.2.mono HB.out.size))
        have hcell2 := pw_cell_below xx.2 hcell2
        obtain ⟨wx, hwx⟩ : ∃ wx, wx = xx.1 := ⟨_, rfl⟩
        rw [← hwx] at HO2 HB2 hcell2 ⊢
        clear hwx xx
        go_wp2
        refine wp_region_ext (by kernel_rfl) (by kernel_rfl) ?_
        repeat (go_big_quiet_step (fail))
        refine wpQuiet_nil ?_
        rintro _ ⟨xx, rfl⟩
        have HO3 := Aside0.mk (OwnI.below HO2.out xx.2)
        have HB3 := Aside0.mk (HB2.out.trans (xx.2.mono HB2.out.size))
        have hcell2 := pw_cell_below xx.2 hcell2
        go_wp2_with (first | (at_builtin; refine app_own (w0 := w) w.heap.size rfl (.tmp 70) (.tmp 75) rfl _ o y rfl rfl HO3.out HB3.out HB3.out.size hol' ?_; intro v1 w6 ho hb hg hat; have HO1 := Aside0.mk ho; have HB1 := Aside0.mk hb; clear ho hb hg hat))
        go_roundw
        case rel => exact ⟨i, k + 1, rfl, by go_num, hi, by omega, ⟨o ++ [y], by rw [List.length_append, List.length_singleton]; omega, HN, HO1⟩, HB1⟩
        case measure => simp [intOf]; omega
      · have hkI : decide ((k : Int) < (b.length : Int)) = false := decide_eq_false (by omega)
        have hdb : b.drop k = [] := by rw [show k = b.length by omega, List.drop_length]
        have HN : Aside0 (o = symd a b) := ⟨by rw [← HS.out, hda, hdb, symd_r, List.append_nil]⟩
        clear e hda hdb
        go_wp2
        go_ret
        exact ⟨_, rfl, by rw [← HN.out]; exact HO.out, HB.out⟩
end Go.Proofs.Ytcbkchnfjeegmaa.H
