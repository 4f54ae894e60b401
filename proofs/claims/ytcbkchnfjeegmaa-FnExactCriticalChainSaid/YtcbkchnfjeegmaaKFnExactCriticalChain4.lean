/- IsCycle of the program. Chains of the reference: sums, boundaries. IsCycle of the reference. Pairs of a complex. Pairs in order. -/
import Derived.Test.YtcbkchnfjeegmaaKFnExactCriticalChain1
import Derived.Test.YtcbkchnfjeegmaaKFnExactCriticalChain2
import Derived.Test.YtcbkchnfjeegmaaKFnExactCriticalChain3

namespace Go.Proofs.Ytcbkchnfjeegmaa.H
open Go.RowKit Go.Proofs.YtcbkchnfjeegmaaW.PrintWords Go.Proofs.YtcbkchnfjeegmaaW.PrintLast Go.Proofs.YtcbkchnfjeegmaaW.PrintMore
set_option linter.unusedVariables false
set_option linter.unusedSimpArgs false

theorem isChainP (n : Nat) (ku : Value) (xs : List Int) (w : World) (hk : ReadI w ku xs) (hc : Cx n xs) : PredS w (.func (.func 106) #[cx n ku] #[]) (chOk xs) (fun _ => True) :=
  ⟨_, _, _, rfl, Enters.mk' Try.func106 rfl rfl, fun w1 u f hb hu _ => isChain n ku xs u f w1 (hk.below hb) hu hc⟩

set_option maxHeartbeats 1000000 in
theorem chainCode1 (w : World) (bl bk : Nat) (lv : Value) (fs : List (List Int)) (n : Nat) (ku : Value) (xs : List Int) (hl : ReadS w lv fs) (hk : ReadI w ku xs) (hc : Cx n xs) (h1 : w.cell? ⟨bl, 0, none⟩ = some lv) (h2 : w.cell? ⟨bk, 0, none⟩ = some (.int .i64 n)) (h3 : w.cell? ⟨bk, 1, none⟩ = some ku) :
    ThunkB w (.func (.func 104) #[] #[.pointer (some ⟨bl, 0, none⟩), .pointer (some ⟨bk, 0, none⟩)]) (fs.all (chOk xs)) := by
  refine ⟨_, _, _, rfl, Enters.mk' Try.func104 rfl rfl, fun w1 hb => ?_⟩
  have c1 := pw_cell_below hb h1
  have c2 := pw_cell_below hb h2
  have c3 := pw_cell_below hb h3
  have HL := Aside0.mk (hl.below hb)
  have HP := Aside0.mk (isChainP n ku xs w1 (hk.below hb) hc)
  obtain ⟨A1, d1, rfl, -⟩ := id hk
  obtain ⟨A2, d2, rfl, -⟩ := id hl
  clear hb h1 h2 h3 hl hk hc
  show Calls _ _ #[_, _] _ _
  go_enter Try.func104, Try.ntmps104
  go_wp2_with (first | (go_at_call 105; refine (areAllS _ _ _ _ _ _ HL.out HP.out (fun _ _ => trivial)).mono ?_; rintro e w4 ⟨rfl, hb4⟩))
  go_ret
  exact ⟨rfl, hb4⟩

set_option maxRecDepth 100000 in
set_option maxHeartbeats 1000000 in
theorem chainCode (a : Int) (ku : Value) (xs : List Int) (lv : Value) (l : List Int) (w : World) (hk : ReadI w ku xs) (hl : ReadS w lv [l]) :
    Calls Try.prog 52 #[cx a ku, lv] w fun e w' => e = .returned (.int .i64 (codeChn a xs l)) ∧ Below w.heap.size w w' := by
  obtain ⟨w1, hw1⟩ : ∃ w1, w1 = (w.alloc (.cells #[.int .i64 a, ku] 28)).alloc (.cells #[lv] 89) := ⟨_, rfl⟩
  have hB : Below w.heap.size w w1 := by rw [hw1]; exact ((Below.refl _ w).alloc (Nat.le_refl _) _).alloc (by simp) _
  have c0 : w1.cell? ⟨w.heap.size, 0, none⟩ = some (.int .i64 a) := by rw [hw1]; simp
  have c1 : w1.cell? ⟨w.heap.size, 1, none⟩ = some ku := by rw [hw1]; simp
  have c2 : w1.cell? ⟨w.heap.size + 1, 0, none⟩ = some lv := by rw [hw1]; simp
  have HK := Aside0.mk (hk.below hB)
  have HT : Aside0 (cxOk a xs = true → ThunkB w1 (.func (.func 104) #[] #[.pointer (some ⟨w.heap.size + 1, 0, none⟩), .pointer (some ⟨w.heap.size, 0, none⟩)]) (chOk xs l)) := ⟨fun h => by
    obtain ⟨n, rfl, hn, -⟩ := cxOk_cx h
    have := chainCode1 w1 (w.heap.size + 1) w.heap.size lv [l] n ku xs (hl.below hB) (hk.below hB) hn c2 c0 c1
    simpa using this⟩
  have HB := Aside0.mk hB
  have HX : Aside0 (codeChn a xs l = (if cxOk a xs then (if chOk xs l then 0 else 2) else 1)) := ⟨rfl⟩
  obtain ⟨A1, d1, rfl, -⟩ := id hk
  obtain ⟨A2, d2, rfl, -⟩ := id hl
  replace hw1 : w1 = (w.alloc (.cells #[.int .i64 a, .slice A1 xs.length d1] 28)).alloc (.cells #[.slice A2 1 d2] 89) := hw1
  clear hk hl hB
  go_enter Try.func52, Try.ntmps52
  go_wp2_with (first | (rw [← hw1]; clear hw1; go_at_call 59; refine (complexCode2 a _ xs _ _ _ HK.out HT.out ⟨_, _, _, rfl⟩).mono ?_; rintro e w2 ⟨rfl, hb⟩; rw [← HX.out]))
  go_ret
  exact ⟨rfl, HB.out.trans (hb.mono HB.out.size)⟩

theorem asc_of_steps {l : List Int} (h : ∀ i, i < l.length → i = 0 ∨ l.getD (i - 1) 0 < l.getD i 0) : l.Pairwise (· < ·) := by
  have key : ∀ d i, i + d + 1 < l.length → l.getD i 0 < l.getD (i + d + 1) 0 := by
    intro d
    induction d with
    | zero =>
      intro i hi
      rcases h (i + 1) (by omega) with h1 | h1
      · omega
      · rwa [Nat.add_sub_cancel] at h1
    | succ d ih =>
      intro i hi
      have h1 := ih i (by omega)
      rcases h (i + (d + 1) + 1) hi with h2 | h2
      · omega
      · rw [show i + (d + 1) + 1 - 1 = i + d + 1 by omega] at h2
        exact Int.lt_trans h1 h2
  rw [List.pairwise_iff_getElem]
  intro i j hi hj hij
  have := key (j - i - 1) i (by omega)
  rw [show i + (j - i - 1) + 1 = j by omega, List.getD_eq_getElem?_getD, List.getD_eq_getElem?_getD, List.getElem?_eq_getElem hi, List.getElem?_eq_getElem hj] at this
  exact this
theorem chain_dom {n : Nat} {xs l : List Int} (hc : Cx n xs) (h : chOk xs l = true) : l.Pairwise (· < ·) ∧ ∀ x ∈ l, 1 ≤ x ∧ x ≤ 63 := by
  refine ⟨?_, fun x hx => ?_⟩
  · refine asc_of_steps (fun i hi => ?_)
    have := chOk_at h hi
    unfold chAt at this
    simp only [Bool.and_eq_true, Bool.or_eq_true, decide_eq_true_eq] at this
    exact this.2
  · obtain ⟨i, hi, rfl⟩ := List.getElem_of_mem hx
    have := chAt_mem (chOk_at h hi)
    rw [List.getD_eq_getElem?_getD, List.getElem?_eq_getElem hi, Option.getD_some] at this
    obtain ⟨z, e, h1, h2⟩ := hc.nat this
    omega
theorem codeChn_zero {a : Int} {xs l : List Int} (h : codeChn a xs l = 0) : ∃ n : Nat, a = n ∧ Cx n xs ∧ chOk xs l = true := by
  unfold codeChn at h
  split at h
  · next h1 =>
    obtain ⟨n, rfl, hn, -⟩ := cxOk_cx h1
    split at h
    · next h2 => exact ⟨n, rfl, hn, h2⟩
    · cases h
  · cases h
end Go.Proofs.Ytcbkchnfjeegmaa.H

namespace Go.Proofs.Ytcbkchnfjeegmaa.H
open Go.RowKit Go.Proofs.YtcbkchnfjeegmaaW.PrintWords Go.Proofs.YtcbkchnfjeegmaaW.PrintLast Go.Proofs.YtcbkchnfjeegmaaW.PrintMore
set_option linter.unusedVariables false
set_option linter.unusedSimpArgs false

theorem symd_l {x : Int} (a : List Int) : symd (x :: a) [] = x :: symd a [] := by rw [symd_nil, symd_nil]
theorem symd_r (b : List Int) : symd [] b = b := by unfold symd; rfl
theorem symd_lt {x y : Int} (a b : List Int) (h : x < y) : symd (x :: a) (y :: b) = x :: symd a (y :: b) := by rw [symd, if_pos h]
theorem symd_gt {x y : Int} (a b : List Int) (h : ¬ x < y) (h2 : y < x) : symd (x :: a) (y :: b) = y :: symd (x :: a) b := by rw [symd, if_neg h, if_pos h2]
theorem symd_eq {x y : Int} (a b : List Int) (h : ¬ x < y) (h2 : ¬ y < x) : symd (x :: a) (y :: b) = symd a b := by rw [symd, if_neg h, if_neg h2]
theorem drop_at {l : List Int} {i : Nat} {x : Int} (h : i < l.length) (hx : l.getD i 0 = x) : l.drop i = x :: l.drop (i + 1) := by
  rw [List.drop_eq_getElem_cons h]
  rw [List.getD_eq_getElem?_getD, List.getElem?_eq_getElem h, Option.getD_some] at hx
  rw [hx]

set_option maxRecDepth 100000 in
set_option maxHeartbeats 4000000 in
theorem specSum (u : Value) (a : List Int) (v : Value) (b : List Int) (w : World) (hu : ReadI w u a) (hv : ReadI w v b) (ha : a.length ≤ 1000000) (hb : b.length ≤ 1000000) :
    Calls Try.prog 102 #[u, v] w fun e w' => ∃ r, e = .returned r ∧ OwnI w.heap.size w' r (symd a b) ∧ Below w.heap.size w w' := by
  obtain ⟨A1, d1, rfl, hcc, hr⟩ := hu
  obtain ⟨A2, d2, rfl, hcv, hrv⟩ := hv
  have HR := Aside0.mk hr
  have HRV := Aside0.mk hrv
  clear hr hrv hcc hcv
  go_enter Try.func102, Try.ntmps102
  go_wp2
  go_loopw [5, 6, 7] (fun s5 s6 s7 wr => ∃ i k : Nat, s6 = .int .i64 i ∧ s7 = .int .i64 k ∧ i ≤ a.length ∧ k ≤ b.length ∧ (∃ o, o.length ≤ i + k ∧ Aside0 (o ++ symd (a.drop i) (b.drop k) = symd a b) ∧ Aside0 (OwnI w.heap.size wr s5 o)) ∧ Aside0 (Below w.heap.size w wr)) (fun _ s6 s7 _ => a.length + b.length - ((intOf s6).toNat + (intOf s7).toNat))
  case atStart => exact ⟨0, 0, rfl, rfl, Nat.zero_le _, Nat.zero_le _, ⟨[], Nat.le_refl _, ⟨by rw [List.drop_zero, List.drop_zero]; rfl⟩, ⟨OwnI.empty w (Nat.le_refl _)⟩⟩, ⟨Below.alloc (Below.refl _ _) (Nat.le_refl _) _⟩⟩
  case round =>
    obtain ⟨i, k, rfl, rfl, hi, hk, ⟨o, hol, HS, HO⟩, HB⟩ := hrel
    have hol' : o.length < 17592186044416 := by omega
    by_cases hia : i < a.length
    · obtain ⟨ad, x, rfl, hcell, HX⟩ := ReadI.get (Kd.C_below HR.out HB.out) hia
      have hdi : decide ((i : Int) < (a.length : Int)) = true := decide_eq_true (by omega)
      have hei : ((i : Int) == (a.length : Int)) = false := by rw [beq_eq_false_iff_ne]; omega
      have hiI : (i : Int) < (a.length : Int) := by omega
      have x1 : ∀ x' : Ext wr, x'.1.cell? (ad.add i) = some (.int .i64 x) := fun x' => Ext.cell hcell x'
      by_cases hkb : k < b.length
      · obtain ⟨ad2, y, rfl, hcell2, HY⟩ := ReadI.get (Kd.C_below HRV.out HB.out) hkb
        have hek : ((k : Int) == (b.length : Int)) = false := by rw [beq_eq_false_iff_ne]; omega
        have hkI : (k : Int) < (b.length : Int) := by omega
        have x2 : ∀ x' : Ext wr, x'.1.cell? (ad2.add k) = some (.int .i64 y) := fun x' => Ext.cell hcell2 x'
        have HD : Aside0 (o ++ symd (x :: a.drop (i + 1)) (y :: b.drop (k + 1)) = symd a b) := ⟨by rw [← drop_at hia HX.out, ← drop_at hkb HY.out]; exact HS.out⟩
        by_cases hxy : x < y
        · have hlt : decide (x < y) = true := decide_eq_true hxy
          have HN : Aside0 ((o ++ [x]) ++ symd (a.drop (i + 1)) (b.drop k) = symd a b) := ⟨by rw [← HD.out, symd_lt _ _ hxy, ← drop_at hkb HY.out, List.append_assoc]; rfl⟩
          go_wp2
          refine wp_region_ext (by kernel_rfl) (by kernel_rfl) ?_
          repeat (go_big_quiet_step (fail))
          refine wpQuiet_nil ?_
          rintro _ ⟨xx, rfl⟩
          have HO2 := Aside0.mk (OwnI.below HO.out xx.2)
          have HB2 := Aside0.mk (HB.out.trans (xx.2.mono HB.out.size))
          have hcell := pw_cell_below xx.2 hcell
          go_wp2_with (first | (at_builtin; refine app_own (w0 := w) w.heap.size rfl (.tmp 45) (.tmp 50) rfl _ o x rfl rfl HO2.out HB2.out HB2.out.size hol' ?_; intro v1 w6 ho hb hg hat; have HO1 := Aside0.mk ho; have HB1 := Aside0.mk hb; clear ho hb hg hat))
          go_roundw
          case rel => exact ⟨i + 1, k, by go_num, rfl, by omega, hk, ⟨o ++ [x], by rw [List.length_append, List.length_singleton]; omega, HN, HO1⟩, HB1⟩
          case measure => simp [intOf]; omega
        · have hlt : decide (x < y) = false := decide_eq_false hxy
          by_cases hyx : y < x
          · have hgt : decide (y < x) = true := decide_eq_true hyx
            have HN : Aside0 ((o ++ [y]) ++ symd (a.drop i) (b.drop (k + 1)) = symd a b) := ⟨by rw [← HD.out, symd_gt _ _ hxy hyx, ← drop_at hia HX.out, List.append_assoc]; rfl⟩
            go_wp2
            refine wp_region_ext (by kernel_rfl) (by kernel_rfl) ?_
            repeat (go_big_quiet_step (fail))
            refine wpQuiet_nil ?_
            rintro _ ⟨xx, rfl⟩
            have HO2 := Aside0.mk (OwnI.below HO.out xx.2)
            have HB2 := Aside0.mk (HB.out.trans (xx.2.mono HB.out.size))
            have hcell := pw_cell_below xx.2 hcell
            have hcell2 := pw_cell_below xx.2 hcell2
            obtain ⟨wx, hwx⟩ : ∃ wx, wx = xx.1 := ⟨_, rfl⟩
            rw [← hwx] at HO2 HB2 hcell hcell2 ⊢
            clear hwx xx x1 x2
            have x1 : ∀ x' : Ext wx, x'.1.cell? (ad.add i) = some (.int .i64 x) := fun x' => Ext.cell hcell x'
            have x2 : ∀ x' : Ext wx, x'.1.cell? (ad2.add k) = some (.int .i64 y) := fun x' => Ext.cell hcell2 x'
            go_wp2
            refine wp_region_ext (by kernel_rfl) (by kernel_rfl) ?_
            repeat (go_big_quiet_step (fail))
            refine wpQuiet_nil ?_
            rintro _ ⟨xx, rfl⟩
            have HO3 := Aside0.mk (OwnI.below HO2.out xx.2)
            have HB3 := Aside0.mk (HB2.out.trans (xx.2.mono HB2.out.size))
            have hcell2 := pw_cell_below xx.2 hcell2
            go_wp2_with (first | (at_builtin; refine app_own (w0 := w) w.heap.size rfl (.tmp 70) (.tmp 75) rfl _ o y rfl rfl HO3.out HB3.out HB3.out.size hol' ?_; intro v1 w6 ho hb hg hat; have HO1 := Aside0.mk ho; have HB1 := Aside0.mk hb; clear ho hb hg hat))
            go_roundw
            case rel => exact ⟨i, k + 1, rfl, by go_num, hi, by omega, ⟨o ++ [y], by rw [List.length_append, List.length_singleton]; omega, HN, HO1⟩, HB1⟩
            case measure => simp [intOf]; omega
          · have hgt : decide (y < x) = false := decide_eq_false hyx
            have HN : Aside0 (o ++ symd (a.drop (i + 1)) (b.drop (k + 1)) = symd a b) := ⟨by rw [← HD.out, symd_eq _ _ hxy hyx]⟩
            go_wp2
            refine wp_region_ext (by kernel_rfl) (by kernel_rfl) ?_
            repeat (go_big_quiet_step (fail))
            refine wpQuiet_nil ?_
            rintro _ ⟨xx, rfl⟩
            have HO2 := Aside0.mk (OwnI.below HO.out xx.2)
            have HB2 := Aside0.mk (HB.out.trans (xx.2.mono HB.out.size))
            have hcell := pw_cell_below xx.2 hcell
            have hcell2 := pw_cell_below xx.2 hcell2
            obtain ⟨wx, hwx⟩ : ∃ wx, wx = xx.1 := ⟨_, rfl⟩
            rw [← hwx] at HO2 HB2 hcell hcell2 ⊢
            clear hwx xx x1 x2
            have x1 : ∀ x' : Ext wx, x'.1.cell? (ad.add i) = some (.int .i64 x) := fun x' => Ext.cell hcell x'
            have x2 : ∀ x' : Ext wx, x'.1.cell? (ad2.add k) = some (.int .i64 y) := fun x' => Ext.cell hcell2 x'
            go_wp2
            refine wp_region_ext (by kernel_rfl) (by kernel_rfl) ?_
            repeat (go_big_quiet_step (fail))
            refine wpQuiet_nil ?_
            rintro _ ⟨xx, rfl⟩
            have HO3 := Aside0.mk (OwnI.below HO2.out xx.2)
            have HB3 := Aside0.mk (HB2.out.trans (xx.2.mono HB2.out.size))
            go_wp2
            go_roundw
            case rel => exact ⟨i + 1, k + 1, by go_num, by go_num, by omega, by omega, ⟨o, by omega, HN, HO3⟩, HB3⟩
            case measure => simp [intOf]; omega
      · have e : k = b.length := by omega
        have hek : ((k : Int) == (b.length : Int)) = true := by rw [beq_iff_eq]; omega
        have hkI : ¬ (k : Int) < (b.length : Int) := by omega
        have HN : Aside0 ((o ++ [x]) ++ symd (a.drop (i + 1)) (b.drop k) = symd a b) := ⟨by
          rw [← HS.out, drop_at hia HX.out, show b.drop k = [] by rw [e, List.drop_length], symd_l, List.append_assoc]; rfl⟩
        go_wp2
        refine wp_region_ext (by kernel_rfl) (by kernel_rfl) ?_
        repeat (go_big_quiet_step (fail))
        refine wpQuiet_nil ?_
        rintro _ ⟨xx, rfl⟩
        have HO2 := Aside0.mk (OwnI.below HO.out xx.2)
        have HB2 := Aside0.mk (HB.out.trans (xx.2.mono HB.out.size))
        have hcell := pw_cell_below xx.2 hcell
        go_wp2_with (first | (at_builtin; refine app_own (w0 := w) w.heap.size rfl (.tmp 45) (.tmp 50) rfl _ o x rfl rfl HO2.out HB2.out HB2.out.size hol' ?_; intro v1 w6 ho hb hg hat; have HO1 := Aside0.mk ho; have HB1 := Aside0.mk hb; clear ho hb hg hat))
        go_roundw
        case rel => exact ⟨i + 1, k, by go_num, by rw [e], by omega, hk, ⟨o ++ [x], by rw [List.length_append, List.length_singleton]; omega, HN, HO1⟩, HB1⟩
        case measure => simp [intOf]; omega
    · have e : i = a.length := by omega
      have hdi : decide ((i : Int) < (a.length : Int)) = false := decide_eq_false (by omega)
      have hei : ((i : Int) == (a.length : Int)) = true := by rw [beq_iff_eq]; omega
      have hda : a.drop i = [] := by rw [e, List.drop_length]
      by_cases hkb : k < b.length
      · obtain ⟨ad2, y, rfl, hcell2, HY⟩ := ReadI.get (Kd.C_below HRV.out HB.out) hkb
        have hek : ((k : Int) == (b.length : Int)) = false := by rw [beq_eq_false_iff_ne]; omega
        have hkI : (k : Int) < (b.length : Int) := by omega
        have HN : Aside0 ((o ++ [y]) ++ symd (a.drop i) (b.drop (k + 1)) = symd a b) := ⟨by
          rw [← HS.out, drop_at hkb HY.out, hda, symd_r, symd_r, List.append_assoc]; rfl⟩
        clear e hda
        go_wp2
        refine wp_region_ext (by kernel_rfl) (by kernel_rfl) ?_
        repeat (go_big_quiet_step (fail))
        refine wpQuiet_nil ?_
        rintro _ ⟨xx, rfl⟩
        have HO2 := Aside0.mk (OwnI.below HO.out xx.2)
        have HB2 := Aside0.mk (HB.out.trans (xx.2.mono HB.out.size))
        have hcell2 := pw_cell_below xx.2 hcell2
        obtain ⟨wx, hwx⟩ : ∃ wx, wx = xx.1 := ⟨_, rfl⟩
        rw [← hwx] at HO2 HB2 hcell2 ⊢
        clear hwx xx
        go_wp2
        refine wp_region_ext (by kernel_rfl) (by kernel_rfl) ?_
        repeat (go_big_quiet_step (fail))
        refine wpQuiet_nil ?_
        rintro _ ⟨xx, rfl⟩
        have HO3 := Aside0.mk (OwnI.below HO2.out xx.2)
        have HB3 := Aside0.mk (HB2.out.trans (xx.2.mono HB2.out.size))
        have hcell2 := pw_cell_below xx.2 hcell2
        go_wp2_with (first | (at_builtin; refine app_own (w0 := w) w.heap.size rfl (.tmp 70) (.tmp 75) rfl _ o y rfl rfl HO3.out HB3.out HB3.out.size hol' ?_; intro v1 w6 ho hb hg hat; have HO1 := Aside0.mk ho; have HB1 := Aside0.mk hb; clear ho hb hg hat))
        go_roundw
        case rel => exact ⟨i, k + 1, rfl, by go_num, hi, by omega, ⟨o ++ [y], by rw [List.length_append, List.length_singleton]; omega, HN, HO1⟩, HB1⟩
        case measure => simp [intOf]; omega
      · have hkI : decide ((k : Int) < (b.length : Int)) = false := decide_eq_false (by omega)
        have hdb : b.drop k = [] := by rw [show k = b.length by omega, List.drop_length]
        have HN : Aside0 (o = symd a b) := ⟨by rw [← HS.out, hda, hdb, symd_r, List.append_nil]⟩
        clear e hda hdb
        go_wp2
        go_ret
        exact ⟨_, rfl, by rw [← HN.out]; exact HO.out, HB.out⟩
end Go.Proofs.Ytcbkchnfjeegmaa.H

namespace Go.Proofs.Ytcbkchnfjeegmaa.H
open Go.RowKit Go.Proofs.YtcbkchnfjeegmaaW.PrintWords Go.Proofs.YtcbkchnfjeegmaaW.PrintLast Go.Proofs.YtcbkchnfjeegmaaW.PrintMore
set_option linter.unusedVariables false
set_option linter.unusedSimpArgs false

theorem below_len : ∀ f, f < 64 → (below f).length ≤ 6 := by decide +kernel
theorem bndL_snoc (l : List Int) (x : Int) : bndL (l ++ [x]) = symd (bndL l) (below x.toNat) := by unfold bndL; rw [List.foldl_append]; rfl
theorem listI_len (m : Nat) : (listI m).length ≤ 64 := by
  unfold listI; rw [List.length_map]; exact Nat.le_trans (List.length_filter_le _ _) (by simp)

set_option maxRecDepth 100000 in
set_option maxHeartbeats 1000000 in
theorem specBoundary (v : Value) (l : List Int) (w : World) (hv : ReadI w v l) (hb : ∀ x ∈ l, 1 ≤ x ∧ x ≤ 63) :
    Calls Try.prog 51 #[v] w fun e w' => ∃ u, e = .returned u ∧ OwnI w.heap.size w' u (bndL l) ∧ Below w.heap.size w w' := by
  have hlen := hv.len
  obtain ⟨A1, d1, rfl, hcc, hr⟩ := hv
  have HR := Aside0.mk hr
  have HB := Aside0.mk hb
  clear hr hcc hb
  go_enter Try.func51, Try.ntmps51
  go_wp2
  go_loopw [3, 4] (fun s3 s4 wr => ∃ i : Nat, s4 = .int .i64 i ∧ i ≤ l.length ∧ Aside0 (OwnI w.heap.size wr s3 (bndL (l.take i))) ∧ Aside0 (Below w.heap.size w wr)) (fun _ s4 _ => l.length - (intOf s4).toNat)
  case atStart => exact ⟨0, rfl, Nat.zero_le _, ⟨OwnI.empty w (Nat.le_refl _)⟩, ⟨Below.alloc (Below.refl _ _) (Nat.le_refl _) _⟩⟩
  case round =>
    obtain ⟨i, rfl, hi, HO, HBi⟩ := hrel
    by_cases hlt : i < l.length
    · obtain ⟨ad, y, rfl, hcell, HY⟩ := ReadI.get (Kd.C_below HR.out HBi.out) hlt
      have hy := HB.out y (mem_at hlt HY.out)
      obtain ⟨p, rfl⟩ : ∃ p : Nat, y = p := ⟨y.toNat, by omega⟩
      have HT : Aside0 (bndL (l.take (i + 1)) = symd (bndL (l.take i)) (below p)) := ⟨by rw [take_get hlt HY.out, bndL_snoc, Int.toNat_natCast]⟩
      have hl1 : Aside0 ((bndL (l.take i)).length ≤ 1000000) := ⟨by
        rw [bnd_law (fun x hx => by have := HB.out x (List.mem_of_mem_take hx); omega)]
        exact Nat.le_trans (listI_len _) (by decide)⟩
      have hl2 : Aside0 ((below p).length ≤ 1000000) := ⟨Nat.le_trans (below_len p (by omega)) (by decide)⟩
      have hp63 : p ≤ 63 := by omega
      clear hy
      obtain ⟨Av, cv, rfl, -⟩ := HO.out.read
      go_wp2_with (first | (go_at_call 103; refine (specBelow p hp63 _).mono ?_; rintro e w5 ⟨u, rfl, ho, hb5⟩; have HO5 := Aside0.mk ho; have HOA := Aside0.mk (OwnI.below HO.out hb5); obtain ⟨A5, d5, rfl, -⟩ := ho.read; have HB5 := Aside0.mk (HBi.out.trans (hb5.mono HBi.out.size)); clear ho hb5) | (go_at_call 102; refine (specSum _ (bndL (l.take i)) _ (below p) _ HOA.out.read HO5.out.read hl1.out hl2.out).mono ?_; rintro e w6 ⟨u, rfl, ho, hb6⟩; have HO6 := Aside0.mk (ho.lower HB5.out.size); obtain ⟨A6, d6, rfl, -⟩ := ho.read; have HB6 := Aside0.mk (HB5.out.trans (hb6.mono HB5.out.size)); clear ho hb6))
      go_roundw
      case rel => exact ⟨i + 1, by go_num, by omega, ⟨by rw [HT.out]; exact HO6.out⟩, HB6⟩
      case measure => simp [intOf]; omega
    · have e : i = l.length := by omega
      go_wp2
      go_ret
      exact ⟨_, rfl, by have := HO.out; rw [e, List.take_length] at this; exact this, HBi.out⟩

set_option maxRecDepth 100000 in
set_option maxHeartbeats 4000000 in
theorem specChain (a : Int) (ku : Value) (xs : List Int) (v : Value) (l : List Int) (w : World) (hk : ReadI w ku xs) (hv : ReadI w v l) :
    Calls Try.prog 50 #[cx a ku, v] w fun e w' => e = .returned (.int .i64 (codeChn a xs l)) ∧ Below w.heap.size w w' := by
  obtain ⟨w1, hw1⟩ : ∃ w1, w1 = w.alloc (.cells #[.int .i64 a, ku] 28) := ⟨_, rfl⟩
  have hB : Below w.heap.size w w1 := by rw [hw1]; exact Below.alloc (Below.refl _ _) (Nat.le_refl _) _
  have c0 : w1.cell? ⟨w.heap.size, 0, none⟩ = some (.int .i64 a) := by rw [hw1]; simp
  have c1 : w1.cell? ⟨w.heap.size, 1, none⟩ = some ku := by rw [hw1]; simp
  have HB := Aside0.mk hB
  have HK := Aside0.mk (hk.below hB)
  have l2 := hv.len
  obtain ⟨A1, d1, rfl, -⟩ := id hk
  obtain ⟨A2, d2, rfl, hcv, hrv⟩ := hv.below hB
  have HR := Aside0.mk hrv
  clear hk hv hB hcv hrv
  cases h1 : cxOk a xs with
  | false =>
    have HA : Aside0 (codeChn a xs l = 1) := ⟨by unfold codeChn; rw [h1]; rfl⟩
    go_enter Try.func50, Try.ntmps50
    go_wp2_with (first | (rw [← hw1]; clear hw1; go_at_call 56; refine (specIs _ _ xs _ HK.out).mono ?_; rintro e w2 ⟨rfl, hb⟩; rw [h1]))
    go_ret
    exact ⟨by rw [HA.out]; rfl, HB.out.trans (hb.mono HB.out.size)⟩
  | true =>
    have HA : Aside0 (codeChn a xs l = if chOk xs l then 0 else 2) := ⟨by unfold codeChn; rw [h1]; rfl⟩
    obtain ⟨n, rfl, hc, -⟩ := cxOk_cx h1
    have HN := Aside0.mk hc
    clear hc
    go_enter Try.func50, Try.ntmps50
    go_wp2_with (first | (rw [← hw1]; clear hw1; go_at_call 56; refine (specIs _ _ xs _ HK.out).mono ?_; rintro e w2 ⟨rfl, hb⟩; rw [h1]; have HB2 := Aside0.mk hb; have c0 := pw_cell_below hb c0; have c1 := pw_cell_below hb c1; clear hb))
    go_loopw [5] (fun s wr => ∃ i : Nat, s = .int .i64 i ∧ i ≤ l.length ∧ Aside0 (∀ t, t < i → chAt xs l t = true) ∧ Aside0 (Below w2.heap.size w2 wr)) (fun s _ => l.length - (intOf s).toNat)
    case atStart => exact ⟨0, rfl, Nat.zero_le _, ⟨fun t h => absurd h (Nat.not_lt_zero _)⟩, ⟨Below.refl _ _⟩⟩
    case round =>
      obtain ⟨i, rfl, hi, HI, HBi⟩ := hrel
      have HBw := Aside0.mk (HB2.out.trans (HBi.out.mono HB2.out.size))
      have c0 := pw_cell_below HBi.out c0
      have c1 := pw_cell_below HBi.out c1
      by_cases hlt : i < l.length
      · obtain ⟨ad, y, rfl, hcell, HY⟩ := ReadI.get (Kd.C_below HR.out HBw.out) hlt
        have x0 : ∀ x : Ext wr, x.1.cell? ⟨w.heap.size, 0, none⟩ = some (.int .i64 n) := fun x => Ext.cell c0 x
        have x1 : ∀ x : Ext wr, x.1.cell? ⟨w.heap.size, 1, none⟩ = some (.slice A1 xs.length d1) := fun x => Ext.cell c1 x
        have xc : ∀ x : Ext wr, x.1.cell? (ad.add i) = some (.int .i64 y) := fun x => Ext.cell hcell x
        have hiI : (i : Int) < (l.length : Int) := by omega
        obtain ⟨b, hbm⟩ : ∃ b, b = decide (y ∈ xs) := ⟨_, rfl⟩
        have HH : Aside0 (∀ x : Ext wr, Calls Try.prog 100 #[cx n (.slice A1 xs.length d1), .int .i64 y] x.1 fun e w' => e = .returned (.bool b) ∧ Below x.1.heap.size x.1 w') := ⟨fun x => by rw [hbm]; exact specHas n _ xs y x.1 ((HK.out.below HBw.out).below x.2)⟩
        cases b with
        | false =>
          have HF : Aside0 (chOk xs l = false) := ⟨chOk_false hlt (by unfold chAt; rw [HY.out, ← hbm]; rfl)⟩
          clear hbm
          go_wp2
          refine wp_region_ext (by kernel_rfl) (by kernel_rfl) ?_
          repeat (go_big_quiet_step ((first | (go_at_call 100; exact Calls.ext_of (HH.out _)))))
          refine wpQuiet_nil ?_
          rintro _ ⟨x, rfl⟩
          have hbx := x.2
          go_wp2
          go_ret
          exact ⟨by rw [HA.out, HF.out]; rfl, HB.out.trans ((HBw.out.trans (hbx.mono HBw.out.size)).mono HB.out.size)⟩
        | true =>
          have hym : y ∈ xs := of_decide_eq_true hbm.symm
          obtain ⟨z, rfl, hz1, hz2⟩ := HN.out.nat hym
          by_cases h0 : i = 0
          · have HF : Aside0 (∀ t, t < i + 1 → chAt xs l t = true) := ⟨fun t ht => by
              rcases Nat.lt_succ_iff_lt_or_eq.1 ht with h | h
              · exact HI.out t h
              · rw [h]; unfold chAt; rw [HY.out, ← hbm, decide_eq_true h0]; rw [show l.getD 0 0 = (z : Int) by rw [← HY.out, h0]]; simp⟩
            have h0' : decide (0 < i) = false := decide_eq_false (by omega)
            clear h0 hbm hym
            go_wp2
            refine wp_region_ext (by kernel_rfl) (by kernel_rfl) ?_
            repeat (go_big_quiet_step ((first | (go_at_call 100; exact Calls.ext_of (HH.out _)))))
            refine wpQuiet_nil ?_
            rintro _ ⟨x, rfl⟩
            have hbx := x.2
            go_wp2
            go_roundw
            case rel => exact ⟨i + 1, by go_num, by omega, HF, ⟨HBi.out.trans (hbx.mono HBi.out.size)⟩⟩
            case measure => simp [intOf]; omega
          · have h0lt : 0 < l.length := by omega
            obtain ⟨ad', y0, e0, hcell0, HY0⟩ := ReadI.get (Kd.C_below HR.out HBw.out) h0lt
            cases e0
            obtain ⟨z0, rfl, hz01, hz02⟩ : ∃ z0 : Nat, y0 = z0 ∧ 1 ≤ z0 ∧ z0 ≤ 63 := by
              have := chAt_mem (HI.out 0 (by omega)); rw [HY0.out] at this; exact HN.out.nat this
            rw [show ad.add 0 = ad by cases ad; rfl] at hcell0
            have x2 : ∀ x : Ext wr, x.1.cell? ad = some (.int .i64 z0) := fun x => Ext.cell hcell0 x
            obtain ⟨s1, hs1⟩ : ∃ s, s = ones z := ⟨_, rfl⟩
            obtain ⟨s0, hs0⟩ : ∃ s, s = ones z0 := ⟨_, rfl⟩
            have HS1 : Aside0 (∀ x : Ext wr, Calls Try.prog 101 #[.int .i64 z] x.1 fun e w' => e = .returned (.int .i64 (s1 : Nat)) ∧ Below x.1.heap.size x.1 w') := ⟨fun x => by rw [hs1]; exact specOnes z (by omega) x.1⟩
            have HS0 : Aside0 (∀ x : Ext wr, Calls Try.prog 101 #[.int .i64 z0] x.1 fun e w' => e = .returned (.int .i64 (s0 : Nat)) ∧ Below x.1.heap.size x.1 w') := ⟨fun x => by rw [hs0]; exact specOnes z0 (by omega) x.1⟩
            have h0' : decide (0 < i) = true := decide_eq_true (by omega)
            have h1i : (0 : Int) ≤ (i : Int) - 1 := by omega
            have h2i : (i : Int) - 1 < l.length := by omega
            have h3i : ((i : Int) - 1).toNat = i - 1 := by omega
            obtain ⟨ad'', y', e2, hcell2, HY2⟩ := ReadI.get (Kd.C_below HR.out HBw.out) (i := i - 1) (by omega)
            cases e2
            have hx3 : ∀ x : Ext wr, x.1.cell? (ad.add (i - 1)) = some (.int .i64 y') := fun x => Ext.cell hcell2 x
            have HC : Aside0 (chAt xs l i = ((((s1 : Nat) : Int) == ((s0 : Nat) : Int)) && decide (y' < (z : Int)))) := ⟨by unfold chAt; rw [HY.out, HY0.out, HY2.out, ← hbm, Bool.true_and, Int.toNat_natCast, Int.toNat_natCast, ← hs1, ← hs0, decide_eq_false h0, Bool.false_or]⟩
            clear hbm hym hs1 hs0 hcell0 hcell2 h0
            by_cases hle : (z : Int) ≤ y'
            · have hled : decide ((z : Int) ≤ y') = true := decide_eq_true hle
              have HF : Aside0 (chOk xs l = false) := ⟨chOk_false hlt (by rw [HC.out, decide_eq_false (show ¬ y' < (z : Int) by omega), Bool.and_false])⟩
              go_wp2
              refine wp_region_ext (by kernel_rfl) (by kernel_rfl) ?_
              repeat (go_big_quiet_step ((first | (go_at_call 100; exact Calls.ext_of (HH.out _)) | (go_at_call 101; with_reducible exact Calls.ext_of (HS1.out _)) | (go_at_call 101; with_reducible exact Calls.ext_of (HS0.out _)))))
              refine wpQuiet_nil ?_
              rintro _ ⟨x, rfl⟩
              have hbx := x.2
              go_wp2
              go_ret
              exact ⟨by rw [HA.out, HF.out]; rfl, HB.out.trans ((HBw.out.trans (hbx.mono HBw.out.size)).mono HB.out.size)⟩
            · have hled : decide ((z : Int) ≤ y') = false := decide_eq_false hle
              rw [decide_eq_true (show y' < (z : Int) by omega), Bool.and_true] at HC
              by_cases hss : s1 = s0
              · have hse : (((s1 : Nat) : Int) != ((s0 : Nat) : Int)) = false := by simp [hss]
                have hsb : (((s1 : Nat) : Int) == ((s0 : Nat) : Int)) = true := by simp [hss]
                rw [hsb] at HC
                have HF : Aside0 (∀ t, t < i + 1 → chAt xs l t = true) := ⟨fun t ht => by
                  rcases Nat.lt_succ_iff_lt_or_eq.1 ht with h | h
                  · exact HI.out t h
                  · rw [h]; exact HC.out⟩
                clear hss hsb
                go_wp2
                refine wp_region_ext (by kernel_rfl) (by kernel_rfl) ?_
                repeat (go_big_quiet_step ((first | (go_at_call 100; exact Calls.ext_of (HH.out _)) | (go_at_call 101; with_reducible exact Calls.ext_of (HS1.out _)) | (go_at_call 101; with_reducible exact Calls.ext_of (HS0.out _)))))
                refine wpQuiet_nil ?_
                rintro _ ⟨x, rfl⟩
                have hbx := x.2
                go_wp2
                go_roundw
                case rel => exact ⟨i + 1, by go_num, by omega, HF, ⟨HBi.out.trans (hbx.mono HBi.out.size)⟩⟩
                case measure => simp [intOf]; omega
              · have hse : (((s1 : Nat) : Int) != ((s0 : Nat) : Int)) = true := by simp; omega
                have HF : Aside0 (chOk xs l = false) := ⟨chOk_false hlt (by rw [HC.out]; simp; omega)⟩
                clear hss
                go_wp2
                refine wp_region_ext (by kernel_rfl) (by kernel_rfl) ?_
                repeat (go_big_quiet_step ((first | (go_at_call 100; exact Calls.ext_of (HH.out _)) | (go_at_call 101; with_reducible exact Calls.ext_of (HS1.out _)) | (go_at_call 101; with_reducible exact Calls.ext_of (HS0.out _)))))
                refine wpQuiet_nil ?_
                rintro _ ⟨x, rfl⟩
                have hbx := x.2
                go_wp2
                go_ret
                exact ⟨by rw [HA.out, HF.out]; rfl, HB.out.trans ((HBw.out.trans (hbx.mono HBw.out.size)).mono HB.out.size)⟩
      · have HF := Aside0.mk (chOk_true (xs := xs) (fun t ht => HI.out t (by omega)))
        go_wp2
        go_ret
        exact ⟨by rw [HA.out, HF.out]; rfl, HB.out.trans (HBw.out.mono HB.out.size)⟩
end Go.Proofs.Ytcbkchnfjeegmaa.H

namespace Go.Proofs.Ytcbkchnfjeegmaa.H
open Go.RowKit Go.Proofs.YtcbkchnfjeegmaaW.PrintWords Go.Proofs.YtcbkchnfjeegmaaW.PrintLast Go.Proofs.YtcbkchnfjeegmaaW.PrintMore
set_option linter.unusedVariables false
set_option linter.unusedSimpArgs false

def pairAt (xs : List Int) (x y : Int) : Bool := decide (x ∈ xs) && (decide (y ∈ xs) && (decide (x.toNat &&& y.toNat = x.toNat) && (ones y.toNat == ones x.toNat + 1)))
theorem xor_and_zero' (a b : Nat) : (a ^^^ (a &&& b)) = 0 ↔ a &&& b = a := by
  constructor
  · intro h
    have h2 := congrArg (a ^^^ ·) h
    simpa [← Nat.xor_assoc] using h2
  · intro h; rw [h]; simp
theorem isInC (a b : Nat) (ha : a < 64) (hb : b < 64) (w : World) :
    Calls Try.prog 170 #[.int .i64 a, .int .i64 b] w fun e w' => e = .returned (.bool (decide (a &&& b = a))) ∧ Below w.heap.size w w' := by
  have hx := andNot_i64 a b (by omega) (by omega)
  have HX : Aside0 ((((a ^^^ (a &&& b) : Nat) : Int) == 0) = decide (a &&& b = a)) := ⟨by
    rw [Bool.eq_iff_iff, beq_iff_eq, decide_eq_true_eq, ← xor_and_zero']; omega⟩
  go_enter Try.func170, Try.ntmps170
  go_wp2
  go_ret
  exact ⟨by rw [← HX.out]; rfl, by (repeat (first | (with_reducible exact Below.refl _ _) | (with_reducible assumption) | (with_reducible refine below_step ?_ (by assumption)) | (with_reducible apply below_alloc) | (with_reducible apply below_drewN)))⟩

set_option maxRecDepth 100000 in
set_option maxHeartbeats 4000000 in
theorem isPair (n : Nat) (ku : Value) (xs : List Int) (x y : Int) (w : World) (hk : ReadI w ku xs) (hc : Cx n xs) :
    Calls Try.prog 120 #[cx n ku, .agg #[.int .i64 x, .int .i64 y]] w fun e w' => e = .returned (.bool (pairAt xs x y)) ∧ Below w.heap.size w w' := by
  obtain ⟨w1, hw1⟩ : ∃ w1, w1 = (w.alloc (.cells #[.int .i64 n, ku] 28)).alloc (.cells #[.int .i64 x, .int .i64 y] 83) := ⟨_, rfl⟩
  have hB : Below w.heap.size w w1 := by rw [hw1]; exact ((Below.refl _ w).alloc (Nat.le_refl _) _).alloc (by simp) _
  have c0 : w1.cell? ⟨w.heap.size, 0, none⟩ = some (.int .i64 n) := by rw [hw1]; simp
  have c1 : w1.cell? ⟨w.heap.size, 1, none⟩ = some ku := by rw [hw1]; simp
  have c2 : w1.cell? ⟨w.heap.size + 1, 0, none⟩ = some (.int .i64 x) := by rw [hw1]; simp
  have c3 : w1.cell? ⟨w.heap.size + 1, 1, none⟩ = some (.int .i64 y) := by rw [hw1]; simp
  have HB := Aside0.mk hB
  have HK := Aside0.mk (hk.below hB)
  have HC := Aside0.mk hc
  obtain ⟨A1, d1, rfl, -⟩ := id hk
  have x0 : ∀ z : Ext w1, z.1.cell? ⟨w.heap.size, 0, none⟩ = some (.int .i64 n) := fun z => Ext.cell c0 z
  have x1 : ∀ z : Ext w1, z.1.cell? ⟨w.heap.size, 1, none⟩ = some (.slice A1 xs.length d1) := fun z => Ext.cell c1 z
  have x2 : ∀ z : Ext w1, z.1.cell? ⟨w.heap.size + 1, 0, none⟩ = some (.int .i64 x) := fun z => Ext.cell c2 z
  have x3 : ∀ z : Ext w1, z.1.cell? ⟨w.heap.size + 1, 1, none⟩ = some (.int .i64 y) := fun z => Ext.cell c3 z
  obtain ⟨b1, hb1⟩ : ∃ b, b = decide (x ∈ xs) := ⟨_, rfl⟩
  obtain ⟨b2, hb2⟩ : ∃ b, b = decide (y ∈ xs) := ⟨_, rfl⟩
  have HHX : Aside0 (∀ z : Ext w1, Calls Try.prog 119 #[cx n (.slice A1 xs.length d1), .int .i64 x] z.1 fun e w' => e = .returned (.bool b1) ∧ Below z.1.heap.size z.1 w') := ⟨fun z => by rw [hb1]; exact has n _ xs x z.1 (HK.out.below z.2) HC.out.asc (by have := HC.out.len; omega)⟩
  have HHY : Aside0 (∀ z : Ext w1, Calls Try.prog 119 #[cx n (.slice A1 xs.length d1), .int .i64 y] z.1 fun e w' => e = .returned (.bool b2) ∧ Below z.1.heap.size z.1 w') := ⟨fun z => by rw [hb2]; exact has n _ xs y z.1 (HK.out.below z.2) HC.out.asc (by have := HC.out.len; omega)⟩
  clear hk hB hc c0 c1 c2 c3
  cases b1 with
  | false =>
    have HA : Aside0 (pairAt xs x y = false) := ⟨by unfold pairAt; rw [← hb1]; rfl⟩
    clear hb1 hb2
    go_enter Try.func120, Try.ntmps120
    go_wp2
    rw [← hw1]
    clear hw1
    refine wp_region_ext (by kernel_rfl) (by kernel_rfl) ?_
    repeat (go_big_quiet_step ((first | (go_at_call 119; with_reducible exact Calls.ext_of (HHX.out _)) | (go_at_call 119; with_reducible exact Calls.ext_of (HHY.out _)))))
    refine wpQuiet_nil ?_
    rintro _ ⟨z, rfl⟩
    have hbz := z.2
    go_wp2
    go_ret
    exact ⟨by rw [HA.out]; rfl, HB.out.trans (hbz.mono HB.out.size)⟩
  | true =>
    cases b2 with
    | false =>
      have HA : Aside0 (pairAt xs x y = false) := ⟨by unfold pairAt; rw [← hb1, ← hb2]; rfl⟩
      clear hb1 hb2
      go_enter Try.func120, Try.ntmps120
      go_wp2
      rw [← hw1]
      clear hw1
      refine wp_region_ext (by kernel_rfl) (by kernel_rfl) ?_
      repeat (go_big_quiet_step ((first | (go_at_call 119; with_reducible exact Calls.ext_of (HHX.out _)) | (go_at_call 119; with_reducible exact Calls.ext_of (HHY.out _)))))
      refine wpQuiet_nil ?_
      rintro _ ⟨z, rfl⟩
      have hbz := z.2
      go_wp2
      go_ret
      exact ⟨by rw [HA.out]; rfl, HB.out.trans (hbz.mono HB.out.size)⟩
    | true =>
      obtain ⟨zx, rfl, hx1, hx2⟩ := HC.out.nat (of_decide_eq_true hb1.symm)
      obtain ⟨zy, rfl, hy1, hy2⟩ := HC.out.nat (of_decide_eq_true hb2.symm)
      obtain ⟨I0, hI0⟩ : ∃ b, b = decide (zx &&& zy = zx) := ⟨_, rfl⟩
      obtain ⟨sx, hsx⟩ : ∃ s, s = ones zx := ⟨_, rfl⟩
      obtain ⟨sy, hsy⟩ : ∃ s, s = ones zy := ⟨_, rfl⟩
      have hle := ones_le zx (by omega)
      rw [← hsx] at hle
      have HA : Aside0 (pairAt xs zx zy = (I0 && ((sy : Int) == (sx : Int) + 1))) := ⟨by unfold pairAt; rw [← hb1, ← hb2, Int.toNat_natCast, Int.toNat_natCast, ← hI0, ← hsx, ← hsy, Bool.true_and, Bool.true_and]; congr 1; rw [Bool.eq_iff_iff, beq_iff_eq, beq_iff_eq]; omega⟩
      have HIN : Aside0 (∀ z : Ext w1, Calls Try.prog 170 #[.int .i64 (zx : Nat), .int .i64 (zy : Nat)] z.1 fun e w' => e = .returned (.bool I0) ∧ Below z.1.heap.size z.1 w') := ⟨fun z => by rw [hI0]; exact isInC zx zy (by omega) (by omega) z.1⟩
      have HSX : Aside0 (∀ z : Ext w1, Calls Try.prog 163 #[.int .i64 (zx : Nat)] z.1 fun e w' => e = .returned (.int .i64 (sx : Nat)) ∧ Below z.1.heap.size z.1 w') := ⟨fun z => by rw [hsx]; exact size zx (by omega) z.1⟩
      have HSY : Aside0 (∀ z : Ext w1, Calls Try.prog 163 #[.int .i64 (zy : Nat)] z.1 fun e w' => e = .returned (.int .i64 (sy : Nat)) ∧ Below z.1.heap.size z.1 w') := ⟨fun z => by rw [hsy]; exact size zy (by omega) z.1⟩
      clear hb1 hb2 hI0 hsx hsy hx1 hx2 hy1 hy2
      cases I0 with
      | false =>
        rw [Bool.false_and] at HA
        go_enter Try.func120, Try.ntmps120
        go_wp2
        rw [← hw1]
        clear hw1
        refine wp_region_ext (by kernel_rfl) (by kernel_rfl) ?_
        repeat (go_big_quiet_step ((first | (go_at_call 119; with_reducible exact Calls.ext_of (HHX.out _)) | (go_at_call 119; with_reducible exact Calls.ext_of (HHY.out _)) | (go_at_call 170; with_reducible exact Calls.ext_of (HIN.out _)))))
        refine wpQuiet_nil ?_
        rintro _ ⟨z, rfl⟩
        have hbz := z.2
        go_wp2
        go_ret
        exact ⟨by rw [HA.out]; rfl, HB.out.trans (hbz.mono HB.out.size)⟩
      | true =>
        rw [Bool.true_and] at HA
        have hsw : IntKind.i64.wrap ((sx : Int) + 1) = (sx : Int) + 1 := IntWalk.i64_in _ (by omega)
        go_enter Try.func120, Try.ntmps120
        go_wp2
        rw [← hw1]
        clear hw1
        refine wp_region_ext (by kernel_rfl) (by kernel_rfl) ?_
        repeat (go_big_quiet_step ((first | (go_at_call 119; with_reducible exact Calls.ext_of (HHX.out _)) | (go_at_call 119; with_reducible exact Calls.ext_of (HHY.out _)) | (go_at_call 170; with_reducible exact Calls.ext_of (HIN.out _)) | (go_at_call 163; with_reducible exact Calls.ext_of (HSY.out _)) | (go_at_call 163; with_reducible exact Calls.ext_of (HSX.out _)))))
        refine wpQuiet_nil ?_
        rintro _ ⟨z, rfl⟩
        have hbz := z.2
        go_wp2
        go_ret
        exact ⟨by rw [HA.out]; rfl, HB.out.trans (hbz.mono HB.out.size)⟩

set_option maxRecDepth 100000 in
set_option maxHeartbeats 4000000 in
theorem specPair (n : Nat) (ku : Value) (xs : List Int) (x y : Int) (w : World) (hk : ReadI w ku xs) (hc : Cx n xs) :
    Calls Try.prog 178 #[cx n ku, .agg #[.int .i64 x, .int .i64 y]] w fun e w' => e = .returned (.bool (pairAt xs x y)) ∧ Below w.heap.size w w' := by
  obtain ⟨w1, hw1⟩ : ∃ w1, w1 = (w.alloc (.cells #[.int .i64 n, ku] 28)).alloc (.cells #[.int .i64 x, .int .i64 y] 83) := ⟨_, rfl⟩
  have hB : Below w.heap.size w w1 := by rw [hw1]; exact ((Below.refl _ w).alloc (Nat.le_refl _) _).alloc (by simp) _
  have c0 : w1.cell? ⟨w.heap.size, 0, none⟩ = some (.int .i64 n) := by rw [hw1]; simp
  have c1 : w1.cell? ⟨w.heap.size, 1, none⟩ = some ku := by rw [hw1]; simp
  have c2 : w1.cell? ⟨w.heap.size + 1, 0, none⟩ = some (.int .i64 x) := by rw [hw1]; simp
  have c3 : w1.cell? ⟨w.heap.size + 1, 1, none⟩ = some (.int .i64 y) := by rw [hw1]; simp
  have HB := Aside0.mk hB
  have HK := Aside0.mk (hk.below hB)
  have HC := Aside0.mk hc
  obtain ⟨A1, d1, rfl, -⟩ := id hk
  have x0 : ∀ z : Ext w1, z.1.cell? ⟨w.heap.size, 0, none⟩ = some (.int .i64 n) := fun z => Ext.cell c0 z
  have x1 : ∀ z : Ext w1, z.1.cell? ⟨w.heap.size, 1, none⟩ = some (.slice A1 xs.length d1) := fun z => Ext.cell c1 z
  have x2 : ∀ z : Ext w1, z.1.cell? ⟨w.heap.size + 1, 0, none⟩ = some (.int .i64 x) := fun z => Ext.cell c2 z
  have x3 : ∀ z : Ext w1, z.1.cell? ⟨w.heap.size + 1, 1, none⟩ = some (.int .i64 y) := fun z => Ext.cell c3 z
  obtain ⟨b1, hb1⟩ : ∃ b, b = decide (x ∈ xs) := ⟨_, rfl⟩
  obtain ⟨b2, hb2⟩ : ∃ b, b = decide (y ∈ xs) := ⟨_, rfl⟩
  have HHX : Aside0 (∀ z : Ext w1, Calls Try.prog 100 #[cx n (.slice A1 xs.length d1), .int .i64 x] z.1 fun e w' => e = .returned (.bool b1) ∧ Below z.1.heap.size z.1 w') := ⟨fun z => by rw [hb1]; exact specHas n _ xs x z.1 (HK.out.below z.2)⟩
  have HHY : Aside0 (∀ z : Ext w1, Calls Try.prog 100 #[cx n (.slice A1 xs.length d1), .int .i64 y] z.1 fun e w' => e = .returned (.bool b2) ∧ Below z.1.heap.size z.1 w') := ⟨fun z => by rw [hb2]; exact specHas n _ xs y z.1 (HK.out.below z.2)⟩
  clear hk hB hc c0 c1 c2 c3
  cases b1 with
  | false =>
    have HA : Aside0 (pairAt xs x y = false) := ⟨by unfold pairAt; rw [← hb1]; rfl⟩
    clear hb1 hb2
    go_enter Try.func178, Try.ntmps178
    go_wp2
    rw [← hw1]
    clear hw1
    refine wp_region_ext (by kernel_rfl) (by kernel_rfl) ?_
    repeat (go_big_quiet_step ((first | (go_at_call 100; with_reducible exact Calls.ext_of (HHX.out _)) | (go_at_call 100; with_reducible exact Calls.ext_of (HHY.out _)))))
    refine wpQuiet_nil ?_
    rintro _ ⟨z, rfl⟩
    have hbz := z.2
    go_wp2
    go_ret
    exact ⟨by rw [HA.out]; rfl, HB.out.trans (hbz.mono HB.out.size)⟩
  | true =>
    cases b2 with
    | false =>
      have HA : Aside0 (pairAt xs x y = false) := ⟨by unfold pairAt; rw [← hb1, ← hb2]; rfl⟩
      clear hb1 hb2
      go_enter Try.func178, Try.ntmps178
      go_wp2
      rw [← hw1]
      clear hw1
      refine wp_region_ext (by kernel_rfl) (by kernel_rfl) ?_
      repeat (go_big_quiet_step ((first | (go_at_call 100; with_reducible exact Calls.ext_of (HHX.out _)) | (go_at_call 100; with_reducible exact Calls.ext_of (HHY.out _)))))
      refine wpQuiet_nil ?_
      rintro _ ⟨z, rfl⟩
      have hbz := z.2
      go_wp2
      go_ret
      exact ⟨by rw [HA.out]; rfl, HB.out.trans (hbz.mono HB.out.size)⟩
    | true =>
      obtain ⟨zx, rfl, hx1, hx2⟩ := HC.out.nat (of_decide_eq_true hb1.symm)
      obtain ⟨zy, rfl, hy1, hy2⟩ := HC.out.nat (of_decide_eq_true hb2.symm)
      obtain ⟨I0, hI0⟩ : ∃ b, b = decide (zx &&& zy = zx) := ⟨_, rfl⟩
      obtain ⟨sx, hsx⟩ : ∃ s, s = ones zx := ⟨_, rfl⟩
      obtain ⟨sy, hsy⟩ : ∃ s, s = ones zy := ⟨_, rfl⟩
      have hle := ones_le zx (by omega)
      rw [← hsx] at hle
      have HA : Aside0 (pairAt xs zx zy = (I0 && ((sy : Int) == (sx : Int) + 1))) := ⟨by unfold pairAt; rw [← hb1, ← hb2, Int.toNat_natCast, Int.toNat_natCast, ← hI0, ← hsx, ← hsy, Bool.true_and, Bool.true_and]; congr 1; rw [Bool.eq_iff_iff, beq_iff_eq, beq_iff_eq]; omega⟩
      have hand := and_i64 zx zy (by omega) (by omega)
      have hin : (((zx &&& zy : Nat) : Int) == (zx : Int)) = I0 := by rw [hI0, Bool.eq_iff_iff, beq_iff_eq, decide_eq_true_eq]; omega
      have HSX : Aside0 (∀ z : Ext w1, Calls Try.prog 101 #[.int .i64 (zx : Nat)] z.1 fun e w' => e = .returned (.int .i64 (sx : Nat)) ∧ Below z.1.heap.size z.1 w') := ⟨fun z => by rw [hsx]; exact specOnes zx (by omega) z.1⟩
      have HSY : Aside0 (∀ z : Ext w1, Calls Try.prog 101 #[.int .i64 (zy : Nat)] z.1 fun e w' => e = .returned (.int .i64 (sy : Nat)) ∧ Below z.1.heap.size z.1 w') := ⟨fun z => by rw [hsy]; exact specOnes zy (by omega) z.1⟩
      clear hb1 hb2 hI0 hsx hsy hx1 hx2 hy1 hy2
      cases I0 with
      | false =>
        rw [Bool.false_and] at HA
        go_enter Try.func178, Try.ntmps178
        go_wp2
        rw [← hw1]
        clear hw1
        refine wp_region_ext (by kernel_rfl) (by kernel_rfl) ?_
        repeat (go_big_quiet_step ((first | (go_at_call 100; with_reducible exact Calls.ext_of (HHX.out _)) | (go_at_call 100; with_reducible exact Calls.ext_of (HHY.out _)))))
        refine wpQuiet_nil ?_
        rintro _ ⟨z, rfl⟩
        have hbz := z.2
        go_wp2
        go_ret
        exact ⟨by rw [HA.out]; rfl, HB.out.trans (hbz.mono HB.out.size)⟩
      | true =>
        rw [Bool.true_and] at HA
        have hsw : IntKind.i64.wrap ((sx : Int) + 1) = (sx : Int) + 1 := IntWalk.i64_in _ (by omega)
        go_enter Try.func178, Try.ntmps178
        go_wp2
        rw [← hw1]
        clear hw1
        refine wp_region_ext (by kernel_rfl) (by kernel_rfl) ?_
        repeat (go_big_quiet_step ((first | (go_at_call 100; with_reducible exact Calls.ext_of (HHX.out _)) | (go_at_call 100; with_reducible exact Calls.ext_of (HHY.out _)) | (go_at_call 101; with_reducible exact Calls.ext_of (HSY.out _)) | (go_at_call 101; with_reducible exact Calls.ext_of (HSX.out _)))))
        refine wpQuiet_nil ?_
        rintro _ ⟨z, rfl⟩
        have hbz := z.2
        go_wp2
        go_ret
        exact ⟨by rw [HA.out]; rfl, HB.out.trans (hbz.mono HB.out.size)⟩
end Go.Proofs.Ytcbkchnfjeegmaa.H

namespace Go.Proofs.Ytcbkchnfjeegmaa.H
open Go.RowKit Go.Proofs.YtcbkchnfjeegmaaW.PrintWords Go.Proofs.YtcbkchnfjeegmaaW.PrintLast Go.Proofs.YtcbkchnfjeegmaaW.PrintMore
set_option linter.unusedVariables false
set_option linter.unusedSimpArgs false

def lessP (x y x' y' : Int) : Bool := decide (x < x') || ((x == x') && decide (y < y'))
def cmpI (x y : Int) : Int := if x < y then -1 else if x = y then 0 else 1
def cmpP (x y x' y' : Int) : Int := if x = x' then cmpI y y' else cmpI x x'
theorem cmpP_less (x y x' y' : Int) : decide (0 ≤ cmpP x y x' y') = !lessP x y x' y' := by
  have h : (0 ≤ cmpP x y x' y') ↔ ¬ (x < x' ∨ (x = x' ∧ y < y')) := by
    unfold cmpP cmpI
    split <;> split <;> (try split) <;> omega
  rw [Bool.eq_iff_iff, decide_eq_true_eq, h]
  unfold lessP
  simp only [Bool.not_eq_true', Bool.or_eq_false_iff, decide_eq_false_iff_not, Bool.and_eq_false_iff, beq_eq_false_iff_ne]
  omega
theorem cmpCompare (x y : Int) (w : World) : Calls Try.prog 160 #[.int .i64 x, .int .i64 y] w fun e w' => e = .returned (.int .i64 (cmpI x y)) ∧ Below w.heap.size w w' := by
  rcases (by omega : x < y ∨ x = y ∨ y < x) with h | h | h
  · have HA : Aside0 (cmpI x y = -1) := ⟨by unfold cmpI; rw [if_pos h]⟩
    have h1 : decide (x < y) = true := decide_eq_true h
    go_enter Try.func160, Try.ntmps160
    go_wp2_with (first | (go_at_call 200; refine (cmpNaN _ w).mono ?_; rintro e w2 ⟨rfl, hb⟩) | (go_at_call 200; refine (cmpNaN _ w2).mono ?_; rintro e w3 ⟨rfl, hb2⟩))
    go_ret
    exact ⟨by rw [HA.out]; rfl, hb.trans (hb2.mono hb.size)⟩
  · have HA : Aside0 (cmpI x y = 0) := ⟨by unfold cmpI; rw [if_neg (by omega), if_pos h]⟩
    have h1 : decide (x < y) = false := decide_eq_false (by omega)
    have h2 : decide (y < x) = false := decide_eq_false (by omega)
    go_enter Try.func160, Try.ntmps160
    go_wp2_with (first | (go_at_call 200; refine (cmpNaN _ w).mono ?_; rintro e w2 ⟨rfl, hb⟩) | (go_at_call 200; refine (cmpNaN _ w2).mono ?_; rintro e w3 ⟨rfl, hb2⟩))
    go_ret
    exact ⟨by rw [HA.out]; rfl, hb.trans (hb2.mono hb.size)⟩
  · have HA : Aside0 (cmpI x y = 1) := ⟨by unfold cmpI; rw [if_neg (by omega), if_neg (by omega)]⟩
    have h1 : decide (x < y) = false := decide_eq_false (by omega)
    have h2 : decide (y < x) = true := decide_eq_true h
    go_enter Try.func160, Try.ntmps160
    go_wp2_with (first | (go_at_call 200; refine (cmpNaN _ w).mono ?_; rintro e w2 ⟨rfl, hb⟩) | (go_at_call 200; refine (cmpNaN _ w2).mono ?_; rintro e w3 ⟨rfl, hb2⟩))
    go_ret
    exact ⟨by rw [HA.out]; rfl, hb.trans (hb2.mono hb.size)⟩

set_option maxRecDepth 100000 in
set_option maxHeartbeats 4000000 in
theorem specLess (x y x' y' : Int) (w : World) : Calls Try.prog 179 #[.agg #[.int .i64 x, .int .i64 y], .agg #[.int .i64 x', .int .i64 y']] w fun e w' => e = .returned (.bool (lessP x y x' y')) ∧ Below w.heap.size w w' := by
  obtain ⟨w1, hw1⟩ : ∃ w1, w1 = (w.alloc (.cells #[.int .i64 x, .int .i64 y] 83)).alloc (.cells #[.int .i64 x', .int .i64 y'] 83) := ⟨_, rfl⟩
  have hB : Below w.heap.size w w1 := by rw [hw1]; exact ((Below.refl _ w).alloc (Nat.le_refl _) _).alloc (by simp) _
  have c0 : w1.cell? ⟨w.heap.size, 0, none⟩ = some (.int .i64 x) := by rw [hw1]; simp
  have c1 : w1.cell? ⟨w.heap.size, 1, none⟩ = some (.int .i64 y) := by rw [hw1]; simp
  have c2 : w1.cell? ⟨w.heap.size + 1, 0, none⟩ = some (.int .i64 x') := by rw [hw1]; simp
  have c3 : w1.cell? ⟨w.heap.size + 1, 1, none⟩ = some (.int .i64 y') := by rw [hw1]; simp
  have HB := Aside0.mk hB
  clear hB
  have HL : Aside0 (lessP x y x' y' = (decide (x < x') || ((x == x') && decide (y < y')))) := ⟨rfl⟩
  cases h1 : decide (x < x') with
  | true =>
    rw [h1, Bool.true_or] at HL
    go_enter Try.func179, Try.ntmps179
    go_wp2
    rw [← hw1]
    clear hw1
    go_wp2
    go_ret
    exact ⟨by rw [HL.out]; rfl, HB.out⟩
  | false =>
    rw [h1, Bool.false_or] at HL
    cases h2 : (x == x') with
    | false =>
      rw [h2, Bool.false_and] at HL
      go_enter Try.func179, Try.ntmps179
      go_wp2
      rw [← hw1]
      clear hw1
      go_wp2
      go_ret
      exact ⟨by rw [HL.out]; rfl, HB.out⟩
    | true =>
      rw [h2, Bool.true_and] at HL
      go_enter Try.func179, Try.ntmps179
      go_wp2
      rw [← hw1]
      clear hw1
      go_wp2
      go_ret
      exact ⟨by rw [HL.out]; rfl, HB.out⟩

theorem cmpI_zero {x y : Int} (h : cmpI x y = 0) : x = y := by unfold cmpI at h; split at h <;> (try split at h) <;> omega
theorem cmpI_self (x : Int) : cmpI x x = 0 := by unfold cmpI; rw [if_neg (by omega), if_pos rfl]
set_option maxRecDepth 100000 in
set_option maxHeartbeats 4000000 in
theorem compare2 (g g' : Nat) (x y x' y' : Int) (w : World) (c0 : w.cell? ⟨g, 0, none⟩ = some (.int .i64 x)) (c1 : w.cell? ⟨g, 1, none⟩ = some (.int .i64 y)) (c2 : w.cell? ⟨g', 0, none⟩ = some (.int .i64 x')) (c3 : w.cell? ⟨g', 1, none⟩ = some (.int .i64 y')) :
    Calls Try.prog 98 #[.slice (some ⟨g, 0, none⟩) 2 2, .slice (some ⟨g', 0, none⟩) 2 2] w fun e w' => e = .returned (.int .i64 (cmpP x y x' y')) ∧ Below w.heap.size w w' := by
  have C0 := Aside0.mk c0
  have C1 := Aside0.mk c1
  have C2 := Aside0.mk c2
  have C3 := Aside0.mk c3
  clear c0 c1 c2 c3
  go_enter Try.func98, Try.ntmps98
  go_wp2
  go_loopw [11] (fun s wr => ∃ i : Nat, s = .int .i64 i ∧ i ≤ 2 ∧ Aside0 (0 < i → x = x') ∧ Aside0 (1 < i → y = y') ∧ Aside0 (Below w.heap.size w wr)) (fun s _ => 2 - (intOf s).toNat)
  case atStart => exact ⟨0, rfl, by decide, ⟨fun h => absurd h (by decide)⟩, ⟨fun h => absurd h (by decide)⟩, ⟨Below.refl _ _⟩⟩
  case round =>
    obtain ⟨i, rfl, hi, H0, H1, HBw⟩ := hrel
    have c0 := pw_cell_below HBw.out C0.out
    have c1 := pw_cell_below HBw.out C1.out
    have c2 := pw_cell_below HBw.out C2.out
    have c3 := pw_cell_below HBw.out C3.out
    rcases (by omega : i = 0 ∨ i = 1 ∨ i = 2) with rfl | rfl | rfl
    · have HE : Aside0 ((cmpI x x' != 0) = false → x = x') := ⟨fun h => cmpI_zero (by simpa using h)⟩
      have HN : Aside0 ((cmpI x x' != 0) = true → cmpP x y x' y' = cmpI x x') := ⟨fun h => by unfold cmpP; rw [if_neg]; rintro rfl; rw [cmpI_self] at h; exact absurd h (by decide)⟩
      have HC := Aside0.mk (fun W => cmpCompare x x' W)
      obtain ⟨C, hC⟩ : ∃ C, C = cmpI x x' := ⟨_, rfl⟩
      rw [← hC] at HE HN HC
      clear hC
      cases hq : (C != 0) with
      | true =>
        have HA := Aside0.mk (HN.out hq)
        go_wp2_with (first | (go_at_call 160; refine (HC.out _).mono ?_; rintro e w3 ⟨rfl, hb⟩; have HB3 := Aside0.mk (HBw.out.trans (hb.mono HBw.out.size)); clear hb))
        go_ret
        exact ⟨by rw [HA.out]; rfl, HB3.out⟩
      | false =>
        have HX := Aside0.mk (HE.out hq)
        go_wp2_with (first | (go_at_call 160; refine (HC.out _).mono ?_; rintro e w3 ⟨rfl, hb⟩; have HB3 := Aside0.mk (HBw.out.trans (hb.mono HBw.out.size)); clear hb))
        go_roundw
        case rel => exact ⟨1, by go_num, by decide, ⟨fun _ => HX.out⟩, ⟨fun h => absurd h (by decide)⟩, HB3⟩
        case measure => simp [intOf]
    · have HE : Aside0 ((cmpI y y' != 0) = false → y = y') := ⟨fun h => cmpI_zero (by simpa using h)⟩
      have HN : Aside0 (cmpP x y x' y' = cmpI y y') := ⟨by unfold cmpP; rw [if_pos (H0.out (by decide))]⟩
      have HC := Aside0.mk (fun W => cmpCompare y y' W)
      obtain ⟨C, hC⟩ : ∃ C, C = cmpI y y' := ⟨_, rfl⟩
      rw [← hC] at HE HN HC
      clear hC
      cases hq : (C != 0) with
      | true =>
        go_wp2_with (first | (go_at_call 160; refine (HC.out _).mono ?_; rintro e w3 ⟨rfl, hb⟩; have HB3 := Aside0.mk (HBw.out.trans (hb.mono HBw.out.size)); clear hb))
        go_ret
        exact ⟨by rw [HN.out]; rfl, HB3.out⟩
      | false =>
        have HX := Aside0.mk (HE.out hq)
        go_wp2_with (first | (go_at_call 160; refine (HC.out _).mono ?_; rintro e w3 ⟨rfl, hb⟩; have HB3 := Aside0.mk (HBw.out.trans (hb.mono HBw.out.size)); clear hb))
        go_roundw
        case rel => exact ⟨2, by go_num, by decide, ⟨fun _ => H0.out (by decide)⟩, ⟨fun _ => HX.out⟩, HB3⟩
        case measure => simp [intOf]
    · have HA : Aside0 (cmpP x y x' y' = 0) := ⟨by unfold cmpP; rw [if_pos (H0.out (by decide)), H1.out (by decide)]; exact cmpI_self _⟩
      go_wp2
      go_ret
      exact ⟨by rw [HA.out]; rfl, HBw.out⟩

set_option maxRecDepth 100000 in
set_option maxHeartbeats 4000000 in
theorem comparePairs (x y x' y' : Int) (w : World) : Calls Try.prog 92 #[.agg #[.int .i64 x, .int .i64 y], .agg #[.int .i64 x', .int .i64 y']] w fun e w' => e = .returned (.int .i64 (cmpP x y x' y')) ∧ Below w.heap.size w w' := by
  obtain ⟨w1, hw1⟩ : ∃ w1, w1 = (w.alloc (.cells #[.int .i64 x, .int .i64 y] 83)).alloc (.cells #[.int .i64 x', .int .i64 y'] 83) := ⟨_, rfl⟩
  have hB : Below w.heap.size w w1 := by rw [hw1]; exact ((Below.refl _ w).alloc (Nat.le_refl _) _).alloc (by simp) _
  have c0 : w1.cell? ⟨w.heap.size, 0, none⟩ = some (.int .i64 x) := by rw [hw1]; simp
  have c1 : w1.cell? ⟨w.heap.size, 1, none⟩ = some (.int .i64 y) := by rw [hw1]; simp
  have c2 : w1.cell? ⟨w.heap.size + 1, 0, none⟩ = some (.int .i64 x') := by rw [hw1]; simp
  have c3 : w1.cell? ⟨w.heap.size + 1, 1, none⟩ = some (.int .i64 y') := by rw [hw1]; simp
  have HB := Aside0.mk hB
  have HC : Aside0 (∀ z : Ext w1, Calls Try.prog 98 #[.slice (some ⟨w.heap.size, 0, none⟩) 2 2, .slice (some ⟨w.heap.size + 1, 0, none⟩) 2 2] z.1 fun e w' => e = .returned (.int .i64 (cmpP x y x' y')) ∧ Below z.1.heap.size z.1 w') := ⟨fun z => compare2 _ _ x y x' y' z.1 (Ext.cell c0 z) (Ext.cell c1 z) (Ext.cell c2 z) (Ext.cell c3 z)⟩
  clear hB c0 c1 c2 c3
  go_enter Try.func92, Try.ntmps92
  go_wp2
  rw [← hw1]
  clear hw1
  refine wp_region_ext (by kernel_rfl) (by kernel_rfl) ?_
  repeat (go_big_quiet_step (first | (go_at_call 98; with_reducible exact Calls.ext_of (HC.out _))))
  refine wpQuiet_nil ?_
  rintro _ ⟨z, rfl⟩
  have hbz := z.2
  go_wp2
  go_ret
  exact ⟨rfl, HB.out.trans (hbz.mono HB.out.size)⟩
end Go.Proofs.Ytcbkchnfjeegmaa.H
