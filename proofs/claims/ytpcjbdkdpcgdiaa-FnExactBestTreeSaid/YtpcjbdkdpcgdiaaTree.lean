/- Trees of questions: what isTree and l10Tree answer. -/
import Derived.Test.YtpcjbdkdpcgdiaaBase
namespace Go.Proofs.Ytpcjbdkdpcgdiaa.H
open Go.RowKit Go.Proofs.YtpcjbdkdpcgdiaaW.PrintWords Go.Proofs.YtpcjbdkdpcgdiaaW.PrintLast Go.Proofs.YtpcjbdkdpcgdiaaW.PrintMore
set_option linter.unusedVariables false
set_option linter.unusedSimpArgs false

/-- the question at a place (from 1 on) -/
def qAt (t : List Int) (p : Nat) : Int := t.getD (p - 1) 0
/-- a place above that asks the same -/
def clash (t : List Int) (p : Nat) (a : Nat) : Bool :=
  if h : a = 0 then false else (qAt t a == qAt t p) || clash t p (a / 2)
termination_by a
decreasing_by omega
def inTree (n : Nat) (v : Int) : Bool := decide (0 ≤ v) && decide (v ≤ (n : Int) - 1)
def treeOk (n : Nat) (t : List Int) : Bool :=
  decide (t.length = 2 ^ n - 1) && (t.all (inTree n) && (List.range t.length).all fun i => !clash t (i + 1) ((i + 1) / 2))

theorem treeOk_true {n N : Nat} {t : List Int} (h : t.length + 1 = N) (hN : N = 2 ^ n) (hall : t.all (inTree n) = true) (HI : ∀ j, j < t.length → clash t (j + 1) ((j + 1) / 2) = false) : treeOk n t = true := by
  unfold treeOk
  rw [hall, Bool.and_eq_true, decide_eq_true_eq]
  refine ⟨by omega, ?_⟩
  rw [Bool.true_and, List.all_eq_true]
  intro j hj
  rw [HI j (List.mem_range.1 hj)]
  rfl
theorem treeOk_false {n : Nat} {t : List Int} {i : Nat} (hi : i < t.length) (h : clash t (i + 1) ((i + 1) / 2) = true) : treeOk n t = false := by
  unfold treeOk
  have : (List.range t.length).all (fun i => !clash t (i + 1) ((i + 1) / 2)) = false := by
    rw [List.all_eq_false]
    exact ⟨i, List.mem_range.2 hi, by rw [h]; decide⟩
  rw [this, Bool.and_false, Bool.and_false]
theorem treeOk_false2 {n : Nat} {t : List Int} {i : Nat} (hi : i < t.length) (h : inTree n (qAt t (i + 1)) = false) : treeOk n t = false := by
  unfold treeOk
  have : t.all (inTree n) = false := by
    rw [List.all_eq_false]
    refine ⟨t[i], List.getElem_mem hi, ?_⟩
    simp only [qAt, Nat.add_sub_cancel, List.getD_eq_getElem?_getD, List.getElem?_eq_getElem hi, Option.getD_some] at h
    rw [h]; decide
  rw [this, Bool.false_and, Bool.and_false]
theorem inTree_all {n : Nat} {t : List Int} (h : ∀ j, j < t.length → inTree n (qAt t (j + 1)) = true) : t.all (inTree n) = true := by
  rw [List.all_eq_true]
  intro x hx
  obtain ⟨j, hj, rfl⟩ := List.getElem_of_mem hx
  have := h j hj
  simpa only [qAt, Nat.add_sub_cancel, List.getD_eq_getElem?_getD, List.getElem?_eq_getElem hj, Option.getD_some] using this
theorem clash_step {t : List Int} {p a : Nat} (h : 0 < a) : clash t p a = ((qAt t a == qAt t p) || clash t p (a / 2)) := by
  rw [clash, dif_neg (by omega)]
theorem clash_zero (t : List Int) (p : Nat) : clash t p 0 = false := by
  rw [clash, dif_pos rfl]

set_option maxHeartbeats 1000000 in
theorem isTree1 (w : World) (b : Nat) (n : Nat) (hn : 1 ≤ n ∧ n ≤ 6) (hc : w.cell? ⟨b, 0, none⟩ = some (.int .i64 n)) :
    PredI w (.func (.func 86) #[] #[.pointer (some ⟨b, 0, none⟩)]) (inTree n) (fun _ => True) := by
  refine ⟨_, _, _, rfl, Enters.mk' Try.func86 rfl rfl, fun w1 x hb hx => ?_⟩
  have hcell : w1.cell? ⟨b, 0, none⟩ = some (.int .i64 n) := pw_cell_below hb hc
  clear hb hc
  show Calls _ _ #[_, _] _ _
  obtain ⟨h1, h2⟩ := hn
  go_enter Try.func86, Try.ntmps86
  go_wp2
  all_goals go_ret
  all_goals exact ⟨by simp [inTree, *] <;> omega, Below.refl _ _⟩

set_option maxHeartbeats 1000000 in
theorem isTree (v : Value) (t : List Int) (n : Nat) (hn : 1 ≤ n ∧ n ≤ 6) (w : World) (hr : ReadI w v t) :
    Calls Try.prog 57 #[.int .i64 n, v] w fun e w' => e = .returned (.bool (treeOk n t)) ∧ Below w.heap.size w w' := by
  have hba : Below w.heap.size w (w.alloc (.cells #[.int .i64 n] 2)) := Below.alloc (Below.refl _ _) (Nat.le_refl _) _
  have HV := Aside0.mk (hr.below hba)
  obtain ⟨A, c, rfl, hc, hr⟩ := hr
  have HR := Aside0.mk (Kd.C_below hr hba)
  have HB := Aside0.mk hba
  clear hr hc hba
  obtain ⟨h1, h2⟩ := hn
  obtain ⟨N, hN⟩ : ∃ N : Nat, N = 2 ^ n := ⟨_, rfl⟩
  have hsh : wrap64 ((2 : Int) ^ n) = (N : Int) := by
    rcases (by omega : n = 1 ∨ n = 2 ∨ n = 3 ∨ n = 4 ∨ n = 5 ∨ n = 6) with rfl | rfl | rfl | rfl | rfl | rfl <;> subst hN <;> (unfold wrap64; decide)
  have hN1 : 2 ≤ N ∧ N ≤ 64 := by
    rcases (by omega : n = 1 ∨ n = 2 ∨ n = 3 ∨ n = 4 ∨ n = 5 ∨ n = 6) with rfl | rfl | rfl | rfl | rfl | rfl <;> subst hN <;> decide
  have HN := Aside0.mk hN
  clear hN
  by_cases hl : t.length + 1 = N
  · have hl1 : ((t.length : Int) != (N : Int) - 1) = false := by simp; omega
    have HL := Aside0.mk hl
    clear hl
    go_enter Try.func57, Try.ntmps57
    go_wp2
    have hcell : ∀ x : Ext (w.alloc (.cells #[.int .i64 n] 2)), x.1.cell? ⟨w.heap.size, 0, none⟩ = some (.int .i64 n) := fun x => Ext.cell (by simp) x
    refine wp_region_ext (by kernel_rfl) (by kernel_rfl) ?_
    repeat (go_big_quiet_step ((first | (go_at_call 84; exact Calls.ext_of (length_any _ _ _ _)) | (go_at_call 85; exact Calls.ext_of (areAll _ _ _ (inTree n) (fun _ => True) _ (HV.out.below (Subtype.property _)) ((isTree1 _ _ n ⟨h1, h2⟩ (by simp)).below (Subtype.property _)) (fun _ _ => trivial))))))
    refine wpQuiet_nil ?_
    rintro _ ⟨x, rfl⟩
    have HX : Aside0 (Below w.heap.size w x.1) := ⟨HB.out.trans (x.2.mono HB.out.size)⟩
    have HRx := Aside0.mk (Kd.C_below HR.out x.2)
    have hcx := hcell x
    clear hcell HR HB HV
    obtain ⟨wx, hxw⟩ : ∃ wx, wx = x.1 := ⟨_, rfl⟩
    rw [← hxw] at HX HRx hcx ⊢
    clear hxw x
    cases hall : t.all (inTree n) with
    | false =>
      go_wp2
      go_ret
      exact ⟨by simp [treeOk, hall], HX.out⟩
    | true =>
      go_wp2
      go_loopw [5] (fun v wr => ∃ i : Nat, v = .int .i64 ((i : Int) + 1) ∧ i ≤ t.length ∧ Aside0 (∀ j, j < i → clash t (j + 1) ((j + 1) / 2) = false) ∧ Aside0 (Below w.heap.size w wr) ∧ Aside0 (Below wx.heap.size wx wr)) (fun v _ => t.length + 1 - (intOf v).toNat)
      case atStart => exact ⟨0, by simp, Nat.zero_le _, ⟨fun j hj => absurd hj (Nat.not_lt_zero _)⟩, HX, ⟨Below.refl _ _⟩⟩
      case round =>
        obtain ⟨i, rfl, hi, HI, HB, HBx⟩ := hrel
        have hcr : wr.cell? ⟨w.heap.size, 0, none⟩ = some (.int .i64 n) := pw_cell_below HBx.out hcx
        by_cases hlt : i < t.length
        · have hlt' : (i : Int) + 1 < N := by have := HL.out; omega
          go_wp2
          go_loopw [6] (fun v wr2 => ∃ a : Nat, v = .int .i64 a ∧ a ≤ i ∧ Aside0 (clash t (i + 1) ((i + 1) / 2) = clash t (i + 1) a) ∧ Aside0 (Below w.heap.size w wr2) ∧ Aside0 (Below wx.heap.size wx wr2)) (fun v _ => (intOf v).toNat)
          case atStart => exact ⟨(i + 1) / 2, by simp, by omega, ⟨rfl⟩, HB, HBx⟩
          case round =>
            obtain ⟨a, rfl, ha, HA, HB2, HBx2⟩ := hrel
            by_cases h0 : 0 < a
            · have h0' : (0 : Int) < a := by omega
              obtain ⟨ad, e1, hcell1⟩ := Kd.at_int (Kd.C_below HRx.out HBx2.out) (i : Int) (by omega) (by omega)
              cases e1
              obtain ⟨ad', e2, hcell2⟩ := Kd.at_int (Kd.C_below HRx.out HBx2.out) ((a - 1 : Nat) : Int) (by omega) (by omega)
              cases e2
              have hq1 : rd t (i : Int) = qAt t (i + 1) := by simp [rd, qAt]
              have hq2 : rd t ((a - 1 : Nat) : Int) = qAt t a := by simp [rd, qAt]
              rw [hq1] at hcell1
              rw [hq2] at hcell2
              simp only [Int.toNat_natCast] at hcell1 hcell2
              have hi1 : ((i : Int) + 1 - 1).toNat = i := by omega
              have ha1 : ((a : Int) - 1).toNat = a - 1 := by omega
              have hi2 : (0 : Int) ≤ (i : Int) := by omega
              have hi3 : (i : Int) < t.length := by omega
              have ha2 : (0 : Int) ≤ (a : Int) - 1 := by omega
              have ha3 : (a : Int) - 1 < t.length := by omega
              clear hq1 hq2
              have HST := Aside0.mk (clash_step (t := t) (p := i + 1) (a := a) (by omega))
              cases hqq : (qAt t a == qAt t (i + 1)) with
              | true =>
                go_wp2
                go_quiet (fail)
                go_wp2
                go_ret
                exact ⟨by rw [treeOk_false (n := n) (i := i) (by omega) (by rw [HA.out, HST.out, hqq]; rfl)]; rfl, below_drewN HB2.out _⟩
              | false =>
                go_wp2
                go_quiet (fail)
                go_wp2
                go_roundw
                case rel => exact ⟨a / 2, by go_num, by omega, ⟨by rw [HA.out, HST.out, hqq]; rfl⟩, ⟨below_drewN HB2.out _⟩, ⟨below_drewN HBx2.out _⟩⟩
                case measure => simp [intOf]; omega
            · have h0' : (a : Int) ≤ 0 := by omega
              have ea : a = 0 := by omega
              have HE := Aside0.mk ea
              clear ea
              go_wp2
              go_roundw
              case rel => exact ⟨i + 1, by go_num, by omega, ⟨fun j hj => by
                rcases Nat.lt_succ_iff_lt_or_eq.1 hj with h | rfl
                · exact HI.out j h
                · rw [HA.out, HE.out, clash_zero]⟩, HB2, HBx2⟩
              case measure => simp [intOf]; omega
        · have hlt' : (N : Int) ≤ (i : Int) + 1 := by have := HL.out; omega
          go_wp2
          go_ret
          exact ⟨by rw [treeOk_true HL.out HN.out hall (fun j hj => HI.out j (by omega))]; rfl, HB.out⟩
  · have hl1 : ((t.length : Int) != (N : Int) - 1) = true := by simp; omega
    go_enter Try.func57, Try.ntmps57
    go_wp2
    have hcell : ∀ x : Ext (w.alloc (.cells #[.int .i64 n] 2)), x.1.cell? ⟨w.heap.size, 0, none⟩ = some (.int .i64 n) := fun x => Ext.cell (by simp) x
    refine wp_region_ext (by kernel_rfl) (by kernel_rfl) ?_
    repeat (go_big_quiet_step ((first | (go_at_call 84; exact Calls.ext_of (length_any _ _ _ _)))))
    refine wpQuiet_nil ?_
    rintro _ ⟨x, rfl⟩
    go_wp2
    go_ret
    exact ⟨by simp [treeOk]; intro h; have := HN.out; omega, HB.out.trans (x.2.mono HB.out.size)⟩

set_option maxHeartbeats 1000000 in
theorem specTree (v : Value) (t : List Int) (n : Nat) (hn : 1 ≤ n ∧ n ≤ 6) (w : World) (hr : ReadI w v t) :
    Calls Try.prog 83 #[.int .i64 n, v] w fun e w' => e = .returned (.bool (treeOk n t)) ∧ Below w.heap.size w w' := by
  obtain ⟨A, c, rfl, hc, hr⟩ := hr
  have HR := Aside0.mk hr
  clear hr hc
  obtain ⟨h1, h2⟩ := hn
  obtain ⟨N, hN⟩ : ∃ N : Nat, N = 2 ^ n := ⟨_, rfl⟩
  have hsh : wrap64 ((2 : Int) ^ n) = (N : Int) := by
    rcases (by omega : n = 1 ∨ n = 2 ∨ n = 3 ∨ n = 4 ∨ n = 5 ∨ n = 6) with rfl | rfl | rfl | rfl | rfl | rfl <;> subst hN <;> (unfold wrap64; decide)
  have hN1 : 2 ≤ N ∧ N ≤ 64 := by
    rcases (by omega : n = 1 ∨ n = 2 ∨ n = 3 ∨ n = 4 ∨ n = 5 ∨ n = 6) with rfl | rfl | rfl | rfl | rfl | rfl <;> subst hN <;> decide
  have HN := Aside0.mk hN
  clear hN
  by_cases hl : t.length + 1 = N
  · have hl1 : ((t.length : Int) != (N : Int) - 1) = false := by simp; omega
    have HL := Aside0.mk hl
    clear hl
    go_enter Try.func83, Try.ntmps83
    go_wp2
    simp only [hsh]
    clear hsh
    go_loopw [5] (fun v wr => ∃ i : Nat, v = .int .i64 ((i : Int) + 1) ∧ i ≤ t.length ∧ Aside0 (∀ j, j < i → inTree n (qAt t (j + 1)) = true ∧ clash t (j + 1) ((j + 1) / 2) = false) ∧ Aside0 (Below w.heap.size w wr)) (fun v _ => t.length + 1 - (intOf v).toNat)
    case atStart => exact ⟨0, by simp, Nat.zero_le _, ⟨fun j hj => absurd hj (Nat.not_lt_zero _)⟩, ⟨Below.refl _ _⟩⟩
    case round =>
      obtain ⟨i, rfl, hi, HI, HB⟩ := hrel
      by_cases hlt : i < t.length
      · have hlt' : (i : Int) + 1 ≤ t.length := by omega
        have htl : t.length ≤ 63 := by have := HL.out; omega
        obtain ⟨ad, y, e1, hcell1, HY⟩ := ReadI.get (Kd.C_below HR.out HB.out) hlt
        cases e1
        have HQ : Aside0 (qAt t (i + 1) = y) := ⟨HY.out⟩
        cases hin : inTree n y with
        | false =>
          have hin' : (decide ((0 : Int) ≤ y) && decide (y ≤ (n : Int) - 1)) = false := hin
          have HI2 := Aside0.mk hin
          clear hin
          go_wp2_with (first | (go_at_call 52; refine (specIn _ _ _ _).mono ?_; rintro e w' ⟨rfl, hb⟩; rw [hin']))
          go_ret
          exact ⟨by rw [treeOk_false2 (n := n) (i := i) hlt (by rw [HQ.out]; exact HI2.out)]; rfl, HB.out.trans (hb.mono HB.out.size)⟩
        | true =>
          have hin' : (decide ((0 : Int) ≤ y) && decide (y ≤ (n : Int) - 1)) = true := hin
          have HI2 := Aside0.mk hin
          clear hin
          go_wp2_with (first | (go_at_call 52; refine (specIn _ _ _ _).mono ?_; rintro e w' ⟨rfl, hb⟩; rw [hin']; have HBB := Aside0.mk (HB.out.trans (hb.mono HB.out.size)); clear hb))
          go_loopw [6] (fun v wr2 => ∃ a : Nat, v = .int .i64 a ∧ a ≤ i ∧ Aside0 (clash t (i + 1) ((i + 1) / 2) = clash t (i + 1) a) ∧ Aside0 (Below w.heap.size w wr2)) (fun v _ => (intOf v).toNat)
          case atStart => exact ⟨(i + 1) / 2, by simp, by omega, ⟨rfl⟩, HBB⟩
          case round =>
            obtain ⟨a, rfl, ha, HA, HB2⟩ := hrel
            by_cases h0 : 0 < a
            · have h0' : (0 : Int) < a := by omega
              obtain ⟨ad, x1, e1, hcell1, HX1⟩ := ReadI.get (Kd.C_below HR.out HB2.out) hlt
              cases e1
              obtain ⟨ad', x2, e2, hcell2, HX2⟩ := ReadI.get (Kd.C_below HR.out HB2.out) (i := a - 1) (by omega)
              cases e2
              have hi1 : ((i : Int) + 1 - 1).toNat = i := by omega
              have ha1 : ((a : Int) - 1).toNat = a - 1 := by omega
              have hi2 : (0 : Int) ≤ (i : Int) := by omega
              have hi3 : (i : Int) < t.length := by omega
              have ha2 : (0 : Int) ≤ (a : Int) - 1 := by omega
              have ha3 : (a : Int) - 1 < t.length := by omega
              have HST := Aside0.mk (clash_step (t := t) (p := i + 1) (a := a) (by omega))
              have HQ1 : Aside0 (qAt t (i + 1) = x1) := ⟨HX1.out⟩
              have HQ2 : Aside0 (qAt t a = x2) := ⟨HX2.out⟩
              cases hqq : (x2 == x1) with
              | true =>
                go_wp2
                go_quiet (fail)
                go_wp2
                go_ret
                exact ⟨by rw [treeOk_false (n := n) (i := i) hlt (by rw [HA.out, HST.out, HQ1.out, HQ2.out, hqq]; rfl)]; rfl, below_drewN HB2.out _⟩
              | false =>
                go_wp2
                go_quiet (fail)
                go_wp2
                go_roundw
                case rel => exact ⟨a / 2, by go_num, by omega, ⟨by rw [HA.out, HST.out, HQ1.out, HQ2.out, hqq]; rfl⟩, ⟨below_drewN HB2.out _⟩⟩
                case measure => simp [intOf]; omega
            · have h0' : (a : Int) ≤ 0 := by omega
              have ea : a = 0 := by omega
              have HE := Aside0.mk ea
              clear ea
              go_wp2
              go_roundw
              case rel => exact ⟨i + 1, by go_num, by omega, ⟨fun j hj => by
                rcases Nat.lt_succ_iff_lt_or_eq.1 hj with h | rfl
                · exact HI.out j h
                · exact ⟨by rw [HQ.out]; exact HI2.out, by rw [HA.out, HE.out, clash_zero]⟩⟩, HB2⟩
              case measure => simp [intOf]; omega
      · have hlt' : (t.length : Int) < (i : Int) + 1 := by omega
        have htl : t.length ≤ 63 := by have := HL.out; omega
        go_wp2
        go_ret
        exact ⟨by rw [treeOk_true HL.out HN.out (inTree_all (fun j hj => (HI.out j (by omega)).1)) (fun j hj => (HI.out j (by omega)).2)]; rfl, HB.out⟩
  · have hl1 : ((t.length : Int) != (N : Int) - 1) = true := by simp; omega
    go_enter Try.func83, Try.ntmps83
    go_wp2
    go_ret
    exact ⟨by simp [treeOk]; intro h; have := HN.out; omega, Below.refl _ _⟩
end Go.Proofs.Ytpcjbdkdpcgdiaa.H
