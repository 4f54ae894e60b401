/- Trees of questions: what isTree and l10Tree answer. Ways through a tree of questions: the plain law. A region of open order whose calls turn memory in a way that is told by a relation. Memory in which one block alone is turned; tables and maps of known numbers. -/
import Derived.Maps.Own
import Derived.Maps.OwnOps
import Derived.Maps.OwnSet
import Derived.Maps.Views
import Derived.DeepKeys4
import Derived.Test.YthbkboigbkadjaaKFnExactPairingOfTree1
import Derived.Test.YthbkboigbkadjaaKFnExactPairingOfTree2
import Derived.Test.YthbkboigbkadjaaKFnExactPairingOfTree3

namespace Go.Proofs.Ythbkboigbkadjaa.H
open Go.RowKit Go.Proofs.YthbkboigbkadjaaW.PrintWords Go.Proofs.YthbkboigbkadjaaW.PrintLast Go.Proofs.YthbkboigbkadjaaW.PrintMore
set_option linter.unusedVariables false
set_option linter.unusedSimpArgs false

/-- the question at a place (from 1 on) -/
def qAt (t : List Int) (p : Nat) : Int := t.getD (p - 1) 0
/-- a place above that asks the same -/
def clash (t : List Int) (p : Nat) (a : Nat) : Bool :=
  if h : a = 0 then false else (qAt t a == qAt t p) || clash t p (a / 2)
termination_by a
decreasing_by omega
def inTree (n : Nat) (v : Int) : Bool := decide (0 ≤ v) && decide (v ≤ (n : Int) - 1)
def treeOk (n : Nat) (t : List Int) : Bool :=
  decide (t.length = 2 ^ n - 1) && (t.all (inTree n) && (List.range t.length).all fun i => !clash t (i + 1) ((i + 1) / 2))

theorem treeOk_true {n N : Nat} {t : List Int} (h : t.length + 1 = N) (hN : N = 2 ^ n) (hall : t.all (inTree n) = true) (HI : ∀ j, j < t.length → clash t (j + 1) ((j + 1) / 2) = false) : treeOk n t = true := by
  unfold treeOk
  rw [hall, Bool.and_eq_true, decide_eq_true_eq]
  refine ⟨by omega, ?_⟩
  rw [Bool.true_and, List.all_eq_true]
  intro j hj
  rw [HI j (List.mem_range.1 hj)]
  rfl
theorem treeOk_false {n : Nat} {t : List Int} {i : Nat} (hi : i < t.length) (h : clash t (i + 1) ((i + 1) / 2) = true) : treeOk n t = false := by
  unfold treeOk
  have : (List.range t.length).all (fun i => !clash t (i + 1) ((i + 1) / 2)) = false := by
    rw [List.all_eq_false]
    exact ⟨i, List.mem_range.2 hi, by rw [h]; decide⟩
  rw [this, Bool.and_false, Bool.and_false]
theorem treeOk_false2 {n : Nat} {t : List Int} {i : Nat} (hi : i < t.length) (h : inTree n (qAt t (i + 1)) = false) : treeOk n t = false := by
  unfold treeOk
  have : t.all (inTree n) = false := by
    rw [List.all_eq_false]
    refine ⟨t[i], List.getElem_mem hi, ?_⟩
    simp only [qAt, Nat.add_sub_cancel, List.getD_eq_getElem?_getD, List.getElem?_eq_getElem hi, Option.getD_some] at h
    rw [h]; decide
  rw [this, Bool.false_and, Bool.and_false]
theorem inTree_all {n : Nat} {t : List Int} (h : ∀ j, j < t.length → inTree n (qAt t (j + 1)) = true) : t.all (inTree n) = true := by
  rw [List.all_eq_true]
  intro x hx
  obtain ⟨j, hj, rfl⟩ := List.getElem_of_mem hx
  have := h j hj
  simpa only [qAt, Nat.add_sub_cancel, List.getD_eq_getElem?_getD, List.getElem?_eq_getElem hj, Option.getD_some] using this
theorem clash_step {t : List Int} {p a : Nat} (h : 0 < a) : clash t p a = ((qAt t a == qAt t p) || clash t p (a / 2)) := by
  rw [clash, dif_neg (by omega)]
theorem clash_zero (t : List Int) (p : Nat) : clash t p 0 = false := by
  rw [clash, dif_pos rfl]

set_option maxHeartbeats 1000000 in
theorem isTree1 (w : World) (b : Nat) (n : Nat) (hn : 1 ≤ n ∧ n ≤ 6) (hc : w.cell? ⟨b, 0, none⟩ = some (.int .i64 n)) :
    PredI w (.func (.func 120) #[] #[.pointer (some ⟨b, 0, none⟩)]) (inTree n) (fun _ => True) := by
  refine ⟨_, _, _, rfl, Enters.mk' Try.func120 rfl rfl, fun w1 x hb hx => ?_⟩
  have hcell : w1.cell? ⟨b, 0, none⟩ = some (.int .i64 n) := pw_cell_below hb hc
  clear hb hc
  show Calls _ _ #[_, _] _ _
  obtain ⟨h1, h2⟩ := hn
  go_enter Try.func120, Try.ntmps120
  go_wp2
  all_goals go_ret
  all_goals exact ⟨by simp [inTree, *] <;> omega, Below.refl _ _⟩

set_option maxHeartbeats 1000000 in
theorem isTree (v : Value) (t : List Int) (n : Nat) (hn : 1 ≤ n ∧ n ≤ 6) (w : World) (hr : ReadI w v t) :
    Calls Try.prog 60 #[.int .i64 n, v] w fun e w' => e = .returned (.bool (treeOk n t)) ∧ Below w.heap.size w w' := by
  have hba : Below w.heap.size w (w.alloc (.cells #[.int .i64 n] 2)) := Below.alloc (Below.refl _ _) (Nat.le_refl _) _
  have HV := Aside0.mk (hr.below hba)
  obtain ⟨A, c, rfl, hc, hr⟩ := hr
  have HR := Aside0.mk (Kd.C_below hr hba)
  have HB := Aside0.mk hba
  clear hr hc hba
  obtain ⟨h1, h2⟩ := hn
  obtain ⟨N, hN⟩ : ∃ N : Nat, N = 2 ^ n := ⟨_, rfl⟩
  have hsh : wrap64 ((2 : Int) ^ n) = (N : Int) := by
    rcases (by omega : n = 1 ∨ n = 2 ∨ n = 3 ∨ n = 4 ∨ n = 5 ∨ n = 6) with rfl | rfl | rfl | rfl | rfl | rfl <;> subst hN <;> (unfold wrap64; decide)
  have hN1 : 2 ≤ N ∧ N ≤ 64 := by
    rcases (by omega : n = 1 ∨ n = 2 ∨ n = 3 ∨ n = 4 ∨ n = 5 ∨ n = 6) with rfl | rfl | rfl | rfl | rfl | rfl <;> subst hN <;> decide
  have HN := Aside0.mk hN
  clear hN
  by_cases hl : t.length + 1 = N
  · have hl1 : ((t.length : Int) != (N : Int) - 1) = false := by simp; omega
    have HL := Aside0.mk hl
    clear hl
    go_enter Try.func60, Try.ntmps60
    go_wp2
    have hcell : ∀ x : Ext (w.alloc (.cells #[.int .i64 n] 2)), x.1.cell? ⟨w.heap.size, 0, none⟩ = some (.int .i64 n) := fun x => Ext.cell (by simp) x
    refine wp_region_ext (by kernel_rfl) (by kernel_rfl) ?_
    repeat (go_big_quiet_step ((first | (go_at_call 109; exact Calls.ext_of (length_any _ _ _ _)) | (go_at_call 114; exact Calls.ext_of (areAll _ _ _ (inTree n) (fun _ => True) _ (HV.out.below (Subtype.property _)) ((isTree1 _ _ n ⟨h1, h2⟩ (by simp)).below (Subtype.property _)) (fun _ _ => trivial))))))
    refine wpQuiet_nil ?_
    rintro _ ⟨x, rfl⟩
    have HX : Aside0 (Below w.heap.size w x.1) := ⟨HB.out.trans (x.2.mono HB.out.size)⟩
    have HRx := Aside0.mk (Kd.C_below HR.out x.2)
    have hcx := hcell x
    clear hcell HR HB HV
    obtain ⟨wx, hxw⟩ : ∃ wx, wx = x.1 := ⟨_, rfl⟩
    rw [← hxw] at HX HRx hcx ⊢
    clear hxw x
    cases hall : t.all (inTree n) with
    | false =>
      go_wp2
      go_ret
      exact ⟨by simp [treeOk, hall], HX.out⟩
    | true =>
      go_wp2
      go_loopw [5] (fun v wr => ∃ i : Nat, v = .int .i64 ((i : Int) + 1) ∧ i ≤ t.length ∧ Aside0 (∀ j, j < i → clash t (j + 1) ((j + 1) / 2) = false) ∧ Aside0 (Below w.heap.size w wr) ∧ Aside0 (Below wx.heap.size wx wr)) (fun v _ => t.length + 1 - (intOf v).toNat)
      case atStart => exact ⟨0, by simp, Nat.zero_le _, ⟨fun j hj => absurd hj (Nat.not_lt_zero _)⟩, HX, ⟨Below.refl _ _⟩⟩
      case round =>
        obtain ⟨i, rfl, hi, HI, HB, HBx⟩ := hrel
        have hcr : wr.cell? ⟨w.heap.size, 0, none⟩ = some (.int .i64 n) := pw_cell_below HBx.out hcx
        by_cases hlt : i < t.length
        · have hlt' : (i : Int) + 1 < N := by have := HL.out; omega
          go_wp2
          go_loopw [6] (fun v wr2 => ∃ a : Nat, v = .int .i64 a ∧ a ≤ i ∧ Aside0 (clash t (i + 1) ((i + 1) / 2) = clash t (i + 1) a) ∧ Aside0 (Below w.heap.size w wr2) ∧ Aside0 (Below wx.heap.size wx wr2)) (fun v _ => (intOf v).toNat)
          case atStart => exact ⟨(i + 1) / 2, by simp, by omega, ⟨rfl⟩, HB, HBx⟩
          case round =>
            obtain ⟨a, rfl, ha, HA, HB2, HBx2⟩ := hrel
            by_cases h0 : 0 < a
            · have h0' : (0 : Int) < a := by omega
              obtain ⟨ad, e1, hcell1⟩ := Kd.at_int (Kd.C_below HRx.out HBx2.out) (i : Int) (by omega) (by omega)
              cases e1
              obtain ⟨ad', e2, hcell2⟩ := Kd.at_int (Kd.C_below HRx.out HBx2.out) ((a - 1 : Nat) : Int) (by omega) (by omega)
              cases e2
              have hq1 : rd t (i : Int) = qAt t (i + 1) := by simp [rd, qAt]
              have hq2 : rd t ((a - 1 : Nat) : Int) = qAt t a := by simp [rd, qAt]
              rw [hq1] at hcell1
              rw [hq2] at hcell2
              simp only [Int.toNat_natCast] at hcell1 hcell2
              have hi1 : ((i : Int) + 1 - 1).toNat = i := by omega
              have ha1 : ((a : Int) - 1).toNat = a - 1 := by omega
              have hi2 : (0 : Int) ≤ (i : Int) := by omega
              have hi3 : (i : Int) < t.length := by omega
              have ha2 : (0 : Int) ≤ (a : Int) - 1 := by omega
              have ha3 : (a : Int) - 1 < t.length := by omega
              clear hq1 hq2
              have HST := Aside0.mk (clash_step (t := t) (p := i + 1) (a := a) (by omega))
              cases hqq : (qAt t a == qAt t (i + 1)) with
              | true =>
                go_wp2
                go_quiet (fail)
                go_wp2
                go_ret
                exact ⟨by rw [treeOk_false (n := n) (i := i) (by omega) (by rw [HA.out, HST.out, hqq]; rfl)]; rfl, below_drewN HB2.out _⟩
              | false =>
                go_wp2
                go_quiet (fail)
                go_wp2
                go_roundw
                case rel => exact ⟨a / 2, by go_num, by omega, ⟨by rw [HA.out, HST.out, hqq]; rfl⟩, ⟨below_drewN HB2.out _⟩, ⟨below_drewN HBx2.out _⟩⟩
                case measure => simp [intOf]; omega
            · have h0' : (a : Int) ≤ 0 := by omega
              have ea : a = 0 := by omega
              have HE := Aside0.mk ea
              clear ea
              go_wp2
              go_roundw
              case rel => exact ⟨i + 1, by go_num, by omega, ⟨fun j hj => by
                rcases Nat.lt_succ_iff_lt_or_eq.1 hj with h | rfl
                · exact HI.out j h
                · rw [HA.out, HE.out, clash_zero]⟩, HB2, HBx2⟩
              case measure => simp [intOf]; omega
        · have hlt' : (N : Int) ≤ (i : Int) + 1 := by have := HL.out; omega
          go_wp2
          go_ret
          exact ⟨by rw [treeOk_true HL.out HN.out hall (fun j hj => HI.out j (by omega))]; rfl, HB.out⟩
  · have hl1 : ((t.length : Int) != (N : Int) - 1) = true := by simp; omega
    go_enter Try.func60, Try.ntmps60
    go_wp2
    have hcell : ∀ x : Ext (w.alloc (.cells #[.int .i64 n] 2)), x.1.cell? ⟨w.heap.size, 0, none⟩ = some (.int .i64 n) := fun x => Ext.cell (by simp) x
    refine wp_region_ext (by kernel_rfl) (by kernel_rfl) ?_
    repeat (go_big_quiet_step ((first | (go_at_call 109; exact Calls.ext_of (length_any _ _ _ _)))))
    refine wpQuiet_nil ?_
    rintro _ ⟨x, rfl⟩
    go_wp2
    go_ret
    exact ⟨by simp [treeOk]; intro h; have := HN.out; omega, HB.out.trans (x.2.mono HB.out.size)⟩

set_option maxHeartbeats 1000000 in
theorem specTree (v : Value) (t : List Int) (n : Nat) (hn : 1 ≤ n ∧ n ≤ 6) (w : World) (hr : ReadI w v t) :
    Calls Try.prog 117 #[.int .i64 n, v] w fun e w' => e = .returned (.bool (treeOk n t)) ∧ Below w.heap.size w w' := by
  obtain ⟨A, c, rfl, hc, hr⟩ := hr
  have HR := Aside0.mk hr
  clear hr hc
  obtain ⟨h1, h2⟩ := hn
  obtain ⟨N, hN⟩ : ∃ N : Nat, N = 2 ^ n := ⟨_, rfl⟩
  have hsh : wrap64 ((2 : Int) ^ n) = (N : Int) := by
    rcases (by omega : n = 1 ∨ n = 2 ∨ n = 3 ∨ n = 4 ∨ n = 5 ∨ n = 6) with rfl | rfl | rfl | rfl | rfl | rfl <;> subst hN <;> (unfold wrap64; decide)
  have hN1 : 2 ≤ N ∧ N ≤ 64 := by
    rcases (by omega : n = 1 ∨ n = 2 ∨ n = 3 ∨ n = 4 ∨ n = 5 ∨ n = 6) with rfl | rfl | rfl | rfl | rfl | rfl <;> subst hN <;> decide
  have HN := Aside0.mk hN
  clear hN
  by_cases hl : t.length + 1 = N
  · have hl1 : ((t.length : Int) != (N : Int) - 1) = false := by simp; omega
    have HL := Aside0.mk hl
    clear hl
    go_enter Try.func117, Try.ntmps117
    go_wp2
    simp only [hsh]
    clear hsh
    go_loopw [5] (fun v wr => ∃ i : Nat, v = .int .i64 ((i : Int) + 1) ∧ i ≤ t.length ∧ Aside0 (∀ j, j < i → inTree n (qAt t (j + 1)) = true ∧ clash t (j + 1) ((j + 1) / 2) = false) ∧ Aside0 (Below w.heap.size w wr)) (fun v _ => t.length + 1 - (intOf v).toNat)
    case atStart => exact ⟨0, by simp, Nat.zero_le _, ⟨fun j hj => absurd hj (Nat.not_lt_zero _)⟩, ⟨Below.refl _ _⟩⟩
    case round =>
      obtain ⟨i, rfl, hi, HI, HB⟩ := hrel
      by_cases hlt : i < t.length
      · have hlt' : (i : Int) + 1 ≤ t.length := by omega
        have htl : t.length ≤ 63 := by have := HL.out; omega
        obtain ⟨ad, y, e1, hcell1, HY⟩ := ReadI.get (Kd.C_below HR.out HB.out) hlt
        cases e1
        have HQ : Aside0 (qAt t (i + 1) = y) := ⟨HY.out⟩
        cases hin : inTree n y with
        | false =>
          have hin' : (decide ((0 : Int) ≤ y) && decide (y ≤ (n : Int) - 1)) = false := hin
          have HI2 := Aside0.mk hin
          clear hin
          go_wp2_with (first | (go_at_call 100; refine (specIn _ _ _ _).mono ?_; rintro e w' ⟨rfl, hb⟩; rw [hin']))
          go_ret
          exact ⟨by rw [treeOk_false2 (n := n) (i := i) hlt (by rw [HQ.out]; exact HI2.out)]; rfl, HB.out.trans (hb.mono HB.out.size)⟩
        | true =>
          have hin' : (decide ((0 : Int) ≤ y) && decide (y ≤ (n : Int) - 1)) = true := hin
          have HI2 := Aside0.mk hin
          clear hin
          go_wp2_with (first | (go_at_call 100; refine (specIn _ _ _ _).mono ?_; rintro e w' ⟨rfl, hb⟩; rw [hin']; have HBB := Aside0.mk (HB.out.trans (hb.mono HB.out.size)); clear hb))
          go_loopw [6] (fun v wr2 => ∃ a : Nat, v = .int .i64 a ∧ a ≤ i ∧ Aside0 (clash t (i + 1) ((i + 1) / 2) = clash t (i + 1) a) ∧ Aside0 (Below w.heap.size w wr2)) (fun v _ => (intOf v).toNat)
          case atStart => exact ⟨(i + 1) / 2, by simp, by omega, ⟨rfl⟩, HBB⟩
          case round =>
            obtain ⟨a, rfl, ha, HA, HB2⟩ := hrel
            by_cases h0 : 0 < a
            · have h0' : (0 : Int) < a := by omega
              obtain ⟨ad, x1, e1, hcell1, HX1⟩ := ReadI.get (Kd.C_below HR.out HB2.out) hlt
              cases e1
              obtain ⟨ad', x2, e2, hcell2, HX2⟩ := ReadI.get (Kd.C_below HR.out HB2.out) (i := a - 1) (by omega)
              cases e2
              have hi1 : ((i : Int) + 1 - 1).toNat = i := by omega
              have ha1 : ((a : Int) - 1).toNat = a - 1 := by omega
              have hi2 : (0 : Int) ≤ (i : Int) := by omega
              have hi3 : (i : Int) < t.length := by omega
              have ha2 : (0 : Int) ≤ (a : Int) - 1 := by omega
              have ha3 : (a : Int) - 1 < t.length := by omega
              have HST := Aside0.mk (clash_step (t := t) (p := i + 1) (a := a) (by omega))
              have HQ1 : Aside0 (qAt t (i + 1) = x1) := ⟨HX1.out⟩
              have HQ2 : Aside0 (qAt t a = x2) := ⟨HX2.out⟩
              cases hqq : (x2 == x1) with
              | true =>
                go_wp2
                go_quiet (fail)
                go_wp2
                go_ret
                exact ⟨by rw [treeOk_false (n := n) (i := i) hlt (by rw [HA.out, HST.out, HQ1.out, HQ2.out, hqq]; rfl)]; rfl, below_drewN HB2.out _⟩
              | false =>
                go_wp2
                go_quiet (fail)
                go_wp2
                go_roundw
                case rel => exact ⟨a / 2, by go_num, by omega, ⟨by rw [HA.out, HST.out, HQ1.out, HQ2.out, hqq]; rfl⟩, ⟨below_drewN HB2.out _⟩⟩
                case measure => simp [intOf]; omega
            · have h0' : (a : Int) ≤ 0 := by omega
              have ea : a = 0 := by omega
              have HE := Aside0.mk ea
              clear ea
              go_wp2
              go_roundw
              case rel => exact ⟨i + 1, by go_num, by omega, ⟨fun j hj => by
                rcases Nat.lt_succ_iff_lt_or_eq.1 hj with h | rfl
                · exact HI.out j h
                · exact ⟨by rw [HQ.out]; exact HI2.out, by rw [HA.out, HE.out, clash_zero]⟩⟩, HB2⟩
              case measure => simp [intOf]; omega
      · have hlt' : (t.length : Int) < (i : Int) + 1 := by omega
        have htl : t.length ≤ 63 := by have := HL.out; omega
        go_wp2
        go_ret
        exact ⟨by rw [treeOk_true HL.out HN.out (inTree_all (fun j hj => (HI.out j (by omega)).1)) (fun j hj => (HI.out j (by omega)).2)]; rfl, HB.out⟩
  · have hl1 : ((t.length : Int) != (N : Int) - 1) = true := by simp; omega
    go_enter Try.func117, Try.ntmps117
    go_wp2
    go_ret
    exact ⟨by simp [treeOk]; intro h; have := HN.out; omega, Below.refl _ _⟩
end Go.Proofs.Ythbkboigbkadjaa.H

namespace Go.Proofs.Ythbkboigbkadjaa.H
open Go.RowKit Go.Proofs.YthbkboigbkadjaaW.PrintWords Go.Proofs.YthbkboigbkadjaaW.PrintLast Go.Proofs.YthbkboigbkadjaaW.PrintMore
set_option linter.unusedVariables false
set_option linter.unusedSimpArgs false

/-- the question at a place, as a number -/
def qN (t : List Int) (p : Nat) : Nat := (qAt t p).toNat
/-- the place behind i answers -/
def plc (t : List Int) (h : Nat) : Nat → Nat
  | 0 => 1
  | i + 1 => 2 * plc t h i + (h / 2 ^ qN t (plc t h i)) % 2
/-- asked, and the answer was yes -/
def yess (t : List Int) (h : Nat) : Nat → Nat
  | 0 => 0
  | i + 1 => if h.testBit (qN t (plc t h i)) then yess t h i ||| 2 ^ qN t (plc t h i) else yess t h i
/-- asked, and the answer was no -/
def noes (t : List Int) (h : Nat) : Nat → Nat
  | 0 => 0
  | i + 1 => if h.testBit (qN t (plc t h i)) then noes t h i else noes t h i ||| 2 ^ qN t (plc t h i)
/-- the first i questions -/
def wayL (t : List Int) (h i : Nat) : List Int := (List.range i).map fun j => qAt t (plc t h j)
theorem wayL_succ (t : List Int) (h i : Nat) : wayL t h (i + 1) = wayL t h i ++ [qAt t (plc t h i)] := by unfold wayL; rw [List.range_succ, List.map_append]; rfl
theorem wayL_len (t : List Int) (h i : Nat) : (wayL t h i).length = i := by unfold wayL; simp
theorem wayL_take (t : List Int) (h i j : Nat) (hi : i ≤ j) : (wayL t h j).take i = wayL t h i := by
  unfold wayL; rw [← List.map_take, List.take_range, Nat.min_eq_left hi]
theorem plc_half (t : List Int) (h i : Nat) : plc t h (i + 1) / 2 = plc t h i := by
  have : (h / 2 ^ qN t (plc t h i)) % 2 < 2 := Nat.mod_lt _ (by decide)
  show (2 * plc t h i + _) / 2 = _
  omega
theorem plc_bd (t : List Int) (h : Nat) : ∀ i, 2 ^ i ≤ plc t h i ∧ plc t h i < 2 ^ (i + 1)
  | 0 => ⟨Nat.le_refl 1, Nat.lt_succ_self 1⟩
  | i + 1 => by
    have := plc_bd t h i
    have h1 : (h / 2 ^ qN t (plc t h i)) % 2 < 2 := Nat.mod_lt _ (by decide)
    rw [Nat.pow_succ 2 (i + 1), Nat.pow_succ 2 i] at *
    show _ ≤ 2 * plc t h i + _ ∧ 2 * plc t h i + _ < _
    omega
theorem bit_mod (h v : Nat) : (h / 2 ^ v) % 2 = if h.testBit v then 1 else 0 := by
  rw [Nat.testBit_eq_decide_div_mod_eq]
  have : (h / 2 ^ v) % 2 < 2 := Nat.mod_lt _ (by decide)
  split
  · next h1 => exact of_decide_eq_true h1
  · next h1 => have := of_decide_eq_false (Bool.not_eq_true _ ▸ h1 : decide _ = false); omega
theorem plc_yes {t : List Int} {h i : Nat} (hb : h.testBit (qN t (plc t h i)) = true) : plc t h (i + 1) = 2 * plc t h i + 1 := by
  show 2 * plc t h i + _ = _; rw [bit_mod, hb]; rfl
theorem plc_no {t : List Int} {h i : Nat} (hb : h.testBit (qN t (plc t h i)) = false) : plc t h (i + 1) = 2 * plc t h i := by
  show 2 * plc t h i + _ = _; rw [bit_mod, hb]; rfl
theorem yess_yes {t : List Int} {h i : Nat} (hb : h.testBit (qN t (plc t h i)) = true) : yess t h (i + 1) = yess t h i ||| 2 ^ qN t (plc t h i) := by
  show (if _ then _ else _) = _; rw [if_pos hb]
theorem yess_no {t : List Int} {h i : Nat} (hb : h.testBit (qN t (plc t h i)) = false) : yess t h (i + 1) = yess t h i := by
  show (if _ then _ else _) = _; rw [if_neg (by rw [hb]; decide)]
theorem noes_yes {t : List Int} {h i : Nat} (hb : h.testBit (qN t (plc t h i)) = true) : noes t h (i + 1) = noes t h i := by
  show (if _ then _ else _) = _; rw [if_pos hb]
theorem noes_no {t : List Int} {h i : Nat} (hb : h.testBit (qN t (plc t h i)) = false) : noes t h (i + 1) = noes t h i ||| 2 ^ qN t (plc t h i) := by
  show (if _ then _ else _) = _; rw [if_neg (by rw [hb]; decide)]

/-! what a tree gives -/
theorem tree_len {n : Nat} {t : List Int} (h : treeOk n t = true) : t.length = 2 ^ n - 1 := by
  unfold treeOk at h; rw [Bool.and_eq_true, decide_eq_true_eq] at h; exact h.1
theorem tree_in {n : Nat} {t : List Int} (h : treeOk n t = true) {p : Nat} (h1 : 1 ≤ p) (h2 : p < 2 ^ n) : 0 ≤ qAt t p ∧ qAt t p ≤ (n : Int) - 1 ∧ qAt t p = (qN t p : Int) ∧ qN t p < n := by
  have hl := tree_len h
  unfold treeOk at h
  rw [Bool.and_eq_true, Bool.and_eq_true] at h
  have h3 := List.all_eq_true.1 h.2.1
  have hi : p - 1 < t.length := by omega
  have := h3 _ (List.getElem_mem hi)
  have e : qAt t p = t[p - 1] := by unfold qAt; simp [List.getD_eq_getElem?_getD, hi]
  rw [← e] at this
  unfold inTree at this
  rw [Bool.and_eq_true, decide_eq_true_eq, decide_eq_true_eq] at this
  unfold qN
  omega
theorem tree_clash {n : Nat} {t : List Int} (h : treeOk n t = true) {p : Nat} (h1 : 1 ≤ p) (h2 : p < 2 ^ n) : clash t p (p / 2) = false := by
  have hl := tree_len h
  unfold treeOk at h
  rw [Bool.and_eq_true, Bool.and_eq_true] at h
  have h3 := List.all_eq_true.1 h.2.2 (p - 1) (List.mem_range.2 (by omega))
  rw [show p - 1 + 1 = p by omega] at h3
  simpa using h3
theorem clash_anc {t : List Int} {p : Nat} : ∀ (k a : Nat), clash t p a = false → 0 < a / 2 ^ k → qAt t (a / 2 ^ k) ≠ qAt t p
  | 0, a, h, h0 => by
    rw [Nat.pow_zero, Nat.div_one] at h0 ⊢
    rw [clash_step h0, Bool.or_eq_false_iff] at h
    intro e
    rw [e, beq_self_eq_true] at h
    cases h.1
  | k + 1, a, h, h0 => by
    have ha : 0 < a := by
      rcases Nat.eq_zero_or_pos a with rfl | h
      · rw [Nat.zero_div] at h0; omega
      · exact h
    rw [clash_step ha, Bool.or_eq_false_iff] at h
    have e : a / 2 ^ (k + 1) = a / 2 / 2 ^ k := by rw [Nat.pow_succ, Nat.mul_comm, Nat.div_div_eq_div_mul]
    rw [e] at h0 ⊢
    exact clash_anc k (a / 2) h.2 h0
theorem plc_anc (t : List Int) (h : Nat) : ∀ k i, plc t h (i + k) / 2 ^ k = plc t h i
  | 0, i => by rw [Nat.pow_zero, Nat.div_one]; rfl
  | k + 1, i => by
    rw [Nat.pow_succ, Nat.mul_comm, ← Nat.div_div_eq_div_mul, ← Nat.add_assoc, plc_half]
    exact plc_anc t h k i
theorem way_ne {n : Nat} {t : List Int} (ht : treeOk n t = true) {h i j : Nat} (hj : j < i) (hi : i < n) : qN t (plc t h j) ≠ qN t (plc t h i) := by
  have hb := plc_bd t h i
  have h2 : 2 ^ (i + 1) ≤ 2 ^ n := Nat.pow_le_pow_right (by omega) (by omega)
  have hbj := plc_bd t h j
  have h2j : 2 ^ (j + 1) ≤ 2 ^ n := Nat.pow_le_pow_right (by omega) (by omega)
  have h0 : 1 ≤ 2 ^ i := Nat.one_le_two_pow
  have h0j : 1 ≤ 2 ^ j := Nat.one_le_two_pow
  have hc := tree_clash ht (p := plc t h i) (by omega) (by omega)
  have e : plc t h i / 2 / 2 ^ (i - j - 1) = plc t h j := by
    rw [Nat.div_div_eq_div_mul, ← Nat.pow_succ', show (i - j - 1).succ = i - j by omega]
    have := plc_anc t h (i - j) j
    rwa [show j + (i - j) = i by omega] at this
  have := clash_anc (i - j - 1) _ hc (by rw [e]; omega)
  rw [e] at this
  intro hq
  have e1 := tree_in ht (p := plc t h i) (by omega) (by omega)
  have e2 := tree_in ht (p := plc t h j) (by omega) (by omega)
  omega
theorem way_bits (t : List Int) (h v : Nat) : ∀ i, (yess t h i ||| noes t h i).testBit v = true ↔ ∃ j, j < i ∧ qN t (plc t h j) = v
  | 0 => by
    show (0 ||| 0 : Nat).testBit v = true ↔ _
    simp
  | i + 1 => by
    have ih := way_bits t h v i
    have e : (yess t h (i + 1) ||| noes t h (i + 1)).testBit v = ((yess t h i ||| noes t h i).testBit v || decide (qN t (plc t h i) = v)) := by
      cases hb : h.testBit (qN t (plc t h i)) with
      | true => rw [yess_yes hb, noes_yes hb, or_p, Nat.testBit_or _ (2 ^ _), Nat.testBit_two_pow]
      | false => rw [yess_no hb, noes_no hb, or_q, Nat.testBit_or _ (2 ^ _), Nat.testBit_two_pow]
    rw [e, Bool.or_eq_true, ih, decide_eq_true_eq]
    constructor
    · rintro (⟨j, hj, hv⟩ | hv)
      · exact ⟨j, by omega, hv⟩
      · exact ⟨i, by omega, hv⟩
    · rintro ⟨j, hj, hv⟩
      by_cases hji : j = i
      · subst hji; exact .inr hv
      · exact .inl ⟨j, by omega, hv⟩
theorem way_pl {n : Nat} {t : List Int} (ht : treeOk n t = true) (h : Nat) : ∀ i, i ≤ n → Pl n (yess t h i) (noes t h i) ∧ (i < n → (yess t h i ||| noes t h i).testBit (qN t (plc t h i)) = false)
  | i, hi => by
    have hfree : i < n → (yess t h i ||| noes t h i).testBit (qN t (plc t h i)) = false := by
      intro hlt
      cases hb : (yess t h i ||| noes t h i).testBit (qN t (plc t h i)) with
      | false => rfl
      | true =>
        obtain ⟨j, hj, hv⟩ := (way_bits t h _ i).1 hb
        exact absurd hv (way_ne ht hj hlt)
    refine ⟨?_, hfree⟩
    cases i with
    | zero => exact ⟨Nat.two_pow_pos n, Nat.two_pow_pos n, Nat.and_self 0⟩
    | succ i =>
      have ih := way_pl ht h i (by omega)
      have hb := plc_bd t h i
      have h2 : 2 ^ (i + 1) ≤ 2 ^ n := Nat.pow_le_pow_right (by omega) (by omega)
      have h0 : 1 ≤ 2 ^ i := Nat.one_le_two_pow
      have hq := tree_in ht (p := plc t h i) (by omega) (by omega)
      cases hb : h.testBit (qN t (plc t h i)) with
      | true => rw [yess_yes hb, noes_yes hb]; exact ih.1.yes hq.2.2.2 (ih.2 (by omega))
      | false => rw [yess_no hb, noes_no hb]; exact ih.1.no hq.2.2.2 (ih.2 (by omega))
theorem way_left {n : Nat} (hn : n ≤ 6) {t : List Int} (ht : treeOk n t = true) (h : Nat) : ∀ i, i ≤ n → lefts n (yess t h i) (noes t h i) + i = n
  | 0, _ => by
    show lefts n 0 0 + 0 = n
    unfold lefts frees
    rw [List.filter_eq_self.2 (fun v _ => by simp)]
    simp
  | i + 1, hi => by
    have ih := way_left hn ht h i (by omega)
    have hp := way_pl ht h i (by omega)
    have hb := plc_bd t h i
    have h2 : 2 ^ (i + 1) ≤ 2 ^ n := Nat.pow_le_pow_right (by omega) (by omega)
    have h0 : 1 ≤ 2 ^ i := Nat.one_le_two_pow
    have hq := tree_in ht (p := plc t h i) (by omega) (by omega)
    cases hb : h.testBit (qN t (plc t h i)) with
    | true =>
      rw [yess_yes hb, noes_yes hb]
      have := lefts_p hn hp.1 hq.2.2.2 (hp.2 (by omega))
      omega
    | false =>
      rw [yess_no hb, noes_no hb]
      have := lefts_q hn hp.1 hq.2.2.2 (hp.2 (by omega))
      omega
/-- told behind i answers -/
def toldAt (n : Nat) (xs t : List Int) (h i : Nat) : Bool := decide (0 ≤ toldV n xs (yess t h i) (noes t h i))
theorem toldAt_end {n : Nat} (hn : n ≤ 6) {xs t : List Int} (ht : treeOk n t = true) (h : Nat) : toldAt n xs t h n = true := by
  unfold toldAt
  rw [decide_eq_true_eq]
  exact told_all (way_pl ht h n (Nat.le_refl _)).1 (by have := way_left hn ht h n (Nat.le_refl _); omega)
/-- the first of k places at which it is told -/
def firstTold (n : Nat) (xs t : List Int) (h k : Nat) : Nat := (List.range k).findIdx (toldAt n xs t h)
theorem firstTold_hit {n : Nat} {xs t : List Int} {h i k : Nat} (hi : i < k) (h0 : ∀ j, j < i → toldAt n xs t h j = false) (h1 : toldAt n xs t h i = true) : firstTold n xs t h k = i := by
  unfold firstTold
  rw [List.findIdx_eq (by simpa using hi)]
  refine ⟨by simpa using h1, fun j hj => ?_⟩
  have := h0 j hj
  simpa using this
theorem firstTold_none {n : Nat} {xs t : List Int} {h k : Nat} (h0 : ∀ j, j < k → toldAt n xs t h j = false) : firstTold n xs t h k = k := by
  unfold firstTold
  have := List.findIdx_eq_length (p := toldAt n xs t h) (xs := List.range k)
  rw [List.length_range] at this
  rw [this]
  intro x hx
  exact h0 x (List.mem_range.1 hx)
theorem firstTold_le (n : Nat) (xs t : List Int) (h k : Nat) : firstTold n xs t h k ≤ k := by
  unfold firstTold
  have := List.findIdx_le_length (p := toldAt n xs t h) (xs := List.range k)
  rwa [List.length_range] at this
/-- how many questions are needed -/
def neededV (n : Nat) (xs t : List Int) (h : Nat) : Nat := firstTold n xs t h n
end Go.Proofs.Ythbkboigbkadjaa.H

namespace Go.Proofs.Ythbkboigbkadjaa.H
open Go.RowKit Go.Proofs.YthbkboigbkadjaaW.PrintWords Go.Proofs.YthbkboigbkadjaaW.PrintLast Go.Proofs.YthbkboigbkadjaaW.PrintMore
set_option linter.unusedVariables false
set_option linter.unusedSimpArgs false

/-- each step -/
def gSteps (G : World → World → Prop) (P : Program) (l : List Oper) (B : List Nat) (V : Nat → Value → World → Prop) (a : Act) (w : World) : Nat → List Oper → Prop
  | _, [] => True
  | i, o :: r => (∀ s w1, G w w1 → (∀ j, ((List.range l.length).contains j && (B.getD i 0).testBit j) = true → V j (s j) w1) → (∀ j, (decide (j < l.length) && (B.getD j 0).testBit i) = true → s j = (a.tmps[(dsOf l)[j]?.getD 0]?).getD undef) →
      ∀ R : Value → World → Prop, (∀ v w', G w1 w' → V i v w' → R v w') → opGives P o (putAll (dsOf l) 0 s a).eval w1 R) ∧ gSteps G P l B V a w (i + 1) r

theorem gSteps_at {G : World → World → Prop} {P : Program} {l : List Oper} {B : List Nat} {V : Nat → Value → World → Prop} {a : Act} {w : World} : ∀ (r : List Oper) (k : Nat), gSteps G P l B V a w k r → ∀ i o, r[i]? = some o →
    ∀ s w1, G w w1 → (∀ j, ((List.range l.length).contains j && (B.getD (k + i) 0).testBit j) = true → V j (s j) w1) → (∀ j, (decide (j < l.length) && (B.getD j 0).testBit (k + i)) = true → s j = (a.tmps[(dsOf l)[j]?.getD 0]?).getD undef) →
      ∀ R : Value → World → Prop, (∀ v w', G w1 w' → V (k + i) v w' → R v w') → opGives P o (putAll (dsOf l) 0 s a).eval w1 R
  | [], _, _, _, _, h => by cases h
  | x :: r, k, h, 0, o, ho => by cases ho; exact h.1
  | x :: r, k, h, i + 1, o, ho => by
    have := gSteps_at r (k + 1) h.2 i o ho
    rwa [show k + 1 + i = k + (i + 1) by omega] at this

theorem wp_region_g (G : World → World → Prop) (hGr : ∀ w, G w w.drew) (hGt : ∀ w1 w2 w3, G w1 w2 → G w2 w3 → G w1 w3) {P : Program} {id : Nat} {Q : Exit → Act → World → Prop} {a : Act} {w : World} {l : List Oper} (V : Nat → Value → World → Prop) (B : List Nat) (hm : P.follows .mixedOrders = true) (hok : phiOk l B a.tmps.size = true)
    (hV : ∀ i v w1 w2, G w1 w2 → V i v w1 → V i v w2)
    (hs : gSteps G P l B V a w 0 l)
    (hend : ∀ s w1, G w w1 → (∀ i, i < l.length → V i (s i) w1) → Q .normal (putAll (dsOf l) 0 s a) w1) : (Code.region id l.toArray true).wp P Q a w := by
  simp only [phiOk, Bool.and_eq_true] at hok
  obtain ⟨⟨⟨⟨⟨h1, h0⟩, h2⟩, h3⟩, h4⟩, h5⟩ := hok
  have hnd : (dsOf l).Nodup := of_decide_eq_true h2
  have hTl : (rtab .any l.toArray).2.length = l.length := by rw [rtab_length]; simp
  have hds : ∀ (i : Nat) (o : Oper), l[i]? = some o → o.dst = some ((dsOf l)[i]?.getD 0) ∧ (dsOf l)[i]? = some (o.dst.getD 0) := by
    intro i o ho
    have e : (dsOf l)[i]? = some (o.dst.getD 0) := by simp [dsOf, ho]
    refine ⟨?_, e⟩
    have := List.all_eq_true.1 h1 o (List.mem_of_getElem? ho)
    rw [e]
    cases hd : o.dst with
    | none => rw [hd] at this; cases this
    | some d => rfl
  refine wp_region_last_drew (S := fun _ => True) (ds := []) hm trivial (fun _ => ?_)
  refine inv_ (T := rtab .any l.toArray) (B := B) (List.range l.length) (fun b a' w' => ∃ s, a' = putAll (dsOf l) 0 s a ∧ G w w' ∧ (∀ i, i < l.length → b i = true → V i (s i) w') ∧ ∀ i, i < l.length → b i = false → s i = (a.tmps[(dsOf l)[i]?.getD 0]?).getD undef) rfl h4 h5 ?_ ?_ ?_ ?_
  · rw [hTl, Bool.and_eq_true, beq_iff_eq, beq_iff_eq]
    refine ⟨?_, by simp⟩
    apply List.ext_getElem
    · simp [lof]
    · intro i hi1 hi2
      have hi : i < l.length := by simpa [lof] using hi1
      simp [lof, hi]
  · refine ⟨fun k => (a.tmps[(dsOf l)[k]?.getD 0]?).getD undef, ?_, hGr _, (fun _ _ h => by cases h), fun _ _ _ => rfl⟩
    refine (putAll_self _ _ _ _ (fun j d hj => ?_)).symm
    have hd := List.all_eq_true.1 h3 d (List.mem_of_getElem? hj)
    have hd' : d < a.tmps.size := of_decide_eq_true hd
    simp [hj, hd']
  · intro i hi b a' w' ⟨s, ha, hb, hv, hq⟩ hbi hon hoff
    subst ha
    have hil : i < l.length := List.mem_range.1 hi
    have ho : l[i]? = some l[i] := List.getElem?_eq_getElem hil
    refine ⟨l[i], by simp, fun K hK => ?_⟩
    have hK' := Shut.out hK
    have hg : l[i].guard = none := by
      have := List.all_eq_true.1 h0 l[i] (List.mem_of_getElem? ho)
      cases hq : l[i].guard with
      | none => rfl
      | some g => rw [hq] at this; cases this
    rw [if_pos (by simp [Region.wanted, hg])]
    refine opGives_wp (gSteps_at l 0 hs i _ ho s w' hb (fun j hj => hv j (by have h6 := (Bool.and_eq_true _ _ ▸ hj : _ ∧ _).1; simpa using h6) (hon j (by simpa using hj))) (fun j hj => hq j (of_decide_eq_true (Bool.and_eq_true _ _ ▸ hj : _ ∧ _).1) (hoff j (by simpa using hj))) _ (fun v w2 hb2 hv2 => hK' _ _ ?_))
    refine ⟨upd s i v, ?_, hGt _ _ _ hb hb2, fun j hj hbj => ?_, fun j hj hbj => ?_⟩
    · rw [(hds i _ ho).1, (hds i _ ho).2, Option.getD_some]
      exact putAll_put _ _ _ _ _ _ _ hnd (Nat.zero_le _) (by rw [Nat.sub_zero]; exact (hds i _ ho).2)
    · by_cases hji : j = i
      · subst hji
        have : upd s j v j = v := by simp [upd]
        rw [this]
        rw [Nat.zero_add] at hv2
        exact hv2
      · have : upd s i v j = s j := by simp [upd, hji]
        rw [this]
        rw [up_ne hji] at hbj
        exact hV _ _ _ _ hb2 (hv j hj hbj)
    · have hji : j ≠ i := by
        rintro rfl
        rw [up_self] at hbj
        cases hbj
      have : upd s i v j = s j := by simp [upd, hji]
      rw [this]
      rw [up_ne hji] at hbj
      exact hq j hj hbj
  · intro b a' w' hall ⟨s, ha, hb, hv, hq⟩
    subst ha
    exact hend s w' hb (fun i hi => hv i hi (hall i (by simpa using hi)))
end Go.Proofs.Ythbkboigbkadjaa.H

namespace Go.Proofs.Ythbkboigbkadjaa.H
open Go.RowKit Go.Proofs.YthbkboigbkadjaaW.PrintWords Go.Proofs.YthbkboigbkadjaaW.PrintLast Go.Proofs.YthbkboigbkadjaaW.PrintMore
set_option linter.unusedVariables false
set_option linter.unusedSimpArgs false

theorem grown_below {w w' : World} (h : Below w.heap.size w w') (row : Option Nat) : w.grownBy w' row := ⟨h.os, h.tape, h.output, h.size, fun k hk _ => h.block k hk⟩
theorem grown_drew (w : World) (row : Option Nat) : w.grownBy w.drew row := grown_below (Below.refl _ _).drew row
theorem grown_cell {w w' : World} {b : Nat} (hg : w.grownBy w' (some b)) {a : Addr} {v : Value} (h : w.cell? a = some v) (hne : a.block ≠ b) : w'.cell? a = some v := hg.cell h (fun e => hne (by injection e))
/-- what lay below a block that is turned -/
theorem below_grown {B b : Nat} {w w' : World} (hg : w.grownBy w' (some b)) (h1 : B ≤ b) (h2 : B ≤ w.heap.size) : Below B w w' :=
  ⟨hg.os, hg.tape, hg.output, hg.size, fun k hk => hg.block k (by omega) (fun e => by injection e; omega)⟩
/-- reads, whatever becomes of block b -/
def RdK (b : Nat) (w : World) (v : Value) (xs : List Int) : Prop := ∀ w', w.grownBy w' (some b) → ReadI w' v xs
theorem RdK.read {b : Nat} {w : World} {v : Value} {xs : List Int} (h : RdK b w v xs) : ReadI w v xs := h w (grown_below (Below.refl _ _) _)
theorem RdK.go {b : Nat} {w w' : World} {v : Value} {xs : List Int} (h : RdK b w v xs) (hg : w.grownBy w' (some b)) : RdK b w' v xs := fun w2 h2 => h w2 (grown_trans hg h2)
theorem RdK.below {b : Nat} {w w' : World} {v : Value} {xs : List Int} (h : RdK b w v xs) (hb : Below w.heap.size w w') : RdK b w' v xs := h.go (grown_below hb _)
theorem RdK.mk' {b : Nat} {w0 w : World} {v : Value} {xs : List Int} (h : ReadI w0 v xs) (hb : Below w0.heap.size w0 w) (h1 : w0.heap.size ≤ b) : RdK b w v xs :=
  fun w' hg => h.below (hb.trans (below_grown hg h1 hb.size))
theorem Aside0.rdk {b : Nat} {w w' : World} {v : Value} {xs : List Int} (h : Aside0 (RdK b w v xs)) (hg : w.grownBy w' (some b)) : Aside0 (RdK b w' v xs) := ⟨h.out.go hg⟩

/-- block b alone is turned, and what is known of it stays -/
def Gm (b : Nat) (I : World → Prop) (w w' : World) : Prop := w.grownBy w' (some b) ∧ (I w → I w')
theorem Gm.refl (b : Nat) (I : World → Prop) (w : World) : Gm b I w w := ⟨grown_below (Below.refl _ _) _, id⟩
theorem Gm.trans {b : Nat} {I : World → Prop} {w1 w2 w3 : World} (h : Gm b I w1 w2) (k : Gm b I w2 w3) : Gm b I w1 w3 := ⟨grown_trans h.1 k.1, fun x => k.2 (h.2 x)⟩

/-! a table of numbers: place p * 64 + q -/
def TabV (n : Nat) (val : Nat → Nat → Int) (L : List Int) : Prop := L.length = 4096 ∧ ∀ p q, Pl n p q → 0 ≤ L.getD (p * 64 + q) 0 → L.getD (p * 64 + q) 0 = val p q
def TabI (n : Nat) (val : Nat → Nat → Int) (b c : Nat) (w : World) : Prop := ∃ L, OwnI 0 w (.slice (some ⟨b, 0, none⟩) 4096 c) L ∧ TabV n val L
theorem TabI.below {n : Nat} {val : Nat → Nat → Int} {b c : Nat} {w w' : World} (h : TabI n val b c w) (hb : Below w.heap.size w w') : TabI n val b c w' := by
  obtain ⟨L, ho, hv⟩ := h
  exact ⟨L, ho.below hb, hv⟩
theorem tab_none {n : Nat} (hn : n ≤ 6) (val : Nat → Nat → Int) : TabV n val (noneT 4096) := by
  refine ⟨noneT_len _, fun p q hp h => ?_⟩
  exfalso
  unfold noneT at h
  rw [List.getD_eq_getElem?_getD, List.getElem?_replicate] at h
  split at h
  · exact absurd h (by decide)
  · next h2 => exact h2 (by have := hp.lt hn; omega)
theorem tab_place {n p q p' q' : Nat} (hn : n ≤ 6) (h : Pl n p q) (h' : Pl n p' q') (e : p * 64 + q = p' * 64 + q') : p = p' ∧ q = q' := by
  have h1 := h.lt hn
  have h2 := h'.lt hn
  omega
theorem tab_set {n : Nat} (hn : n ≤ 6) {val : Nat → Nat → Int} {L : List Int} (h : TabV n val L) {p q : Nat} (hp : Pl n p q) : TabV n val (L.set (p * 64 + q) (val p q)) := by
  refine ⟨by rw [List.length_set]; exact h.1, fun p' q' hp' h0 => ?_⟩
  have hl := h.1
  have h1 := hp.lt hn
  have h2 := hp'.lt hn
  by_cases e : p * 64 + q = p' * 64 + q'
  · obtain ⟨rfl, rfl⟩ := tab_place hn hp hp' e
    rw [List.getD_eq_getElem?_getD, List.getElem?_set_self (by omega)]; rfl
  · have e2 : (L.set (p * 64 + q) (val p q)).getD (p' * 64 + q') 0 = L.getD (p' * 64 + q') 0 := by
      rw [List.getD_eq_getElem?_getD, List.getElem?_set_ne e, List.getD_eq_getElem?_getD]
    rw [e2] at h0 ⊢
    exact h.2 p' q' hp' h0
end Go.Proofs.Ythbkboigbkadjaa.H
