/- Trees of questions: what isTree and l10Tree answer. Ways through a tree of questions: the plain law. A region of open order whose calls turn memory in a way that is told by a relation. Memory in which one block alone is turned. Memory in which one block alone is turned; tables and maps of known numbers. Questions needed, of the reference. Maps of known numbers, by states. What is known of a world is carried to the next one: the words of the printed laws. Questions needed, of the program. How many vertices a face has. -/
import Derived.Maps.Own
import Derived.Maps.OwnOps
import Derived.Maps.OwnSet
import Derived.Maps.Views
import Derived.DeepKeys4
import Derived.Test.YtkggchklmpmgpaaGreatKFnTrees1
import Derived.Test.YtkggchklmpmgpaaGreatKFnTrees2
import Derived.Test.YtkggchklmpmgpaaGreatKFnTrees3
import Derived.Test.YtkggchklmpmgpaaGreatKFnTrees4

namespace Go.Proofs.YtkggchklmpmgpaaGreat.H
open Go.RowKit Go.Proofs.YtkggchklmpmgpaaGreatW.PrintWords Go.Proofs.YtkggchklmpmgpaaGreatW.PrintLast
set_option linter.unusedVariables false
set_option linter.unusedSimpArgs false
/-- the question at a place (from 1 on) -/
def qAt (t : List Int) (p : Nat) : Int := t.getD (p - 1) 0
/-- a place above that asks the same -/
def clash (t : List Int) (p : Nat) (a : Nat) : Bool :=
 if h : a = 0 then false else (qAt t a == qAt t p) || clash t p (a / 2)
termination_by a
decreasing_by omega
def treeOk (n : Nat) (t : List Int) : Bool :=
 decide (t.length = 2 ^ n - 1) && (t.all (inTree n) && (List.range t.length).all fun i => !clash t (i + 1) ((i + 1) / 2))
theorem treeOk_true {n N : Nat} {t : List Int} (h : t.length + 1 = N) (hN : N = 2 ^ n) (hall : t.all (inTree n) = true) (HI : ∀ j, j < t.length → clash t (j + 1) ((j + 1) / 2) = false) : treeOk n t = true := by
 unfold treeOk
 rw [hall, Bool.and_eq_true, decide_eq_true_eq]
 refine ⟨by omega, ?_⟩
 rw [Bool.true_and, List.all_eq_true]
 intro j hj
 rw [HI j (List.mem_range.1 hj)]
 rfl
theorem treeOk_false {n : Nat} {t : List Int} {i : Nat} (hi : i < t.length) (h : clash t (i + 1) ((i + 1) / 2) = true) : treeOk n t = false := by
 unfold treeOk
 have : (List.range t.length).all (fun i => !clash t (i + 1) ((i + 1) / 2)) = false := by
  rw [List.all_eq_false]
  exact ⟨i, List.mem_range.2 hi, by rw [h]; decide⟩
 rw [this, Bool.and_false, Bool.and_false]
theorem treeOk_false2 {n : Nat} {t : List Int} {i : Nat} (hi : i < t.length) (h : inTree n (qAt t (i + 1)) = false) : treeOk n t = false := by
 unfold treeOk
 have : t.all (inTree n) = false := by
  rw [List.all_eq_false]
  refine ⟨t[i], List.getElem_mem hi, ?_⟩
  simp only [qAt, Nat.add_sub_cancel, List.getD_eq_getElem?_getD, List.getElem?_eq_getElem hi, Option.getD_some] at h
  rw [h]; decide
 rw [this, Bool.false_and, Bool.and_false]
theorem inTree_all {n : Nat} {t : List Int} (h : ∀ j, j < t.length → inTree n (qAt t (j + 1)) = true) : t.all (inTree n) = true := by
 rw [List.all_eq_true]
 intro x hx
 obtain ⟨j, hj, rfl⟩ := List.getElem_of_mem hx
 have := h j hj
 simpa only [qAt, Nat.add_sub_cancel, List.getD_eq_getElem?_getD, List.getElem?_eq_getElem hj, Option.getD_some] using this
theorem clash_step {t : List Int} {p a : Nat} (h : 0 < a) : clash t p a = ((qAt t a == qAt t p) || clash t p (a / 2)) := by
 rw [clash, dif_neg (by omega)]
theorem clash_zero (t : List Int) (p : Nat) : clash t p 0 = false := by
 rw [clash, dif_pos rfl]
set_option maxHeartbeats 1000000 in
theorem isTree1 (w : World) (b : Nat) (n : Nat) (hn : 1 ≤ n ∧ n ≤ 6) (hc : w.cell? ⟨b, 0, none⟩ = some (.int .i64 n)) :
  PredI w (.func (.func 338) #[] #[.pointer (some ⟨b, 0, none⟩)]) (inTree n) (fun _ => True) := by
 refine ⟨_, _, _, rfl, Enters.mk' Tryz.func338 rfl rfl, fun w1 x hb hx => ?_⟩
 have hcell : w1.cell? ⟨b, 0, none⟩ = some (.int .i64 n) := pw_cell_below hb hc
 clear hb hc
 show Calls _ _ #[_, _] _ _
 obtain ⟨h1, h2⟩ := hn
 go_enter Tryz.func338, Tryz.ntmps338
 go_wp2
 all_goals go_ret
 all_goals exact ⟨by simp [inTree, *] <;> omega, Below.refl _ _⟩
set_option maxHeartbeats 1000000 in
theorem isTree (v : Value) (t : List Int) (n : Nat) (hn : 1 ≤ n ∧ n ≤ 6) (w : World) (hr : ReadI w v t) :
  Calls Tryz.prog 208 #[.int .i64 n, v] w fun e w' => e = .returned (.bool (treeOk n t)) ∧ Below w.heap.size w w' := by
 have hba : Below w.heap.size w (w.alloc (.cells #[.int .i64 n] 2)) := Below.alloc (Below.refl _ _) (Nat.le_refl _) _
 have HV := Aside0.mk (hr.below hba)
 obtain ⟨A, c, rfl, hc, hr⟩ := hr
 have HR := Aside0.mk (Kd.C_below hr hba)
 have HB := Aside0.mk hba
 clear hr hc hba
 obtain ⟨h1, h2⟩ := hn
 obtain ⟨N, hN⟩ : ∃ N : Nat, N = 2 ^ n := ⟨_, rfl⟩
 have hsh : wrap64 ((2 : Int) ^ n) = (N : Int) := by
  rcases (by omega : n = 1 ∨ n = 2 ∨ n = 3 ∨ n = 4 ∨ n = 5 ∨ n = 6) with rfl | rfl | rfl | rfl | rfl | rfl <;> subst hN <;> (unfold wrap64; decide)
 have hN1 : 2 ≤ N ∧ N ≤ 64 := by
  rcases (by omega : n = 1 ∨ n = 2 ∨ n = 3 ∨ n = 4 ∨ n = 5 ∨ n = 6) with rfl | rfl | rfl | rfl | rfl | rfl <;> subst hN <;> decide
 have HN := Aside0.mk hN
 clear hN
 by_cases hl : t.length + 1 = N
 ·have hl1 : ((t.length : Int) != (N : Int) - 1) = false := by simp; omega
  have HL := Aside0.mk hl
  clear hl
  go_enter Tryz.func208, Tryz.ntmps208
  go_wp2
  have hcell : ∀ x : Ext (w.alloc (.cells #[.int .i64 n] 2)), x.1.cell? ⟨w.heap.size, 0, none⟩ = some (.int .i64 n) := fun x => Ext.cell (by simp) x
  refine wp_region_ext (by kernel_rfl) (by kernel_rfl) ?_
  repeat (go_big_quiet_step ((first | (go_at_call 312; exact Calls.ext_of (length_any _ _ _ _)) | (go_at_call 154; exact Calls.ext_of (areAll _ _ _ (inTree n) (fun _ => True) _ (HV.out.below (Subtype.property _)) ((isTree1 _ _ n ⟨h1, h2⟩ (by simp)).below (Subtype.property _)) (fun _ _ => trivial))))))
  refine wpQuiet_nil ?_
  rintro _ ⟨x, rfl⟩
  have HX : Aside0 (Below w.heap.size w x.1) := ⟨HB.out.trans (x.2.mono HB.out.size)⟩
  have HRx := Aside0.mk (Kd.C_below HR.out x.2)
  have hcx := hcell x
  clear hcell HR HB HV
  obtain ⟨wx, hxw⟩ : ∃ wx, wx = x.1 := ⟨_, rfl⟩
  rw [← hxw] at HX HRx hcx ⊢
  clear hxw x
  cases hall : t.all (inTree n) with
  | false =>
   go_wp2
   go_ret
   exact ⟨by simp [treeOk, hall], HX.out⟩
  | true =>
   go_wp2
   go_loopw [5] (fun v wr => ∃ i : Nat, v = .int .i64 ((i : Int) + 1) ∧ i ≤ t.length ∧ Aside0 (∀ j, j < i → clash t (j + 1) ((j + 1) / 2) = false) ∧ Aside0 (Below w.heap.size w wr) ∧ Aside0 (Below wx.heap.size wx wr)) (fun v _ => t.length + 1 - (intOf v).toNat)
   case atStart => exact ⟨0, by simp, Nat.zero_le _, ⟨fun j hj => absurd hj (Nat.not_lt_zero _)⟩, HX, ⟨Below.refl _ _⟩⟩
   case round =>
    obtain ⟨i, rfl, hi, HI, HB, HBx⟩ := hrel
    have hcr : wr.cell? ⟨w.heap.size, 0, none⟩ = some (.int .i64 n) := pw_cell_below HBx.out hcx
    by_cases hlt : i < t.length
    ·have hlt' : (i : Int) + 1 < N := by have := HL.out; omega
     go_wp2
     go_loopw [6] (fun v wr2 => ∃ a : Nat, v = .int .i64 a ∧ a ≤ i ∧ Aside0 (clash t (i + 1) ((i + 1) / 2) = clash t (i + 1) a) ∧ Aside0 (Below w.heap.size w wr2) ∧ Aside0 (Below wx.heap.size wx wr2)) (fun v _ => (intOf v).toNat)
     case atStart => exact ⟨(i + 1) / 2, by simp, by omega, ⟨rfl⟩, HB, HBx⟩
     case round =>
      obtain ⟨a, rfl, ha, HA, HB2, HBx2⟩ := hrel
      by_cases h0 : 0 < a
      ·have h0' : (0 : Int) < a := by omega
       obtain ⟨ad, e1, hcell1⟩ := Kd.at_int (Kd.C_below HRx.out HBx2.out) (i : Int) (by omega) (by omega)
       cases e1
       obtain ⟨ad', e2, hcell2⟩ := Kd.at_int (Kd.C_below HRx.out HBx2.out) ((a - 1 : Nat) : Int) (by omega) (by omega)
       cases e2
       have hq1 : rd t (i : Int) = qAt t (i + 1) := by simp [rd, qAt]
       have hq2 : rd t ((a - 1 : Nat) : Int) = qAt t a := by simp [rd, qAt]
       rw [hq1] at hcell1
       rw [hq2] at hcell2
       simp only [Int.toNat_natCast] at hcell1 hcell2
       have hi1 : ((i : Int) + 1 - 1).toNat = i := by omega
       have ha1 : ((a : Int) - 1).toNat = a - 1 := by omega
       have hi2 : (0 : Int) ≤ (i : Int) := by omega
       have hi3 : (i : Int) < t.length := by omega
       have ha2 : (0 : Int) ≤ (a : Int) - 1 := by omega
       have ha3 : (a : Int) - 1 < t.length := by omega
       clear hq1 hq2
       have HST := Aside0.mk (clash_step (t := t) (p := i + 1) (a := a) (by omega))
       cases hqq : (qAt t a == qAt t (i + 1)) with
       | true =>
        go_wp2
        go_quiet (fail)
        go_wp2
        go_ret
        exact ⟨by rw [treeOk_false (n := n) (i := i) (by omega) (by rw [HA.out, HST.out, hqq]; rfl)]; rfl, below_drewN HB2.out _⟩
       | false =>
        go_wp2
        go_quiet (fail)
        go_wp2
        go_roundw
        case rel => exact ⟨a / 2, by go_num, by omega, ⟨by rw [HA.out, HST.out, hqq]; rfl⟩, ⟨below_drewN HB2.out _⟩, ⟨below_drewN HBx2.out _⟩⟩
        case measure => simp [intOf]; omega
      ·have h0' : (a : Int) ≤ 0 := by omega
       have ea : a = 0 := by omega
       have HE := Aside0.mk ea
       clear ea
       go_wp2
       go_roundw
       case rel => exact ⟨i + 1, by go_num, by omega, ⟨fun j hj => by
        rcases Nat.lt_succ_iff_lt_or_eq.1 hj with h | rfl
        ·exact HI.out j h
        ·rw [HA.out, HE.out, clash_zero]⟩, HB2, HBx2⟩
       case measure => simp [intOf]; omega
    ·have hlt' : (N : Int) ≤ (i : Int) + 1 := by have := HL.out; omega
     go_wp2
     go_ret
     exact ⟨by rw [treeOk_true HL.out HN.out hall (fun j hj => HI.out j (by omega))]; rfl, HB.out⟩
 ·have hl1 : ((t.length : Int) != (N : Int) - 1) = true := by simp; omega
  go_enter Tryz.func208, Tryz.ntmps208
  go_wp2
  have hcell : ∀ x : Ext (w.alloc (.cells #[.int .i64 n] 2)), x.1.cell? ⟨w.heap.size, 0, none⟩ = some (.int .i64 n) := fun x => Ext.cell (by simp) x
  refine wp_region_ext (by kernel_rfl) (by kernel_rfl) ?_
  repeat (go_big_quiet_step ((first | (go_at_call 312; exact Calls.ext_of (length_any _ _ _ _)))))
  refine wpQuiet_nil ?_
  rintro _ ⟨x, rfl⟩
  go_wp2
  go_ret
  exact ⟨by simp [treeOk]; intro h; have := HN.out; omega, HB.out.trans (x.2.mono HB.out.size)⟩
set_option maxHeartbeats 1000000 in
theorem specTree (v : Value) (t : List Int) (n : Nat) (hn : 1 ≤ n ∧ n ≤ 6) (w : World) (hr : ReadI w v t) :
  Calls Tryz.prog 217 #[.int .i64 n, v] w fun e w' => e = .returned (.bool (treeOk n t)) ∧ Below w.heap.size w w' := by
 obtain ⟨A, c, rfl, hc, hr⟩ := hr
 have HR := Aside0.mk hr
 clear hr hc
 obtain ⟨h1, h2⟩ := hn
 obtain ⟨N, hN⟩ : ∃ N : Nat, N = 2 ^ n := ⟨_, rfl⟩
 have hsh : wrap64 ((2 : Int) ^ n) = (N : Int) := by
  rcases (by omega : n = 1 ∨ n = 2 ∨ n = 3 ∨ n = 4 ∨ n = 5 ∨ n = 6) with rfl | rfl | rfl | rfl | rfl | rfl <;> subst hN <;> (unfold wrap64; decide)
 have hN1 : 2 ≤ N ∧ N ≤ 64 := by
  rcases (by omega : n = 1 ∨ n = 2 ∨ n = 3 ∨ n = 4 ∨ n = 5 ∨ n = 6) with rfl | rfl | rfl | rfl | rfl | rfl <;> subst hN <;> decide
 have HN := Aside0.mk hN
 clear hN
 by_cases hl : t.length + 1 = N
 ·have hl1 : ((t.length : Int) != (N : Int) - 1) = false := by simp; omega
  have HL := Aside0.mk hl
  clear hl
  go_enter Tryz.func217, Tryz.ntmps217
  go_wp2
  simp only [hsh]
  clear hsh
  go_loopw [5] (fun v wr => ∃ i : Nat, v = .int .i64 ((i : Int) + 1) ∧ i ≤ t.length ∧ Aside0 (∀ j, j < i → inTree n (qAt t (j + 1)) = true ∧ clash t (j + 1) ((j + 1) / 2) = false) ∧ Aside0 (Below w.heap.size w wr)) (fun v _ => t.length + 1 - (intOf v).toNat)
  case atStart => exact ⟨0, by simp, Nat.zero_le _, ⟨fun j hj => absurd hj (Nat.not_lt_zero _)⟩, ⟨Below.refl _ _⟩⟩
  case round =>
   obtain ⟨i, rfl, hi, HI, HB⟩ := hrel
   by_cases hlt : i < t.length
   ·have hlt' : (i : Int) + 1 ≤ t.length := by omega
    have htl : t.length ≤ 63 := by have := HL.out; omega
    obtain ⟨ad, y, e1, hcell1, HY⟩ := ReadI.get (Kd.C_below HR.out HB.out) hlt
    cases e1
    have HQ : Aside0 (qAt t (i + 1) = y) := ⟨HY.out⟩
    cases hin : inTree n y with
    | false =>
     have hin' : (decide ((0 : Int) ≤ y) && decide (y ≤ (n : Int) - 1)) = false := hin
     have HI2 := Aside0.mk hin
     clear hin
     go_wp2_with (first | (go_at_call 164; refine (specIn _ _ _ _).mono ?_; rintro e w' ⟨rfl, hb⟩; rw [hin']))
     go_ret
     exact ⟨by rw [treeOk_false2 (n := n) (i := i) hlt (by rw [HQ.out]; exact HI2.out)]; rfl, HB.out.trans (hb.mono HB.out.size)⟩
    | true =>
     have hin' : (decide ((0 : Int) ≤ y) && decide (y ≤ (n : Int) - 1)) = true := hin
     have HI2 := Aside0.mk hin
     clear hin
     go_wp2_with (first | (go_at_call 164; refine (specIn _ _ _ _).mono ?_; rintro e w' ⟨rfl, hb⟩; rw [hin']; have HBB := Aside0.mk (HB.out.trans (hb.mono HB.out.size)); clear hb))
     go_loopw [6] (fun v wr2 => ∃ a : Nat, v = .int .i64 a ∧ a ≤ i ∧ Aside0 (clash t (i + 1) ((i + 1) / 2) = clash t (i + 1) a) ∧ Aside0 (Below w.heap.size w wr2)) (fun v _ => (intOf v).toNat)
     case atStart => exact ⟨(i + 1) / 2, by simp, by omega, ⟨rfl⟩, HBB⟩
     case round =>
      obtain ⟨a, rfl, ha, HA, HB2⟩ := hrel
      by_cases h0 : 0 < a
      ·have h0' : (0 : Int) < a := by omega
       obtain ⟨ad, x1, e1, hcell1, HX1⟩ := ReadI.get (Kd.C_below HR.out HB2.out) hlt
       cases e1
       obtain ⟨ad', x2, e2, hcell2, HX2⟩ := ReadI.get (Kd.C_below HR.out HB2.out) (i := a - 1) (by omega)
       cases e2
       have hi1 : ((i : Int) + 1 - 1).toNat = i := by omega
       have ha1 : ((a : Int) - 1).toNat = a - 1 := by omega
       have hi2 : (0 : Int) ≤ (i : Int) := by omega
       have hi3 : (i : Int) < t.length := by omega
       have ha2 : (0 : Int) ≤ (a : Int) - 1 := by omega
       have ha3 : (a : Int) - 1 < t.length := by omega
       have HST := Aside0.mk (clash_step (t := t) (p := i + 1) (a := a) (by omega))
       have HQ1 : Aside0 (qAt t (i + 1) = x1) := ⟨HX1.out⟩
       have HQ2 : Aside0 (qAt t a = x2) := ⟨HX2.out⟩
       cases hqq : (x2 == x1) with
       | true =>
        go_wp2
        go_quiet (fail)
        go_wp2
        go_ret
        exact ⟨by rw [treeOk_false (n := n) (i := i) hlt (by rw [HA.out, HST.out, HQ1.out, HQ2.out, hqq]; rfl)]; rfl, below_drewN HB2.out _⟩
       | false =>
        go_wp2
        go_quiet (fail)
        go_wp2
        go_roundw
        case rel => exact ⟨a / 2, by go_num, by omega, ⟨by rw [HA.out, HST.out, HQ1.out, HQ2.out, hqq]; rfl⟩, ⟨below_drewN HB2.out _⟩⟩
        case measure => simp [intOf]; omega
      ·have h0' : (a : Int) ≤ 0 := by omega
       have ea : a = 0 := by omega
       have HE := Aside0.mk ea
       clear ea
       go_wp2
       go_roundw
       case rel => exact ⟨i + 1, by go_num, by omega, ⟨fun j hj => by
        rcases Nat.lt_succ_iff_lt_or_eq.1 hj with h | rfl
        ·exact HI.out j h
        ·exact ⟨by rw [HQ.out]; exact HI2.out, by rw [HA.out, HE.out, clash_zero]⟩⟩, HB2⟩
       case measure => simp [intOf]; omega
   ·have hlt' : (t.length : Int) < (i : Int) + 1 := by omega
    have htl : t.length ≤ 63 := by have := HL.out; omega
    go_wp2
    go_ret
    exact ⟨by rw [treeOk_true HL.out HN.out (inTree_all (fun j hj => (HI.out j (by omega)).1)) (fun j hj => (HI.out j (by omega)).2)]; rfl, HB.out⟩
 ·have hl1 : ((t.length : Int) != (N : Int) - 1) = true := by simp; omega
  go_enter Tryz.func217, Tryz.ntmps217
  go_wp2
  go_ret
  exact ⟨by simp [treeOk]; intro h; have := HN.out; omega, Below.refl _ _⟩
/-- the question at a place, as a number -/
def qN (t : List Int) (p : Nat) : Nat := (qAt t p).toNat
/-- the place behind i answers -/
def plc (t : List Int) (h : Nat) : Nat → Nat
 | 0 => 1
 | i + 1 => 2 * plc t h i + (h / 2 ^ qN t (plc t h i)) % 2
/-- asked, and the answer was yes -/
def yess (t : List Int) (h : Nat) : Nat → Nat
 | 0 => 0
 | i + 1 => if h.testBit (qN t (plc t h i)) then yess t h i ||| 2 ^ qN t (plc t h i) else yess t h i
/-- asked, and the answer was no -/
def noes (t : List Int) (h : Nat) : Nat → Nat
 | 0 => 0
 | i + 1 => if h.testBit (qN t (plc t h i)) then noes t h i else noes t h i ||| 2 ^ qN t (plc t h i)
/-- the first i questions -/
def wayL (t : List Int) (h i : Nat) : List Int := (List.range i).map fun j => qAt t (plc t h j)
theorem wayL_succ (t : List Int) (h i : Nat) : wayL t h (i + 1) = wayL t h i ++ [qAt t (plc t h i)] := by unfold wayL; rw [List.range_succ, List.map_append]; rfl
theorem wayL_len (t : List Int) (h i : Nat) : (wayL t h i).length = i := by unfold wayL; simp
theorem plc_half (t : List Int) (h i : Nat) : plc t h (i + 1) / 2 = plc t h i := by
 have : (h / 2 ^ qN t (plc t h i)) % 2 < 2 := Nat.mod_lt _ (by decide)
 show (2 * plc t h i + _) / 2 = _
 omega
theorem plc_bd (t : List Int) (h : Nat) : ∀ i, 2 ^ i ≤ plc t h i ∧ plc t h i < 2 ^ (i + 1)
 | 0 => ⟨Nat.le_refl 1, Nat.lt_succ_self 1⟩
 | i + 1 => by
  have := plc_bd t h i
  have h1 : (h / 2 ^ qN t (plc t h i)) % 2 < 2 := Nat.mod_lt _ (by decide)
  rw [Nat.pow_succ 2 (i + 1), Nat.pow_succ 2 i] at *
  show _ ≤ 2 * plc t h i + _ ∧ 2 * plc t h i + _ < _
  omega
theorem bit_mod (h v : Nat) : (h / 2 ^ v) % 2 = if h.testBit v then 1 else 0 := by
 rw [Nat.testBit_eq_decide_div_mod_eq]
 have : (h / 2 ^ v) % 2 < 2 := Nat.mod_lt _ (by decide)
 split
 ·next h1 => exact of_decide_eq_true h1
 ·next h1 => have := of_decide_eq_false (Bool.not_eq_true _ ▸ h1 : decide _ = false); omega
theorem plc_yes {t : List Int} {h i : Nat} (hb : h.testBit (qN t (plc t h i)) = true) : plc t h (i + 1) = 2 * plc t h i + 1 := by
 show 2 * plc t h i + _ = _; rw [bit_mod, hb]; rfl
theorem plc_no {t : List Int} {h i : Nat} (hb : h.testBit (qN t (plc t h i)) = false) : plc t h (i + 1) = 2 * plc t h i := by
 show 2 * plc t h i + _ = _; rw [bit_mod, hb]; rfl
theorem yess_yes {t : List Int} {h i : Nat} (hb : h.testBit (qN t (plc t h i)) = true) : yess t h (i + 1) = yess t h i ||| 2 ^ qN t (plc t h i) := by
 show (if _ then _ else _) = _; rw [if_pos hb]
theorem yess_no {t : List Int} {h i : Nat} (hb : h.testBit (qN t (plc t h i)) = false) : yess t h (i + 1) = yess t h i := by
 show (if _ then _ else _) = _; rw [if_neg (by rw [hb]; decide)]
theorem noes_yes {t : List Int} {h i : Nat} (hb : h.testBit (qN t (plc t h i)) = true) : noes t h (i + 1) = noes t h i := by
 show (if _ then _ else _) = _; rw [if_pos hb]
theorem noes_no {t : List Int} {h i : Nat} (hb : h.testBit (qN t (plc t h i)) = false) : noes t h (i + 1) = noes t h i ||| 2 ^ qN t (plc t h i) := by
 show (if _ then _ else _) = _; rw [if_neg (by rw [hb]; decide)]
/-! what a tree gives -/
theorem tree_len {n : Nat} {t : List Int} (h : treeOk n t = true) : t.length = 2 ^ n - 1 := by
 unfold treeOk at h; rw [Bool.and_eq_true, decide_eq_true_eq] at h; exact h.1
theorem tree_in {n : Nat} {t : List Int} (h : treeOk n t = true) {p : Nat} (h1 : 1 ≤ p) (h2 : p < 2 ^ n) : 0 ≤ qAt t p ∧ qAt t p ≤ (n : Int) - 1 ∧ qAt t p = (qN t p : Int) ∧ qN t p < n := by
 have hl := tree_len h
 unfold treeOk at h
 rw [Bool.and_eq_true, Bool.and_eq_true] at h
 have h3 := List.all_eq_true.1 h.2.1
 have hi : p - 1 < t.length := by omega
 have := h3 _ (List.getElem_mem hi)
 have e : qAt t p = t[p - 1] := by unfold qAt; simp [List.getD_eq_getElem?_getD, hi]
 rw [← e] at this
 unfold inTree at this
 rw [Bool.and_eq_true, decide_eq_true_eq, decide_eq_true_eq] at this
 unfold qN
 omega
theorem tree_clash {n : Nat} {t : List Int} (h : treeOk n t = true) {p : Nat} (h1 : 1 ≤ p) (h2 : p < 2 ^ n) : clash t p (p / 2) = false := by
 have hl := tree_len h
 unfold treeOk at h
 rw [Bool.and_eq_true, Bool.and_eq_true] at h
 have h3 := List.all_eq_true.1 h.2.2 (p - 1) (List.mem_range.2 (by omega))
 rw [show p - 1 + 1 = p by omega] at h3
 simpa using h3
theorem clash_anc {t : List Int} {p : Nat} : ∀ (k a : Nat), clash t p a = false → 0 < a / 2 ^ k → qAt t (a / 2 ^ k) ≠ qAt t p
 | 0, a, h, h0 => by
  rw [Nat.pow_zero, Nat.div_one] at h0 ⊢
  rw [clash_step h0, Bool.or_eq_false_iff] at h
  intro e
  rw [e, beq_self_eq_true] at h
  cases h.1
 | k + 1, a, h, h0 => by
  have ha : 0 < a := by
   rcases Nat.eq_zero_or_pos a with rfl | h
   ·rw [Nat.zero_div] at h0; omega
   ·exact h
  rw [clash_step ha, Bool.or_eq_false_iff] at h
  have e : a / 2 ^ (k + 1) = a / 2 / 2 ^ k := by rw [Nat.pow_succ, Nat.mul_comm, Nat.div_div_eq_div_mul]
  rw [e] at h0 ⊢
  exact clash_anc k (a / 2) h.2 h0
theorem plc_anc (t : List Int) (h : Nat) : ∀ k i, plc t h (i + k) / 2 ^ k = plc t h i
 | 0, i => by rw [Nat.pow_zero, Nat.div_one]; rfl
 | k + 1, i => by
  rw [Nat.pow_succ, Nat.mul_comm, ← Nat.div_div_eq_div_mul, ← Nat.add_assoc, plc_half]
  exact plc_anc t h k i
theorem way_ne {n : Nat} {t : List Int} (ht : treeOk n t = true) {h i j : Nat} (hj : j < i) (hi : i < n) : qN t (plc t h j) ≠ qN t (plc t h i) := by
 have hb := plc_bd t h i
 have h2 : 2 ^ (i + 1) ≤ 2 ^ n := Nat.pow_le_pow_right (by omega) (by omega)
 have hbj := plc_bd t h j
 have h2j : 2 ^ (j + 1) ≤ 2 ^ n := Nat.pow_le_pow_right (by omega) (by omega)
 have h0 : 1 ≤ 2 ^ i := Nat.one_le_two_pow
 have h0j : 1 ≤ 2 ^ j := Nat.one_le_two_pow
 have hc := tree_clash ht (p := plc t h i) (by omega) (by omega)
 have e : plc t h i / 2 / 2 ^ (i - j - 1) = plc t h j := by
  rw [Nat.div_div_eq_div_mul, ← Nat.pow_succ', show (i - j - 1).succ = i - j by omega]
  have := plc_anc t h (i - j) j
  rwa [show j + (i - j) = i by omega] at this
 have := clash_anc (i - j - 1) _ hc (by rw [e]; omega)
 rw [e] at this
 intro hq
 have e1 := tree_in ht (p := plc t h i) (by omega) (by omega)
 have e2 := tree_in ht (p := plc t h j) (by omega) (by omega)
 omega
theorem way_bits (t : List Int) (h v : Nat) : ∀ i, (yess t h i ||| noes t h i).testBit v = true ↔ ∃ j, j < i ∧ qN t (plc t h j) = v
 | 0 => by
  show (0 ||| 0 : Nat).testBit v = true ↔ _
  simp
 | i + 1 => by
  have ih := way_bits t h v i
  have e : (yess t h (i + 1) ||| noes t h (i + 1)).testBit v = ((yess t h i ||| noes t h i).testBit v || decide (qN t (plc t h i) = v)) := by
   cases hb : h.testBit (qN t (plc t h i)) with
   | true => rw [yess_yes hb, noes_yes hb, or_p, Nat.testBit_or _ (2 ^ _), Nat.testBit_two_pow]
   | false => rw [yess_no hb, noes_no hb, or_q, Nat.testBit_or _ (2 ^ _), Nat.testBit_two_pow]
  rw [e, Bool.or_eq_true, ih, decide_eq_true_eq]
  constructor
  ·rintro (⟨j, hj, hv⟩ | hv)
   ·exact ⟨j, by omega, hv⟩
   ·exact ⟨i, by omega, hv⟩
  ·rintro ⟨j, hj, hv⟩
   by_cases hji : j = i
   ·subst hji; exact .inr hv
   ·exact .inl ⟨j, by omega, hv⟩
theorem way_pl {n : Nat} {t : List Int} (ht : treeOk n t = true) (h : Nat) : ∀ i, i ≤ n → Pl n (yess t h i) (noes t h i) ∧ (i < n → (yess t h i ||| noes t h i).testBit (qN t (plc t h i)) = false)
 | i, hi => by
  have hfree : i < n → (yess t h i ||| noes t h i).testBit (qN t (plc t h i)) = false := by
   intro hlt
   cases hb : (yess t h i ||| noes t h i).testBit (qN t (plc t h i)) with
   | false => rfl
   | true =>
    obtain ⟨j, hj, hv⟩ := (way_bits t h _ i).1 hb
    exact absurd hv (way_ne ht hj hlt)
  refine ⟨?_, hfree⟩
  cases i with
  | zero => exact ⟨Nat.two_pow_pos n, Nat.two_pow_pos n, Nat.and_self 0⟩
  | succ i =>
   have ih := way_pl ht h i (by omega)
   have hb := plc_bd t h i
   have h2 : 2 ^ (i + 1) ≤ 2 ^ n := Nat.pow_le_pow_right (by omega) (by omega)
   have h0 : 1 ≤ 2 ^ i := Nat.one_le_two_pow
   have hq := tree_in ht (p := plc t h i) (by omega) (by omega)
   cases hb : h.testBit (qN t (plc t h i)) with
   | true => rw [yess_yes hb, noes_yes hb]; exact ih.1.yes hq.2.2.2 (ih.2 (by omega))
   | false => rw [yess_no hb, noes_no hb]; exact ih.1.no hq.2.2.2 (ih.2 (by omega))
theorem way_left {n : Nat} (hn : n ≤ 6) {t : List Int} (ht : treeOk n t = true) (h : Nat) : ∀ i, i ≤ n → lefts n (yess t h i) (noes t h i) + i = n
 | 0, _ => by
  show lefts n 0 0 + 0 = n
  unfold lefts frees
  rw [List.filter_eq_self.2 (fun v _ => by simp)]
  simp
 | i + 1, hi => by
  have ih := way_left hn ht h i (by omega)
  have hp := way_pl ht h i (by omega)
  have hb := plc_bd t h i
  have h2 : 2 ^ (i + 1) ≤ 2 ^ n := Nat.pow_le_pow_right (by omega) (by omega)
  have h0 : 1 ≤ 2 ^ i := Nat.one_le_two_pow
  have hq := tree_in ht (p := plc t h i) (by omega) (by omega)
  cases hb : h.testBit (qN t (plc t h i)) with
  | true =>
   rw [yess_yes hb, noes_yes hb]
   have := lefts_p hn hp.1 hq.2.2.2 (hp.2 (by omega))
   omega
  | false =>
   rw [yess_no hb, noes_no hb]
   have := lefts_q hn hp.1 hq.2.2.2 (hp.2 (by omega))
   omega
/-- told behind i answers -/
def toldAt (n : Nat) (xs t : List Int) (h i : Nat) : Bool := decide (0 ≤ toldV n xs (yess t h i) (noes t h i))
theorem toldAt_end {n : Nat} (hn : n ≤ 6) {xs t : List Int} (ht : treeOk n t = true) (h : Nat) : toldAt n xs t h n = true := by
 unfold toldAt
 rw [decide_eq_true_eq]
 exact told_all (way_pl ht h n (Nat.le_refl _)).1 (by have := way_left hn ht h n (Nat.le_refl _); omega)
/-- the first of k places at which it is told -/
def firstTold (n : Nat) (xs t : List Int) (h k : Nat) : Nat := (List.range k).findIdx (toldAt n xs t h)
theorem firstTold_hit {n : Nat} {xs t : List Int} {h i k : Nat} (hi : i < k) (h0 : ∀ j, j < i → toldAt n xs t h j = false) (h1 : toldAt n xs t h i = true) : firstTold n xs t h k = i := by
 unfold firstTold
 rw [List.findIdx_eq (by simpa using hi)]
 refine ⟨by simpa using h1, fun j hj => ?_⟩
 have := h0 j hj
 simpa using this
theorem firstTold_none {n : Nat} {xs t : List Int} {h k : Nat} (h0 : ∀ j, j < k → toldAt n xs t h j = false) : firstTold n xs t h k = k := by
 unfold firstTold
 have := List.findIdx_eq_length (p := toldAt n xs t h) (xs := List.range k)
 rw [List.length_range] at this
 rw [this]
 intro x hx
 exact h0 x (List.mem_range.1 hx)
theorem firstTold_le (n : Nat) (xs t : List Int) (h k : Nat) : firstTold n xs t h k ≤ k := by
 unfold firstTold
 have := List.findIdx_le_length (p := toldAt n xs t h) (xs := List.range k)
 rwa [List.length_range] at this
/-- how many questions are needed -/
def neededV (n : Nat) (xs t : List Int) (h : Nat) : Nat := firstTold n xs t h n
/-- each step -/
def gSteps (G : World → World → Prop) (P : Program) (l : List Oper) (B : List Nat) (V : Nat → Value → World → Prop) (a : Act) (w : World) : Nat → List Oper → Prop
 | _, [] => True
 | i, o :: r => (∀ s w1, G w w1 → (∀ j, ((List.range l.length).contains j && (B.getD i 0).testBit j) = true → V j (s j) w1) → (∀ j, (decide (j < l.length) && (B.getD j 0).testBit i) = true → s j = (a.tmps[(dsOf l)[j]?.getD 0]?).getD undef) →
   ∀ R : Value → World → Prop, (∀ v w', G w1 w' → V i v w' → R v w') → opGives P o (putAll (dsOf l) 0 s a).eval w1 R) ∧ gSteps G P l B V a w (i + 1) r
theorem gSteps_at {G : World → World → Prop} {P : Program} {l : List Oper} {B : List Nat} {V : Nat → Value → World → Prop} {a : Act} {w : World} : ∀ (r : List Oper) (k : Nat), gSteps G P l B V a w k r → ∀ i o, r[i]? = some o →
  ∀ s w1, G w w1 → (∀ j, ((List.range l.length).contains j && (B.getD (k + i) 0).testBit j) = true → V j (s j) w1) → (∀ j, (decide (j < l.length) && (B.getD j 0).testBit (k + i)) = true → s j = (a.tmps[(dsOf l)[j]?.getD 0]?).getD undef) →
   ∀ R : Value → World → Prop, (∀ v w', G w1 w' → V (k + i) v w' → R v w') → opGives P o (putAll (dsOf l) 0 s a).eval w1 R
 | [], _, _, _, _, h => by cases h
 | x :: r, k, h, 0, o, ho => by cases ho; exact h.1
 | x :: r, k, h, i + 1, o, ho => by
  have := gSteps_at r (k + 1) h.2 i o ho
  rwa [show k + 1 + i = k + (i + 1) by omega] at this
theorem wp_region_g (G : World → World → Prop) (hGr : ∀ w, G w w.drew) (hGt : ∀ w1 w2 w3, G w1 w2 → G w2 w3 → G w1 w3) {P : Program} {id : Nat} {Q : Exit → Act → World → Prop} {a : Act} {w : World} {l : List Oper} (V : Nat → Value → World → Prop) (B : List Nat) (hm : P.follows .mixedOrders = true) (hok : phiOk l B a.tmps.size = true)
  (hV : ∀ i v w1 w2, G w1 w2 → V i v w1 → V i v w2)
  (hs : gSteps G P l B V a w 0 l)
  (hend : ∀ s w1, G w w1 → (∀ i, i < l.length → V i (s i) w1) → Q .normal (putAll (dsOf l) 0 s a) w1) : (Code.region id l.toArray true).wp P Q a w := by
 simp only [phiOk, Bool.and_eq_true] at hok
 obtain ⟨⟨⟨⟨⟨h1, h0⟩, h2⟩, h3⟩, h4⟩, h5⟩ := hok
 have hnd : (dsOf l).Nodup := of_decide_eq_true h2
 have hTl : (rtab .any l.toArray).2.length = l.length := by rw [rtab_length]; simp
 have hds : ∀ (i : Nat) (o : Oper), l[i]? = some o → o.dst = some ((dsOf l)[i]?.getD 0) ∧ (dsOf l)[i]? = some (o.dst.getD 0) := by
  intro i o ho
  have e : (dsOf l)[i]? = some (o.dst.getD 0) := by simp [dsOf, ho]
  refine ⟨?_, e⟩
  have := List.all_eq_true.1 h1 o (List.mem_of_getElem? ho)
  rw [e]
  cases hd : o.dst with
  | none => rw [hd] at this; cases this
  | some d => rfl
 refine wp_region_last_drew (S := fun _ => True) (ds := []) hm trivial (fun _ => ?_)
 refine inv_ (T := rtab .any l.toArray) (B := B) (List.range l.length) (fun b a' w' => ∃ s, a' = putAll (dsOf l) 0 s a ∧ G w w' ∧ (∀ i, i < l.length → b i = true → V i (s i) w') ∧ ∀ i, i < l.length → b i = false → s i = (a.tmps[(dsOf l)[i]?.getD 0]?).getD undef) rfl h4 h5 ?_ ?_ ?_ ?_
 ·rw [hTl, Bool.and_eq_true, beq_iff_eq, beq_iff_eq]
  refine ⟨?_, by simp⟩
  apply List.ext_getElem
  ·simp [lof]
  ·intro i hi1 hi2
   have hi : i < l.length := by simpa [lof] using hi1
   simp [lof, hi]
 ·refine ⟨fun k => (a.tmps[(dsOf l)[k]?.getD 0]?).getD undef, ?_, hGr _, (fun _ _ h => by cases h), fun _ _ _ => rfl⟩
  refine (putAll_self _ _ _ _ (fun j d hj => ?_)).symm
  have hd := List.all_eq_true.1 h3 d (List.mem_of_getElem? hj)
  have hd' : d < a.tmps.size := of_decide_eq_true hd
  simp [hj, hd']
 ·intro i hi b a' w' ⟨s, ha, hb, hv, hq⟩ hbi hon hoff
  subst ha
  have hil : i < l.length := List.mem_range.1 hi
  have ho : l[i]? = some l[i] := List.getElem?_eq_getElem hil
  refine ⟨l[i], by simp, fun K hK => ?_⟩
  have hK' := Shut.out hK
  have hg : l[i].guard = none := by
   have := List.all_eq_true.1 h0 l[i] (List.mem_of_getElem? ho)
   cases hq : l[i].guard with
   | none => rfl
   | some g => rw [hq] at this; cases this
  rw [if_pos (by simp [Region.wanted, hg])]
  refine opGives_wp (gSteps_at l 0 hs i _ ho s w' hb (fun j hj => hv j (by have h6 := (Bool.and_eq_true _ _ ▸ hj : _ ∧ _).1; simpa using h6) (hon j (by simpa using hj))) (fun j hj => hq j (of_decide_eq_true (Bool.and_eq_true _ _ ▸ hj : _ ∧ _).1) (hoff j (by simpa using hj))) _ (fun v w2 hb2 hv2 => hK' _ _ ?_))
  refine ⟨upd s i v, ?_, hGt _ _ _ hb hb2, fun j hj hbj => ?_, fun j hj hbj => ?_⟩
  ·rw [(hds i _ ho).1, (hds i _ ho).2, Option.getD_some]
   exact putAll_put _ _ _ _ _ _ _ hnd (Nat.zero_le _) (by rw [Nat.sub_zero]; exact (hds i _ ho).2)
  ·by_cases hji : j = i
   ·subst hji
    have : upd s j v j = v := by simp [upd]
    rw [this]
    rw [Nat.zero_add] at hv2
    exact hv2
   ·have : upd s i v j = s j := by simp [upd, hji]
    rw [this]
    rw [up_ne hji] at hbj
    exact hV _ _ _ _ hb2 (hv j hj hbj)
  ·have hji : j ≠ i := by
    rintro rfl
    rw [up_self] at hbj
    cases hbj
   have : upd s i v j = s j := by simp [upd, hji]
   rw [this]
   rw [up_ne hji] at hbj
   exact hq j hj hbj
 ·intro b a' w' hall ⟨s, ha, hb, hv, hq⟩
  subst ha
  exact hend s w' hb (fun i hi => hv i hi (hall i (by simpa using hi)))
theorem grown_below {w w' : World} (h : Below w.heap.size w w') (row : Option Nat) : w.grownBy w' row := ⟨h.os, h.tape, h.output, h.size, fun k hk _ => h.block k hk⟩
theorem grown_drew (w : World) (row : Option Nat) : w.grownBy w.drew row := grown_below (Below.refl _ _).drew row
theorem grown_cell {w w' : World} {b : Nat} (hg : w.grownBy w' (some b)) {a : Addr} {v : Value} (h : w.cell? a = some v) (hne : a.block ≠ b) : w'.cell? a = some v := hg.cell h (fun e => hne (by injection e))
/-- what lay below a block that is turned -/
theorem below_grown {B b : Nat} {w w' : World} (hg : w.grownBy w' (some b)) (h1 : B ≤ b) (h2 : B ≤ w.heap.size) : Below B w w' :=
 ⟨hg.os, hg.tape, hg.output, hg.size, fun k hk => hg.block k (by omega) (fun e => by injection e; omega)⟩
/-- reads, whatever becomes of block b -/
def RdK (b : Nat) (w : World) (v : Value) (xs : List Int) : Prop := ∀ w', w.grownBy w' (some b) → ReadI w' v xs
theorem RdK.read {b : Nat} {w : World} {v : Value} {xs : List Int} (h : RdK b w v xs) : ReadI w v xs := h w (grown_below (Below.refl _ _) _)
theorem RdK.go {b : Nat} {w w' : World} {v : Value} {xs : List Int} (h : RdK b w v xs) (hg : w.grownBy w' (some b)) : RdK b w' v xs := fun w2 h2 => h w2 (grown_trans hg h2)
theorem RdK.below {b : Nat} {w w' : World} {v : Value} {xs : List Int} (h : RdK b w v xs) (hb : Below w.heap.size w w') : RdK b w' v xs := h.go (grown_below hb _)
theorem RdK.mk' {b : Nat} {w0 w : World} {v : Value} {xs : List Int} (h : ReadI w0 v xs) (hb : Below w0.heap.size w0 w) (h1 : w0.heap.size ≤ b) : RdK b w v xs :=
 fun w' hg => h.below (hb.trans (below_grown hg h1 hb.size))
/-- block b alone is turned, and what is known of it stays -/
def Gm (b : Nat) (I : World → Prop) (w w' : World) : Prop := w.grownBy w' (some b) ∧ (I w → I w')
theorem Gm.refl (b : Nat) (I : World → Prop) (w : World) : Gm b I w w := ⟨grown_below (Below.refl _ _) _, id⟩
theorem Gm.trans {b : Nat} {I : World → Prop} {w1 w2 w3 : World} (h : Gm b I w1 w2) (k : Gm b I w2 w3) : Gm b I w1 w3 := ⟨grown_trans h.1 k.1, fun x => k.2 (h.2 x)⟩
/-! a table of numbers: place p * 64 + q -/
def TabV (n : Nat) (val : Nat → Nat → Int) (L : List Int) : Prop := L.length = 4096 ∧ ∀ p q, Pl n p q → 0 ≤ L.getD (p * 64 + q) 0 → L.getD (p * 64 + q) 0 = val p q
def TabI (n : Nat) (val : Nat → Nat → Int) (b c : Nat) (w : World) : Prop := ∃ L, OwnI 0 w (.slice (some ⟨b, 0, none⟩) 4096 c) L ∧ TabV n val L
theorem TabI.below {n : Nat} {val : Nat → Nat → Int} {b c : Nat} {w w' : World} (h : TabI n val b c w) (hb : Below w.heap.size w w') : TabI n val b c w' := by
 obtain ⟨L, ho, hv⟩ := h
 exact ⟨L, ho.below hb, hv⟩
theorem tab_none {n : Nat} (hn : n ≤ 6) (val : Nat → Nat → Int) : TabV n val (noneT 4096) := by
 refine ⟨noneT_len _, fun p q hp h => ?_⟩
 exfalso
 unfold noneT at h
 rw [List.getD_eq_getElem?_getD, List.getElem?_replicate] at h
 split at h
 ·exact absurd h (by decide)
 ·next h2 => exact h2 (by have := hp.lt hn; omega)
theorem tab_place {n p q p' q' : Nat} (hn : n ≤ 6) (h : Pl n p q) (h' : Pl n p' q') (e : p * 64 + q = p' * 64 + q') : p = p' ∧ q = q' := by
 have h1 := h.lt hn
 have h2 := h'.lt hn
 omega
theorem tab_set {n : Nat} (hn : n ≤ 6) {val : Nat → Nat → Int} {L : List Int} (h : TabV n val L) {p q : Nat} (hp : Pl n p q) : TabV n val (L.set (p * 64 + q) (val p q)) := by
 refine ⟨by rw [List.length_set]; exact h.1, fun p' q' hp' h0 => ?_⟩
 have hl := h.1
 have h1 := hp.lt hn
 have h2 := hp'.lt hn
 by_cases e : p * 64 + q = p' * 64 + q'
 ·obtain ⟨rfl, rfl⟩ := tab_place hn hp hp' e
  rw [List.getD_eq_getElem?_getD, List.getElem?_set_self (by omega)]; rfl
 ·have e2 : (L.set (p * 64 + q) (val p q)).getD (p' * 64 + q') 0 = L.getD (p' * 64 + q') 0 := by
   rw [List.getD_eq_getElem?_getD, List.getElem?_set_ne e, List.getD_eq_getElem?_getD]
  rw [e2] at h0 ⊢
  exact h.2 p' q' hp' h0
theorem TabI.lt {n : Nat} {val : Nat → Nat → Int} {b c : Nat} {w : World} (h : TabI n val b c w) : b < w.heap.size := by
 obtain ⟨L, ho, -⟩ := h
 exact ho.lt b (by simp [Value.ownBlock])
theorem TabI.get {n : Nat} (hn : n ≤ 6) {val : Nat → Nat → Int} {b c : Nat} {w : World} (h : TabI n val b c w) {p q : Nat} (hp : Pl n p q) :
  ∃ y, w.cell? ⟨b, p * 64 + q, none⟩ = some (.int .i64 y) ∧ (0 ≤ y → y = val p q) := by
 obtain ⟨L, ho, hll⟩ := h
 obtain ⟨hl, hv⟩ := hll
 have hb := hp.lt hn
 obtain ⟨A, d, e, hd, hr⟩ := ho.read
 rw [hl] at e
 cases e
 obtain ⟨ad, e, hc⟩ := ReadI.at_ hr (i := p * 64 + q) (by omega)
 cases e
 rw [add_mk] at hc
 exact ⟨_, hc, fun h0 => hv p q hp h0⟩
theorem min_if (a b : Int) : (if b < a then b else a) = min a b := by split <;> omega
theorem ne_zero_nat {V : Nat} (h : 0 < V) : ((V : Int) == 0) = false := by rw [beq_eq_false_iff_ne]; omega
theorem lt_of_succ {a b : Nat} (h : a + 1 = b) : a < b := by omega
theorem lt_big {a : Nat} (h : a < 64) : a < 9223372036854775808 := by omega
theorem and_pow (m v : Nat) : m &&& 2 ^ v = if m.testBit v then 2 ^ v else 0 := by
 apply Nat.eq_of_testBit_eq
 intro i
 rw [Nat.testBit_and, Nat.testBit_two_pow]
 by_cases h : v = i
 ·subst h
  cases hb : m.testBit v <;> simp
 ·rw [decide_eq_false h, Bool.and_false]
  split
  ·rw [Nat.testBit_two_pow, decide_eq_false h]
  ·rw [Nat.zero_testBit]
theorem progLaid : laidOutB Tryz.prog = true := by kernel_rfl
theorem stRow : (148 : TypeId) < Tryz.prog.types.size := of_decide_eq_true (by kernel_rfl)
theorem stKey2 : Tryz.prog.keyTypeAt 2 148 = true := by kernel_rfl
theorem le2 : 2 + 1 ≤ 10000 := by decide +kernel
theorem stKeyed : Go.Maps.Keyed Tryz.prog 148 := Go.Maps.Keyed.of_law (deep_law_laid progLaid le2 stRow stKey2 (by rw [Tryz.underlying148]))
theorem zeroI (w : World) : (zeroValue 2).run Tryz.prog w = .ok (.int .i64 0) w := by kernel_rfl
def stV (a y : Nat) : Value := .agg #[.int .i64 a, .int .i64 y]
theorem wf_nat {a : Nat} (h : a < 64) : (Lit.int .i64 (a : Int)).wf = true := WalkArith.wf_i64 (by omega)
theorem stTypes : ∃ m, Tryz.prog.types.size = m + 1 := ⟨Tryz.prog.types.size - 1, by kernel_rfl⟩
theorem stKT : Tryz.prog.keyType 148 = true := by kernel_rfl
theorem stCells : Tryz.prog.cellsOf 148 = 2 := by kernel_rfl
theorem i64Cells : Tryz.prog.cellsOf 2 = 1 := by kernel_rfl
theorem stLit (a y : Nat) (ha : a < 64) (hy : y < 64) : ∃ l, keyOf Tryz.prog 148 (stV a y) = some l := by
 obtain ⟨m, hm⟩ := stTypes
 have h1 := wf_nat ha
 have h2 := wf_nat hy
 have hf : (stV a y).formed Tryz.prog 148 = true := by simp [stV, Value.formed, Tryz.underlying148, stCells]
 refine ⟨.string (keyBytes [.int .i64 a, .int .i64 y]), ?_⟩
 unfold keyOf
 rw [Tryz.underlying148]
 simp only
 rw [stKT, hf, hm]
 simp [stV, Value.cells, Program.keyLits, Tryz.underlying148, Tryz.underlying2, stCells, i64Cells, h1, h2]
/-- the map's entries are right -/
def MapV (n : Nat) (val : Nat → Nat → Int) (D : DataW Unit) : Prop :=
 ∀ l, Maps.has D l = true → ∃ p q : Nat, Pl n p q ∧ keyOf Tryz.prog 148 (stV (p ||| q) p) = some l ∧ ∀ z, D.atKey l z = .lit (.int .i64 (val p q))
def MapI (n : Nat) (val : Nat → Nat → Int) (b : Nat) (w : World) : Prop :=
 ∃ (k : Nat) (D : DataW Unit), w.ownsMap Tryz.prog 148 (plainElem Tryz.prog 2) b k D ∧ MapV n val D
theorem MapI.lt {n : Nat} {val : Nat → Nat → Int} {b : Nat} {w : World} (h : MapI n val b w) : b < w.heap.size := by
 obtain ⟨k, D, h, -⟩ := h
 exact h.lt
theorem MapI.grown {n : Nat} {val : Nat → Nat → Int} {b : Nat} {w w' : World} {row : Option Nat} (h : MapI n val b w) (hg : w.grownBy w' row) (hne : some b ≠ row) : MapI n val b w' := by
 obtain ⟨k, D, h, hv⟩ := h
 exact ⟨k, D, h.kept hg hne, hv⟩
theorem MapI.below {n : Nat} {val : Nat → Nat → Int} {b : Nat} {w w' : World} (h : MapI n val b w) (hb : Below w.heap.size w w') : MapI n val b w' :=
 h.grown (grown_below hb none) (by simp)
theorem MapI.made (n : Nat) (val : Nat → Nat → Int) (w : World) : MapI n val w.heap.size (w.alloc (.map #[] 0)) :=
 ⟨0, _, World.ownsMap_made _ _ _ _, fun l h => by cases h⟩
theorem pl_eq {n p q p' q' : Nat} (h : Pl n p q) (h' : Pl n p' q') (e : stV (p ||| q) p = stV (p' ||| q') p') : p = p' ∧ q = q' := by
 unfold stV at e
 injection e with e
 have e1 := congrArg Array.toList e
 simp only at e1
 injection e1 with e2 e3
 injection e3 with e3 _
 injection e2 with _ e2
 injection e3 with _ e3
 have hp : p = p' := by omega
 subst hp
 refine ⟨rfl, ?_⟩
 have e2 : p ||| q = p ||| q' := by omega
 apply Nat.eq_of_testBit_eq
 intro i
 have a1 := congrArg (fun m : Nat => m.testBit i) e2
 have a2 := congrArg (fun m : Nat => m.testBit i) h.d
 have a3 := congrArg (fun m : Nat => m.testBit i) h'.d
 simp only [Nat.testBit_or, Nat.testBit_and, Nat.zero_testBit] at a1 a2 a3
 cases ha : p.testBit i <;> cases hb : q.testBit i <;> cases hc : q'.testBit i <;> simp_all
/-- at most 4096 entries -/
theorem sub_len {α : Type} : ∀ (l L : List α), l.Nodup → (∀ x ∈ l, x ∈ L) → l.length ≤ L.length
 | [], L, _, _ => Nat.zero_le _
 | a :: r, L, hn, hs => by
  rw [List.nodup_cons] at hn
  obtain ⟨s, t, rfl⟩ := List.append_of_mem (hs a List.mem_cons_self)
  have := sub_len r (s ++ t) hn.2 (fun x hx => by
   have h1 := hs x (List.mem_cons_of_mem _ hx)
   rw [List.mem_append, List.mem_cons] at h1
   rw [List.mem_append]
   rcases h1 with h1 | rfl | h1
   ·exact .inl h1
   ·exact absurd hx hn.1
   ·exact .inr h1)
  simp only [List.length_append, List.length_cons] at this ⊢
  omega
noncomputable def keysAll : List (Option Lit) := ((List.range 64).map fun a => (List.range 64).map fun y => keyOf Tryz.prog 148 (stV a y)).flatten
theorem keysAll_len : keysAll.length = 4096 := by
 unfold keysAll
 rw [List.length_flatten, List.map_map]
 have : (List.map (List.length ∘ fun a => (List.range 64).map fun y => keyOf Tryz.prog 148 (stV a y)) (List.range 64)) = (List.range 64).map fun _ => 64 := by
  refine List.map_congr_left (fun a _ => ?_)
  simp
 rw [this]; rfl
theorem keysAll_mem {a y : Nat} (ha : a < 64) (hy : y < 64) : keyOf Tryz.prog 148 (stV a y) ∈ keysAll := by
 unfold keysAll
 rw [List.mem_flatten]
 exact ⟨_, List.mem_map.2 ⟨a, List.mem_range.2 ha, rfl⟩, List.mem_map.2 ⟨y, List.mem_range.2 hy, rfl⟩⟩
theorem own_key {w : World} {b k : Nat} {D : DataW Unit} (ho : w.ownsMap Tryz.prog 148 (plainElem Tryz.prog 2) b k D) {es : List (Lit × DataW Unit)} (hD : D = .map es) : ∀ e ∈ es, ∃ v, keyOf Tryz.prog 148 v = some e.1 := by
 intro e he
 obtain ⟨es', clock, hb, F, hs, hD'⟩ := ho
 rw [hD] at hD'
 injection hD' with hD'
 rw [hD'] at he
 have h1 := (WideShapes.sorted_perm (es'.toList.map (Go.WideElems.rg Tryz.prog 148 (plainElem Tryz.prog 2)))).mem_iff.1 he
 obtain ⟨x, hx, rfl⟩ := List.mem_map.1 h1
 obtain ⟨y, hy⟩ := F.reads x hx
 exact ⟨x.key, by rw [Go.WideElems.rg_of hy]; exact Go.WideElems.rd_key hy⟩
theorem mapV_size {n : Nat} (hn : n ≤ 6) {val : Nat → Nat → Int} {w : World} {b k : Nat} {D : DataW Unit} (ho : w.ownsMap Tryz.prog 148 (plainElem Tryz.prog 2) b k D) (hv : MapV n val D) : w.ownsMap Tryz.prog 148 (plainElem Tryz.prog 2) b 4096 D := by
 obtain ⟨es, hD, hp⟩ := ho.tidy stKeyed
 have hlen : es.length ≤ 4096 := by
  have h1 : (es.map fun e => some e.1).Nodup := by
   rw [List.nodup_iff_pairwise_ne, List.pairwise_map]
   exact hp.imp (fun h e => h (by injection e))
  have h2 := sub_len _ keysAll h1 (fun x hx => by
   obtain ⟨e, he, rfl⟩ := List.mem_map.1 hx
   have hk : Maps.has D e.1 = true := by
    rw [hD, Maps.has_eq, List.any_eq_true]
    obtain ⟨v, hv⟩ := own_key ho hD e he
    exact ⟨e, he, WideAt.sameKey_self (stKeyed.key hv)⟩
   obtain ⟨p, q, hpq, hk2, -⟩ := hv _ hk
   rw [← hk2]
   have := hpq.lt hn
   exact keysAll_mem (or_lt64 this.1 this.2) this.1)
  rw [List.length_map, keysAll_len] at h2
  exact h2
 obtain ⟨es', clock, hb, F, hs, hD'⟩ := ho
 refine ⟨es', clock, hb, F, ?_, hD'⟩
 rw [hD] at hD'
 injection hD' with hD'
 rw [hD', Go.length_sorted] at hlen
 simpa using hlen
/-- where a walk stands -/
structure Stg (n : Nat) : Prop where
theorem stg_next (k k' : Nat) (h : Stg k) : Stg k' := ⟨⟩
theorem new_cell (W : World) (cs : Array Value) (t : TypeId) (i : Nat) (v : Value) (h : cs[i]? = some v) : (W.alloc (.cells cs t)).cell? ⟨W.heap.size, i, none⟩ = some v := by
 rw [blk_cell (blk_new W _) i, h]
theorem below_unalloc {W W' : World} {o : Obj} (h : Below (W.alloc o).heap.size (W.alloc o) W') : Below W.heap.size W W' :=
 (Below.alloc (Below.refl _ _) (Nat.le_refl _) o).trans (h.mono (by simp))
theorem Aside0.own {b : Nat} {w w' : World} {v : Value} {xs : List Int} (h : Aside0 (OwnI b w v xs)) (hb : Below w.heap.size w w') : Aside0 (OwnI b w' v xs) := ⟨OwnI.below h.out hb⟩
theorem Aside0.belowC {w w1 w' : World} (h : Aside0 (Below w.heap.size w w1)) (hb : Below w1.heap.size w1 w') : Aside0 (Below w.heap.size w w') := ⟨h.out.trans (hb.mono h.out.size)⟩
theorem cell_ahead {W : World} {a : Addr} {v : Value} (h : W.cell? a = some v) (o : Obj) : (W.alloc o).cell? a = some v := pw_cell_below (Below.alloc (Below.refl _ _) (Nat.le_refl _) o) h
theorem le4096 : 4096 < maxLen := by unfold maxLen; decide
theorem mapV_put {n : Nat} {val : Nat → Nat → Int} {D : DataW Unit} {p q : Nat} {l : Lit} (hp : Pl n p q) (hv : MapV n val D) (hD : Maps.IsMap D) (hk : keyOf Tryz.prog 148 (stV (p ||| q) p) = some l) : MapV n val (D.put l (.lit (.int .i64 (val p q)))) := by
 intro l' h
 by_cases e : l' = l
 ·subst e
  exact ⟨p, q, hp, hk, fun z => Maps.atKey_put_same hD (stKeyed.key hk) _ z⟩
 ·rw [Maps.has_put_other e] at h
  obtain ⟨p', q', h1, h2, h3⟩ := hv l' h
  exact ⟨p', q', h1, h2, fun z => by rw [Maps.atKey_put_other e]; exact h3 z⟩
theorem lit_inj {a b : Int} (h : (DataW.lit (.int .i64 a) : DataW Unit) = .lit (.int .i64 b)) : a = b := by
 injection h with h
 injection h
theorem mapV_get {n : Nat} {val : Nat → Nat → Int} {D : DataW Unit} {p q : Nat} {l : Lit} (hp : Pl n p q) (hv : MapV n val D) (hk : keyOf Tryz.prog 148 (stV (p ||| q) p) = some l) (h : Maps.has D l = true) (c : Int) (hc : D.atKey l (.lit (.int .i64 0)) = .lit (.int .i64 c)) : val p q = c := by
 obtain ⟨p', q', h1, h2, h3⟩ := hv l h
 have e := stKeyed.inj hk h2
 obtain ⟨rfl, rfl⟩ := pl_eq hp h1 e
 exact lit_inj ((h3 _).symm.trans hc)
/-- the number of vertices -/
def ones (f : Nat) : Nat := (vs f).length
theorem ones_step : ∀ g, g < 64 → ones g = g % 2 + ones (g / 2) := by decide +kernel
theorem ones_le : ∀ g, g < 64 → ones g ≤ 6 := by decide +kernel
set_option maxRecDepth 100000 in
set_option maxHeartbeats 1000000 in
theorem specOnes (x : Nat) (hx : x < 64) (w : World) : Calls Tryz.prog 205 #[.int .i64 x] w fun e w' => e = .returned (.int .i64 (ones x : Nat)) ∧ Below w.heap.size w w' := by
 go_enter Tryz.func205, Tryz.ntmps205
 go_wp2
 go_loopw [0, 3] (fun s0 s3 wr => ∃ g k : Nat, s0 = .int .i64 g ∧ g < 64 ∧ s3 = .int .i64 k ∧ k ≤ 6 ∧ k + ones g = ones x ∧ wr = w) (fun s0 _ _ => (intOf s0).toNat)
 case atStart => exact ⟨x, 0, rfl, hx, rfl, by decide, by omega, rfl⟩
 case round =>
  obtain ⟨g, k, rfl, hg, rfl, hk, he, rfl⟩ := hrel
  have hox := ones_le x hx
  by_cases h0 : 0 < g
  ·have hst := ones_step g hg
   have h0I : (0 : Int) < (g : Int) := by omega
   have hr1 : Int.tmod (g : Int) 2 = ((g % 2 : Nat) : Int) := by rw [Int.tmod_eq_emod_of_nonneg (by omega)]; omega
   have hq1 : Int.tdiv (g : Int) 2 = ((g / 2 : Nat) : Int) := by rw [Int.tdiv_eq_ediv_of_nonneg (by omega)]; omega
   have hr2 : (g : Int) % 2 = ((g % 2 : Nat) : Int) := by omega
   have hq2 : (g : Int) / 2 = ((g / 2 : Nat) : Int) := by omega
   obtain ⟨r, hr⟩ : ∃ r, r = g % 2 := ⟨_, rfl⟩
   obtain ⟨q, hq⟩ : ∃ q, q = g / 2 := ⟨_, rfl⟩
   have hqg : q < g := by omega
   have hr6 : r ≤ 1 := by omega
   rw [← hr] at hst hr1 hr2
   rw [← hq] at hst hq1 hq2
   clear hr hq
   go_wp2
   go_roundw
   case rel => exact ⟨q, k + r, by first | rfl | (simp [hq1, hq2]) | (simp; omega), by omega, by first | rfl | (simp [hr1, hr2]) | (simp; omega), by omega, by omega, trivial⟩
   case measure => simp [intOf] <;> omega
  ·obtain rfl : g = 0 := by omega
   go_wp2
   go_ret
   have h00 : ones 0 = 0 := by decide
   exact ⟨by rw [← he, h00]; simp, Below.refl _ _⟩
end Go.Proofs.YtkggchklmpmgpaaGreat.H
