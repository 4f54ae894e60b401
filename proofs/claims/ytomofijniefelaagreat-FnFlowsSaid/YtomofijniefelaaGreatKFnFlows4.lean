/- What a complex is, of the reference. The code of a complex. Maps between complexes: plain words. Maps between complexes: isMap, mapCode, IsMap. slices.IndexFunc, slices.ContainsFunc and areAll at [][]int64. The code for maps; IsMap. PairingByVertex: slices.Contains, append of pairs, byVertex. those: the complex of the sets that are as told. slices.Clone. A region of open order whose last operations come one behind the other. Parts of a row of numbers; append of a row as one operation. l01Own of the reference. Nothing old is turned: as a relation. How many vertices a face has. -/
import Derived.WalkSpells
import Derived.Deep.AppendLies
import Derived.Maps.AppendAt
import Derived.Test.YtomofijniefelaaGreatKFnFlows1
import Derived.Test.YtomofijniefelaaGreatKFnFlows2
import Derived.Test.YtomofijniefelaaGreatKFnFlows3

namespace Go.Proofs.YtomofijniefelaaGreat.H
open Go.RowKit Go.Proofs.YtomofijniefelaaGreatW.PrintWords Go.Proofs.YtomofijniefelaaGreatW.PrintLast
set_option linter.unusedVariables false
set_option linter.unusedSimpArgs false
theorem all_false {l : List Int} {p : Int → Bool} {i : Nat} {y : Int} (hi : i < l.length) (hy : l.getD i 0 = y) (h : p y = false) : l.all p = false := by
 rw [List.all_eq_false]
 exact ⟨y, mem_at hi hy, by rw [h]; decide⟩
theorem all_true {l : List Int} {p : Int → Bool} (h : ∀ i, i < l.length → p (l.getD i 0) = true) : l.all p = true := by
 rw [List.all_eq_true]
 intro x hx
 obtain ⟨j, hj, rfl⟩ := List.getElem_of_mem hx
 have := h j hj
 simpa [List.getD_eq_getElem?_getD, hj] using this
set_option maxHeartbeats 4000000 in
theorem specIs (a : Int) (u : Value) (l : List Int) (w : World) (hr : ReadI w u l) :
  Calls Tryz.prog 155 #[cx a u] w fun e w' => e = .returned (.bool (cxOk a l)) ∧ Below w.heap.size w w' := by
 have hba : Below w.heap.size w (w.alloc (.cells #[.int .i64 a, u] 26)) := Below.alloc (Below.refl _ _) (Nat.le_refl _) _
 have HB := Aside0.mk hba
 have HR0 := Aside0.mk (hr.below hba)
 obtain ⟨A, c, rfl, hc, hr⟩ := id hr
 have HR := Aside0.mk (Kd.C_below hr hba)
 have hlen : l.length ≤ 9223372036854775807 := hr.2.1
 clear hr hba
 obtain ⟨w1, hw1⟩ : ∃ w1, w1 = w.alloc (Obj.cells #[.int .i64 a, Value.slice A l.length c] 26) := ⟨_, rfl⟩
 have hc0 : w1.cell? ⟨w.heap.size, 0, none⟩ = some (.int .i64 a) := by rw [hw1]; simp
 have hc1 : w1.cell? ⟨w.heap.size, 1, none⟩ = some (Value.slice A l.length c) := by rw [hw1]; simp
 rw [← hw1] at HB HR HR0
 by_cases ha : 1 ≤ a ∧ a ≤ 6
 ·obtain ⟨n, rfl⟩ : ∃ n : Nat, a = n := ⟨a.toNat, by omega⟩
  have hs : (decide ((1 : Int) ≤ n) && decide ((n : Int) ≤ 6)) = true := by simp; omega
  have hn : 1 ≤ n ∧ n ≤ 6 := by omega
  have HA : Aside0 (cxOk n l = (cxUp n l && l.all (belowIn l))) := ⟨by unfold cxOk; rw [hs]; rfl⟩
  obtain ⟨N, hN⟩ : ∃ N : Nat, N = 2 ^ n := ⟨_, rfl⟩
  have HN := Aside0.mk hN
  clear hN ha
  go_enter Tryz.func155, Tryz.ntmps155
  go_wp2_with (first | (rw [← hw1]; clear hw1; go_at_call 148; refine (specIn _ _ _ _).mono ?_; rintro e w2 ⟨rfl, hb⟩; rw [hs]; have hc0 := pw_cell_below hb hc0; have hc1 := pw_cell_below hb hc1; have HB2 := Aside0.mk hb; clear hb))
  go_loopw [3] (fun v wr => ∃ i : Nat, v = .int .i64 i ∧ i ≤ l.length ∧ Aside0 (∀ k, k < i → upAt n l k = true) ∧ Below w2.heap.size w2 wr) (fun v _ => l.length - (intOf v).toNat)
  case atStart => exact ⟨0, rfl, Nat.zero_le _, ⟨fun j hj => absurd hj (Nat.not_lt_zero _)⟩, Below.refl _ _⟩
  case round =>
   obtain ⟨i, rfl, hi, HU, hb⟩ := hrel
   have hc0r := pw_cell_below hb hc0
   have hc1r := pw_cell_below hb hc1
   have HBr := Aside0.mk (HB2.out.trans (hb.mono HB2.out.size))
   have HB3 := Aside0.mk hb
   clear hb hc0 hc1
   by_cases hlt : i < l.length
   ·obtain ⟨ad, y, rfl, hcell, HY⟩ := ReadI.get (Kd.C_below HR.out HBr.out) hlt
    have hx0 : ∀ x : Ext wr, x.1.cell? ⟨w.heap.size, 0, none⟩ = some (.int .i64 n) := fun x => Ext.cell hc0r x
    have hx1 : ∀ x : Ext wr, x.1.cell? ⟨w.heap.size, 1, none⟩ = some (Value.slice (some ad) l.length c) := fun x => Ext.cell hc1r x
    have hx2 : ∀ x : Ext wr, x.1.cell? (ad.add i) = some (.int .i64 y) := fun x => Ext.cell hcell x
    clear hcell
    have HSA : Aside0 (∀ w : World, Calls Tryz.prog 268 #[.int .i64 n] w fun e w' => e = .returned (.int .i64 ((N : Int) - 1)) ∧ Below w.heap.size w w') := ⟨fun w => by rw [HN.out]; exact specAll n hn.2 w⟩
    cases hwi : (decide ((1 : Int) ≤ y) && decide (y ≤ (N : Int) - 1)) with
    | false =>
     have HSI : Aside0 (∀ w : World, Calls Tryz.prog 148 #[.int .i64 y, .int .i64 1, .int .i64 ((N : Int) - 1)] w fun e w' => e = .returned (.bool false) ∧ Below w.heap.size w w') := ⟨fun w => by rw [← hwi]; exact specIn _ _ _ w⟩
     have HWI := Aside0.mk hwi
     clear hwi
     go_wp2
     refine wp_region_ext (by kernel_rfl) (by kernel_rfl) ?_
     repeat (go_big_quiet_step ((first | (go_at_call 268; exact Calls.ext_of (HSA.out _)) | (go_at_call 148; exact Calls.ext_of (HSI.out _)))))
     refine wpQuiet_nil ?_
     rintro _ ⟨x, rfl⟩
     have hbx := x.2
     go_wp2
     go_ret
     exact ⟨by rw [HA.out, up_false hlt (by unfold upAt; rw [HY.out, ← HN.out, HWI.out]; rfl)]; rfl, by have := HB.out; have := HBr.out; (repeat (first | (with_reducible exact Below.refl _ _) | (with_reducible assumption) | (with_reducible refine below_step ?_ (by assumption)) | (with_reducible apply below_alloc) | (with_reducible apply below_drewN)))⟩
    | true =>
     have HSI : Aside0 (∀ w : World, Calls Tryz.prog 148 #[.int .i64 y, .int .i64 1, .int .i64 ((N : Int) - 1)] w fun e w' => e = .returned (.bool true) ∧ Below w.heap.size w w') := ⟨fun w => by rw [← hwi]; exact specIn _ _ _ w⟩
     have HWI := Aside0.mk hwi
     clear hwi
     by_cases h0 : i = 0
     ·have h0' : decide (0 < i) = false := decide_eq_false (by omega)
      clear h0
      have h0'' : ¬ 0 < i := by simpa using h0'
      have H0 := Aside0.mk h0''
      clear h0''
      go_wp2
      refine wp_region_ext (by kernel_rfl) (by kernel_rfl) ?_
      repeat (go_big_quiet_step ((first | (go_at_call 268; exact Calls.ext_of (HSA.out _)) | (go_at_call 148; exact Calls.ext_of (HSI.out _)))))
      refine wpQuiet_nil ?_
      rintro _ ⟨x, rfl⟩
      have hbx := x.2
      go_wp2
      go_roundw
      case rel =>
       refine ⟨i + 1, by go_num, by omega, ⟨fun k hk => ?_⟩, by have := HB3.out; (repeat (first | (with_reducible exact Below.refl _ _) | (with_reducible assumption) | (with_reducible refine below_step ?_ (by assumption)) | (with_reducible apply below_alloc) | (with_reducible apply below_drewN)))⟩
       rcases Nat.lt_succ_iff_lt_or_eq.1 hk with h | rfl
       ·exact HU.out k h
       ·unfold upAt; rw [HY.out, ← HN.out, HWI.out, decide_eq_false H0.out]; rfl
      case measure => simp [intOf]; omega
     ·have h0' : decide (0 < i) = true := decide_eq_true (by omega)
      have h1i : (0 : Int) ≤ (i : Int) - 1 := by omega
      have h2i : (i : Int) - 1 < l.length := by omega
      have h3i : ((i : Int) - 1).toNat = i - 1 := by omega
      obtain ⟨ad', y', e2, hcell2, HY2⟩ := ReadI.get (Kd.C_below HR.out HBr.out) (i := i - 1) (by omega)
      cases e2
      have hx3 : ∀ x : Ext wr, x.1.cell? (ad.add (i - 1)) = some (.int .i64 y') := fun x => Ext.cell hcell2 x
      clear hcell2
      by_cases hle : y ≤ y'
      ·have HLE := Aside0.mk (decide_eq_true hle)
       go_wp2
       refine wp_region_ext (by kernel_rfl) (by kernel_rfl) ?_
       repeat (go_big_quiet_step ((first | (go_at_call 268; exact Calls.ext_of (HSA.out _)) | (go_at_call 148; exact Calls.ext_of (HSI.out _)))))
       refine wpQuiet_nil ?_
       rintro _ ⟨x, rfl⟩
       have hbx := x.2
       go_wp2
       go_ret
       exact ⟨by rw [HA.out, up_false hlt (by unfold upAt; rw [HY.out, HY2.out, ← HN.out, HWI.out, HLE.out, decide_eq_true (by omega)]; rfl)]; rfl, by have := HB.out; have := HBr.out; (repeat (first | (with_reducible exact Below.refl _ _) | (with_reducible assumption) | (with_reducible refine below_step ?_ (by assumption)) | (with_reducible apply below_alloc) | (with_reducible apply below_drewN)))⟩
      ·have HLE := Aside0.mk (decide_eq_false hle)
       go_wp2
       refine wp_region_ext (by kernel_rfl) (by kernel_rfl) ?_
       repeat (go_big_quiet_step ((first | (go_at_call 268; exact Calls.ext_of (HSA.out _)) | (go_at_call 148; exact Calls.ext_of (HSI.out _)))))
       refine wpQuiet_nil ?_
       rintro _ ⟨x, rfl⟩
       have hbx := x.2
       go_wp2
       go_roundw
       case rel =>
        refine ⟨i + 1, by go_num, by omega, ⟨fun k hk => ?_⟩, by have := HB3.out; (repeat (first | (with_reducible exact Below.refl _ _) | (with_reducible assumption) | (with_reducible refine below_step ?_ (by assumption)) | (with_reducible apply below_alloc) | (with_reducible apply below_drewN)))⟩
        rcases Nat.lt_succ_iff_lt_or_eq.1 hk with h | rfl
        ·exact HU.out k h
        ·unfold upAt; rw [HY.out, HY2.out, ← HN.out, HWI.out, HLE.out, Bool.and_false]; rfl
       case measure => simp [intOf]; omega
   ·have hu : cxUp n l = true := up_true (fun k hk => HU.out k (by omega))
    have HUU := Aside0.mk hu
    have HBD : Aside0 (∀ x ∈ l, 1 ≤ x ∧ x ≤ 63) := ⟨fun x hx => by have := cxUp_bd hu x hx; have := pw6 hn.2; omega⟩
    clear hu
    go_wp2
    go_loopw [4] (fun v wr2 => ∃ i : Nat, v = .int .i64 i ∧ i ≤ l.length ∧ Aside0 (∀ k, k < i → belowIn l (l.getD k 0) = true) ∧ Below wr.heap.size wr wr2) (fun v _ => l.length - (intOf v).toNat)
    case atStart => exact ⟨0, rfl, Nat.zero_le _, ⟨fun j hj => absurd hj (Nat.not_lt_zero _)⟩, Below.refl _ _⟩
    case round =>
     obtain ⟨i2, rfl, hi2, HI2, hb2⟩ := hrel
     have hc1s := pw_cell_below hb2 hc1r
     have hc0s := pw_cell_below hb2 hc0r
     have HBs := Aside0.mk (HBr.out.trans (hb2.mono HBr.out.size))
     have HBt := Aside0.mk hb2
     clear hb2
     by_cases hlt2 : i2 < l.length
     ·obtain ⟨ad, y, rfl, hcell, HY⟩ := ReadI.get (Kd.C_below HR.out HBs.out) hlt2
      have hyb := HBD.out y (mem_at hlt2 HY.out)
      obtain ⟨f, rfl⟩ : ∃ f : Nat, y = f := ⟨y.toNat, by omega⟩
      have hf : f ≤ 63 := by omega
      clear hyb
      go_wp2_with (first | (go_at_call 285; refine (specBelow f hf _).mono ?_; rintro e w3 ⟨v3, rfl, ho, hb⟩; obtain ⟨A3, c3, rfl, hc3, hr3⟩ := ho.read; have hc1u := pw_cell_below hb hc1s; have hc0u := pw_cell_below hb hc0s; have HR3 := Aside0.mk hr3; have HB3a := Aside0.mk hb; have hl3 : (below f).length ≤ 9223372036854775807 := hr3.2.1; clear ho hb hr3))
      go_loopw [6] (fun v wr3 => ∃ j : Nat, v = .int .i64 j ∧ j ≤ (below f).length ∧ Aside0 (∀ k, k < j → decide ((below f).getD k 0 ∈ l) = true) ∧ Below w3.heap.size w3 wr3) (fun v _ => (below f).length - (intOf v).toNat)
      case atStart => exact ⟨0, rfl, Nat.zero_le _, ⟨fun j hj => absurd hj (Nat.not_lt_zero _)⟩, Below.refl _ _⟩
      case round =>
       obtain ⟨j, rfl, hj, HJ, hb5⟩ := hrel
       have hc1v := pw_cell_below hb5 hc1u
       have hc0v := pw_cell_below hb5 hc0u
       have HBv := Aside0.mk (HB3a.out.trans (hb5.mono HB3a.out.size))
       have HBx := Aside0.mk (HBs.out.trans (HBv.out.mono HBs.out.size))
       have HBy := Aside0.mk hb5
       by_cases hlt3 : j < (below f).length
       ·obtain ⟨ad3, g, rfl, hcell3, HG⟩ := ReadI.get (Kd.C_below HR3.out hb5) hlt3
        clear hb5 hcell
        have hx0 : ∀ x : Ext wr, x.1.cell? ⟨w.heap.size, 0, none⟩ = some (.int .i64 n) := fun x => Ext.cell hc0v x
        have hx1 : ∀ x : Ext wr, x.1.cell? ⟨w.heap.size, 1, none⟩ = some (Value.slice (some ad) l.length c) := fun x => Ext.cell hc1v x
        have hx2 : ∀ x : Ext wr, x.1.cell? (ad3.add j) = some (.int .i64 g) := fun x => Ext.cell hcell3 x
        clear hcell3
        have hj1 : (0 : Int) ≤ (j : Int) := by omega
        have hj2 : (j : Int) < ((below f).length : Int) := by omega
        cases hg : decide (g ∈ l) with
        | false =>
         have HSH : Aside0 (∀ x : Ext wr, Calls Tryz.prog 154 #[cx n (.slice (some ad) l.length c), .int .i64 g] x.1 fun e w' => e = .returned (.bool false) ∧ Below x.1.heap.size x.1 w') := ⟨fun x => by rw [← hg]; exact specHas n _ l g x.1 (HR0.out.below (HBx.out.trans (x.2.mono HBx.out.size)))⟩
         have HGG := Aside0.mk hg
         clear hg
         go_wp2
         refine wp_region_ext (by kernel_rfl) (by kernel_rfl) ?_
         repeat (go_big_quiet_step ((first | (go_at_call 154; exact Calls.ext_of (HSH.out _)))))
         refine wpQuiet_nil ?_
         rintro _ ⟨x, rfl⟩
         have hbx := x.2
         go_wp2
         go_ret
         refine ⟨?_, by have := HB.out; have := HBx.out; (repeat (first | (with_reducible exact Below.refl _ _) | (with_reducible assumption) | (with_reducible refine below_step ?_ (by assumption)) | (with_reducible apply below_alloc) | (with_reducible apply below_drewN)))⟩
         have e1 : belowIn l (f : Int) = false := all_false hlt3 HG.out HGG.out
         rw [HA.out, HUU.out, all_false hlt2 HY.out e1]; rfl
        | true =>
         have HSH : Aside0 (∀ x : Ext wr, Calls Tryz.prog 154 #[cx n (.slice (some ad) l.length c), .int .i64 g] x.1 fun e w' => e = .returned (.bool true) ∧ Below x.1.heap.size x.1 w') := ⟨fun x => by rw [← hg]; exact specHas n _ l g x.1 (HR0.out.below (HBx.out.trans (x.2.mono HBx.out.size)))⟩
         have HGG := Aside0.mk hg
         clear hg
         go_wp2
         refine wp_region_ext (by kernel_rfl) (by kernel_rfl) ?_
         repeat (go_big_quiet_step ((first | (go_at_call 154; exact Calls.ext_of (HSH.out _)))))
         refine wpQuiet_nil ?_
         rintro _ ⟨x, rfl⟩
         have hbx := x.2
         go_wp2
         go_roundw
         case rel =>
          refine ⟨j + 1, by go_num, by omega, ⟨fun k hk => ?_⟩, by have := HBy.out; (repeat (first | (with_reducible exact Below.refl _ _) | (with_reducible assumption) | (with_reducible refine below_step ?_ (by assumption)) | (with_reducible apply below_alloc) | (with_reducible apply below_drewN)))⟩
          rcases Nat.lt_succ_iff_lt_or_eq.1 hk with h | rfl
          ·exact HJ.out k h
          ·rw [HG.out]; exact HGG.out
         case measure => simp [intOf]; omega
       ·clear hb5 hcell
        have HE : Aside0 (belowIn l (f : Int) = true) := ⟨all_true (l := below f) (fun k hk => HJ.out k (by omega))⟩
        go_wp2
        go_roundw
        case rel =>
         refine ⟨i2 + 1, by go_num, by omega, ⟨fun k hk => ?_⟩, by have := HBt.out; have := HBv.out; (repeat (first | (with_reducible exact Below.refl _ _) | (with_reducible assumption) | (with_reducible refine below_step ?_ (by assumption)) | (with_reducible apply below_alloc) | (with_reducible apply below_drewN)))⟩
         rcases Nat.lt_succ_iff_lt_or_eq.1 hk with h | rfl
         ·exact HI2.out k h
         ·rw [HY.out]; exact HE.out
        case measure => simp [intOf]; omega
     ·have HE : Aside0 (l.all (belowIn l) = true) := ⟨all_true (fun k hk => HI2.out k (by omega))⟩
      go_wp2
      go_ret
      exact ⟨by rw [HA.out, HUU.out, HE.out]; rfl, by have := HB.out; have := HBs.out; (repeat (first | (with_reducible exact Below.refl _ _) | (with_reducible assumption) | (with_reducible refine below_step ?_ (by assumption)) | (with_reducible apply below_alloc) | (with_reducible apply below_drewN)))⟩
 ·have hs : (decide ((1 : Int) ≤ a) && decide (a ≤ 6)) = false := by simp; omega
  have HA : Aside0 (cxOk a l = false) := ⟨by unfold cxOk; rw [hs]; rfl⟩
  clear ha
  go_enter Tryz.func155, Tryz.ntmps155
  go_wp2_with (first | (rw [← hw1]; clear hw1; go_at_call 148; refine (specIn _ _ _ _).mono ?_; rintro e w2 ⟨rfl, hb⟩; rw [hs]))
  go_ret
  exact ⟨by rw [HA.out]; rfl, by have := HB.out; (repeat (first | (with_reducible exact Below.refl _ _) | (with_reducible assumption) | (with_reducible refine below_step ?_ (by assumption)) | (with_reducible apply below_alloc) | (with_reducible apply below_drewN)))⟩
/-- a function value of nothing that answers b -/
def ThunkB (w : World) (fv : Value) (b : Bool) : Prop :=
 ∃ g first caps, fv = .func (.func g) first caps ∧ Enters g ∧ ∀ w1, Below w.heap.size w w1 → Calls Tryz.prog g (first ++ #[] ++ caps) w1 fun e w2 => e = .returned (.bool b) ∧ Below w1.heap.size w1 w2
theorem ThunkB.below {w w' : World} {fv : Value} {b : Bool} (h : ThunkB w fv b) (hb : Below w.heap.size w w') : ThunkB w' fv b := by
 obtain ⟨g, first, caps, rfl, hent, hp⟩ := h
 exact ⟨g, first, caps, rfl, hent, fun w1 h1 => hp w1 (hb.trans (h1.mono hb.size))⟩
theorem always (w : World) : Calls Tryz.prog 119 #[] w fun e w' => e = .returned (.bool true) ∧ Below w.heap.size w w' := by
 go_enter Tryz.func119, Tryz.ntmps119
 go_wp2
 go_ret
 exact ⟨rfl, Below.refl _ _⟩
theorem alwaysB (w : World) : ThunkB w (.func (.func 119) #[] #[]) true :=
 ⟨_, _, _, rfl, Enters.mk' Tryz.func119 rfl rfl, fun w1 _ => always w1⟩
set_option maxHeartbeats 2000000 in
theorem complexCode2 (a : Int) (ku : Value) (xs : List Int) (fv : Value) (r : Bool) (w : World) (hk : ReadI w ku xs) (hf : cxOk a xs = true → ThunkB w fv r) (hfv : ∃ g first caps, fv = .func (.func g) first caps) :
  Calls Tryz.prog 172 #[cx a ku, fv] w fun e w' => e = .returned (.int .i64 (if cxOk a xs then (if r then 0 else 2) else 1)) ∧ Below w.heap.size w w' := by
 obtain ⟨w1, hw1⟩ : ∃ w1, w1 = w.alloc (.cells #[.int .i64 a, ku] 26) := ⟨_, rfl⟩
 have hB : Below w.heap.size w w1 := by rw [hw1]; exact Below.alloc (Below.refl _ _) (Nat.le_refl _) _
 have c0 : w1.cell? ⟨w.heap.size, 0, none⟩ = some (.int .i64 a) := by rw [hw1]; simp
 have c1 : w1.cell? ⟨w.heap.size, 1, none⟩ = some ku := by rw [hw1]; simp
 have HK := Aside0.mk (hk.below hB)
 have HB := Aside0.mk hB
 obtain ⟨g, first, caps, rfl⟩ := hfv
 have HF := Aside0.mk (fun h => (hf h).below hB)
 obtain ⟨A1, d1, rfl, -⟩ := id hk
 clear hk hf hB
 cases h1 : cxOk a xs with
 | false =>
  go_enter Tryz.func172, Tryz.ntmps172
  go_wp2_with (first | (rw [← hw1]; clear hw1; go_at_call 16; refine (isComplex _ _ xs _ HK.out).mono ?_; rintro e w2 ⟨rfl, hb⟩; rw [h1]))
  go_ret
  exact ⟨rfl, HB.out.trans (hb.mono HB.out.size)⟩
 | true =>
  obtain ⟨g', first', caps', e3, hent, hp⟩ := HF.out h1
  cases e3
  have HP := Aside0.mk hp
  clear hp HF
  unfold Enters at hent
  cases r with
  | false =>
   go_enter Tryz.func172, Tryz.ntmps172
   go_wp2_with (first | (rw [← hw1]; clear hw1; go_at_call 16; refine (isComplex _ _ xs _ HK.out).mono ?_; rintro e w2 ⟨rfl, hb⟩; rw [h1]; have HB2 := Aside0.mk hb; clear hb) | (refine (HP.out _ HB2.out).mono ?_; rintro e w3 ⟨rfl, hb⟩))
   go_ret
   exact ⟨rfl, HB.out.trans ((HB2.out.trans (hb.mono HB2.out.size)).mono HB.out.size)⟩
  | true =>
   go_enter Tryz.func172, Tryz.ntmps172
   go_wp2_with (first | (rw [← hw1]; clear hw1; go_at_call 16; refine (isComplex _ _ xs _ HK.out).mono ?_; rintro e w2 ⟨rfl, hb⟩; rw [h1]; have HB2 := Aside0.mk hb; clear hb) | (refine (HP.out _ HB2.out).mono ?_; rintro e w3 ⟨rfl, hb⟩))
   go_ret
   exact ⟨rfl, HB.out.trans ((HB2.out.trans (hb.mono HB2.out.size)).mono HB.out.size)⟩
/-- a slice of slices of numbers -/
def ReadS (w : World) (v : Value) (xss : List (List Int)) : Prop := ∃ A c, v = .slice A xss.length c ∧ xss.length ≤ 1000 ∧ ∀ i xs, xss[i]? = some xs → ∃ ad u, A = some ad ∧ w.cell? (ad.add i) = some u ∧ ReadI w u xs
theorem ReadS.below {w w' : World} {v : Value} {xss : List (List Int)} (h : ReadS w v xss) (hb : Below w.heap.size w w') : ReadS w' v xss := by
 obtain ⟨A, c, rfl, hl, hr⟩ := h
 refine ⟨A, c, rfl, hl, fun i xs hi => ?_⟩
 obtain ⟨ad, u, e, hc, hu⟩ := hr i xs hi
 exact ⟨ad, u, e, pw_cell_below hb hc, hu.below hb⟩
/-- a function value of one slice of numbers that answers a bool, and makes memory at the most -/
def PredS (w : World) (fv : Value) (p : List Int → Bool) (dom : List Int → Prop) : Prop :=
 ∃ g first caps, fv = .func (.func g) first caps ∧ Enters g ∧ ∀ w1 u xs, Below w.heap.size w w1 → ReadI w1 u xs → dom xs → Calls Tryz.prog g (first ++ #[u] ++ caps) w1 fun e w2 => e = .returned (.bool (p xs)) ∧ Below w1.heap.size w1 w2
theorem PredS.below {w w' : World} {fv : Value} {p : List Int → Bool} {dom : List Int → Prop} (h : PredS w fv p dom) (hb : Below w.heap.size w w') : PredS w' fv p dom := by
 obtain ⟨g, first, caps, rfl, hent, hp⟩ := h
 exact ⟨g, first, caps, rfl, hent, fun w1 u xs h1 hx hd => hp w1 u xs (hb.trans (h1.mono hb.size)) hx hd⟩
theorem idxS_found {p : List Int → Bool} {xss : List (List Int)} {i : Nat} {xs : List Int} (hi : xss[i]? = some xs) (h0 : ∀ (j : Nat) (xs : List Int), j < i → xss[j]? = some xs → p xs = false) (h1 : p xs = true) : idx p xss = i := by
 obtain ⟨hl, e1⟩ := List.getElem?_eq_some_iff.1 hi
 have e : xss.findIdx p = i := by
  rw [List.findIdx_eq hl]
  refine ⟨by rw [e1]; exact h1, fun j hj => h0 j _ hj (List.getElem?_eq_getElem (by omega))⟩
 unfold idx; rw [e, if_pos hl]
theorem idxS_none {p : List Int → Bool} {xss : List (List Int)} (h0 : ∀ (j : Nat) (xs : List Int), xss[j]? = some xs → p xs = false) : idx p xss = -1 := by
 have e : ¬ xss.findIdx p < xss.length := by
  rw [List.findIdx_lt_length]
  rintro ⟨x, hx, hp⟩
  obtain ⟨j, hj, rfl⟩ := List.getElem_of_mem hx
  rw [h0 j _ (List.getElem?_eq_getElem hj)] at hp; cases hp
 unfold idx; rw [if_neg e]
set_option maxHeartbeats 1000000 in
theorem indexFuncS (v : Value) (xss : List (List Int)) (fv : Value) (p : List Int → Bool) (dom : List Int → Prop) (w : World) (hr : ReadS w v xss) (hp : PredS w fv p dom) (hd : ∀ xs ∈ xss, dom xs) :
  Calls Tryz.prog 325 #[v, fv] w fun e w' => e = .returned (.int .i64 (idx p xss)) ∧ Below w.heap.size w w' := by
 obtain ⟨g, first, caps, rfl, hent, hp⟩ := hp
 obtain ⟨A, c, rfl, hl, hr⟩ := hr
 have HR := Aside0.mk hr
 have HP := Aside0.mk hp
 have HD := Aside0.mk hd
 unfold Enters at hent
 clear hr hp hd
 go_enter Tryz.func325, Tryz.ntmps325
 go_wp2
 go_loopw [8] (fun v wr => ∃ i : Nat, v = .int .i64 i ∧ i ≤ xss.length ∧ Aside0 (∀ j xs, j < i → xss[j]? = some xs → p xs = false) ∧ Below w.heap.size w wr) (fun v _ => xss.length - (intOf v).toNat)
 case atStart => exact ⟨0, rfl, Nat.zero_le _, ⟨fun j _ hj => absurd hj (Nat.not_lt_zero _)⟩, Below.refl _ _⟩
 case round =>
  obtain ⟨i, rfl, hi, HN, hb⟩ := hrel
  by_cases hlt : i < xss.length
  ·obtain ⟨xs, hxs⟩ : ∃ xs, xss[i]? = some xs := ⟨_, List.getElem?_eq_getElem hlt⟩
   obtain ⟨ad, u, rfl, hcell, hu⟩ := HR.out i xs hxs
   have hcell := pw_cell_below hb hcell
   have HU := Aside0.mk (hu.below hb)
   have HB := Aside0.mk hb
   have HX := Aside0.mk hxs
   have HDX := Aside0.mk (HD.out xs (List.mem_of_getElem? hxs))
   clear hxs hu hb
   cases hpy : p xs with
   | false =>
    go_wp2_with (first | (refine (HP.out _ _ _ HB.out HU.out HDX.out).mono ?_; rintro e w' ⟨rfl, hb2⟩))
    go_roundw
    case rel => exact ⟨i + 1, by go_num, by omega, ⟨fun j xs' hj hx => by
     rcases Nat.lt_succ_iff_lt_or_eq.1 hj with h | rfl
     ·exact HN.out j xs' h hx
     ·have := HX.out; rw [hx] at this; cases this; exact hpy⟩, HB.out.trans (hb2.mono HB.out.size)⟩
    case measure => simp [intOf]; omega
   | true =>
    go_wp2_with (first | (refine (HP.out _ _ _ HB.out HU.out HDX.out).mono ?_; rintro e w' ⟨rfl, hb2⟩))
    go_ret
    exact ⟨by rw [idxS_found HX.out HN.out hpy]; rfl, HB.out.trans (hb2.mono HB.out.size)⟩
  ·go_wp2
   go_ret
   exact ⟨by rw [idxS_none (fun j xs hj => HN.out j xs (by have := (List.getElem?_eq_some_iff.1 hj).1; omega) hj)]; rfl, hb⟩
theorem idxS_any {p : List Int → Bool} {xs : List (List Int)} : decide (0 ≤ idx p xs) = xs.any p := by
 unfold idx
 cases h : xs.any p with
 | true =>
  have : xs.findIdx p < xs.length := by rw [List.findIdx_lt_length]; simpa using h
  rw [if_pos this]; simp
 | false =>
  have : ¬ xs.findIdx p < xs.length := by rw [List.findIdx_lt_length]; simpa using h
  rw [if_neg this]; simp
set_option maxHeartbeats 1000000 in
theorem containsFuncS (v : Value) (xss : List (List Int)) (fv : Value) (p : List Int → Bool) (dom : List Int → Prop) (w : World) (hr : ReadS w v xss) (hp : PredS w fv p dom) (hd : ∀ xs ∈ xss, dom xs) :
  Calls Tryz.prog 354 #[v, fv] w fun e w' => e = .returned (.bool (xss.any p)) ∧ Below w.heap.size w w' := by
 have HR := Aside0.mk hr
 have HP := Aside0.mk hp
 have HD := Aside0.mk hd
 clear hp hd
 obtain ⟨A, c, rfl, -⟩ := id hr
 clear hr
 go_enter Tryz.func354, Tryz.ntmps354
 go_wp2_with (first | (go_at_call 325; refine (indexFuncS _ _ _ _ _ _ HR.out HP.out HD.out).mono ?_; rintro e w' ⟨rfl, hb2⟩))
 go_ret
 exact ⟨by simp [← idxS_any], hb2⟩
theorem areAllS1 (w : World) (b : Nat) (fv : Value) (p : List Int → Bool) (dom : List Int → Prop) (hc : w.cell? ⟨b, 0, none⟩ = some fv) (hp : PredS w fv p dom) :
  PredS w (.func (.func 355) #[] #[.pointer (some ⟨b, 0, none⟩)]) (fun x => !p x) dom := by
 refine ⟨_, _, _, rfl, Enters.mk' Tryz.func355 rfl rfl, fun w1 u xs hb hx hd => ?_⟩
 obtain ⟨g, first, caps, rfl, hent, hp⟩ := hp
 have hcell : w1.cell? ⟨b, 0, none⟩ = some (.func (.func g) first caps) := pw_cell_below hb hc
 have H := Aside0.mk (hp w1 u xs hb hx hd)
 unfold Enters at hent
 clear hp hb hx hc hd
 show Calls _ _ #[_, _] _ _
 go_enter Tryz.func355, Tryz.ntmps355
 go_wp2_with (first | (refine H.out.mono ?_; rintro e w' ⟨rfl, hb2⟩))
 go_ret
 exact ⟨by simp, hb2⟩
set_option maxHeartbeats 1000000 in
theorem areAllS (v : Value) (xss : List (List Int)) (fv : Value) (p : List Int → Bool) (dom : List Int → Prop) (w : World) (hr : ReadS w v xss) (hp : PredS w fv p dom) (hd : ∀ xs ∈ xss, dom xs) :
  Calls Tryz.prog 269 #[v, fv] w fun e w' => e = .returned (.bool (xss.all p)) ∧ Below w.heap.size w w' := by
 obtain ⟨g, first, caps, rfl, -⟩ := id hp
 have hba : Below w.heap.size w (w.alloc (.cells #[.func (.func g) first caps] 134)) := Below.alloc (Below.refl _ _) (Nat.le_refl _) _
 have HR := Aside0.mk (hr.below hba)
 have HP := Aside0.mk (areAllS1 (w.alloc (.cells #[.func (.func g) first caps] 134)) w.heap.size _ p dom (by simp) (hp.below hba))
 have HD := Aside0.mk hd
 have HB := Aside0.mk hba
 obtain ⟨A, c, rfl, -⟩ := id hr
 clear hr hp hba hd
 go_enter Tryz.func269, Tryz.ntmps269
 go_wp2_with (first | (go_at_call 354; refine (containsFuncS _ _ _ _ _ _ HR.out HP.out HD.out).mono ?_; rintro e w' ⟨rfl, hb2⟩))
 go_ret
 exact ⟨by simp [List.all_eq_not_any_not], HB.out.trans (hb2.mono HB.out.size)⟩
theorem infoP : (Tryz.prog.info? 72).map (fun i => (i.zero, i.size, i.bytes)) = some (some (.agg #[.int .i64 0, .int .i64 0]), 2, 16) := by kernel_rfl
section
variable {P : Program} {ops : Array Oper} {rest : List Oper} {o : Oper} {a : Act} {Q : Exit → Act → World → Prop}
/-- append(v, Pair{x, y}) -/
theorem app_pair {w0 W : World} (base : Nat) (hgd : o.guard = none) (s x : Operand) (ho : o.op = .call { callee := .builtin .append, args := #[s, x], argTypes := #[51, 51] })
  (v : Value) (ps : List (Int × Int)) (p q : Int) (hs : a.eval s = v) (hx : a.eval x = .slice (some ⟨W.heap.size, 0, none⟩) 1 1)
  (HO : OwnP base W v ps) (HB : Below base w0 W) (hbase : base ≤ W.heap.size) (hl : ps.length < 1000000)
  (h : ∀ v1 w1, OwnP base w1 v1 (ps ++ [(p, q)]) → Below base w0 w1 → W.grownBy w1 v.ownBlock → (v1.ownBlock = v.ownBlock ∨ ∃ b, v1.ownBlock = some b ∧ W.heap.size ≤ b) → wpList Tryz.prog ops Q rest (a.put o.dst v1) w1) :
  wpList Tryz.prog ops Q (o :: rest) a (W.alloc (.cells #[.int .i64 p, .int .i64 q] 72)) := by
 refine print_append_cells base hgd s x 51 72 (.agg #[.int .i64 0, .int .i64 0]) 2 16 ho Tryz.underlying51 infoP rfl (by decide) (by decide) v ps.length ((flat ps).map (Value.int .i64)) [.int .i64 p, .int .i64 q] hs hx rfl (fun u hu => ?_) HO HB hbase (by omega) ?_
 ·rcases List.mem_cons.1 hu with rfl | hu
  ·rfl
  ·rcases List.mem_cons.1 hu with rfl | hu
   ·rfl
   ·cases hu
 ·intro v1 w1 h1 h2 h3 h4
  refine h v1 w1 ?_ h2 h3 h4
  unfold OwnP
  rw [List.length_append, List.length_singleton, flat_snoc, List.map_append]
  exact h1
end
set_option maxHeartbeats 1000000 in
theorem sliceIndex (v : Value) (xs : List Int) (x : Int) (w : World) (hr : ReadI w v xs) :
  Calls Tryz.prog 295 #[v, .int .i64 x] w fun e w' => (∃ r : Int, e = .returned (.int .i64 r) ∧ decide (0 ≤ r) = decide (x ∈ xs)) ∧ Below w.heap.size w w' := by
 have hlen := hr.len
 obtain ⟨A, c, rfl, hc, hr⟩ := hr
 have HR := Aside0.mk hr
 clear hr hc
 go_enter Tryz.func295, Tryz.ntmps295
 go_wp2
 go_loopw [8] (fun v wr => ∃ i : Nat, v = .int .i64 i ∧ i ≤ xs.length ∧ Aside0 (∀ j, j < i → x ≠ xs.getD j 0) ∧ wr = w) (fun v _ => xs.length - (intOf v).toNat)
 case atStart => exact ⟨0, rfl, Nat.zero_le _, ⟨fun j hj => absurd hj (Nat.not_lt_zero _)⟩, rfl⟩
 case round =>
  obtain ⟨i, rfl, hi, HN, rfl⟩ := hrel
  by_cases hlt : i < xs.length
  ·obtain ⟨ad, y, rfl, hcell, HY⟩ := ReadI.get HR.out hlt
   by_cases hxy : x = y
   ·have hb : (x == y) = true := by simpa using hxy
    have HM : Aside0 (x ∈ xs) := ⟨by rw [hxy]; exact mem_at hlt HY.out⟩
    clear hxy
    go_wp2
    go_ret
    exact ⟨⟨(i : Int), rfl, by rw [decide_eq_true HM.out]; exact decide_eq_true (by omega)⟩, Below.refl _ _⟩
   ·have hb : (x == y) = false := by simpa using hxy
    have HX := Aside0.mk hxy
    clear hxy
    go_wp2
    go_roundw
    case rel => exact ⟨i + 1, by go_num, by omega, ⟨fun j hj => by
     rcases Nat.lt_succ_iff_lt_or_eq.1 hj with h | rfl
     ·exact HN.out j h
     ·rw [HY.out]; exact HX.out⟩, trivial⟩
    case measure => simp [intOf]; omega
  ·have HM : Aside0 (x ∉ xs) := ⟨fun h => by
    obtain ⟨j, hj, e⟩ := List.getElem_of_mem h
    have := HN.out j (by omega)
    rw [List.getD_eq_getElem?_getD, List.getElem?_eq_getElem hj, Option.getD_some, e] at this
    exact this rfl⟩
   go_wp2
   go_ret
   exact ⟨⟨-1, rfl, by rw [decide_eq_false HM.out]; decide⟩, Below.refl _ _⟩
theorem sliceContains (v : Value) (xs : List Int) (x : Int) (w : World) (hr : ReadI w v xs) :
  Calls Tryz.prog 177 #[v, .int .i64 x] w fun e w' => e = .returned (.bool (decide (x ∈ xs))) ∧ Below w.heap.size w w' := by
 have HR := Aside0.mk hr
 obtain ⟨A, c, rfl, -⟩ := id hr
 clear hr
 go_enter Tryz.func177, Tryz.ntmps177
 go_wp2_with (first | (go_at_call 295; refine (sliceIndex _ xs x _ HR.out).mono ?_; rintro e w2 ⟨⟨r, rfl, he⟩, hb⟩; have HE := Aside0.mk he; clear he))
 go_ret
 exact ⟨by rw [← HE.out]; rfl, hb⟩
/-- those of 1 .. k - 1 that are as told -/
def thL (p : Int → Bool) (k : Nat) : List Int := (List.range k).filterMap fun (f : Nat) => if decide (1 ≤ f) && p (f : Int) then some (f : Int) else none
theorem thL_hit {p : Int → Bool} {k : Nat} (h1 : 1 ≤ k) (h : p k = true) : thL p (k + 1) = thL p k ++ [(k : Int)] := by
 unfold thL
 rw [List.range_succ, List.filterMap_append]
 simp [h, h1]
theorem thL_miss {p : Int → Bool} {k : Nat} (h : p k = false) : thL p (k + 1) = thL p k := by
 unfold thL
 rw [List.range_succ, List.filterMap_append]
 simp [h]
theorem thL_len (p : Int → Bool) (k : Nat) : (thL p k).length ≤ k := by
 unfold thL
 exact Nat.le_trans (List.length_filterMap_le _ _) (by simp)
theorem thL_one (p : Int → Bool) : thL p 1 = [] := by simp [thL]
theorem set_grown' (w : World) (b i : Nat) (v : Value) : w.grownBy (w.setCell ⟨b, i, none⟩ v) (some b) :=
 ⟨rfl, rfl, rfl, by simp, fun k _ hne => Below.heap_setCell w ⟨b, i, none⟩ v k (fun e => hne (by rw [e]))⟩
set_option maxRecDepth 100000 in
set_option maxHeartbeats 1000000 in
theorem cloneI (v : Value) (xs : List Int) (w : World) (hv : ReadI w v xs) (hl : xs.length ≤ 1000000) :
  Calls Tryz.prog 297 #[v] w fun e w' => ∃ u, e = .returned u ∧ OwnI w.heap.size w' u xs ∧ Below w.heap.size w w' := by
 obtain ⟨A, c, rfl, hc, hr⟩ := id hv
 cases A with
 | none =>
  have hx : xs = [] := by
   cases xs with
   | nil => rfl
   | cons a r =>
    obtain ⟨ad, e, -⟩ := hr.2.2 (by simp)
    cases e
  subst hx
  have hnil : ∀ W : World, (binOp .eql 24 (.slice none 0 c) (.slice none 0 0)).run Tryz.prog W = .ok (.bool true) W := fun W => Lib.run_eql_slice_nil W 24 2 none 0 c 0 0 Tryz.underlying24
  clear hr hv
  go_enter Tryz.func297, Tryz.ntmps297
  go_wp2
  go_ret
  exact ⟨_, rfl, OwnI.nil _ _, Below.refl _ _⟩
 | some ad =>
  have hnil : ∀ W : World, (binOp .eql 24 (.slice (some ad) xs.length c) (.slice none 0 0)).run Tryz.prog W = .ok (.bool false) W := fun W => Lib.run_eql_slice_nil W 24 2 (some ad) xs.length c 0 0 Tryz.underlying24
  obtain ⟨w1, hw1⟩ : ∃ w1, w1 = w.alloc (.cells #[] 2) := ⟨_, rfl⟩
  have hB : Below w.heap.size w w1 := by rw [hw1]; exact Below.alloc (Below.refl _ _) (Nat.le_refl _) _
  have hs1 : w.heap.size ≤ w1.heap.size := hB.size
  have HO := Aside0.mk (show OwnI w.heap.size w1 (.slice (some ⟨w.heap.size, 0, none⟩) 0 0) [] by rw [hw1]; exact OwnI.empty w (Nat.le_refl _))
  have HB := Aside0.mk hB
  have HR := Aside0.mk (Kd.C_below hr hB)
  clear hr hv hB
  go_enter Tryz.func297, Tryz.ntmps297
  go_wp2_with (first | ((with_reducible refine gate_builtin (b := .append) (xs := #[.tmp 5, .tmp 6]) rfl ?_); rw [← hw1]; clear hw1; refine Kd.R_append_row (Value.int .i64) (0 : Int) (w0 := w) w.heap.size rfl (.tmp 5) (.tmp 6) 24 2 (.int .i64 0) 8 rfl Tryz.underlying24 info64 rfl (by decide) _ [] xs (some ad) xs.length c (fun _ => True) rfl rfl (fun _ _ => trivial) HO.out HR.out HB.out hs1 (by simp; omega) ?_; intro v1 w2 ho hb hg hat; have HO2 := Aside0.mk ho; have HB2 := Aside0.mk hb; clear ho hb hg hat))
  go_ret
  exact ⟨_, rfl, HO2.out, HB2.out⟩
/-- the operations one behind the other -/
def tailList (P : Program) (Q : Exit → Act → World → Prop) : List Oper → Act → World → Prop
 | [], a, w => Q .normal a w
 | o :: r, a, w => opGives P o a.eval w (fun v w' => tailList P Q r (a.put o.dst v) w') ∨ ∃ w', (execOp a.eval o).run P w = .ok .skip w' ∧ tailList P Q r (a.put o.dst undef) w'
def tailOk (l : List Oper) (B : List Nat) (n k : Nat) : Bool :=
 decide (k < l.length) && (l.take k).all (fun o => o.dst.isSome) && l.all (fun o => o.guard.isNone) && decide (dsOf (l.take k)).Nodup && (dsOf (l.take k)).all (fun d => decide (d < n)) &&
 waitsOk (rtab .any l.toArray).2 B && baseOk (rtab .any l.toArray).2 (List.range l.length) &&
 (List.range l.length).all (fun i => decide (i < k) || (List.range i).all fun j => (B.getD i 0).testBit j) &&
 (List.range k).all (fun i => (List.range l.length).all fun j => decide (j < i) || !(B.getD i 0).testBit j)
theorem opGives_mono {P : Program} {o : Oper} {A : Act} {w : World} {R : Value → World → Prop} {K : Act → World → Prop} (h : opGives P o A.eval w R) (hR : ∀ v w', R v w' → K (A.put o.dst v) w') : opGives P o A.eval w fun v w' => K (A.put o.dst v) w' := by
 unfold opGives at h ⊢
 split
 ·next h1 => rw [h1] at h; exact hR _ _ h
 ·next f args w' h1 =>
  rw [h1] at h
  exact Calls.mono h fun e w'' ⟨v, e1, e2⟩ => ⟨v, e1, hR _ _ e2⟩
 ·next h1 h2 =>
  split at h
  ·next v w' h3 => exact (h1 _ _ h3).elim
  ·next f args w' h3 => exact (h2 _ _ _ h3).elim
  ·exact h
theorem wp_region_tail {P : Program} {id : Nat} {Q : Exit → Act → World → Prop} {a : Act} {w : World} {l : List Oper} (k : Nat) (V : Nat → Value → World → Prop) (B : List Nat) (hm : P.follows .mixedOrders = true) (hok : tailOk l B a.tmps.size k = true)
  (hV : ∀ i v w1 w2, Below w1.heap.size w1 w2 → V i v w1 → V i v w2)
  (hs : phiSteps P (l.take k) B V a w 0 (l.take k))
  (hend : ∀ s w1, Below w.heap.size w w1 → (∀ i, i < k → V i (s i) w1) → tailList P Q (l.drop k) (putAll (dsOf (l.take k)) 0 s a) w1) : (Code.region id l.toArray true).wp P Q a w := by
 simp only [tailOk, Bool.and_eq_true] at hok
 obtain ⟨⟨⟨⟨⟨⟨⟨⟨hk, h1⟩, h0⟩, h2⟩, h3⟩, h4⟩, h5⟩, hBt⟩, hBd⟩ := hok
 have hk : k < l.length := of_decide_eq_true hk
 have hnd : (dsOf (l.take k)).Nodup := of_decide_eq_true h2
 have hBt : ∀ i j, i < l.length → k ≤ i → j < i → (B.getD i 0).testBit j = true := by
  intro i j hi hki hj
  have := List.all_eq_true.1 hBt i (List.mem_range.2 hi)
  rw [decide_eq_false (by omega), Bool.false_or] at this
  exact List.all_eq_true.1 this j (List.mem_range.2 hj)
 have hBd : ∀ i j, i < k → j < l.length → (B.getD i 0).testBit j = true → j < i := by
  intro i j hi hj hij
  have := List.all_eq_true.1 (List.all_eq_true.1 hBd i (List.mem_range.2 hi)) j (List.mem_range.2 hj)
  rw [hij, Bool.not_true, Bool.or_false] at this
  exact of_decide_eq_true this
 have hTl : (rtab .any l.toArray).2.length = l.length := by rw [rtab_length]; simp
 have hdl : ∀ i, i < k → (l.take k)[i]? = l[i]? := fun i hi => by rw [List.getElem?_take_of_lt hi]
 have hlt : (l.take k).length = k := by rw [List.length_take]; omega
 have hds : ∀ (i : Nat) (o : Oper), i < k → l[i]? = some o → o.dst = some ((dsOf (l.take k))[i]?.getD 0) ∧ (dsOf (l.take k))[i]? = some (o.dst.getD 0) := by
  intro i o hi ho
  have ho' : (l.take k)[i]? = some o := (hdl i hi).trans ho
  have e : (dsOf (l.take k))[i]? = some (o.dst.getD 0) := by unfold dsOf; rw [List.getElem?_map, ho']; rfl
  refine ⟨?_, e⟩
  have := List.all_eq_true.1 h1 o (List.mem_of_getElem? ho')
  rw [e]
  cases hd : o.dst with
  | none => rw [hd] at this; cases this
  | some d => rfl
 have hrange : ∀ j, j < l.length → (List.range l.length).contains j = true := fun j hj => by simpa using hj
 refine wp_region_last_drew (S := fun _ => True) (ds := []) hm trivial (fun _ => ?_)
 refine inv_ (T := rtab .any l.toArray) (B := B) (List.range l.length) (fun b a' w' => (b k = false → ∃ s, a' = putAll (dsOf (l.take k)) 0 s a ∧ Below w.heap.size w w' ∧ ∀ i, i < k → b i = true → V i (s i) w') ∧ (∀ n, k < n → n ≤ l.length → (∀ j, j < n → b j = true) → (∀ j, n ≤ j → j < l.length → b j = false) → tailList P Q (l.drop n) a' w')) rfl h4 h5 ?_ ?_ ?_ ?_
 ·rw [hTl, Bool.and_eq_true, beq_iff_eq, beq_iff_eq]
  refine ⟨?_, by simp⟩
  apply List.ext_getElem
  ·simp [lof]
  ·intro i hi1 hi2
   have hi : i < l.length := by simpa [lof] using hi1
   simp [lof, hi]
 ·refine ⟨fun _ => ⟨fun k' => (a.tmps[(dsOf (l.take k))[k']?.getD 0]?).getD undef, ?_, (Below.refl _ _).drew, fun _ _ h => by cases h⟩, fun n hn _ hj _ => by have := hj 0 (by omega); cases this⟩
  refine (putAll_self _ _ _ _ (fun j d hj => ?_)).symm
  have hd := List.all_eq_true.1 h3 d (List.mem_of_getElem? hj)
  have hd' : d < a.tmps.size := of_decide_eq_true hd
  simp [hj, hd']
 ·intro i hi b a' w' ⟨hA, hT⟩ hbi hon hoff
  have hil : i < l.length := List.mem_range.1 hi
  have ho : l[i]? = some l[i] := List.getElem?_eq_getElem hil
  refine ⟨l[i], by simp, fun K hK => ?_⟩
  have hK' := Shut.out hK
  have hg : l[i].guard = none := by
   have := List.all_eq_true.1 h0 l[i] (List.mem_of_getElem? ho)
   cases hq : l[i].guard with
   | none => rfl
   | some g => rw [hq] at this; cases this
  rw [if_pos (by simp [Region.wanted, hg])]
  have hon' : ∀ j, j < l.length → (B.getD i 0).testBit j = true → b j = true := fun j hj hb => hon j (by rw [hrange j hj, hb]; rfl)
  have hoff' : ∀ d, d < l.length → (B.getD d 0).testBit i = true → b d = false := fun d hd hb => hoff d (by rw [hrange d hd, hb]; rfl)
  by_cases hik : i < k
  ·have hbk : b k = false := hoff' k hk (hBt k i hk (Nat.le_refl _) hik)
   obtain ⟨s, rfl, hbw, hvs⟩ := hA hbk
   have hst := phiSteps_at (l.take k) 0 hs i _ ((hdl i hik).trans ho)
   rw [Nat.zero_add] at hst
   refine opGives_wp (hst s w' hbw (fun j hj => ?_) _ (fun v w2 hb2 hv => ?_))
   ·have hj1 := (Bool.and_eq_true _ _ ▸ hj : _ ∧ _)
    have hjk : j < k := by have := hj1.1; rw [hlt] at this; simpa using this
    exact hvs j hjk (hon' j (by omega) hj1.2)
   ·rw [(hds i _ hik ho).1, (hds i _ hik ho).2, Option.getD_some, putAll_put _ _ _ _ _ _ _ hnd (Nat.zero_le _) (by rw [Nat.sub_zero]; exact (hds i _ hik ho).2)]
    refine hK' _ _ ⟨fun _ => ⟨upd s i v, rfl, hbw.trans (hb2.mono hbw.size), fun j hj hbj => ?_⟩, fun n hn hnl hj _ => ?_⟩
    ·by_cases hji : j = i
     ·subst hji; rw [show upd s j v j = v by simp [upd]]; exact hv
     ·rw [up_ne hji] at hbj; rw [show upd s i v j = s j by simp [upd, hji]]
      exact hV _ _ _ _ hb2 (hvs j hj hbj)
    ·have := hj k hn
     rw [up_ne (by omega), hbk] at this
     cases this
  ·have hall : ∀ j, j < i → b j = true := fun j hj => hon' j (by omega) (hBt i j hil (by omega) hj)
   have hnone : ∀ j, i ≤ j → j < l.length → b j = false := by
    intro j hj hjl
    by_cases hji : j = i
    ·subst hji; exact hbi
    ·exact hoff' j hjl (hBt j i hjl (by omega) (by omega))
   have htl : tailList P Q (l.drop i) a' w' := by
    by_cases hki : i = k
    ·subst hki
     obtain ⟨s, rfl, hbw, hvs⟩ := hA hbi
     exact hend s w' hbw (fun j hj => hvs j hj (hall j hj))
    ·exact hT i (by omega) (by omega) hall hnone
   rw [List.drop_eq_getElem_cons hil] at htl
   have hnext : ∀ a2 w2, tailList P Q (l.drop (i + 1)) a2 w2 → K a2 w2 := by
    intro a2 w2 hq
    refine hK' _ _ ⟨fun h => ?_, fun n hn hnl hj hj2 => ?_⟩
    ·by_cases hki : i = k
     ·subst hki; rw [up_self] at h; cases h
     ·rw [up_ne (by omega)] at h
      have := hall k (by omega)
      rw [h] at this; cases this
    ·have hni : n = i + 1 := by
      by_cases h6 : n ≤ i
      ·have := hj2 i h6 hil
       rw [up_self] at this; cases this
      ·by_cases h7 : i + 1 < n
       ·have := hj (i + 1) h7
        rw [up_ne (by omega), hnone (i + 1) (by omega) (by omega)] at this
        cases this
       ·omega
     subst hni
     exact hq
   rcases htl with htl | ⟨w2, h1, h2⟩
   ·refine opGives_wp (opGives_mono htl (fun v w2 hq => hnext _ _ hq))
   ·unfold Oper.wp
    rw [h1]
    exact hnext _ _ h2
 ·intro b a' w' hall ⟨hA, hT⟩
  have := hT l.length hk (Nat.le_refl _) (fun j hj => hall j (hrange j hj)) (fun j h1 h2 => by omega)
  rw [List.drop_length] at this
  exact this
/-- xs[k:] -/
theorem ReadI.from_ {w : World} {A : Option Addr} {n c : Nat} {xs : List Int} (h : ReadI w (.slice A n c) xs) {k : Nat} (hk : k ≤ xs.length) :
  ∃ A' c', (∀ W : World, (Instr.slice 24 (.slice A n c) (some (.int .i64 (k : Int))) none none).run Tryz.prog W = .ok (.slice A' (xs.length - k) c') W) ∧ ReadI w (.slice A' (xs.length - k) c') (xs.drop k) ∧ (A ≠ none → A' ≠ none) := by
 obtain ⟨A0, c0, e, hc, hr⟩ := h
 cases e
 obtain ⟨i, hi, hs⟩ := Option.map_eq_some_iff.1 (show (Tryz.prog.info? 2).map (·.size) = some 1 by kernel_rfl)
 have h2 : (k : Int) ≤ (xs.length : Int) := by omega
 have hrun : ∀ W : World, (Instr.slice 24 (.slice A xs.length c) (some (.int .i64 (k : Int))) none none).run Tryz.prog W = .ok (.slice (if c = k then A else A.map (·.add k)) (xs.length - k) (c - k)) W := fun W => by
  have h3 : ¬ xs.length < k := by omega
  by_cases hck : c = k
  ·simp [Instr.slice, Instr.sliceBounds, Instr.sliceBound, asIntOf, run_underlying Tryz.underlying24, sizeOf, typeInfo, hi, hs, go_sem, h2, h3, hck]
  ·simp [Instr.slice, Instr.sliceBounds, Instr.sliceBound, asIntOf, run_underlying Tryz.underlying24, sizeOf, typeInfo, hi, hs, go_sem, h2, h3, hck]
 have hne : A ≠ none → (if c = k then A else A.map (·.add k)) ≠ none := fun hA => by
  split
  ·exact hA
  ·cases A with
   | none => exact absurd rfl hA
   | some a => simp
 refine ⟨_, _, hrun, ⟨_, _, by rw [List.length_drop], by rw [List.length_drop]; omega, Kd.C_of_reads (d := (0 : Int)) (h1 := fun _ => rfl) ⟨rfl, by rw [List.length_drop]; have := hr.2.1; omega, fun hp => ?_⟩⟩, hne⟩
 rw [List.length_drop] at hp
 obtain ⟨ad, e, -⟩ := ReadI.at_ hr (i := k) (by omega)
 refine ⟨ad.add k, by rw [if_neg (by omega), e]; rfl, fun j hj => ?_⟩
 rw [List.length_drop] at hj
 obtain ⟨ad', e', hcell⟩ := ReadI.at_ hr (i := k + j) (by omega)
 rw [e] at e'
 cases e'
 have ha : (ad.add k).add j = ad.add (k + j) := Go.Proofs.YtomofijniefelaaGreatW.PrintWords.add_add ad k j
 rw [ha, hcell]
 simp [List.getD_eq_getElem?_getD]
/-- xs[:k] -/
theorem ReadI.to_ {w : World} {A : Option Addr} {n c : Nat} {xs : List Int} (h : ReadI w (.slice A n c) xs) {k : Nat} (hk : k ≤ xs.length) :
  (∀ W : World, (Instr.slice 24 (.slice A n c) none (some (.int .i64 (k : Int))) none).run Tryz.prog W = .ok (.slice A k c) W) ∧ ReadI w (.slice A k c) (xs.take k) := by
 obtain ⟨A0, c0, e, hc, hr⟩ := h
 cases e
 obtain ⟨i, hi, hs⟩ := Option.map_eq_some_iff.1 (show (Tryz.prog.info? 2).map (·.size) = some 1 by kernel_rfl)
 have h2 : (k : Int) ≤ (c : Int) := by omega
 have hl : (xs.take k).length = k := by rw [List.length_take]; omega
 refine ⟨fun W => ?_, ⟨A, c, by rw [hl], by rw [hl]; omega, Kd.C_of_reads (d := (0 : Int)) (h1 := fun _ => rfl) ⟨rfl, by rw [hl]; have := hr.2.1; omega, fun hp => ?_⟩⟩⟩
 ·have h3 : ¬ c < k := by omega
  by_cases hc0 : c = 0
  ·obtain rfl : k = 0 := by omega
   simp [Instr.slice, Instr.sliceBounds, Instr.sliceBound, asIntOf, run_underlying Tryz.underlying24, sizeOf, typeInfo, hi, hs, go_sem, h2, h3, hc0]
  ·simp [Instr.slice, Instr.sliceBounds, Instr.sliceBound, asIntOf, run_underlying Tryz.underlying24, sizeOf, typeInfo, hi, hs, go_sem, h2, h3, hc0]
 ·rw [hl] at hp ⊢
  obtain ⟨ad, e, -⟩ := ReadI.at_ hr (i := 0) (by omega)
  refine ⟨ad, e, fun j hj => ?_⟩
  obtain ⟨ad', e', hcell⟩ := ReadI.at_ hr (i := j) (by omega)
  rw [e] at e'
  cases e'
  rw [hcell]
  simp [List.getD_eq_getElem?_getD, List.getElem?_take, hj]
/-- a slice expression, its run told -/
theorem slice_exec {P : Program} {o : Oper} {ev : Operand → Value} {W : World} {t e : TypeId} {s : Operand} {lo hi : Option Operand} {u : Value} (ht : P.underlying t = some (.slice e)) (ho : o.op = .slice t s lo hi none) (hr : (Instr.slice t (ev s) (lo.map ev) (hi.map ev) none).run P W = .ok u W) : (execOp ev o).run P W = .ok (.value u) W := by
 have hel : P.elem t = e := by simp [Program.elem, ht]
 have h1 := run_sliceAt_slice (P := P) (w := W) t (ev s) (lo.map ev) (hi.map ev) none (by rw [hel]; exact ht)
 simp [execOp, ho, h1, hr]
section
variable {P : Program} {ops : Array Oper} {rest : List Oper} {o : Oper} {a : Act} {Q : Exit → Act → World → Prop}
theorem slice_told {W : World} {t e : TypeId} {s : Operand} {lo hi : Option Operand} {u : Value} (ht : P.underlying t = some (.slice e)) (hgd : o.guard = none) (ho : o.op = .slice t s lo hi none) (hr : ∀ W : World, (Instr.slice t (a.eval s) (lo.map a.eval) (hi.map a.eval) none).run P W = .ok u W) (h : wpList P ops Q rest (a.put o.dst u) W) : wpList P ops Q (o :: rest) a W :=
 Kd.event_run hgd (slice_exec ht ho (hr W)) h
end
set_option maxRecDepth 100000 in
/-- append(v, ys...) as one operation -/
theorem appendRow_gives {o : Oper} {ev : Operand → Value} {W : World} (base : Nat) (s x : Operand) (ho : o.op = .call { callee := .builtin .append, args := #[s, x], argTypes := #[24, 24] })
  (v : Value) (xs ys : List Int) (ad : Addr) (n c : Nat) (hs : ev s = v) (hx : ev x = .slice (some ad) n c) (hn : n = ys.length) (hr : ReadI W (.slice (some ad) n c) ys)
  (HO : OwnI base W v xs) (hbase : base ≤ W.heap.size) (hl : xs.length + ys.length < 1000000) {R : Value → World → Prop}
  (h : ∀ v1 w1, OwnI base w1 v1 (xs ++ ys) → W.grownBy w1 v.ownBlock → R v1 w1) : opGives Tryz.prog o ev W R := by
 obtain ⟨i64, hi, hii⟩ := Option.map_eq_some_iff.1 info64
 simp only [Prod.mk.injEq] at hii
 obtain ⟨hi0, hi1, hi2⟩ := hii
 obtain ⟨A0, c0, e0, -, hr⟩ := hr
 cases e0
 have hO := Kd.own_of_R HO
 obtain ⟨v', w', hrun, h2, h3, -⟩ := run_append_own_at (P := Tryz.prog) W base 24 o.type 2 _ (.int .i64 0) 1 8 Tryz.underlying24 hi hi0 hi1 hi2 rfl (by decide) v xs.length (xs.map (Value.int .i64)) hO ad ys.length c (ys.map (Value.int .i64)) (by rw [List.length_map, Nat.mul_one])
  (fun j u hj => by
   rw [List.getElem?_map] at hj
   obtain ⟨y, hy, rfl⟩ := Option.map_eq_some_iff.1 hj
   have hjl := (List.getElem?_eq_some_iff.1 hy).1
   obtain ⟨ad', e', hcell⟩ := ReadI.at_ hr hjl
   cases e'
   rw [hcell, List.getD_eq_getElem?_getD, hy]; rfl) (fun u hu => by
   obtain ⟨y, -, rfl⟩ := List.mem_map.1 hu
   rfl) (by simp only [maxLen]; omega) (by omega) hbase
 refine opGives_value (w' := w') (v := v') ?_ (h v' w' (OwnI.of_row (b := base) (by rw [List.length_append, List.map_append]; exact h2) (Nat.le_refl _)) h3)
 unfold execOp
 simp only [ho, resolve, invoke, builtin, Sem.run_bind, Sem.run_pure, Result.andThen_ok, List.map_toArray, List.map_cons, List.map_nil, hs, hx, hn, hrun]
set_option maxRecDepth 100000 in
set_option maxHeartbeats 1000000 in
theorem specOwnC (v : Value) (xs : List Int) (w : World) (hv : ReadI w v xs) (hl : xs.length ≤ 1000000) :
  Calls Tryz.prog 153 #[v] w fun e w' => ∃ u, e = .returned u ∧ OwnI w.heap.size w' u xs ∧ Below w.heap.size w w' := by
 obtain ⟨A, c, rfl, hc, hr⟩ := id hv
 obtain ⟨w1, hw1⟩ : ∃ w1, w1 = w.alloc (.cells #[] 2) := ⟨_, rfl⟩
 have hB : Below w.heap.size w w1 := by rw [hw1]; exact Below.alloc (Below.refl _ _) (Nat.le_refl _) _
 have hs1 : w.heap.size ≤ w1.heap.size := hB.size
 have HO := Aside0.mk (show OwnI w.heap.size w1 (.slice (some ⟨w.heap.size, 0, none⟩) 0 0) [] by rw [hw1]; exact OwnI.empty w (Nat.le_refl _))
 have HB := Aside0.mk hB
 have HR := Aside0.mk (Kd.C_below hr hB)
 clear hr hv hB
 go_enter Tryz.func153, Tryz.ntmps153
 go_wp2_with (first | ((with_reducible refine gate_builtin (b := .append) (xs := #[.tmp 3, .tmp 4]) rfl ?_); rw [← hw1]; clear hw1; refine Kd.R_append_row (Value.int .i64) (0 : Int) (w0 := w) w.heap.size rfl (.tmp 3) (.tmp 4) 24 2 (.int .i64 0) 8 rfl Tryz.underlying24 info64 rfl (by decide) _ [] xs A xs.length c (fun _ => True) rfl rfl (fun _ _ => trivial) HO.out HR.out HB.out hs1 (by simp; omega) ?_; intro v1 w2 ho hb hg hat; have HO2 := Aside0.mk ho; have HB2 := Aside0.mk hb; clear ho hb hg hat))
 go_ret
 exact ⟨_, rfl, HO2.out, HB2.out⟩
def Bl (w w' : World) : Prop := Below w.heap.size w w'
theorem Bl.trans {a b c : World} (h : Bl a b) (k : Bl b c) : Bl a c := Below.trans h (Below.mono k (Below.size h))
/-- the number of vertices -/
def ones (f : Nat) : Nat := (vs f).length
theorem ones_step : ∀ g, g < 64 → ones g = g % 2 + ones (g / 2) := by decide +kernel
theorem ones_le : ∀ g, g < 64 → ones g ≤ 6 := by decide +kernel
set_option maxRecDepth 100000 in
set_option maxHeartbeats 1000000 in
theorem specOnes (x : Nat) (hx : x < 64) (w : World) : Calls Tryz.prog 213 #[.int .i64 x] w fun e w' => e = .returned (.int .i64 (ones x : Nat)) ∧ Below w.heap.size w w' := by
 go_enter Tryz.func213, Tryz.ntmps213
 go_wp2
 go_loopw [0, 3] (fun s0 s3 wr => ∃ g k : Nat, s0 = .int .i64 g ∧ g < 64 ∧ s3 = .int .i64 k ∧ k ≤ 6 ∧ k + ones g = ones x ∧ wr = w) (fun s0 _ _ => (intOf s0).toNat)
 case atStart => exact ⟨x, 0, rfl, hx, rfl, by decide, by omega, rfl⟩
 case round =>
  obtain ⟨g, k, rfl, hg, rfl, hk, he, rfl⟩ := hrel
  have hox := ones_le x hx
  by_cases h0 : 0 < g
  ·have hst := ones_step g hg
   have h0I : (0 : Int) < (g : Int) := by omega
   have hr1 : Int.tmod (g : Int) 2 = ((g % 2 : Nat) : Int) := by rw [Int.tmod_eq_emod_of_nonneg (by omega)]; omega
   have hq1 : Int.tdiv (g : Int) 2 = ((g / 2 : Nat) : Int) := by rw [Int.tdiv_eq_ediv_of_nonneg (by omega)]; omega
   have hr2 : (g : Int) % 2 = ((g % 2 : Nat) : Int) := by omega
   have hq2 : (g : Int) / 2 = ((g / 2 : Nat) : Int) := by omega
   obtain ⟨r, hr⟩ : ∃ r, r = g % 2 := ⟨_, rfl⟩
   obtain ⟨q, hq⟩ : ∃ q, q = g / 2 := ⟨_, rfl⟩
   have hqg : q < g := by omega
   have hr6 : r ≤ 1 := by omega
   rw [← hr] at hst hr1 hr2
   rw [← hq] at hst hq1 hq2
   clear hr hq
   go_wp2
   go_roundw
   case rel => exact ⟨q, k + r, by first | rfl | (simp [hq1, hq2]) | (simp; omega), by omega, by first | rfl | (simp [hr1, hr2]) | (simp; omega), by omega, by omega, trivial⟩
   case measure => simp [intOf] <;> omega
  ·obtain rfl : g = 0 := by omega
   go_wp2
   go_ret
   have h00 : ones 0 = 0 := by decide
   exact ⟨by rw [← he, h00]; simp, Below.refl _ _⟩
end Go.Proofs.YtomofijniefelaaGreat.H
