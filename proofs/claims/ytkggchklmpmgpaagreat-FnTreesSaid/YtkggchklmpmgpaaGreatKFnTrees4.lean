/- What a complex is, of the reference. Games of the reference: places, the table, what counts. Games of the program: what counts, what is told. Numbers of questions and of evaders: the plain law. Numbers of vertices. -/
import Derived.Test.YtkggchklmpmgpaaGreatKFnTrees1
import Derived.Test.YtkggchklmpmgpaaGreatKFnTrees2
import Derived.Test.YtkggchklmpmgpaaGreatKFnTrees3

namespace Go.Proofs.YtkggchklmpmgpaaGreat.H
open Go.RowKit Go.Proofs.YtkggchklmpmgpaaGreatW.PrintWords Go.Proofs.YtkggchklmpmgpaaGreatW.PrintLast
set_option linter.unusedVariables false
set_option linter.unusedSimpArgs false
theorem all_false {l : List Int} {p : Int → Bool} {i : Nat} {y : Int} (hi : i < l.length) (hy : l.getD i 0 = y) (h : p y = false) : l.all p = false := by
 rw [List.all_eq_false]
 exact ⟨y, mem_at hi hy, by rw [h]; decide⟩
theorem all_true {l : List Int} {p : Int → Bool} (h : ∀ i, i < l.length → p (l.getD i 0) = true) : l.all p = true := by
 rw [List.all_eq_true]
 intro x hx
 obtain ⟨j, hj, rfl⟩ := List.getElem_of_mem hx
 have := h j hj
 simpa [List.getD_eq_getElem?_getD, hj] using this
set_option maxHeartbeats 4000000 in
theorem specIs (a : Int) (u : Value) (l : List Int) (w : World) (hr : ReadI w u l) :
  Calls Tryz.prog 171 #[cx a u] w fun e w' => e = .returned (.bool (cxOk a l)) ∧ Below w.heap.size w w' := by
 have hba : Below w.heap.size w (w.alloc (.cells #[.int .i64 a, u] 26)) := Below.alloc (Below.refl _ _) (Nat.le_refl _) _
 have HB := Aside0.mk hba
 have HR0 := Aside0.mk (hr.below hba)
 obtain ⟨A, c, rfl, hc, hr⟩ := id hr
 have HR := Aside0.mk (Kd.C_below hr hba)
 have hlen : l.length ≤ 9223372036854775807 := hr.2.1
 clear hr hba
 obtain ⟨w1, hw1⟩ : ∃ w1, w1 = w.alloc (Obj.cells #[.int .i64 a, Value.slice A l.length c] 26) := ⟨_, rfl⟩
 have hc0 : w1.cell? ⟨w.heap.size, 0, none⟩ = some (.int .i64 a) := by rw [hw1]; simp
 have hc1 : w1.cell? ⟨w.heap.size, 1, none⟩ = some (Value.slice A l.length c) := by rw [hw1]; simp
 rw [← hw1] at HB HR HR0
 by_cases ha : 1 ≤ a ∧ a ≤ 6
 ·obtain ⟨n, rfl⟩ : ∃ n : Nat, a = n := ⟨a.toNat, by omega⟩
  have hs : (decide ((1 : Int) ≤ n) && decide ((n : Int) ≤ 6)) = true := by simp; omega
  have hn : 1 ≤ n ∧ n ≤ 6 := by omega
  have HA : Aside0 (cxOk n l = (cxUp n l && l.all (belowIn l))) := ⟨by unfold cxOk; rw [hs]; rfl⟩
  obtain ⟨N, hN⟩ : ∃ N : Nat, N = 2 ^ n := ⟨_, rfl⟩
  have HN := Aside0.mk hN
  clear hN ha
  go_enter Tryz.func171, Tryz.ntmps171
  go_wp2_with (first | (rw [← hw1]; clear hw1; go_at_call 164; refine (specIn _ _ _ _).mono ?_; rintro e w2 ⟨rfl, hb⟩; rw [hs]; have hc0 := pw_cell_below hb hc0; have hc1 := pw_cell_below hb hc1; have HB2 := Aside0.mk hb; clear hb))
  go_loopw [3] (fun v wr => ∃ i : Nat, v = .int .i64 i ∧ i ≤ l.length ∧ Aside0 (∀ k, k < i → upAt n l k = true) ∧ Below w2.heap.size w2 wr) (fun v _ => l.length - (intOf v).toNat)
  case atStart => exact ⟨0, rfl, Nat.zero_le _, ⟨fun j hj => absurd hj (Nat.not_lt_zero _)⟩, Below.refl _ _⟩
  case round =>
   obtain ⟨i, rfl, hi, HU, hb⟩ := hrel
   have hc0r := pw_cell_below hb hc0
   have hc1r := pw_cell_below hb hc1
   have HBr := Aside0.mk (HB2.out.trans (hb.mono HB2.out.size))
   have HB3 := Aside0.mk hb
   clear hb hc0 hc1
   by_cases hlt : i < l.length
   ·obtain ⟨ad, y, rfl, hcell, HY⟩ := ReadI.get (Kd.C_below HR.out HBr.out) hlt
    have hx0 : ∀ x : Ext wr, x.1.cell? ⟨w.heap.size, 0, none⟩ = some (.int .i64 n) := fun x => Ext.cell hc0r x
    have hx1 : ∀ x : Ext wr, x.1.cell? ⟨w.heap.size, 1, none⟩ = some (Value.slice (some ad) l.length c) := fun x => Ext.cell hc1r x
    have hx2 : ∀ x : Ext wr, x.1.cell? (ad.add i) = some (.int .i64 y) := fun x => Ext.cell hcell x
    clear hcell
    have HSA : Aside0 (∀ w : World, Calls Tryz.prog 299 #[.int .i64 n] w fun e w' => e = .returned (.int .i64 ((N : Int) - 1)) ∧ Below w.heap.size w w') := ⟨fun w => by rw [HN.out]; exact specAll n hn.2 w⟩
    cases hwi : (decide ((1 : Int) ≤ y) && decide (y ≤ (N : Int) - 1)) with
    | false =>
     have HSI : Aside0 (∀ w : World, Calls Tryz.prog 164 #[.int .i64 y, .int .i64 1, .int .i64 ((N : Int) - 1)] w fun e w' => e = .returned (.bool false) ∧ Below w.heap.size w w') := ⟨fun w => by rw [← hwi]; exact specIn _ _ _ w⟩
     have HWI := Aside0.mk hwi
     clear hwi
     go_wp2
     refine wp_region_ext (by kernel_rfl) (by kernel_rfl) ?_
     repeat (go_big_quiet_step ((first | (go_at_call 299; exact Calls.ext_of (HSA.out _)) | (go_at_call 164; exact Calls.ext_of (HSI.out _)))))
     refine wpQuiet_nil ?_
     rintro _ ⟨x, rfl⟩
     have hbx := x.2
     go_wp2
     go_ret
     exact ⟨by rw [HA.out, up_false hlt (by unfold upAt; rw [HY.out, ← HN.out, HWI.out]; rfl)]; rfl, by have := HB.out; have := HBr.out; (repeat (first | (with_reducible exact Below.refl _ _) | (with_reducible assumption) | (with_reducible refine below_step ?_ (by assumption)) | (with_reducible apply below_alloc) | (with_reducible apply below_drewN)))⟩
    | true =>
     have HSI : Aside0 (∀ w : World, Calls Tryz.prog 164 #[.int .i64 y, .int .i64 1, .int .i64 ((N : Int) - 1)] w fun e w' => e = .returned (.bool true) ∧ Below w.heap.size w w') := ⟨fun w => by rw [← hwi]; exact specIn _ _ _ w⟩
     have HWI := Aside0.mk hwi
     clear hwi
     by_cases h0 : i = 0
     ·have h0' : decide (0 < i) = false := decide_eq_false (by omega)
      clear h0
      have h0'' : ¬ 0 < i := by simpa using h0'
      have H0 := Aside0.mk h0''
      clear h0''
      go_wp2
      refine wp_region_ext (by kernel_rfl) (by kernel_rfl) ?_
      repeat (go_big_quiet_step ((first | (go_at_call 299; exact Calls.ext_of (HSA.out _)) | (go_at_call 164; exact Calls.ext_of (HSI.out _)))))
      refine wpQuiet_nil ?_
      rintro _ ⟨x, rfl⟩
      have hbx := x.2
      go_wp2
      go_roundw
      case rel =>
       refine ⟨i + 1, by go_num, by omega, ⟨fun k hk => ?_⟩, by have := HB3.out; (repeat (first | (with_reducible exact Below.refl _ _) | (with_reducible assumption) | (with_reducible refine below_step ?_ (by assumption)) | (with_reducible apply below_alloc) | (with_reducible apply below_drewN)))⟩
       rcases Nat.lt_succ_iff_lt_or_eq.1 hk with h | rfl
       ·exact HU.out k h
       ·unfold upAt; rw [HY.out, ← HN.out, HWI.out, decide_eq_false H0.out]; rfl
      case measure => simp [intOf]; omega
     ·have h0' : decide (0 < i) = true := decide_eq_true (by omega)
      have h1i : (0 : Int) ≤ (i : Int) - 1 := by omega
      have h2i : (i : Int) - 1 < l.length := by omega
      have h3i : ((i : Int) - 1).toNat = i - 1 := by omega
      obtain ⟨ad', y', e2, hcell2, HY2⟩ := ReadI.get (Kd.C_below HR.out HBr.out) (i := i - 1) (by omega)
      cases e2
      have hx3 : ∀ x : Ext wr, x.1.cell? (ad.add (i - 1)) = some (.int .i64 y') := fun x => Ext.cell hcell2 x
      clear hcell2
      by_cases hle : y ≤ y'
      ·have HLE := Aside0.mk (decide_eq_true hle)
       go_wp2
       refine wp_region_ext (by kernel_rfl) (by kernel_rfl) ?_
       repeat (go_big_quiet_step ((first | (go_at_call 299; exact Calls.ext_of (HSA.out _)) | (go_at_call 164; exact Calls.ext_of (HSI.out _)))))
       refine wpQuiet_nil ?_
       rintro _ ⟨x, rfl⟩
       have hbx := x.2
       go_wp2
       go_ret
       exact ⟨by rw [HA.out, up_false hlt (by unfold upAt; rw [HY.out, HY2.out, ← HN.out, HWI.out, HLE.out, decide_eq_true (by omega)]; rfl)]; rfl, by have := HB.out; have := HBr.out; (repeat (first | (with_reducible exact Below.refl _ _) | (with_reducible assumption) | (with_reducible refine below_step ?_ (by assumption)) | (with_reducible apply below_alloc) | (with_reducible apply below_drewN)))⟩
      ·have HLE := Aside0.mk (decide_eq_false hle)
       go_wp2
       refine wp_region_ext (by kernel_rfl) (by kernel_rfl) ?_
       repeat (go_big_quiet_step ((first | (go_at_call 299; exact Calls.ext_of (HSA.out _)) | (go_at_call 164; exact Calls.ext_of (HSI.out _)))))
       refine wpQuiet_nil ?_
       rintro _ ⟨x, rfl⟩
       have hbx := x.2
       go_wp2
       go_roundw
       case rel =>
        refine ⟨i + 1, by go_num, by omega, ⟨fun k hk => ?_⟩, by have := HB3.out; (repeat (first | (with_reducible exact Below.refl _ _) | (with_reducible assumption) | (with_reducible refine below_step ?_ (by assumption)) | (with_reducible apply below_alloc) | (with_reducible apply below_drewN)))⟩
        rcases Nat.lt_succ_iff_lt_or_eq.1 hk with h | rfl
        ·exact HU.out k h
        ·unfold upAt; rw [HY.out, HY2.out, ← HN.out, HWI.out, HLE.out, Bool.and_false]; rfl
       case measure => simp [intOf]; omega
   ·have hu : cxUp n l = true := up_true (fun k hk => HU.out k (by omega))
    have HUU := Aside0.mk hu
    have HBD : Aside0 (∀ x ∈ l, 1 ≤ x ∧ x ≤ 63) := ⟨fun x hx => by have := cxUp_bd hu x hx; have := pw6 hn.2; omega⟩
    clear hu
    go_wp2
    go_loopw [4] (fun v wr2 => ∃ i : Nat, v = .int .i64 i ∧ i ≤ l.length ∧ Aside0 (∀ k, k < i → belowIn l (l.getD k 0) = true) ∧ Below wr.heap.size wr wr2) (fun v _ => l.length - (intOf v).toNat)
    case atStart => exact ⟨0, rfl, Nat.zero_le _, ⟨fun j hj => absurd hj (Nat.not_lt_zero _)⟩, Below.refl _ _⟩
    case round =>
     obtain ⟨i2, rfl, hi2, HI2, hb2⟩ := hrel
     have hc1s := pw_cell_below hb2 hc1r
     have hc0s := pw_cell_below hb2 hc0r
     have HBs := Aside0.mk (HBr.out.trans (hb2.mono HBr.out.size))
     have HBt := Aside0.mk hb2
     clear hb2
     by_cases hlt2 : i2 < l.length
     ·obtain ⟨ad, y, rfl, hcell, HY⟩ := ReadI.get (Kd.C_below HR.out HBs.out) hlt2
      have hyb := HBD.out y (mem_at hlt2 HY.out)
      obtain ⟨f, rfl⟩ : ∃ f : Nat, y = f := ⟨y.toNat, by omega⟩
      have hf : f ≤ 63 := by omega
      clear hyb
      go_wp2_with (first | (go_at_call 316; refine (specBelow f hf _).mono ?_; rintro e w3 ⟨v3, rfl, ho, hb⟩; obtain ⟨A3, c3, rfl, hc3, hr3⟩ := ho.read; have hc1u := pw_cell_below hb hc1s; have hc0u := pw_cell_below hb hc0s; have HR3 := Aside0.mk hr3; have HB3a := Aside0.mk hb; have hl3 : (below f).length ≤ 9223372036854775807 := hr3.2.1; clear ho hb hr3))
      go_loopw [6] (fun v wr3 => ∃ j : Nat, v = .int .i64 j ∧ j ≤ (below f).length ∧ Aside0 (∀ k, k < j → decide ((below f).getD k 0 ∈ l) = true) ∧ Below w3.heap.size w3 wr3) (fun v _ => (below f).length - (intOf v).toNat)
      case atStart => exact ⟨0, rfl, Nat.zero_le _, ⟨fun j hj => absurd hj (Nat.not_lt_zero _)⟩, Below.refl _ _⟩
      case round =>
       obtain ⟨j, rfl, hj, HJ, hb5⟩ := hrel
       have hc1v := pw_cell_below hb5 hc1u
       have hc0v := pw_cell_below hb5 hc0u
       have HBv := Aside0.mk (HB3a.out.trans (hb5.mono HB3a.out.size))
       have HBx := Aside0.mk (HBs.out.trans (HBv.out.mono HBs.out.size))
       have HBy := Aside0.mk hb5
       by_cases hlt3 : j < (below f).length
       ·obtain ⟨ad3, g, rfl, hcell3, HG⟩ := ReadI.get (Kd.C_below HR3.out hb5) hlt3
        clear hb5 hcell
        have hx0 : ∀ x : Ext wr, x.1.cell? ⟨w.heap.size, 0, none⟩ = some (.int .i64 n) := fun x => Ext.cell hc0v x
        have hx1 : ∀ x : Ext wr, x.1.cell? ⟨w.heap.size, 1, none⟩ = some (Value.slice (some ad) l.length c) := fun x => Ext.cell hc1v x
        have hx2 : ∀ x : Ext wr, x.1.cell? (ad3.add j) = some (.int .i64 g) := fun x => Ext.cell hcell3 x
        clear hcell3
        have hj1 : (0 : Int) ≤ (j : Int) := by omega
        have hj2 : (j : Int) < ((below f).length : Int) := by omega
        cases hg : decide (g ∈ l) with
        | false =>
         have HSH : Aside0 (∀ x : Ext wr, Calls Tryz.prog 170 #[cx n (.slice (some ad) l.length c), .int .i64 g] x.1 fun e w' => e = .returned (.bool false) ∧ Below x.1.heap.size x.1 w') := ⟨fun x => by rw [← hg]; exact specHas n _ l g x.1 (HR0.out.below (HBx.out.trans (x.2.mono HBx.out.size)))⟩
         have HGG := Aside0.mk hg
         clear hg
         go_wp2
         refine wp_region_ext (by kernel_rfl) (by kernel_rfl) ?_
         repeat (go_big_quiet_step ((first | (go_at_call 170; exact Calls.ext_of (HSH.out _)))))
         refine wpQuiet_nil ?_
         rintro _ ⟨x, rfl⟩
         have hbx := x.2
         go_wp2
         go_ret
         refine ⟨?_, by have := HB.out; have := HBx.out; (repeat (first | (with_reducible exact Below.refl _ _) | (with_reducible assumption) | (with_reducible refine below_step ?_ (by assumption)) | (with_reducible apply below_alloc) | (with_reducible apply below_drewN)))⟩
         have e1 : belowIn l (f : Int) = false := all_false hlt3 HG.out HGG.out
         rw [HA.out, HUU.out, all_false hlt2 HY.out e1]; rfl
        | true =>
         have HSH : Aside0 (∀ x : Ext wr, Calls Tryz.prog 170 #[cx n (.slice (some ad) l.length c), .int .i64 g] x.1 fun e w' => e = .returned (.bool true) ∧ Below x.1.heap.size x.1 w') := ⟨fun x => by rw [← hg]; exact specHas n _ l g x.1 (HR0.out.below (HBx.out.trans (x.2.mono HBx.out.size)))⟩
         have HGG := Aside0.mk hg
         clear hg
         go_wp2
         refine wp_region_ext (by kernel_rfl) (by kernel_rfl) ?_
         repeat (go_big_quiet_step ((first | (go_at_call 170; exact Calls.ext_of (HSH.out _)))))
         refine wpQuiet_nil ?_
         rintro _ ⟨x, rfl⟩
         have hbx := x.2
         go_wp2
         go_roundw
         case rel =>
          refine ⟨j + 1, by go_num, by omega, ⟨fun k hk => ?_⟩, by have := HBy.out; (repeat (first | (with_reducible exact Below.refl _ _) | (with_reducible assumption) | (with_reducible refine below_step ?_ (by assumption)) | (with_reducible apply below_alloc) | (with_reducible apply below_drewN)))⟩
          rcases Nat.lt_succ_iff_lt_or_eq.1 hk with h | rfl
          ·exact HJ.out k h
          ·rw [HG.out]; exact HGG.out
         case measure => simp [intOf]; omega
       ·clear hb5 hcell
        have HE : Aside0 (belowIn l (f : Int) = true) := ⟨all_true (l := below f) (fun k hk => HJ.out k (by omega))⟩
        go_wp2
        go_roundw
        case rel =>
         refine ⟨i2 + 1, by go_num, by omega, ⟨fun k hk => ?_⟩, by have := HBt.out; have := HBv.out; (repeat (first | (with_reducible exact Below.refl _ _) | (with_reducible assumption) | (with_reducible refine below_step ?_ (by assumption)) | (with_reducible apply below_alloc) | (with_reducible apply below_drewN)))⟩
         rcases Nat.lt_succ_iff_lt_or_eq.1 hk with h | rfl
         ·exact HI2.out k h
         ·rw [HY.out]; exact HE.out
        case measure => simp [intOf]; omega
     ·have HE : Aside0 (l.all (belowIn l) = true) := ⟨all_true (fun k hk => HI2.out k (by omega))⟩
      go_wp2
      go_ret
      exact ⟨by rw [HA.out, HUU.out, HE.out]; rfl, by have := HB.out; have := HBs.out; (repeat (first | (with_reducible exact Below.refl _ _) | (with_reducible assumption) | (with_reducible refine below_step ?_ (by assumption)) | (with_reducible apply below_alloc) | (with_reducible apply below_drewN)))⟩
 ·have hs : (decide ((1 : Int) ≤ a) && decide (a ≤ 6)) = false := by simp; omega
  have HA : Aside0 (cxOk a l = false) := ⟨by unfold cxOk; rw [hs]; rfl⟩
  clear ha
  go_enter Tryz.func171, Tryz.ntmps171
  go_wp2_with (first | (rw [← hw1]; clear hw1; go_at_call 164; refine (specIn _ _ _ _).mono ?_; rintro e w2 ⟨rfl, hb⟩; rw [hs]))
  go_ret
  exact ⟨by rw [HA.out]; rfl, by have := HB.out; (repeat (first | (with_reducible exact Below.refl _ _) | (with_reducible assumption) | (with_reducible refine below_step ?_ (by assumption)) | (with_reducible apply below_alloc) | (with_reducible apply below_drewN)))⟩
/-- hidden sets that count -/
def countB (xs : List Int) (h : Int) : Bool := (h == 0) || decide (h ∈ xs)
theorem specPlace (p q : Nat) (hp : p < 64) (hq : q < 64) (w : World) : Calls Tryz.prog 335 #[.int .i64 p, .int .i64 q] w fun e w' => e = .returned (.int .i64 ((p * 64 + q : Nat) : Int)) ∧ Below w.heap.size w w' := by
 go_enter Tryz.func335, Tryz.ntmps335
 go_wp2
 go_ret
 exact ⟨by simp, Below.refl _ _⟩
theorem specCounts (a : Int) (ku : Value) (xs : List Int) (h : Int) (w : World) (hk : ReadI w ku xs) :
  Calls Tryz.prog 396 #[cx a ku, .int .i64 h] w fun e w' => e = .returned (.bool (countB xs h)) ∧ Below w.heap.size w w' := by
 obtain ⟨w1, hw1⟩ : ∃ w1, w1 = w.alloc (.cells #[.int .i64 a, ku] 26) := ⟨_, rfl⟩
 have hB : Below w.heap.size w w1 := by rw [hw1]; exact Below.alloc (Below.refl _ _) (Nat.le_refl _) _
 have HK := Aside0.mk (hk.below hB)
 have HB := Aside0.mk hB
 obtain ⟨A1, d1, rfl, -⟩ := id hk
 clear hk hB
 have HX : Aside0 (countB xs h = ((h == 0) || decide (h ∈ xs))) := ⟨rfl⟩
 cases h0 : (h == 0) with
 | true =>
  go_enter Tryz.func396, Tryz.ntmps396
  go_wp2
  rw [← hw1]
  go_ret
  exact ⟨by rw [HX.out, h0]; rfl, HB.out⟩
 | false =>
  go_enter Tryz.func396, Tryz.ntmps396
  go_wp2_with (first | (go_at_call 170; rw [← hw1]; clear hw1; refine (specHas a _ xs h _ HK.out).mono ?_; rintro e w2 ⟨rfl, hb⟩))
  go_ret
  exact ⟨by rw [HX.out, h0]; rfl, HB.out.trans (hb.mono HB.out.size)⟩
/-- a table without known numbers -/
def noneT (n : Nat) : List Int := List.replicate n (-1)
theorem noneT_set {L : List Int} {i : Nat} (hi : i < L.length) : (noneT i ++ L.drop i).set i (-1) = noneT (i + 1) ++ L.drop (i + 1) := by
 unfold noneT
 rw [List.set_append_right _ _ (by simp), List.length_replicate, Nat.sub_self, List.drop_eq_getElem_cons hi, List.set_cons_zero, List.replicate_succ', List.append_assoc]
 rfl
theorem noneT_len (n : Nat) : (noneT n).length = n := by unfold noneT; simp
set_option maxRecDepth 100000 in
set_option maxHeartbeats 1000000 in
theorem specTable (w : World) : Calls Tryz.prog 203 #[] w fun e w' => ∃ u, e = .returned u ∧ OwnI w.heap.size w' u (noneT 4096) ∧ Below w.heap.size w w' := by
 obtain ⟨N, hN⟩ : ∃ N : Nat, N = 4096 := ⟨_, rfl⟩
 rw [← hN]
 go_enter Tryz.func203, Tryz.ntmps203
 go_wp2_with (first | (refine make_own (w0 := w) w.heap.size rfl (N := 3) rfl _ _ rfl N (by rw [hN]; rfl) (by rw [hN]; rfl) (by omega) (Below.refl _ _) (Nat.le_refl _) ?_; intro v1 w1 ho hb hg hat; obtain ⟨L, hL⟩ : ∃ L, L = List.replicate N (0 : Int) := ⟨_, rfl⟩; rw [← hL] at ho; have hLl : L.length = N := (by rw [hL, List.length_replicate]); clear hL; have HO := Aside0.mk ho; have HB := Aside0.mk hb; obtain ⟨A1, d1, rfl, -⟩ := ho.read; clear ho hb hg hat))
 go_loopw [2] (fun s wr => ∃ i : Nat, s = .int .i64 i ∧ i ≤ L.length ∧ Aside0 (OwnI w.heap.size wr (.slice A1 L.length d1) (noneT i ++ L.drop i)) ∧ Aside0 (Below w.heap.size w wr)) (fun s _ => L.length - (intOf s).toNat)
 case atStart => exact ⟨0, rfl, Nat.zero_le _, ⟨by simpa [noneT] using HO.out⟩, HB⟩
 case round =>
  obtain ⟨i, rfl, hi, HI, HBw⟩ := hrel
  by_cases hlt : i < L.length
  ·obtain ⟨g, cap, e2, -⟩ := Kd.R_form HI.out (by simp [noneT_len]; omega)
   have el : (noneT i ++ L.drop i).length = L.length := by rw [List.length_append, noneT_len, List.length_drop]; omega
   rw [el] at e2
   cases e2
   have HM := Aside0.mk (noneT_set hlt)
   clear el
   go_wp2_with (first | ((with_reducible refine gate_store (t := 2) (p := 12) rfl ?_); refine store_own (w0 := w) rfl (p := 12) rfl rfl i (-1) HI.out ?ha ?hb ?hc ?_; (case ha => omega); (case hb => rfl); (case hc => rfl); intro w' ho hg hb; have HO2 := Aside0.mk ho; have HB3 := Aside0.mk (HBw.out.trans hb); clear ho hg hb))
   go_roundw
   case rel => exact ⟨i + 1, by go_num, by omega, ⟨by rw [← HM.out]; exact HO2.out⟩, HB3⟩
   case measure => simp [intOf]; omega
  ·have e : i = L.length := by omega
   have HE := Aside0.mk (e.trans hLl)
   have hd : L.drop i = [] := List.drop_eq_nil_of_le (by omega)
   clear e
   go_wp2
   go_ret
   exact ⟨_, rfl, by have := HI.out; rw [hd, List.append_nil, HE.out, hLl] at this; subst hN; exact this, HBw.out⟩
/-- the hidden sets below k with these answers -/
def hidTo (p q k : Nat) : List Nat := (List.range k).filter fun h => (h &&& p == p) && (h &&& q == 0)
/-- told: 1 if all count, 0 if none, -1 for others -/
def toldV (n : Nat) (xs : List Int) (p q : Nat) : Int :=
 if (hidTo p q (2 ^ n)).all (fun h => countB xs (h : Int)) then 1 else if !(hidTo p q (2 ^ n)).any (fun h => countB xs (h : Int)) then 0 else -1
theorem hidTo_hit {p q k : Nat} (h : ((k &&& p == p) && (k &&& q == 0)) = true) : hidTo p q (k + 1) = hidTo p q k ++ [k] := by
 unfold hidTo; rw [List.range_succ, List.filter_append]; simp only [List.filter_cons, List.filter_nil]; rw [if_pos h]
theorem hidTo_miss {p q k : Nat} (h : ((k &&& p == p) && (k &&& q == 0)) = false) : hidTo p q (k + 1) = hidTo p q k := by
 unfold hidTo; rw [List.range_succ, List.filter_append]; simp only [List.filter_cons, List.filter_nil]; rw [if_neg (by rw [h]; decide), List.append_nil]
set_option maxRecDepth 100000 in
set_option maxHeartbeats 2000000 in
theorem specTold (n : Nat) (hn : n ≤ 6) (ku : Value) (xs : List Int) (p q : Nat) (hp : p < 64) (hq : q < 64) (w : World) (hk : ReadI w ku xs) :
  Calls Tryz.prog 336 #[cx n ku, .int .i64 p, .int .i64 q] w fun e w' => e = .returned (.int .i64 (toldV n xs p q)) ∧ Below w.heap.size w w' := by
 obtain ⟨w1, hw1⟩ : ∃ w1, w1 = w.alloc (.cells #[.int .i64 n, ku] 26) := ⟨_, rfl⟩
 have hB : Below w.heap.size w w1 := by rw [hw1]; exact Below.alloc (Below.refl _ _) (Nat.le_refl _) _
 have c0 : w1.cell? ⟨w.heap.size, 0, none⟩ = some (.int .i64 n) := by rw [hw1]; simp
 have c1 : w1.cell? ⟨w.heap.size, 1, none⟩ = some ku := by rw [hw1]; simp
 have HK := Aside0.mk (hk.below hB)
 have HB := Aside0.mk hB
 obtain ⟨A1, d1, rfl, -⟩ := id hk
 clear hk hB
 have hsh := pow_wrap n (by omega)
 have hb64 : 1 ≤ 2 ^ n ∧ 2 ^ n ≤ 64 := by
  rcases (by omega : n = 0 ∨ n = 1 ∨ n = 2 ∨ n = 3 ∨ n = 4 ∨ n = 5 ∨ n = 6) with rfl | rfl | rfl | rfl | rfl | rfl | rfl <;> decide
 have HT : Aside0 (toldV n xs p q = (if (hidTo p q (2 ^ n)).all (fun h => countB xs (h : Int)) then 1 else if !(hidTo p q (2 ^ n)).any (fun h => countB xs (h : Int)) then 0 else -1)) := ⟨rfl⟩
 obtain ⟨N, hN⟩ : ∃ N : Nat, N = 2 ^ n := ⟨_, rfl⟩
 rw [← hN] at hsh hb64 HT
 clear hN
 go_enter Tryz.func336, Tryz.ntmps336
 go_wp2
 rw [← hw1]
 clear hw1
 go_loopw [7, 8, 9] (fun s7 s8 s9 wr => ∃ i : Nat, s9 = .int .i64 i ∧ i ≤ N ∧ s7 = .bool ((hidTo p q i).any fun h => countB xs (h : Int)) ∧ s8 = .bool ((hidTo p q i).all fun h => countB xs (h : Int)) ∧ Aside0 (Below w1.heap.size w1 wr)) (fun _ _ s9 _ => N - (intOf s9).toNat)
 case atStart => exact ⟨0, rfl, Nat.zero_le _, rfl, rfl, ⟨Below.refl _ _⟩⟩
 case round =>
  obtain ⟨i, rfl, hi, rfl, rfl, HBw⟩ := hrel
  have c0 := pw_cell_below HBw.out c0
  have c1 := pw_cell_below HBw.out c1
  by_cases hlt : i < N
  ·have h1 := and_i64 i p (by omega) (by omega)
   have h2 := and_i64 i q (by omega) (by omega)
   obtain ⟨u1, hu1⟩ : ∃ u, u = i &&& p := ⟨_, rfl⟩
   obtain ⟨u2, hu2⟩ : ∃ u, u = i &&& q := ⟨_, rfl⟩
   rw [← hu1] at h1
   rw [← hu2] at h2
   have HH := Aside0.mk (fun h : ((u1 == p) && (u2 == 0)) = true => hidTo_hit (p := p) (q := q) (k := i) (by rw [← hu1, ← hu2]; exact h))
   have HM := Aside0.mk (fun h : ((u1 == p) && (u2 == 0)) = false => hidTo_miss (p := p) (q := q) (k := i) (by rw [← hu1, ← hu2]; exact h))
   clear hu1 hu2
   by_cases e1 : u1 = p
   ·have b1 : ((u1 : Int) != (p : Int)) = false := by simp [e1]
    by_cases e2 : u2 = 0
    ·have b2 : ((u2 : Int) != 0) = false := by simp [e2]
     have HE := Aside0.mk (HH.out (by simp [e1, e2]))
     have HA1 : Aside0 ((hidTo p q (i + 1)).any (fun h => countB xs (h : Int)) = ((hidTo p q i).any (fun h => countB xs (h : Int)) || countB xs (i : Int))) := ⟨by rw [HE.out, List.any_append]; simp⟩
     have HA2 : Aside0 ((hidTo p q (i + 1)).all (fun h => countB xs (h : Int)) = ((hidTo p q i).all (fun h => countB xs (h : Int)) && countB xs (i : Int))) := ⟨by rw [HE.out, List.all_append]; simp⟩
     clear e1 e2
     cases hc : countB xs (i : Int) with
     | true =>
      go_wp2_with (first | (go_at_call 396; refine (specCounts n _ xs _ _ (HK.out.below HBw.out)).mono ?_; rintro e w5 ⟨rfl, hb⟩; rw [hc]))
      go_roundw
      case rel => exact ⟨i + 1, by go_num, by omega, by rw [HA1.out, hc, Bool.or_true], by rw [HA2.out, hc, Bool.and_true], ⟨HBw.out.trans (hb.mono HBw.out.size)⟩⟩
      case measure => simp [intOf]; omega
     | false =>
      go_wp2_with (first | (go_at_call 396; refine (specCounts n _ xs _ _ (HK.out.below HBw.out)).mono ?_; rintro e w5 ⟨rfl, hb⟩; rw [hc]))
      go_roundw
      case rel => exact ⟨i + 1, by go_num, by omega, by rw [HA1.out, hc, Bool.or_false], by rw [HA2.out, hc, Bool.and_false], ⟨HBw.out.trans (hb.mono HBw.out.size)⟩⟩
      case measure => simp [intOf]; omega
    ·have b2 : ((u2 : Int) != 0) = true := by simp; omega
     have HE := Aside0.mk (HM.out (by simp [e2]))
     clear e1 e2
     go_wp2
     go_roundw
     case rel => exact ⟨i + 1, by go_num, by omega, by rw [HE.out], by rw [HE.out], HBw⟩
     case measure => simp [intOf]; omega
   ·have b1 : ((u1 : Int) != (p : Int)) = true := by simp; omega
    have HE := Aside0.mk (HM.out (by simp [e1]))
    clear e1
    go_wp2
    go_roundw
    case rel => exact ⟨i + 1, by go_num, by omega, by rw [HE.out], by rw [HE.out], HBw⟩
    case measure => simp [intOf]; omega
  ·have e : i = N := by omega
   rw [← e] at HT
   clear e
   cases ha : (hidTo p q i).all (fun h => countB xs (h : Int)) with
   | true =>
    rw [ha, if_pos rfl] at HT
    go_wp2
    go_ret
    exact ⟨by rw [HT.out]; rfl, HB.out.trans (HBw.out.mono HB.out.size)⟩
   | false =>
    rw [ha, if_neg (by decide)] at HT
    cases hs : (hidTo p q i).any (fun h => countB xs (h : Int)) with
    | true =>
     rw [hs, if_neg (by decide)] at HT
     go_wp2
     go_ret
     exact ⟨by rw [HT.out]; rfl, HB.out.trans (HBw.out.mono HB.out.size)⟩
    | false =>
     rw [hs, if_pos (by decide)] at HT
     go_wp2
     go_ret
     exact ⟨by rw [HT.out]; rfl, HB.out.trans (HBw.out.mono HB.out.size)⟩
theorem doesCount (n : Nat) (ku : Value) (xs : List Int) (h : Int) (w : World) (hk : ReadI w ku xs) (hc : Cx n xs) :
  Calls Tryz.prog 395 #[cx n ku, .int .i64 h] w fun e w' => e = .returned (.bool (countB xs h)) ∧ Below w.heap.size w w' := by
 obtain ⟨w1, hw1⟩ : ∃ w1, w1 = w.alloc (.cells #[.int .i64 n, ku] 26) := ⟨_, rfl⟩
 have hB : Below w.heap.size w w1 := by rw [hw1]; exact Below.alloc (Below.refl _ _) (Nat.le_refl _) _
 have HK := Aside0.mk (hk.below hB)
 have HB := Aside0.mk hB
 have HC := Aside0.mk hc
 obtain ⟨A1, d1, rfl, -⟩ := id hk
 clear hk hB hc
 have HX : Aside0 (countB xs h = ((h == 0) || decide (h ∈ xs))) := ⟨rfl⟩
 cases h0 : (h == 0) with
 | true =>
  go_enter Tryz.func395, Tryz.ntmps395
  go_wp2
  rw [← hw1]
  go_ret
  exact ⟨by rw [HX.out, h0]; rfl, HB.out⟩
 | false =>
  go_enter Tryz.func395, Tryz.ntmps395
  go_wp2_with (first | (go_at_call 145; rw [← hw1]; clear hw1; refine (has n _ xs h _ HK.out HC.out.asc (by have := HC.out.len; omega)).mono ?_; rintro e w2 ⟨rfl, hb⟩))
  go_ret
  exact ⟨by rw [HX.out, h0]; rfl, HB.out.trans (hb.mono HB.out.size)⟩
/-- the hidden sets below k that answer so -/
def ansTo (p q k : Nat) : List Nat := (List.range k).filter fun h => h &&& p == q
theorem ansTo_hit {p q k : Nat} (h : (k &&& p == q) = true) : ansTo p q (k + 1) = ansTo p q k ++ [k] := by
 unfold ansTo; rw [List.range_succ, List.filter_append]; simp only [List.filter_cons, List.filter_nil]; rw [if_pos h]
theorem ansTo_miss {p q k : Nat} (h : (k &&& p == q) = false) : ansTo p q (k + 1) = ansTo p q k := by
 unfold ansTo; rw [List.range_succ, List.filter_append]; simp only [List.filter_cons, List.filter_nil]; rw [if_neg (by rw [h]; decide), List.append_nil]
/-- all count or none does -/
def toldB (n : Nat) (xs : List Int) (p q : Nat) : Bool := ((ansTo p q (2 ^ n)).any fun h => countB xs (h : Int)) == ((ansTo p q (2 ^ n)).all fun h => countB xs (h : Int))
set_option maxRecDepth 100000 in
set_option maxHeartbeats 2000000 in
theorem isTold (n : Nat) (ku : Value) (xs : List Int) (p q : Nat) (hp : p < 64) (hq : q < 64) (w : World) (hk : ReadI w ku xs) (hc : Cx n xs) :
  Calls Tryz.prog 334 #[cx n ku, .int .i64 p, .int .i64 q] w fun e w' => e = .returned (.bool (toldB n xs p q)) ∧ Below w.heap.size w w' := by
 obtain ⟨w1, hw1⟩ : ∃ w1, w1 = w.alloc (.cells #[.int .i64 n, ku] 26) := ⟨_, rfl⟩
 have hB : Below w.heap.size w w1 := by rw [hw1]; exact Below.alloc (Below.refl _ _) (Nat.le_refl _) _
 have c0 : w1.cell? ⟨w.heap.size, 0, none⟩ = some (.int .i64 n) := by rw [hw1]; simp
 have c1 : w1.cell? ⟨w.heap.size, 1, none⟩ = some ku := by rw [hw1]; simp
 have HK := Aside0.mk (hk.below hB)
 have HB := Aside0.mk hB
 have HC := Aside0.mk hc
 obtain ⟨A1, d1, rfl, -⟩ := id hk
 have hn := hc.hi
 clear hk hB hc
 have hb64 : 1 ≤ 2 ^ n ∧ 2 ^ n ≤ 64 := by
  rcases (by omega : n = 0 ∨ n = 1 ∨ n = 2 ∨ n = 3 ∨ n = 4 ∨ n = 5 ∨ n = 6) with rfl | rfl | rfl | rfl | rfl | rfl | rfl <;> decide
 have HT : Aside0 (toldB n xs p q = (((ansTo p q (2 ^ n)).any fun h => countB xs (h : Int)) == ((ansTo p q (2 ^ n)).all fun h => countB xs (h : Int)))) := ⟨rfl⟩
 obtain ⟨N, hN⟩ : ∃ N : Nat, N = 2 ^ n := ⟨_, rfl⟩
 have HFU : Aside0 (∀ W : World, Calls Tryz.prog 153 #[cx n (.slice A1 xs.length d1)] W fun e w' => e = .returned (.int .i64 ((N : Int) - 1)) ∧ Below W.heap.size W w') := ⟨fun W => by rw [hN]; exact full n hn _ W⟩
 rw [← hN] at hb64 HT
 clear hN
 go_enter Tryz.func334, Tryz.ntmps334
 go_wp2_with (first | (go_at_call 153; rw [← hw1]; clear hw1; refine (HFU.out _).mono ?_; rintro e w2 ⟨rfl, hb⟩; have HB2 := Aside0.mk hb; have c0 := pw_cell_below hb c0; have c1 := pw_cell_below hb c1; clear hb))
 go_loopw [7, 8, 14] (fun s7 s8 s14 wr => ∃ i : Nat, s14 = .int .i64 i ∧ i ≤ N ∧ s7 = .bool ((ansTo p q i).any fun h => countB xs (h : Int)) ∧ s8 = .bool ((ansTo p q i).all fun h => countB xs (h : Int)) ∧ Aside0 (Below w2.heap.size w2 wr)) (fun _ _ s14 _ => N - (intOf s14).toNat)
 case atStart => exact ⟨0, rfl, Nat.zero_le _, rfl, rfl, ⟨Below.refl _ _⟩⟩
 case round =>
  obtain ⟨i, rfl, hi, rfl, rfl, HBi⟩ := hrel
  have HBw := Aside0.mk (HB2.out.trans (HBi.out.mono HB2.out.size))
  have c0 := pw_cell_below HBi.out c0
  have c1 := pw_cell_below HBi.out c1
  by_cases hlt : i < N
  ·have h1 := and_i64 i p (by omega) (by omega)
   obtain ⟨u1, hu1⟩ : ∃ u, u = i &&& p := ⟨_, rfl⟩
   rw [← hu1] at h1
   have HH := Aside0.mk (fun h : (u1 == q) = true => ansTo_hit (p := p) (q := q) (k := i) (by rw [← hu1]; exact h))
   have HM := Aside0.mk (fun h : (u1 == q) = false => ansTo_miss (p := p) (q := q) (k := i) (by rw [← hu1]; exact h))
   clear hu1
   by_cases e1 : u1 = q
   ·have b1 : ((u1 : Int) == (q : Int)) = true := by simp [e1]
    have HE := Aside0.mk (HH.out (by simp [e1]))
    have HA1 : Aside0 ((ansTo p q (i + 1)).any (fun h => countB xs (h : Int)) = ((ansTo p q i).any (fun h => countB xs (h : Int)) || countB xs (i : Int))) := ⟨by rw [HE.out, List.any_append]; simp⟩
    have HA2 : Aside0 ((ansTo p q (i + 1)).all (fun h => countB xs (h : Int)) = ((ansTo p q i).all (fun h => countB xs (h : Int)) && countB xs (i : Int))) := ⟨by rw [HE.out, List.all_append]; simp⟩
    clear e1
    generalize ((ansTo p q i).any fun h => countB xs (h : Int)) = A at HA1 ⊢
    generalize ((ansTo p q i).all fun h => countB xs (h : Int)) = B at HA2 ⊢
    cases hcc : countB xs (i : Int) <;> cases A <;> cases B
    all_goals
     go_wp2_with (first | (go_at_call 395; refine (doesCount n _ xs _ _ (HK.out.below HBw.out) HC.out).mono ?_; rintro e w5 ⟨rfl, hb⟩; rw [hcc]))
     go_roundw
     case rel => exact ⟨i + 1, by go_num, by omega, by rw [HA1.out, hcc]; rfl, by rw [HA2.out, hcc]; rfl, ⟨HBi.out.trans (hb.mono HBi.out.size)⟩⟩
     case measure => simp [intOf]; omega
   ·have b1 : ((u1 : Int) == (q : Int)) = false := by rw [beq_eq_false_iff_ne]; omega
    have HE := Aside0.mk (HM.out (by simp [e1]))
    clear e1
    go_wp2
    go_roundw
    case rel => exact ⟨i + 1, by go_num, by omega, by rw [HE.out], by rw [HE.out], HBi⟩
    case measure => simp [intOf]; omega
  ·have e : i = N := by omega
   rw [← e] at HT
   clear e
   go_wp2
   go_ret
   exact ⟨by rw [HT.out]; rfl, HB.out.trans (HBw.out.mono HB.out.size)⟩
/-- the numbers below i that m has not -/
def frees (m i : Nat) : List Nat := (List.range i).filter fun v => !m.testBit v
theorem frees_hit {m i : Nat} (h : m.testBit i = false) : frees m (i + 1) = frees m i ++ [i] := by
 unfold frees; rw [List.range_succ, List.filter_append]; simp [h]
theorem frees_miss {m i : Nat} (h : m.testBit i = true) : frees m (i + 1) = frees m i := by
 unfold frees; rw [List.range_succ, List.filter_append]; simp [h]
theorem frees_mem {m i v : Nat} : v ∈ frees m i ↔ v < i ∧ m.testBit v = false := by
 unfold frees; rw [List.mem_filter, List.mem_range]; simp
theorem frees_or : ∀ n, n ≤ 6 → ∀ m, m < 64 → ∀ v, v < n → m.testBit v = false → (frees (m ||| 2 ^ v) n).length + 1 = (frees m n).length := by decide +kernel
theorem frees_len (m n : Nat) : (frees m n).length ≤ n := by
 unfold frees; exact Nat.le_trans (List.length_filter_le _ _) (by simp)
theorem or_lt64 {a b : Nat} (ha : a < 64) (hb : b < 64) : a ||| b < 64 := Nat.or_lt_two_pow (n := 6) ha hb
theorem pow_lt64 {v : Nat} (h : v < 6) : 2 ^ v < 64 := by
 have := pow_bd v (by omega); omega
/-- least numbers over lists -/
def leastOf (b : Int) (l : List Nat) (f : Nat → Int) : Int := l.foldl (fun b v => min b (f v)) b
theorem leastOf_snoc (b : Int) (l : List Nat) (f : Nat → Int) (v : Nat) : leastOf b (l ++ [v]) f = min (leastOf b l f) (f v) := by
 unfold leastOf; rw [List.foldl_append]; rfl
theorem leastOf_congr {b : Int} {l : List Nat} {f g : Nat → Int} (h : ∀ v ∈ l, f v = g v) : leastOf b l f = leastOf b l g := by
 unfold leastOf
 induction l generalizing b with
 | nil => rfl
 | cons a r ih =>
  rw [List.foldl_cons, List.foldl_cons, h a List.mem_cons_self]
  exact ih (fun v hv => h v (List.mem_cons_of_mem _ hv))
theorem leastOf_le {b : Int} {l : List Nat} {f : Nat → Int} : leastOf b l f ≤ b ∧ ∀ v ∈ l, leastOf b l f ≤ f v := by
 unfold leastOf
 induction l generalizing b with
 | nil => exact ⟨Int.le_refl _, fun v hv => by cases hv⟩
 | cons a r ih =>
  rw [List.foldl_cons]
  have h := ih (b := min b (f a))
  refine ⟨by omega, fun v hv => ?_⟩
  rcases List.mem_cons.1 hv with rfl | hv
  ·omega
  ·exact h.2 v hv
theorem leastOf_ge {b c : Int} {l : List Nat} {f : Nat → Int} (hb : c ≤ b) (hf : ∀ v ∈ l, c ≤ f v) : c ≤ leastOf b l f := by
 unfold leastOf
 induction l generalizing b with
 | nil => exact hb
 | cons a r ih =>
  rw [List.foldl_cons]
  have := hf a List.mem_cons_self
  exact ih (by omega) (fun v hv => hf v (List.mem_cons_of_mem _ hv))
theorem leastOf_at (b : Int) (l : List Nat) (f : Nat → Int) : leastOf b l f = b ∨ ∃ v ∈ l, leastOf b l f = f v := by
 unfold leastOf
 induction l generalizing b with
 | nil => exact .inl rfl
 | cons a r ih =>
  rw [List.foldl_cons]
  rcases ih (min b (f a)) with h | ⟨v, hv, h⟩
  ·rw [h]
   by_cases hc : b ≤ f a
   ·exact .inl (by omega)
   ·exact .inr ⟨a, List.mem_cons_self, by omega⟩
  ·exact .inr ⟨v, List.mem_cons_of_mem _ hv, h⟩
/-! hidden sets -/
theorem hid_mem {p q k h : Nat} : h ∈ hidTo p q k ↔ h < k ∧ h &&& p = p ∧ h &&& q = 0 := by
 unfold hidTo; rw [List.mem_filter, List.mem_range]; simp
theorem hid_p {p q h v : Nat} (h1 : h &&& (p ||| 2 ^ v) = p ||| 2 ^ v) (h2 : h &&& q = 0) : h &&& p = p ∧ h &&& q = 0 := by
 refine ⟨?_, h2⟩
 apply Nat.eq_of_testBit_eq
 intro i
 have := congrArg (fun m : Nat => m.testBit i) h1
 simp only [Nat.testBit_and, Nat.testBit_or] at this ⊢
 cases ha : h.testBit i <;> cases hb : p.testBit i <;> simp_all
theorem hid_q {p q h v : Nat} (h1 : h &&& p = p) (h2 : h &&& (q ||| 2 ^ v) = 0) : h &&& p = p ∧ h &&& q = 0 := by
 refine ⟨h1, ?_⟩
 apply Nat.eq_of_testBit_eq
 intro i
 have := congrArg (fun m : Nat => m.testBit i) h2
 simp only [Nat.testBit_and, Nat.testBit_or, Nat.zero_testBit] at this ⊢
 cases ha : h.testBit i <;> cases hb : q.testBit i <;> simp_all
theorem told_of {n : Nat} {xs : List Int} {p q : Nat} (b : Bool) (h : ∀ h ∈ hidTo p q (2 ^ n), countB xs (h : Int) = b) : 0 ≤ toldV n xs p q := by
 unfold toldV
 cases b with
 | true => rw [if_pos (List.all_eq_true.2 h)]; decide
 | false =>
  split
  ·decide
  ·rw [if_pos]
   ·decide
   ·rw [Bool.not_eq_true', List.any_eq_false]
    intro x hx
    rw [h x hx]; decide
theorem told_same {n : Nat} {xs : List Int} {p q : Nat} (h : 0 ≤ toldV n xs p q) : ∃ b, ∀ h ∈ hidTo p q (2 ^ n), countB xs (h : Int) = b := by
 unfold toldV at h
 split at h
 ·next h1 => exact ⟨true, List.all_eq_true.1 h1⟩
 ·split at h
  ·next h2 =>
   rw [Bool.not_eq_true', List.any_eq_false] at h2
   exact ⟨false, fun x hx => by have := h2 x hx; simpa using this⟩
  ·omega
theorem told_p {n : Nat} {xs : List Int} {p q v : Nat} (h : 0 ≤ toldV n xs p q) : 0 ≤ toldV n xs (p ||| 2 ^ v) q := by
 obtain ⟨b, hb⟩ := told_same h
 exact told_of b (fun x hx => by
  obtain ⟨h1, h2, h3⟩ := hid_mem.1 hx
  obtain ⟨h4, h5⟩ := hid_p h2 h3
  exact hb x (hid_mem.2 ⟨h1, h4, h5⟩))
theorem told_q {n : Nat} {xs : List Int} {p q v : Nat} (h : 0 ≤ toldV n xs p q) : 0 ≤ toldV n xs p (q ||| 2 ^ v) := by
 obtain ⟨b, hb⟩ := told_same h
 exact told_of b (fun x hx => by
  obtain ⟨h1, h2, h3⟩ := hid_mem.1 hx
  obtain ⟨h4, h5⟩ := hid_q h2 h3
  exact hb x (hid_mem.2 ⟨h1, h4, h5⟩))
/-- places of a game -/
structure Pl (n p q : Nat) : Prop where
 hp : p < 2 ^ n
 hq : q < 2 ^ n
 d : p &&& q = 0
theorem Pl.bit {n p q : Nat} (h : Pl n p q) (v : Nat) : p.testBit v = true → q.testBit v = false := by
 intro hp
 have := congrArg (fun m : Nat => m.testBit v) h.d
 simp only [Nat.testBit_and, hp, Bool.true_and, Nat.zero_testBit] at this
 exact this
theorem Pl.yes {n p q v : Nat} (h : Pl n p q) (hv : v < n) (hf : (p ||| q).testBit v = false) : Pl n (p ||| 2 ^ v) q := by
 refine ⟨Nat.or_lt_two_pow h.hp (Nat.pow_lt_pow_right (by omega) hv), h.hq, ?_⟩
 apply Nat.eq_of_testBit_eq
 intro i
 have h1 := congrArg (fun m : Nat => m.testBit i) h.d
 simp only [Nat.testBit_and, Nat.testBit_or, Nat.zero_testBit, Nat.testBit_two_pow, Bool.or_eq_false_iff] at h1 hf ⊢
 by_cases hi : v = i
 ·subst hi; rw [hf.2, Bool.and_false]
 ·rw [decide_eq_false hi, Bool.or_false]; exact h1
theorem Pl.no {n p q v : Nat} (h : Pl n p q) (hv : v < n) (hf : (p ||| q).testBit v = false) : Pl n p (q ||| 2 ^ v) := by
 refine ⟨h.hp, Nat.or_lt_two_pow h.hq (Nat.pow_lt_pow_right (by omega) hv), ?_⟩
 apply Nat.eq_of_testBit_eq
 intro i
 have h1 := congrArg (fun m : Nat => m.testBit i) h.d
 simp only [Nat.testBit_and, Nat.testBit_or, Nat.zero_testBit, Nat.testBit_two_pow, Bool.or_eq_false_iff] at h1 hf ⊢
 by_cases hi : v = i
 ·subst hi; rw [hf.1, Bool.false_and]
 ·rw [decide_eq_false hi, Bool.or_false]; exact h1
theorem Pl.lt {n p q : Nat} (h : Pl n p q) (hn : n ≤ 6) : p < 64 ∧ q < 64 := by
 have := (pw6 hn).2
 exact ⟨Nat.lt_of_lt_of_le h.hp this, Nat.lt_of_lt_of_le h.hq this⟩
theorem or_p (p q v : Nat) : (p ||| 2 ^ v) ||| q = (p ||| q) ||| 2 ^ v := by
 apply Nat.eq_of_testBit_eq; intro i; simp only [Nat.testBit_or]; cases p.testBit i <;> cases q.testBit i <;> simp
theorem or_q (p q v : Nat) : p ||| (q ||| 2 ^ v) = (p ||| q) ||| 2 ^ v := by
 apply Nat.eq_of_testBit_eq; intro i; simp only [Nat.testBit_or]; cases p.testBit i <;> cases q.testBit i <;> simp
/-- how many questions are left -/
def lefts (n p q : Nat) : Nat := (frees (p ||| q) n).length
theorem lefts_p {n p q v : Nat} (hn : n ≤ 6) (h : Pl n p q) (hv : v < n) (hf : (p ||| q).testBit v = false) : lefts n (p ||| 2 ^ v) q + 1 = lefts n p q := by
 unfold lefts; rw [or_p]; have := h.lt hn; exact frees_or n hn _ (or_lt64 this.1 this.2) v hv hf
theorem lefts_q {n p q v : Nat} (hn : n ≤ 6) (h : Pl n p q) (hv : v < n) (hf : (p ||| q).testBit v = false) : lefts n p (q ||| 2 ^ v) + 1 = lefts n p q := by
 unfold lefts; rw [or_q]; have := h.lt hn; exact frees_or n hn _ (or_lt64 this.1 this.2) v hv hf
theorem told_all {n : Nat} {xs : List Int} {p q : Nat} (h : Pl n p q) (h0 : lefts n p q = 0) : 0 ≤ toldV n xs p q := by
 refine told_of (countB xs (p : Int)) (fun x hx => ?_)
 obtain ⟨h1, h2, h3⟩ := hid_mem.1 hx
 have : x = p := by
  apply Nat.eq_of_testBit_eq
  intro i
  have e2 := congrArg (fun m : Nat => m.testBit i) h2
  have e3 := congrArg (fun m : Nat => m.testBit i) h3
  simp only [Nat.testBit_and, Nat.zero_testBit] at e2 e3
  by_cases hi : i < n
  ·have hm : ¬ i ∈ frees (p ||| q) n := by
    intro hm
    rw [List.eq_nil_of_length_eq_zero h0] at hm
    cases hm
   rw [frees_mem] at hm
   have hb : (p ||| q).testBit i = true := by
    cases hb : (p ||| q).testBit i with
    | true => rfl
    | false => exact absurd ⟨hi, hb⟩ hm
   rw [Nat.testBit_or] at hb
   cases hp : p.testBit i <;> cases hq : q.testBit i <;> cases hx : x.testBit i <;> simp_all
  ·have hp : p.testBit i = false := Nat.testBit_lt_two_pow (Nat.lt_of_lt_of_le h.hp (Nat.pow_le_pow_right (by omega) (by omega)))
   have hx : x.testBit i = false := Nat.testBit_lt_two_pow (Nat.lt_of_lt_of_le h1 (Nat.pow_le_pow_right (by omega) (by omega)))
   rw [hp, hx]
 rw [this]
/-! questions needed -/
def needF (n : Nat) (xs : List Int) : Nat → Nat → Nat → Int
 | 0, _, _ => 0
 | f + 1, p, q => if 0 ≤ toldV n xs p q then 0 else leastOf n (frees (p ||| q) n) fun v => 1 + max (needF n xs f (p ||| 2 ^ v) q) (needF n xs f p (q ||| 2 ^ v))
def needV (n : Nat) (xs : List Int) (p q : Nat) : Int := needF n xs (lefts n p q) p q
def needAt (n : Nat) (xs : List Int) (p q v : Nat) : Int := 1 + max (needV n xs (p ||| 2 ^ v) q) (needV n xs p (q ||| 2 ^ v))
def needTo (n : Nat) (xs : List Int) (p q i : Nat) : Int := leastOf n (frees (p ||| q) i) (needAt n xs p q)
theorem needF_bd (n : Nat) (xs : List Int) : ∀ f p q, 0 ≤ needF n xs f p q ∧ needF n xs f p q ≤ n
 | 0, _, _ => by unfold needF; omega
 | f + 1, p, q => by
  unfold needF
  split
  ·omega
  ·exact ⟨leastOf_ge (by omega) (fun v _ => by have := needF_bd n xs f (p ||| 2 ^ v) q; omega), leastOf_le.1⟩
theorem needV_open {n : Nat} {xs : List Int} {p q : Nat} (hn : n ≤ 6) (hp : Pl n p q) (h : ¬ 0 ≤ toldV n xs p q) : needV n xs p q = needTo n xs p q n := by
 unfold needV
 cases hl : lefts n p q with
 | zero => exact absurd (told_all hp hl) h
 | succ f =>
  unfold needF needTo
  rw [if_neg h]
  refine leastOf_congr (fun v hv => ?_)
  rw [frees_mem] at hv
  unfold needAt needV
  have h1 := lefts_p hn hp hv.1 hv.2
  have h2 := lefts_q hn hp hv.1 hv.2
  rw [show lefts n (p ||| 2 ^ v) q = f by omega, show lefts n p (q ||| 2 ^ v) = f by omega]
/-! evaders -/
def leastF (n : Nat) (xs : List Int) : Nat → Nat → Nat → Int
 | 0, _, _ => 0
 | f + 1, p, q => if 0 ≤ toldV n xs p q then 0 else if f = 0 then 2 else leastOf 64 (frees (p ||| q) n) fun v => leastF n xs f (p ||| 2 ^ v) q + leastF n xs f p (q ||| 2 ^ v)
def leastV (n : Nat) (xs : List Int) (p q : Nat) : Int := leastF n xs (lefts n p q) p q
def leastAt (n : Nat) (xs : List Int) (p q v : Nat) : Int := leastV n xs (p ||| 2 ^ v) q + leastV n xs p (q ||| 2 ^ v)
def leastTo (n : Nat) (xs : List Int) (p q i : Nat) : Int := leastOf 64 (frees (p ||| q) i) (leastAt n xs p q)
theorem leastTo_hit {n : Nat} {xs : List Int} {p q i : Nat} (h : (p ||| q).testBit i = false) : leastTo n xs p q (i + 1) = min (leastTo n xs p q i) (leastAt n xs p q i) := by
 unfold leastTo; rw [frees_hit h, leastOf_snoc]
theorem leastTo_miss {n : Nat} {xs : List Int} {p q i : Nat} (h : (p ||| q).testBit i = true) : leastTo n xs p q (i + 1) = leastTo n xs p q i := by
 unfold leastTo; rw [frees_miss h]
theorem leastF_ge (n : Nat) (xs : List Int) : ∀ f p q, 0 ≤ leastF n xs f p q ∧ leastF n xs f p q ≤ 64
 | 0, _, _ => by unfold leastF; omega
 | f + 1, p, q => by
  unfold leastF
  split
  ·omega
  ·split
   ·omega
   ·exact ⟨leastOf_ge (by omega) (fun v _ => by have := leastF_ge n xs f (p ||| 2 ^ v) q; have := leastF_ge n xs f p (q ||| 2 ^ v); omega), leastOf_le.1⟩
theorem leastV_bd (n : Nat) (xs : List Int) (p q : Nat) : 0 ≤ leastV n xs p q ∧ leastV n xs p q ≤ 64 := leastF_ge n xs _ p q
theorem leastTo_bd (n : Nat) (xs : List Int) (p q i : Nat) : 0 ≤ leastTo n xs p q i ∧ leastTo n xs p q i ≤ 64 := by
 unfold leastTo
 exact ⟨leastOf_ge (by omega) (fun v _ => by unfold leastAt; have := leastV_bd n xs (p ||| 2 ^ v) q; have := leastV_bd n xs p (q ||| 2 ^ v); omega), leastOf_le.1⟩
theorem leastV_told {n : Nat} {xs : List Int} {p q : Nat} (h : 0 ≤ toldV n xs p q) : leastV n xs p q = 0 := by
 unfold leastV
 cases hl : lefts n p q with
 | zero => rfl
 | succ f => unfold leastF; rw [if_pos h]
theorem leastV_last {n : Nat} {xs : List Int} {p q : Nat} (h : ¬ 0 ≤ toldV n xs p q) (hl : lefts n p q = 1) : leastV n xs p q = 2 := by
 unfold leastV; rw [hl]; unfold leastF; rw [if_neg h, if_pos rfl]
theorem leastV_open {n : Nat} {xs : List Int} {p q : Nat} (hn : n ≤ 6) (hp : Pl n p q) (h : ¬ 0 ≤ toldV n xs p q) (h1 : lefts n p q ≠ 1) : leastV n xs p q = leastTo n xs p q n := by
 unfold leastV
 cases hl : lefts n p q with
 | zero => exact absurd (told_all hp hl) h
 | succ f =>
  unfold leastF leastTo
  rw [if_neg h, if_neg (by omega)]
  refine leastOf_congr (fun v hv => ?_)
  rw [frees_mem] at hv
  unfold leastAt leastV
  have h1 := lefts_p hn hp hv.1 hv.2
  have h2 := lefts_q hn hp hv.1 hv.2
  rw [show lefts n (p ||| 2 ^ v) q = f by omega, show lefts n p (q ||| 2 ^ v) = f by omega]
/-- at most as many as there are hidden sets -/
theorem leastF_pow (n : Nat) (hn : n ≤ 6) (xs : List Int) : ∀ f p q, Pl n p q → lefts n p q = f → leastF n xs f p q ≤ ((2 ^ f : Nat) : Int)
 | 0, _, _, _, _ => by unfold leastF; omega
 | f + 1, p, q, hp, hl => by
  have h2 : (2 ^ (f + 1) : Nat) = 2 ^ f + 2 ^ f := by rw [Nat.pow_succ]; omega
  have h1 : 1 ≤ 2 ^ f := Nat.one_le_two_pow
  unfold leastF
  split
  ·omega
  ·split
   ·omega
   ·have hne : frees (p ||| q) n ≠ [] := by intro h; unfold lefts at hl; rw [h] at hl; cases hl
    obtain ⟨v, hv⟩ := List.exists_mem_of_ne_nil _ hne
    have hv' := frees_mem.1 hv
    have e1 := lefts_p hn hp hv'.1 hv'.2
    have e2 := lefts_q hn hp hv'.1 hv'.2
    have i1 := leastF_pow n hn xs f (p ||| 2 ^ v) q (hp.yes hv'.1 hv'.2) (by omega)
    have i2 := leastF_pow n hn xs f p (q ||| 2 ^ v) (hp.no hv'.1 hv'.2) (by omega)
    have h5 : leastOf 64 (frees (p ||| q) n) (fun v => leastF n xs f (p ||| 2 ^ v) q + leastF n xs f p (q ||| 2 ^ v)) ≤ leastF n xs f (p ||| 2 ^ v) q + leastF n xs f p (q ||| 2 ^ v) := leastOf_le.2 v hv
    omega
theorem leastV_pow {n : Nat} (hn : n ≤ 6) (xs : List Int) {p q : Nat} (hp : Pl n p q) : leastV n xs p q ≤ ((2 ^ lefts n p q : Nat) : Int) := leastF_pow n hn xs _ p q hp rfl
/-- what the program reckons for a question -/
def byV (n : Nat) (xs : List Int) (p q v : Nat) : Int := if lefts n p q = 1 then (if 0 ≤ toldV n xs p q then 0 else 2) else leastAt n xs p q v
theorem byV_bd (n : Nat) (xs : List Int) (p q v : Nat) : 0 ≤ byV n xs p q v ∧ byV n xs p q v ≤ 128 := by
 unfold byV leastAt
 have := leastV_bd n xs (p ||| 2 ^ v) q
 have := leastV_bd n xs p (q ||| 2 ^ v)
 split
 ·split <;> omega
 ·omega
/-- the least of the first questions; -1 without any -/
def bestTo (n : Nat) (xs : List Int) (p q i : Nat) : Int := (frees (p ||| q) i).foldl (fun b v => if b < 0 ∨ byV n xs p q v < b then byV n xs p q v else b) (-1)
theorem bestTo_hit {n : Nat} {xs : List Int} {p q i : Nat} (h : (p ||| q).testBit i = false) : bestTo n xs p q (i + 1) = if bestTo n xs p q i < 0 ∨ byV n xs p q i < bestTo n xs p q i then byV n xs p q i else bestTo n xs p q i := by
 unfold bestTo; rw [frees_hit h, List.foldl_append]; rfl
theorem bestTo_miss {n : Nat} {xs : List Int} {p q i : Nat} (h : (p ||| q).testBit i = true) : bestTo n xs p q (i + 1) = bestTo n xs p q i := by
 unfold bestTo; rw [frees_miss h]
theorem bestTo_bd (n : Nat) (xs : List Int) (p q i : Nat) : -1 ≤ bestTo n xs p q i ∧ bestTo n xs p q i ≤ 128 := by
 induction i with
 | zero => unfold bestTo frees; simp
 | succ i ih =>
  cases h : (p ||| q).testBit i with
  | true => rw [bestTo_miss h]; exact ih
  | false => rw [bestTo_hit h]; have := byV_bd n xs p q i; split <;> omega
theorem best_fold {f : Nat → Int} {B : Int} (hf : ∀ v, 0 ≤ f v) : ∀ (l : List Nat), (∀ v ∈ l, f v ≤ B) → l ≠ [] → l.foldl (fun b v => if b < 0 ∨ f v < b then f v else b) (-1) = leastOf B l f := by
 have key : ∀ (l : List Nat) (b : Int), 0 ≤ b → l.foldl (fun b v => if b < 0 ∨ f v < b then f v else b) b = leastOf b l f := by
  intro l
  induction l with
  | nil => intro b _; rfl
  | cons a r ih =>
   intro b hb
   have ha := hf a
   unfold leastOf
   rw [List.foldl_cons, List.foldl_cons]
   have e : (if b < 0 ∨ f a < b then f a else b) = min b (f a) := by split <;> omega
   rw [e, ih _ (by omega)]; rfl
 intro l hl hne
 cases l with
 | nil => exact absurd rfl hne
 | cons a r =>
  rw [List.foldl_cons, if_pos (.inl (by decide)), key r (f a) (hf a)]
  unfold leastOf
  rw [List.foldl_cons, show min B (f a) = f a from Int.min_eq_right (hl a List.mem_cons_self)]
/-- the program's least number is the reference's -/
theorem best_least {n : Nat} (hn : n ≤ 6) {xs : List Int} {p q : Nat} (hp : Pl n p q) (h0 : lefts n p q ≠ 0) : bestTo n xs p q n = leastV n xs p q := by
 have hne : frees (p ||| q) n ≠ [] := by intro h; apply h0; unfold lefts; rw [h]; rfl
 have hb6 : lefts n p q ≤ 6 := Nat.le_trans (frees_len _ _) hn
 have hle : ∀ v ∈ frees (p ||| q) n, byV n xs p q v ≤ 64 := by
  intro v hv
  have hv' := frees_mem.1 hv
  unfold byV leastAt
  split
  ·split <;> omega
  ·have e1 := lefts_p hn hp hv'.1 hv'.2
   have e2 := lefts_q hn hp hv'.1 hv'.2
   have i1 := leastV_pow hn xs (hp.yes hv'.1 hv'.2)
   have i2 := leastV_pow hn xs (hp.no hv'.1 hv'.2)
   have hh : 2 ^ (lefts n p q - 1) ≤ 2 ^ 5 := Nat.pow_le_pow_right (by omega) (by omega)
   rw [show lefts n (p ||| 2 ^ v) q = lefts n p q - 1 by omega] at i1
   rw [show lefts n p (q ||| 2 ^ v) = lefts n p q - 1 by omega] at i2
   omega
 have e := best_fold (f := byV n xs p q) (B := 64) (fun v => (byV_bd n xs p q v).1) _ hle hne
 show (frees (p ||| q) n).foldl _ (-1) = _
 rw [e]
 by_cases ht : 0 ≤ toldV n xs p q
 ·rw [leastV_told ht]
  have hz : ∀ v ∈ frees (p ||| q) n, byV n xs p q v = 0 := by
   intro v _
   unfold byV leastAt
   rw [if_pos ht, leastV_told (told_p ht), leastV_told (told_q ht)]
   split <;> rfl
  obtain ⟨v, hv⟩ := List.exists_mem_of_ne_nil _ hne
  have h1 := (leastOf_le (b := 64) (l := frees (p ||| q) n) (f := byV n xs p q)).2 v hv
  rw [hz v hv] at h1
  have h2 := leastOf_ge (b := 64) (c := 0) (l := frees (p ||| q) n) (f := byV n xs p q) (by omega) (fun v _ => (byV_bd n xs p q v).1)
  omega
 ·by_cases h1 : lefts n p q = 1
  ·rw [leastV_last ht h1]
   have hz : ∀ v ∈ frees (p ||| q) n, byV n xs p q v = 2 := by
    intro v _; unfold byV; rw [if_pos h1, if_neg ht]
   obtain ⟨v, hv⟩ := List.exists_mem_of_ne_nil _ hne
   have h1 := (leastOf_le (b := 64) (l := frees (p ||| q) n) (f := byV n xs p q)).2 v hv
   rw [hz v hv] at h1
   have h2 := leastOf_ge (b := 64) (c := 2) (l := frees (p ||| q) n) (f := byV n xs p q) (by omega) (fun v hv => by rw [hz v hv]; omega)
   omega
  ·rw [leastV_open hn hp ht h1]
   refine leastOf_congr (fun v hv => ?_)
   unfold byV; rw [if_neg h1]
/-- told in the program's words -/
theorem toldB_toldV {n : Nat} {xs : List Int} {p q : Nat} (hp : Pl n p q) : toldB n xs (p ||| q) p = decide (0 ≤ toldV n xs p q) := by
 have hd := hp.d
 have e : ∀ k, ansTo (p ||| q) p k = hidTo p q k := by
  intro k
  unfold ansTo hidTo
  refine List.filter_congr (fun h _ => ?_)
  rw [Bool.eq_iff_iff, Bool.and_eq_true, beq_iff_eq, beq_iff_eq, beq_iff_eq]
  constructor
  ·intro hh
   refine ⟨?_, ?_⟩
   all_goals
    apply Nat.eq_of_testBit_eq
    intro i
    have h1 := congrArg (fun m : Nat => m.testBit i) hh
    have h2 := congrArg (fun m : Nat => m.testBit i) hd
    simp only [Nat.testBit_and, Nat.testBit_or, Nat.zero_testBit] at h1 h2 ⊢
    cases ha : h.testBit i <;> cases hb : p.testBit i <;> cases hc : q.testBit i <;> simp_all
  ·rintro ⟨h1, h2⟩
   rw [Nat.and_or_distrib_left, h1, h2, Nat.or_zero]
 have hpm : p ∈ hidTo p q (2 ^ n) := hid_mem.2 ⟨hp.hp, Nat.and_self p, hd⟩
 unfold toldB
 rw [e]
 by_cases ht : 0 ≤ toldV n xs p q
 ·rw [decide_eq_true ht]
  obtain ⟨b, hb⟩ := told_same ht
  cases b with
  | true =>
   rw [List.all_eq_true.2 hb, List.any_eq_true.2 ⟨p, hpm, hb p hpm⟩]; rfl
  | false =>
   rw [List.any_eq_false.2 (fun x hx => by rw [hb x hx]; decide), List.all_eq_false.2 ⟨p, hpm, by rw [hb p hpm]; decide⟩]; rfl
 ·rw [decide_eq_false ht]
  unfold toldV at ht
  split at ht
  ·exact absurd (by decide) ht
  ·next h1 =>
   split at ht
   ·exact absurd (by decide) ht
   ·next h2 =>
    rw [Bool.not_eq_true] at h1
    rw [Bool.not_eq_true', Bool.not_eq_false] at h2
    rw [h1, h2]; rfl
end Go.Proofs.YtkggchklmpmgpaaGreat.H

namespace Go.Proofs.YtkggchklmpmgpaaGreat.H
/-- a vertex of n -/
def inTree (n : Nat) (v : Int) : Bool := decide (0 ≤ v) && decide (v ≤ (n : Int) - 1)
end Go.Proofs.YtkggchklmpmgpaaGreat.H
