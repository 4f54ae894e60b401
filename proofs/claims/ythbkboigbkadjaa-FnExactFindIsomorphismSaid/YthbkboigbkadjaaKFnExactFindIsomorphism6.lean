/- What a complex is, of the reference. Maps between complexes: plain words. The image of a face, by the program and by the reference. Isomorphisms of the reference: its search. -/
import Derived.Test.YthbkboigbkadjaaKFnExactFindIsomorphism1
import Derived.Test.YthbkboigbkadjaaKFnExactFindIsomorphism2
import Derived.Test.YthbkboigbkadjaaKFnExactFindIsomorphism3
import Derived.Test.YthbkboigbkadjaaKFnExactFindIsomorphism4
import Derived.Test.YthbkboigbkadjaaKFnExactFindIsomorphism5

namespace Go.Proofs.Ythbkboigbkadjaa.H
open Go.RowKit Go.Proofs.YthbkboigbkadjaaW.PrintWords Go.Proofs.YthbkboigbkadjaaW.PrintLast Go.Proofs.YthbkboigbkadjaaW.PrintMore
set_option linter.unusedVariables false
set_option linter.unusedSimpArgs false

theorem all_false {l : List Int} {p : Int → Bool} {i : Nat} {y : Int} (hi : i < l.length) (hy : l.getD i 0 = y) (h : p y = false) : l.all p = false := by
  rw [List.all_eq_false]
  exact ⟨y, mem_at hi hy, by rw [h]; decide⟩
theorem all_true {l : List Int} {p : Int → Bool} (h : ∀ i, i < l.length → p (l.getD i 0) = true) : l.all p = true := by
  rw [List.all_eq_true]
  intro x hx
  obtain ⟨j, hj, rfl⟩ := List.getElem_of_mem hx
  have := h j hj
  simpa [List.getD_eq_getElem?_getD, hj] using this

set_option maxHeartbeats 4000000 in
theorem specIs (a : Int) (u : Value) (l : List Int) (w : World) (hr : ReadI w u l) :
    Calls Try.prog 47 #[cx a u] w fun e w' => e = .returned (.bool (cxOk a l)) ∧ Below w.heap.size w w' := by
  have hba : Below w.heap.size w (w.alloc (.cells #[.int .i64 a, u] 28)) := Below.alloc (Below.refl _ _) (Nat.le_refl _) _
  have HB := Aside0.mk hba
  have HR0 := Aside0.mk (hr.below hba)
  obtain ⟨A, c, rfl, hc, hr⟩ := id hr
  have HR := Aside0.mk (Kd.C_below hr hba)
  have hlen : l.length ≤ 9223372036854775807 := hr.2.1
  clear hr hba
  obtain ⟨w1, hw1⟩ : ∃ w1, w1 = w.alloc (Obj.cells #[.int .i64 a, Value.slice A l.length c] 28) := ⟨_, rfl⟩
  have hc0 : w1.cell? ⟨w.heap.size, 0, none⟩ = some (.int .i64 a) := by rw [hw1]; simp
  have hc1 : w1.cell? ⟨w.heap.size, 1, none⟩ = some (Value.slice A l.length c) := by rw [hw1]; simp
  rw [← hw1] at HB HR HR0
  by_cases ha : 1 ≤ a ∧ a ≤ 6
  · obtain ⟨n, rfl⟩ : ∃ n : Nat, a = n := ⟨a.toNat, by omega⟩
    have hs : (decide ((1 : Int) ≤ n) && decide ((n : Int) ≤ 6)) = true := by simp; omega
    have hn : 1 ≤ n ∧ n ≤ 6 := by omega
    have HA : Aside0 (cxOk n l = (cxUp n l && l.all (belowIn l))) := ⟨by unfold cxOk; rw [hs]; rfl⟩
    obtain ⟨N, hN⟩ : ∃ N : Nat, N = 2 ^ n := ⟨_, rfl⟩
    have HN := Aside0.mk hN
    clear hN ha
    go_enter Try.func47, Try.ntmps47
    go_wp2_with (first | (rw [← hw1]; clear hw1; go_at_call 100; refine (specIn _ _ _ _).mono ?_; rintro e w2 ⟨rfl, hb⟩; rw [hs]; have hc0 := pw_cell_below hb hc0; have hc1 := pw_cell_below hb hc1; have HB2 := Aside0.mk hb; clear hb))
    go_loopw [3] (fun v wr => ∃ i : Nat, v = .int .i64 i ∧ i ≤ l.length ∧ Aside0 (∀ k, k < i → upAt n l k = true) ∧ Below w2.heap.size w2 wr) (fun v _ => l.length - (intOf v).toNat)
    case atStart => exact ⟨0, rfl, Nat.zero_le _, ⟨fun j hj => absurd hj (Nat.not_lt_zero _)⟩, Below.refl _ _⟩
    case round =>
      obtain ⟨i, rfl, hi, HU, hb⟩ := hrel
      have hc0r := pw_cell_below hb hc0
      have hc1r := pw_cell_below hb hc1
      have HBr := Aside0.mk (HB2.out.trans (hb.mono HB2.out.size))
      have HB3 := Aside0.mk hb
      clear hb hc0 hc1
      by_cases hlt : i < l.length
      · obtain ⟨ad, y, rfl, hcell, HY⟩ := ReadI.get (Kd.C_below HR.out HBr.out) hlt
        have hx0 : ∀ x : Ext wr, x.1.cell? ⟨w.heap.size, 0, none⟩ = some (.int .i64 n) := fun x => Ext.cell hc0r x
        have hx1 : ∀ x : Ext wr, x.1.cell? ⟨w.heap.size, 1, none⟩ = some (Value.slice (some ad) l.length c) := fun x => Ext.cell hc1r x
        have hx2 : ∀ x : Ext wr, x.1.cell? (ad.add i) = some (.int .i64 y) := fun x => Ext.cell hcell x
        clear hcell
        have HSA : Aside0 (∀ w : World, Calls Try.prog 104 #[.int .i64 n] w fun e w' => e = .returned (.int .i64 ((N : Int) - 1)) ∧ Below w.heap.size w w') := ⟨fun w => by rw [HN.out]; exact specAll n hn.2 w⟩
        cases hwi : (decide ((1 : Int) ≤ y) && decide (y ≤ (N : Int) - 1)) with
        | false =>
          have HSI : Aside0 (∀ w : World, Calls Try.prog 100 #[.int .i64 y, .int .i64 1, .int .i64 ((N : Int) - 1)] w fun e w' => e = .returned (.bool false) ∧ Below w.heap.size w w') := ⟨fun w => by rw [← hwi]; exact specIn _ _ _ w⟩
          have HWI := Aside0.mk hwi
          clear hwi
          go_wp2
          refine wp_region_ext (by kernel_rfl) (by kernel_rfl) ?_
          repeat (go_big_quiet_step ((first | (go_at_call 104; exact Calls.ext_of (HSA.out _)) | (go_at_call 100; exact Calls.ext_of (HSI.out _)))))
          refine wpQuiet_nil ?_
          rintro _ ⟨x, rfl⟩
          have hbx := x.2
          go_wp2
          go_ret
          exact ⟨by rw [HA.out, up_false hlt (by unfold upAt; rw [HY.out, ← HN.out, HWI.out]; rfl)]; rfl, by have := HB.out; have := HBr.out; (repeat (first | (with_reducible exact Below.refl _ _) | (with_reducible assumption) | (with_reducible refine below_step ?_ (by assumption)) | (with_reducible apply below_alloc) | (with_reducible apply below_drewN)))⟩
        | true =>
          have HSI : Aside0 (∀ w : World, Calls Try.prog 100 #[.int .i64 y, .int .i64 1, .int .i64 ((N : Int) - 1)] w fun e w' => e = .returned (.bool true) ∧ Below w.heap.size w w') := ⟨fun w => by rw [← hwi]; exact specIn _ _ _ w⟩
          have HWI := Aside0.mk hwi
          clear hwi
          by_cases h0 : i = 0
          · have h0' : decide (0 < i) = false := decide_eq_false (by omega)
            clear h0
            have h0'' : ¬ 0 < i := by simpa using h0'
            have H0 := Aside0.mk h0''
            clear h0''
            go_wp2
            refine wp_region_ext (by kernel_rfl) (by kernel_rfl) ?_
            repeat (go_big_quiet_step ((first | (go_at_call 104; exact Calls.ext_of (HSA.out _)) | (go_at_call 100; exact Calls.ext_of (HSI.out _)))))
            refine wpQuiet_nil ?_
            rintro _ ⟨x, rfl⟩
            have hbx := x.2
            go_wp2
            go_roundw
            case rel =>
              refine ⟨i + 1, by go_num, by omega, ⟨fun k hk => ?_⟩, by have := HB3.out; (repeat (first | (with_reducible exact Below.refl _ _) | (with_reducible assumption) | (with_reducible refine below_step ?_ (by assumption)) | (with_reducible apply below_alloc) | (with_reducible apply below_drewN)))⟩
              rcases Nat.lt_succ_iff_lt_or_eq.1 hk with h | rfl
              · exact HU.out k h
              · unfold upAt; rw [HY.out, ← HN.out, HWI.out, decide_eq_false H0.out]; rfl
            case measure => simp [intOf]; omega
          · have h0' : decide (0 < i) = true := decide_eq_true (by omega)
            have h1i : (0 : Int) ≤ (i : Int) - 1 := by omega
            have h2i : (i : Int) - 1 < l.length := by omega
            have h3i : ((i : Int) - 1).toNat = i - 1 := by omega
            obtain ⟨ad', y', e2, hcell2, HY2⟩ := ReadI.get (Kd.C_below HR.out HBr.out) (i := i - 1) (by omega)
            cases e2
            have hx3 : ∀ x : Ext wr, x.1.cell? (ad.add (i - 1)) = some (.int .i64 y') := fun x => Ext.cell hcell2 x
            clear hcell2
            by_cases hle : y ≤ y'
            · have HLE := Aside0.mk (decide_eq_true hle)
              go_wp2
              refine wp_region_ext (by kernel_rfl) (by kernel_rfl) ?_
              repeat (go_big_quiet_step ((first | (go_at_call 104; exact Calls.ext_of (HSA.out _)) | (go_at_call 100; exact Calls.ext_of (HSI.out _)))))
              refine wpQuiet_nil ?_
              rintro _ ⟨x, rfl⟩
              have hbx := x.2
              go_wp2
              go_ret
              exact ⟨by rw [HA.out, up_false hlt (by unfold upAt; rw [HY.out, HY2.out, ← HN.out, HWI.out, HLE.out, decide_eq_true (by omega)]; rfl)]; rfl, by have := HB.out; have := HBr.out; (repeat (first | (with_reducible exact Below.refl _ _) | (with_reducible assumption) | (with_reducible refine below_step ?_ (by assumption)) | (with_reducible apply below_alloc) | (with_reducible apply below_drewN)))⟩
            · have HLE := Aside0.mk (decide_eq_false hle)
              go_wp2
              refine wp_region_ext (by kernel_rfl) (by kernel_rfl) ?_
              repeat (go_big_quiet_step ((first | (go_at_call 104; exact Calls.ext_of (HSA.out _)) | (go_at_call 100; exact Calls.ext_of (HSI.out _)))))
              refine wpQuiet_nil ?_
              rintro _ ⟨x, rfl⟩
              have hbx := x.2
              go_wp2
              go_roundw
              case rel =>
                refine ⟨i + 1, by go_num, by omega, ⟨fun k hk => ?_⟩, by have := HB3.out; (repeat (first | (with_reducible exact Below.refl _ _) | (with_reducible assumption) | (with_reducible refine below_step ?_ (by assumption)) | (with_reducible apply below_alloc) | (with_reducible apply below_drewN)))⟩
                rcases Nat.lt_succ_iff_lt_or_eq.1 hk with h | rfl
                · exact HU.out k h
                · unfold upAt; rw [HY.out, HY2.out, ← HN.out, HWI.out, HLE.out, Bool.and_false]; rfl
              case measure => simp [intOf]; omega
      · have hu : cxUp n l = true := up_true (fun k hk => HU.out k (by omega))
        have HUU := Aside0.mk hu
        have HBD : Aside0 (∀ x ∈ l, 1 ≤ x ∧ x ≤ 63) := ⟨fun x hx => by have := cxUp_bd hu x hx; have := pw6 hn.2; omega⟩
        clear hu
        go_wp2
        go_loopw [4] (fun v wr2 => ∃ i : Nat, v = .int .i64 i ∧ i ≤ l.length ∧ Aside0 (∀ k, k < i → belowIn l (l.getD k 0) = true) ∧ Below wr.heap.size wr wr2) (fun v _ => l.length - (intOf v).toNat)
        case atStart => exact ⟨0, rfl, Nat.zero_le _, ⟨fun j hj => absurd hj (Nat.not_lt_zero _)⟩, Below.refl _ _⟩
        case round =>
          obtain ⟨i2, rfl, hi2, HI2, hb2⟩ := hrel
          have hc1s := pw_cell_below hb2 hc1r
          have hc0s := pw_cell_below hb2 hc0r
          have HBs := Aside0.mk (HBr.out.trans (hb2.mono HBr.out.size))
          have HBt := Aside0.mk hb2
          clear hb2
          by_cases hlt2 : i2 < l.length
          · obtain ⟨ad, y, rfl, hcell, HY⟩ := ReadI.get (Kd.C_below HR.out HBs.out) hlt2
            have hyb := HBD.out y (mem_at hlt2 HY.out)
            obtain ⟨f, rfl⟩ : ∃ f : Nat, y = f := ⟨y.toNat, by omega⟩
            have hf : f ≤ 63 := by omega
            clear hyb
            go_wp2_with (first | (go_at_call 105; refine (specBelow f hf _).mono ?_; rintro e w3 ⟨v3, rfl, ho, hb⟩; obtain ⟨A3, c3, rfl, hc3, hr3⟩ := ho.read; have hc1u := pw_cell_below hb hc1s; have hc0u := pw_cell_below hb hc0s; have HR3 := Aside0.mk hr3; have HB3a := Aside0.mk hb; have hl3 : (below f).length ≤ 9223372036854775807 := hr3.2.1; clear ho hb hr3))
            go_loopw [6] (fun v wr3 => ∃ j : Nat, v = .int .i64 j ∧ j ≤ (below f).length ∧ Aside0 (∀ k, k < j → decide ((below f).getD k 0 ∈ l) = true) ∧ Below w3.heap.size w3 wr3) (fun v _ => (below f).length - (intOf v).toNat)
            case atStart => exact ⟨0, rfl, Nat.zero_le _, ⟨fun j hj => absurd hj (Nat.not_lt_zero _)⟩, Below.refl _ _⟩
            case round =>
              obtain ⟨j, rfl, hj, HJ, hb5⟩ := hrel
              have hc1v := pw_cell_below hb5 hc1u
              have hc0v := pw_cell_below hb5 hc0u
              have HBv := Aside0.mk (HB3a.out.trans (hb5.mono HB3a.out.size))
              have HBx := Aside0.mk (HBs.out.trans (HBv.out.mono HBs.out.size))
              have HBy := Aside0.mk hb5
              by_cases hlt3 : j < (below f).length
              · obtain ⟨ad3, g, rfl, hcell3, HG⟩ := ReadI.get (Kd.C_below HR3.out hb5) hlt3
                clear hb5 hcell
                have hx0 : ∀ x : Ext wr, x.1.cell? ⟨w.heap.size, 0, none⟩ = some (.int .i64 n) := fun x => Ext.cell hc0v x
                have hx1 : ∀ x : Ext wr, x.1.cell? ⟨w.heap.size, 1, none⟩ = some (Value.slice (some ad) l.length c) := fun x => Ext.cell hc1v x
                have hx2 : ∀ x : Ext wr, x.1.cell? (ad3.add j) = some (.int .i64 g) := fun x => Ext.cell hcell3 x
                clear hcell3
                have hj1 : (0 : Int) ≤ (j : Int) := by omega
                have hj2 : (j : Int) < ((below f).length : Int) := by omega
                cases hg : decide (g ∈ l) with
                | false =>
                  have HSH : Aside0 (∀ x : Ext wr, Calls Try.prog 57 #[cx n (.slice (some ad) l.length c), .int .i64 g] x.1 fun e w' => e = .returned (.bool false) ∧ Below x.1.heap.size x.1 w') := ⟨fun x => by rw [← hg]; exact specHas n _ l g x.1 (HR0.out.below (HBx.out.trans (x.2.mono HBx.out.size)))⟩
                  have HGG := Aside0.mk hg
                  clear hg
                  go_wp2
                  refine wp_region_ext (by kernel_rfl) (by kernel_rfl) ?_
                  repeat (go_big_quiet_step ((first | (go_at_call 57; exact Calls.ext_of (HSH.out _)))))
                  refine wpQuiet_nil ?_
                  rintro _ ⟨x, rfl⟩
                  have hbx := x.2
                  go_wp2
                  go_ret
                  refine ⟨?_, by have := HB.out; have := HBx.out; (repeat (first | (with_reducible exact Below.refl _ _) | (with_reducible assumption) | (with_reducible refine below_step ?_ (by assumption)) | (with_reducible apply below_alloc) | (with_reducible apply below_drewN)))⟩
                  have e1 : belowIn l (f : Int) = false := all_false hlt3 HG.out HGG.out
                  rw [HA.out, HUU.out, all_false hlt2 HY.out e1]; rfl
                | true =>
                  have HSH : Aside0 (∀ x : Ext wr, Calls Try.prog 57 #[cx n (.slice (some ad) l.length c), .int .i64 g] x.1 fun e w' => e = .returned (.bool true) ∧ Below x.1.heap.size x.1 w') := ⟨fun x => by rw [← hg]; exact specHas n _ l g x.1 (HR0.out.below (HBx.out.trans (x.2.mono HBx.out.size)))⟩
                  have HGG := Aside0.mk hg
                  clear hg
                  go_wp2
                  refine wp_region_ext (by kernel_rfl) (by kernel_rfl) ?_
                  repeat (go_big_quiet_step ((first | (go_at_call 57; exact Calls.ext_of (HSH.out _)))))
                  refine wpQuiet_nil ?_
                  rintro _ ⟨x, rfl⟩
                  have hbx := x.2
                  go_wp2
                  go_roundw
                  case rel =>
                    refine ⟨j + 1, by go_num, by omega, ⟨fun k hk => ?_⟩, by have := HBy.out; (repeat (first | (with_reducible exact Below.refl _ _) | (with_reducible assumption) | (with_reducible refine below_step ?_ (by assumption)) | (with_reducible apply below_alloc) | (with_reducible apply below_drewN)))⟩
                    rcases Nat.lt_succ_iff_lt_or_eq.1 hk with h | rfl
                    · exact HJ.out k h
                    · rw [HG.out]; exact HGG.out
                  case measure => simp [intOf]; omega
              · clear hb5 hcell
                have HE : Aside0 (belowIn l (f : Int) = true) := ⟨all_true (l := below f) (fun k hk => HJ.out k (by omega))⟩
                go_wp2
                go_roundw
                case rel =>
                  refine ⟨i2 + 1, by go_num, by omega, ⟨fun k hk => ?_⟩, by have := HBt.out; have := HBv.out; (repeat (first | (with_reducible exact Below.refl _ _) | (with_reducible assumption) | (with_reducible refine below_step ?_ (by assumption)) | (with_reducible apply below_alloc) | (with_reducible apply below_drewN)))⟩
                  rcases Nat.lt_succ_iff_lt_or_eq.1 hk with h | rfl
                  · exact HI2.out k h
                  · rw [HY.out]; exact HE.out
                case measure => simp [intOf]; omega
          · have HE : Aside0 (l.all (belowIn l) = true) := ⟨all_true (fun k hk => HI2.out k (by omega))⟩
            go_wp2
            go_ret
            exact ⟨by rw [HA.out, HUU.out, HE.out]; rfl, by have := HB.out; have := HBs.out; (repeat (first | (with_reducible exact Below.refl _ _) | (with_reducible assumption) | (with_reducible refine below_step ?_ (by assumption)) | (with_reducible apply below_alloc) | (with_reducible apply below_drewN)))⟩
  · have hs : (decide ((1 : Int) ≤ a) && decide (a ≤ 6)) = false := by simp; omega
    have HA : Aside0 (cxOk a l = false) := ⟨by unfold cxOk; rw [hs]; rfl⟩
    clear ha
    go_enter Try.func47, Try.ntmps47
    go_wp2_with (first | (rw [← hw1]; clear hw1; go_at_call 100; refine (specIn _ _ _ _).mono ?_; rintro e w2 ⟨rfl, hb⟩; rw [hs]))
    go_ret
    exact ⟨by rw [HA.out]; rfl, by have := HB.out; (repeat (first | (with_reducible exact Below.refl _ _) | (with_reducible assumption) | (with_reducible refine below_step ?_ (by assumption)) | (with_reducible apply below_alloc) | (with_reducible apply below_drewN)))⟩
end Go.Proofs.Ythbkboigbkadjaa.H

namespace Go.Proofs.Ythbkboigbkadjaa.H
open Go.RowKit Go.Proofs.YthbkboigbkadjaaW.PrintWords Go.Proofs.YthbkboigbkadjaaW.PrintLast Go.Proofs.YthbkboigbkadjaaW.PrintMore
set_option linter.unusedVariables false
set_option linter.unusedSimpArgs false

def inMap (m : Nat) (v : Int) : Bool := decide (0 ≤ v) && decide (v ≤ (m : Int) - 1)
/-- a map of n vertices to m -/
def mapOk (n m : Nat) (f : List Int) : Bool := decide (f.length = n) && f.all (inMap m)
end Go.Proofs.Ythbkboigbkadjaa.H

namespace Go.Proofs.Ythbkboigbkadjaa.H
open Go.RowKit Go.Proofs.YthbkboigbkadjaaW.PrintWords Go.Proofs.YthbkboigbkadjaaW.PrintLast Go.Proofs.YthbkboigbkadjaaW.PrintMore
set_option linter.unusedVariables false
set_option linter.unusedSimpArgs false

/-- the image of the part of a face on the first k vertices -/
def imgTo (f : Nat) (p : List Int) (k : Nat) : Nat := (List.range k).foldl (fun o v => if f.testBit v then o ||| 2 ^ (p.getD v 0).toNat else o) 0
/-- the image of a face -/
def img (f : Nat) (p : List Int) : Nat := imgTo f p p.length
theorem imgTo_succ (f : Nat) (p : List Int) (k : Nat) : imgTo f p (k + 1) = if f.testBit k then imgTo f p k ||| 2 ^ (p.getD k 0).toNat else imgTo f p k := by
  unfold imgTo
  rw [List.range_succ, List.foldl_append]
  rfl
theorem imgTo_more (f : Nat) (p : List Int) (n : Nat) (hf : f < 2 ^ n) : ∀ d, imgTo f p (n + d) = imgTo f p n := by
  intro d
  induction d with
  | zero => rfl
  | succ d ih =>
    rw [← Nat.add_assoc, imgTo_succ, if_neg, ih]
    rw [Nat.testBit_lt_two_pow (Nat.lt_of_lt_of_le hf (Nat.pow_le_pow_right (by decide) (Nat.le_add_right n d)))]
    decide
/-- over a list of vertices -/
def imgV (p : List Int) (l : List Int) : Nat := l.foldl (fun o v => o ||| 2 ^ (p.getD v.toNat 0).toNat) 0
theorem imgV_snoc (p l : List Int) (v : Int) : imgV p (l ++ [v]) = imgV p l ||| 2 ^ (p.getD v.toNat 0).toNat := by
  unfold imgV; rw [List.foldl_append]; rfl
theorem imgV_vs (f : Nat) (p : List Int) : imgV p (vs f) = imgTo f p 6 := by
  unfold imgV vs imgTo
  rw [List.foldl_map, List.foldl_filter]
  rfl
theorem img_vs (f : Nat) (p : List Int) (hn : p.length ≤ 6) (hf : f < 2 ^ p.length) : imgV p (vs f) = img f p := by
  rw [imgV_vs]
  have := imgTo_more f p p.length hf (6 - p.length)
  rw [show p.length + (6 - p.length) = 6 by omega] at this
  exact this
theorem getD_bd {p : List Int} (hp : ∀ x ∈ p, 0 ≤ x ∧ x ≤ 5) (k : Nat) : (p.getD k 0).toNat ≤ 5 := by
  by_cases h : k < p.length
  · have := hp _ (mem_at (i := k) h rfl); omega
  · have : p.getD k 0 = 0 := by simp [List.getD_eq_getElem?_getD, Nat.not_lt.1 h]
    rw [this]; decide
theorem or_lt {a e : Nat} (ha : a < 64) (he : e ≤ 5) : a ||| 2 ^ e < 64 :=
  Nat.or_lt_two_pow (n := 6) ha (by have := pow_bd e he; omega)
theorem imgV_lt {p : List Int} (hp : ∀ x ∈ p, 0 ≤ x ∧ x ≤ 5) (l : List Int) : imgV p l < 64 := by
  have key : ∀ (l : List Int) (o : Nat), o < 64 → l.foldl (fun o v => o ||| 2 ^ (p.getD v.toNat 0).toNat) o < 64 := by
    intro l
    induction l with
    | nil => exact fun o h => h
    | cons v l ih => exact fun o h => ih _ (or_lt h (getD_bd hp _))
  exact key l 0 (by decide)
theorem imgTo_lt {f : Nat} {p : List Int} (hp : ∀ x ∈ p, 0 ≤ x ∧ x ≤ 5) (k : Nat) : imgTo f p k < 64 := by
  induction k with
  | zero => exact (by decide : (0 : Nat) < 64)
  | succ k ih =>
    rw [imgTo_succ]
    split
    · exact or_lt ih (getD_bd hp _)
    · exact ih
theorem vs_mem {f : Nat} {v : Int} (h : v ∈ vs f) : ∃ k : Nat, v = k ∧ k < 6 ∧ f.testBit k = true := by
  unfold vs at h
  rw [List.mem_map] at h
  obtain ⟨k, hk, rfl⟩ := h
  rw [List.mem_filter, List.mem_range] at hk
  exact ⟨k, rfl, hk.1, hk.2⟩
theorem vs_in {f n : Nat} {v : Int} (hf : f < 2 ^ n) (h : v ∈ vs f) : ∃ k : Nat, v = k ∧ k < n := by
  obtain ⟨k, rfl, _, ht⟩ := vs_mem h
  refine ⟨k, rfl, ?_⟩
  by_cases hk : k < n
  · exact hk
  · rw [Nat.testBit_lt_two_pow (Nat.lt_of_lt_of_le hf (Nat.pow_le_pow_right (by decide) (Nat.not_lt.1 hk)))] at ht
    cases ht
theorem vs_len6 (f : Nat) : (vs f).length ≤ 6 := by
  unfold vs
  rw [List.length_map]
  exact Nat.le_trans (List.length_filter_le _ _) (by simp)

set_option maxHeartbeats 1000000 in
theorem imageOf (f : Nat) (v : Value) (p : List Int) (w : World) (hr : ReadI w v p) (hn : p.length ≤ 6) (hf : f < 2 ^ p.length) (hp : ∀ x ∈ p, 0 ≤ x ∧ x ≤ 5) :
    Calls Try.prog 158 #[.int .i64 f, v] w fun e w' => e = .returned (.int .i64 (img f p : Nat)) ∧ Below w.heap.size w w' := by
  have hf63 : f ≤ 63 := by have := (pw6 hn).2; omega
  have HI : Aside0 (imgV p (vs f) = img f p) := ⟨img_vs f p hn hf⟩
  have HL := Aside0.mk (fun l => imgV_lt hp l)
  have HF := Aside0.mk hf
  have HP := Aside0.mk hp
  have hl6 := vs_len6 f
  obtain ⟨A, c, rfl, hc, hr⟩ := hr
  have HR := Aside0.mk hr
  clear hr hf hp
  go_enter Try.func158, Try.ntmps158
  go_wp2_with (first | (go_at_call 162; refine (vertices f hf63 _).mono ?_; rintro e w1 ⟨u, rfl, ho, hb⟩; obtain ⟨A1, c1, rfl, -, hr1⟩ := ho.read; have HR1 := Aside0.mk hr1; have HB := Aside0.mk hb; clear ho hb hr1))
  go_loopw [5, 11] (fun o i wr => ∃ k : Nat, i = .int .i64 k ∧ k ≤ (vs f).length ∧ o = .int .i64 (imgV p ((vs f).take k) : Nat) ∧ Below w1.heap.size w1 wr) (fun _ i _ => (vs f).length - (intOf i).toNat)
  case atStart => exact ⟨0, rfl, Nat.zero_le _, rfl, Below.refl _ _⟩
  case round =>
    obtain ⟨k, rfl, hk, rfl, hb⟩ := hrel
    by_cases hlt : k < (vs f).length
    · obtain ⟨ad1, x, rfl, hcell1, HX⟩ := ReadI.get (Kd.C_below HR1.out hb) hlt
      obtain ⟨q, rfl, hq⟩ := vs_in HF.out (mem_at hlt HX.out)
      obtain ⟨ad, y, rfl, hcell, HY⟩ := ReadI.get (Kd.C_below HR.out (HB.out.trans (hb.mono HB.out.size))) (i := q) (by omega)
      have hy := HP.out _ (mem_at hq HY.out)
      obtain ⟨e, rfl⟩ : ∃ e : Nat, y = e := ⟨y.toNat, by omega⟩
      have HT := Aside0.mk (take_get hlt HX.out)
      have hsh := pow_wrap e (by omega)
      have hpb := pow_bd e (by omega)
      obtain ⟨o, ho⟩ : ∃ o, o = imgV p ((vs f).take k) := ⟨_, rfl⟩
      have hol := HL.out ((vs f).take k)
      rw [← ho] at hol ⊢
      have hor := or_i64 o (2 ^ e) (by omega) (by omega)
      obtain ⟨z, hz⟩ : ∃ z, z = o ||| 2 ^ e := ⟨_, rfl⟩
      rw [← hz] at hor
      obtain ⟨pp, hpp⟩ : ∃ pp : Nat, pp = 2 ^ e := ⟨_, rfl⟩
      rw [← hpp] at hsh hpb hor hz
      have HO := Aside0.mk ho
      have HZ := Aside0.mk hz
      have HPP := Aside0.mk hpp
      have HB2 := Aside0.mk hb
      clear ho hz hpp hb
      go_wp2
      go_roundw
      case rel =>
        refine ⟨k + 1, by go_num, by omega, ?_, HB2.out⟩
        rw [HT.out, imgV_snoc, ← HO.out, Int.toNat_natCast, HY.out, Int.toNat_natCast, ← HPP.out, ← HZ.out]
      case measure => simp [intOf]; omega
    · have e : k = (vs f).length := by omega
      have HE := Aside0.mk e
      have HB2 := Aside0.mk (HB.out.trans (hb.mono HB.out.size))
      clear e hb
      go_wp2
      go_ret
      exact ⟨by have := HI.out; rw [HE.out, List.take_length, this]; rfl, HB2.out⟩

set_option maxHeartbeats 1000000 in
theorem specMoved (f : Nat) (hf : f ≤ 63) (v : Value) (p : List Int) (w : World) (hr : ReadI w v p) (hn : p.length ≤ 6) (hp : ∀ x ∈ p, 0 ≤ x ∧ x ≤ 5) :
    Calls Try.prog 106 #[.int .i64 f, v] w fun e w' => e = .returned (.int .i64 (img f p : Nat)) ∧ Below w.heap.size w w' := by
  have HL := Aside0.mk (fun k => imgTo_lt (f := f) hp k)
  have HP := Aside0.mk hp
  obtain ⟨A, c, rfl, hc, hr⟩ := hr
  have HR := Aside0.mk hr
  clear hr hp
  go_enter Try.func106, Try.ntmps106
  go_wp2
  go_loopw [5, 6] (fun o i wr => ∃ k : Nat, i = .int .i64 k ∧ k ≤ p.length ∧ o = .int .i64 (imgTo f p k : Nat) ∧ Below w.heap.size w wr) (fun _ i _ => p.length - (intOf i).toNat)
  case atStart => exact ⟨0, rfl, Nat.zero_le _, rfl, Below.refl _ _⟩
  case round =>
    obtain ⟨k, rfl, hk, rfl, hb⟩ := hrel
    by_cases hlt : k < p.length
    · obtain ⟨ad, y, rfl, hcell, HY⟩ := ReadI.get (Kd.C_below HR.out hb) hlt
      have hy := HP.out _ (mem_at hlt HY.out)
      obtain ⟨e, rfl⟩ : ∃ e : Nat, y = e := ⟨y.toNat, by omega⟩
      have HS := Aside0.mk (imgTo_succ f p k)
      have hbit := bit_of f k (by omega)
      obtain ⟨o, ho⟩ : ∃ o, o = imgTo f p k := ⟨_, rfl⟩
      have hol := HL.out k
      rw [← ho] at hol ⊢
      have HO := Aside0.mk ho
      have HB2 := Aside0.mk hb
      clear ho hb
      cases ht : f.testBit k with
      | true =>
        rw [ht, if_pos rfl] at hbit
        have HT := Aside0.mk ht
        clear ht
        have hsh := pow_wrap e (by omega)
        have hpb := pow_bd e (by omega)
        have hor := or_i64 o (2 ^ e) (by omega) (by omega)
        obtain ⟨z, hz⟩ : ∃ z, z = o ||| 2 ^ e := ⟨_, rfl⟩
        rw [← hz] at hor
        obtain ⟨pp, hpp⟩ : ∃ pp : Nat, pp = 2 ^ e := ⟨_, rfl⟩
        rw [← hpp] at hsh hpb hor hz
        have HZ := Aside0.mk hz
        have HPP := Aside0.mk hpp
        clear hz hpp
        go_wp2
        go_roundw
        case rel =>
          refine ⟨k + 1, by go_num, by omega, ?_, HB2.out⟩
          rw [HS.out, HT.out, if_pos rfl, ← HO.out, HY.out, Int.toNat_natCast, ← HPP.out, ← HZ.out]
        case measure => simp [intOf]; omega
      | false =>
        rw [ht, if_neg (by decide)] at hbit
        have HT := Aside0.mk ht
        clear ht
        go_wp2
        go_roundw
        case rel =>
          refine ⟨k + 1, by go_num, by omega, ?_, HB2.out⟩
          rw [HS.out, HT.out, if_neg (by decide), ← HO.out]
        case measure => simp [intOf]; omega
    · have e : k = p.length := by omega
      have HE := Aside0.mk e
      clear e
      go_wp2
      go_ret
      exact ⟨by rw [HE.out]; rfl, hb⟩
end Go.Proofs.Ythbkboigbkadjaa.H

namespace Go.Proofs.Ythbkboigbkadjaa.H
open Go.RowKit Go.Proofs.YthbkboigbkadjaaW.PrintWords Go.Proofs.YthbkboigbkadjaaW.PrintLast Go.Proofs.YthbkboigbkadjaaW.PrintMore
set_option linter.unusedVariables false
set_option linter.unusedSimpArgs false

/-- a copy, one number behind it, a call, and what it gives put behind a row -/
def SI (l : List Int) (x : Int) (w0 : World) (D E : Value → World → Prop) (b : Nat → Bool) (s : Nat → Value) (w : World) : Prop :=
  (b 13 = false ∧ b 14 = false ∧ RI 4 6 7 12 l x w0 D b s w) ∨ (b 13 = true ∧ (b 4 = true ∧ b 6 = true ∧ b 7 = true ∧ b 12 = true) ∧ E (s 13) w ∧ (b 14 = true → s 14 = s 13))
section
variable {l : List Int} {x : Int} {w0 w : World} {D E : Value → World → Prop} {b : Nat → Bool} {s : Nat → Value}
theorem SI.start (hb : ∀ i, b i = false) : SI l x w0 D E b s w0.drew := .inl ⟨hb 13, hb 14, RI.start (by decide) hb⟩
theorem SI.left {i : Nat} {v : Value} {w' : World} (h1 : 13 ≠ i) (h2 : 14 ≠ i) (hf : b 13 = false ∧ b 14 = false) (h : RI 4 6 7 12 l x w0 D (markU b i) (upd s i v) w') : SI l x w0 D E (markU b i) (upd s i v) w' :=
  .inl ⟨by rw [markU_ne b h1]; exact hf.1, by rw [markU_ne b h2]; exact hf.2, h⟩
theorem SI.no13 (h : SI l x w0 D E b s w) (hb : b 4 = false ∨ b 6 = false ∨ b 7 = false ∨ b 12 = false ∨ b 13 = false) : b 13 = false ∧ b 14 = false := by
  rcases h with h | ⟨h1, ⟨h4, h6, h7, h12⟩, -⟩
  · exact ⟨h.1, h.2.1⟩
  · rcases hb with hb | hb | hb | hb | hb
    · rw [h4] at hb; cases hb
    · rw [h6] at hb; cases hb
    · rw [h7] at hb; cases hb
    · rw [h12] at hb; cases hb
    · rw [h1] at hb; cases hb
theorem SI.ri (h : SI l x w0 D E b s w) (hb : b 4 = false ∨ b 6 = false ∨ b 7 = false ∨ b 12 = false ∨ b 13 = false) : RI 4 6 7 12 l x w0 D b s w := by
  have h0 := (h.no13 hb).1
  rcases h with h | h
  · exact h.2.2
  · rw [h.1] at h0; cases h0
theorem SI.ri4 (h : SI l x w0 D E b s w) (hb : b 4 = false) : RI 4 6 7 12 l x w0 D b s w := h.ri (.inl hb)
theorem SI.ri6 (h : SI l x w0 D E b s w) (hb : b 6 = false) : RI 4 6 7 12 l x w0 D b s w := h.ri (.inr (.inl hb))
theorem SI.ri7 (h : SI l x w0 D E b s w) (hb : b 7 = false) : RI 4 6 7 12 l x w0 D b s w := h.ri (.inr (.inr (.inl hb)))
theorem SI.ri12 (h : SI l x w0 D E b s w) (hb : b 12 = false) : RI 4 6 7 12 l x w0 D b s w := h.ri (.inr (.inr (.inr (.inl hb))))
theorem SI.ri13 (h : SI l x w0 D E b s w) (hb : b 13 = false) : RI 4 6 7 12 l x w0 D b s w := h.ri (.inr (.inr (.inr (.inr hb))))
theorem SI.r13 (h : SI l x w0 D E b s w) (hb : b 13 = true) : (b 4 = true ∧ b 6 = true ∧ b 7 = true ∧ b 12 = true) ∧ E (s 13) w := by
  rcases h with h | h
  · rw [h.1] at hb; cases hb
  · exact ⟨h.2.1, h.2.2.1⟩
theorem SI.e14 (h : SI l x w0 D E b s w) (hb : b 14 = true) : s 14 = s 13 := by
  rcases h with h | h
  · rw [h.2.1] at hb; cases hb
  · exact h.2.2.2 hb
theorem SI.quiet (h : SI l x w0 D E b s w) {i : Nat} (h1 : ¬i = 4) (h2 : ¬i = 6) (h3 : ¬i = 7) (h4 : ¬i = 12) (h5 : ¬i = 13) (h6 : ¬i = 14) (v : Value) : SI l x w0 D E (markU b i) (upd s i v) w := by
  rcases h with ⟨a, c, h⟩ | ⟨a, ⟨c1, c2, c3, c4⟩, d, e⟩
  · exact .inl ⟨by rw [markU_ne b (Ne.symm h5)]; exact a, by rw [markU_ne b (Ne.symm h6)]; exact c, h.quiet h1 h2 h3 h4 v⟩
  · refine .inr ⟨by rw [markU_ne b (Ne.symm h5)]; exact a, ⟨by rw [markU_ne b (Ne.symm h1)]; exact c1, by rw [markU_ne b (Ne.symm h2)]; exact c2, by rw [markU_ne b (Ne.symm h3)]; exact c3, by rw [markU_ne b (Ne.symm h4)]; exact c4⟩, by rw [upd_ne s v (Ne.symm h5)]; exact d, ?_⟩
    rw [markU_ne b (Ne.symm h6), upd_ne s v (Ne.symm h6), upd_ne s v (Ne.symm h5)]
    exact e
theorem SI.right (h : RI 4 6 7 12 l x w0 D b s w) (h12 : b 12 = true) (h13 : b 13 = false) {u : Value} {w' : World} (hE : E u w') (h14 : b 14 = false) : SI l x w0 D E (markU b 13) (upd s 13 u) w' := by
  have h7 := h.hf h12
  have h46 := h.ha h7
  refine .inr ⟨markU_self b 13, ⟨by rw [markU_ne b (by decide)]; exact h46.1, by rw [markU_ne b (by decide)]; exact h46.2, by rw [markU_ne b (by decide)]; exact h7, by rw [markU_ne b (by decide)]; exact h12⟩, by rw [upd_self]; exact hE, fun e => ?_⟩
  rw [markU_ne b (by decide), h14] at e; cases e
theorem SI.last (h : (b 4 = true ∧ b 6 = true ∧ b 7 = true ∧ b 12 = true) ∧ E (s 13) w) (h13 : b 13 = true) (h14 : b 14 = false) : SI l x w0 D E (markU b 14) (upd s 14 (s 13)) w := by
  refine .inr ⟨by rw [markU_ne b (by decide)]; exact h13, ⟨by rw [markU_ne b (by decide)]; exact h.1.1, by rw [markU_ne b (by decide)]; exact h.1.2.1, by rw [markU_ne b (by decide)]; exact h.1.2.2.1, by rw [markU_ne b (by decide)]; exact h.1.2.2.2⟩, by rw [upd_ne s _ (by decide)]; exact h.2, fun _ => ?_⟩
  rw [upd_self, upd_ne s _ (by decide)]
/-- what was there at the start -/
theorem SI.cell {p : Addr} {z : Value} (h : SI l x w0 D E b s w) (h0 : w0.cell? p = some z) (hD : ∀ u, D u w → w.cell? p = some z) (hE : ∀ u, E u w → w.cell? p = some z) : w.cell? p = some z := by
  rcases h with h | h
  · exact h.2.2.cell (hD _) h0
  · exact hE _ h.2.2.1
end

/-- what is found below i, at most m -/
def accS (ok : List Int → Bool) (n k : Nat) (l : List Int) (m i : Nat) : List (List Int) := ((expTo n k l i).filter ok).take m
section
variable {ok : List Int → Bool} {n k m i : Nat} {l : List Int}
theorem accS_zero : accS ok n k l m 0 = [] := by unfold accS; rw [expTo_zero]; simp
theorem accS_len : (accS ok n k l m i).length ≤ m := by unfold accS; rw [List.length_take]; omega
theorem accS_used (h : (i : Int) ∈ l) : accS ok n k l m (i + 1) = accS ok n k l m i := by unfold accS; rw [expTo_succ, fT_used h, List.append_nil]
theorem accS_free (h : ¬ (i : Int) ∈ l) (hl : (accS ok n k l m i).length < m) : accS ok n k l m (i + 1) = accS ok n k l m i ++ ((exts n k (l ++ [(i : Int)])).filter ok).take (m - (accS ok n k l m i).length) := by
  unfold accS at hl ⊢
  rw [List.length_take] at hl
  have h1 : ((expTo n k l i).filter ok).length < m := by omega
  rw [expTo_succ, fT_free h, List.filter_append, List.take_append, List.take_of_length_le (by omega)]
theorem accS_full (h : m ≤ (accS ok n k l m i).length) : ∀ j, accS ok n k l m (i + j) = accS ok n k l m i
  | 0 => rfl
  | j + 1 => by
    have ih := accS_full h j
    rw [← ih] at h ⊢
    unfold accS at h ⊢
    rw [List.length_take] at h
    rw [show i + (j + 1) = i + j + 1 by omega, expTo_succ, List.filter_append, List.take_append_of_le_length (by omega)]
theorem accS_end (hi : i ≤ n) (h : i = n ∨ m ≤ (accS ok n k l m i).length) : ((exts n (k + 1) l).filter ok).take m = accS ok n k l m i := by
  rw [exts_succ]
  rcases h with rfl | h
  · rfl
  · have := accS_full h (n - i)
    rw [show i + (n - i) = n by omega] at this
    exact this
end

set_option maxRecDepth 100000 in
set_option maxHeartbeats 8000000 in
theorem searchStep (ok : List Int → Bool) (n k : Nat) (ku lu : Value) (xs ys : List Int) (m : Nat) (hm : m ≤ 1000) (v : Value) (l : List Int) (w : World) (hl : l.length < n) (hn : n ≤ 6) (hk : ReadI w ku xs) (hly : ReadI w lu ys) (hv : ReadI w v l)
    (ih : ∀ (iv : Nat) v' (m' : Nat) W, iv < n → ¬ (iv : Int) ∈ l → 1 ≤ m' → m' ≤ m → ReadI W v' (l ++ [(iv : Int)]) → Below w.heap.size w W →
      Calls Try.prog 48 #[cx n ku, cx n lu, v', .int .i64 (m' : Nat)] W fun e w2 => ∃ u, e = .returned u ∧ OwnR W.heap.size w2 u (((exts n k (l ++ [(iv : Int)])).filter ok).take m') ∧ Below W.heap.size W w2) :
    Calls Try.prog 48 #[cx n ku, cx n lu, v, .int .i64 (m : Nat)] w fun e w' => ∃ u, e = .returned u ∧ OwnR w.heap.size w' u (((exts n (k + 1) l).filter ok).take m) ∧ Below w.heap.size w w' := by
  obtain ⟨w1, hw1⟩ : ∃ w1, w1 = (w.alloc (.cells #[.int .i64 n, ku] 28)).alloc (.cells #[.int .i64 n, lu] 28) := ⟨_, rfl⟩
  have hB : Below w.heap.size w w1 := by rw [hw1]; exact ((Below.refl _ w).alloc (Nat.le_refl _) _).alloc (by simp) _
  have c0 : w1.cell? ⟨w.heap.size, 0, none⟩ = some (.int .i64 n) := by rw [hw1]; simp
  have c1 : w1.cell? ⟨w.heap.size, 1, none⟩ = some ku := by rw [hw1]; simp
  have c2 : w1.cell? ⟨w.heap.size + 1, 0, none⟩ = some (.int .i64 n) := by rw [hw1]; simp
  have c3 : w1.cell? ⟨w.heap.size + 1, 1, none⟩ = some lu := by rw [hw1]; simp
  have hs1 : w1.heap.size = w.heap.size + 1 + 1 := by rw [hw1]; simp
  have HSZ := Aside0.mk hs1
  have HV := Aside0.mk (hv.below hB)
  have HB := Aside0.mk hB
  have hne : ((l.length : Int) == (n : Int)) = false := by rw [beq_eq_false_iff_ne]; omega
  have HIH0 := Aside0.mk ih
  have HL6 : Aside0 (l.length ≤ 1000000) := ⟨by omega⟩
  have hlen : l.length ≤ 6 := by omega
  obtain ⟨A1, d1, rfl, -⟩ := id hk
  obtain ⟨A2, d2, rfl, -⟩ := id hly
  obtain ⟨A3, d3, rfl, -⟩ := id hv
  have hmx : Try.prog.follows .mixedOrders = true := by kernel_rfl
  clear hv ih hk hly hB hs1
  go_enter Try.func48, Try.ntmps48
  go_wp2
  rw [← hw1]
  clear hw1
  have k0 := c0
  have k1 := c1
  have k2 := c2
  have k3 := c3
  go_loopw [10, 11] (fun s10 s11 wr => ∃ iv : Nat, s11 = .int .i64 iv ∧ iv ≤ n ∧ Aside0 (OwnR w1.heap.size wr s10 (accS ok n k l m iv)) ∧ Aside0 (Below w1.heap.size w1 wr)) (fun _ s11 _ => n - (intOf s11).toNat)
  case atStart => exact ⟨0, rfl, Nat.zero_le _, ⟨by rw [accS_zero, ← HSZ.out]; exact OwnR.empty w1 (Nat.le_refl _)⟩, ⟨Below.alloc (Below.refl _ _) (Nat.le_refl _) _⟩⟩
  case round =>
    obtain ⟨iv, rfl, hi, HO, HBr⟩ := hrel
    have c0 := pw_cell_below HBr.out c0
    have c1 := pw_cell_below HBr.out c1
    have c2 := pw_cell_below HBr.out c2
    have c3 := pw_cell_below HBr.out c3
    have HEND := Aside0.mk (fun h => accS_end (ok := ok) (n := n) (k := k) (m := m) (i := iv) (l := l) hi h)
    have hLm := accS_len (ok := ok) (n := n) (k := k) (m := m) (i := iv) (l := l)
    have HUSE := Aside0.mk (fun h => accS_used (ok := ok) (n := n) (k := k) (m := m) (i := iv) (l := l) h)
    have HFREE := Aside0.mk (fun h => accS_free (ok := ok) (n := n) (k := k) (m := m) (i := iv) (l := l) h)
    obtain ⟨acc, hacc⟩ : ∃ acc, acc = accS ok n k l m iv := ⟨_, rfl⟩
    rw [← hacc] at HO HEND hLm HUSE HFREE
    obtain ⟨go, capo, wso, eo, hgo1, hgo2, -⟩ := id HO.out
    obtain ⟨L, hL⟩ : ∃ L, L = acc.length := ⟨_, rfl⟩
    rw [← hL] at eo hLm HEND HFREE
    subst eo
    have HLL0 := Aside0.mk hL
    clear hacc hL
    by_cases hlt : iv < n
    · have hltI : (iv : Int) < (n : Int) := by omega
      by_cases hfull : L < m
      · have hfullI : (L : Int) < (m : Int) := by omega
        by_cases hmem : (iv : Int) ∈ l
        · have HE := Aside0.mk (HUSE.out hmem)
          go_wp2_with (first | (go_at_call 107; refine (specPlace2 _ l (iv : Int) _ (HV.out.below HBr.out)).mono ?_; rintro e w3 ⟨⟨r, rfl, hr⟩, hb⟩; rw [decide_eq_true hmem, decide_eq_true_eq] at hr; have HO3 := Aside0.mk (HO.out.below hb); have HB3 := Aside0.mk (HBr.out.trans (hb.mono HBr.out.size)); clear hb))
          go_roundw
          case rel => exact ⟨iv + 1, by go_num, by omega, ⟨by rw [HE.out]; exact HO3.out⟩, HB3⟩
          case measure => simp [intOf]; omega
        · have HE := Aside0.mk (HFREE.out hmem hfull)
          have HIH1 := Aside0.mk (fun v' (m' : Nat) W h1 h2 hr hb => HIH0.out iv v' m' W hlt hmem h1 h2 hr hb)
          go_wp2_with (first | (go_at_call 107; refine (specPlace2 _ l (iv : Int) _ (HV.out.below HBr.out)).mono ?_; rintro e wq ⟨⟨r, rfl, hr⟩, hb⟩; rw [decide_eq_false hmem, decide_eq_false_iff_not] at hr; have HOq := Aside0.mk (HO.out.below hb); have HBq := Aside0.mk (HBr.out.trans (hb.mono HBr.out.size)); have hgoq : go < wq.heap.size := (Nat.lt_of_lt_of_le hgo2 hb.size); replace c0 := pw_cell_below hb c0; replace c1 := pw_cell_below hb c1; replace c2 := pw_cell_below hb c2; replace c3 := pw_cell_below hb c3; clear hb))
          obtain ⟨M2, hM2⟩ : ∃ M2 : Nat, M2 = m - L := ⟨_, rfl⟩
          rw [← hM2] at HE
          have HSUB : Aside0 (IntKind.i64.wrap ((m : Int) - (L : Int)) = (M2 : Int)) := ⟨by rw [IntWalk.i64_in _ (by omega)]; omega⟩
          obtain ⟨G, hG⟩ : ∃ G, G = ((exts n k (l ++ [(iv : Int)])).filter ok).take M2 := ⟨_, rfl⟩
          have HGL : Aside0 (G.length ≤ M2) := ⟨by rw [hG, List.length_take]; omega⟩
          have HIH := Aside0.mk (fun v' W (hr : ReadI W v' (l ++ [(iv : Int)])) (hb : Below wq.heap.size wq W) => HIH1.out v' M2 W (by omega) (by omega) hr (HB.out.trans ((HBq.out.trans (hb.mono HBq.out.size)).mono HB.out.size)))
          rw [← hG] at HIH HE
          have HVW := Aside0.mk (fun W (h : Below wq.heap.size wq W) => HV.out.below (HBq.out.trans (h.mono HBq.out.size)))
          have HOW := Aside0.mk (fun W (h : Below wq.heap.size wq W) => HOq.out.below h)
          have HMID : Aside0 (∀ g nn c, Value.slice (some ⟨go, 0, none⟩) L capo = .slice (some ⟨g, 0, none⟩) nn c → g < wq.heap.size) := ⟨fun g nn c e => by injection e with e1; injection e1 with e1; injection e1 with e1; omega⟩
          have HMB : Aside0 (w1.heap.size ≤ wq.heap.size) := ⟨HBq.out.size⟩
          have HLL : Aside0 (acc.length + G.length ≤ 100000) := ⟨by have := HGL.out; have := HLL0.out; omega⟩
          have HBG := Aside0.mk (fun W W' (h : Below wq.heap.size wq W) (hg : W.grownBy W' (Value.slice (some ⟨go, 0, none⟩) L capo).ownBlock) => (HBq.out.trans (h.mono HBq.out.size)).grown hg (Nat.le_trans HMB.out h.size) (fun kk e => by have e2 : go = kk := Option.some.inj e; omega))
          clear hM2 hG HIH1
          refine wp_region_u (fun i => !(i == 4) && !(i == 6) && !(i == 7) && !(i == 12) && !(i == 13) && !(i == 14)) (fun i => match i with | 0 => fun v => v = .slice (some ⟨go, 0, none⟩) L capo | 1 => fun v => v = .agg #[.int .i64 (n : Int), .slice A1 xs.length d1] | 2 => fun v => v = .agg #[.int .i64 (n : Int), .slice A2 ys.length d2] | 3 => fun v => v = .slice A3 l.length d3 | 5 => fun v => v = .int .i64 (iv : Int) | 8 => fun v => v = .int .i64 (m : Int) | 9 => fun v => v = .slice (some ⟨go, 0, none⟩) L capo | 10 => fun v => v = .int .i64 (L : Int) | 11 => fun v => v = .int .i64 (M2 : Int) | _ => fun _ => True)
            (SI l (iv : Int) wq (fun z W => OwnR wq.heap.size W z G ∧ Below wq.heap.size wq W) (fun z W => OwnR w1.heap.size W z (acc ++ G) ∧ Below w1.heap.size w1 W)) [0, 0, 0, 0, 8, 0, 32, 120, 0, 0, 512, 1792, 4094, 8191, 16383] hmx (by kernel_rfl) ?start ?stay ?steps ?rest
          case start =>
            intro b_ s hb
            exact SI.start hb
          case stay =>
            intro i b_ s v_ w1_ hq hI
            have h4 : ((((¬i = 4 ∧ ¬i = 6) ∧ ¬i = 7) ∧ ¬i = 12) ∧ ¬i = 13) ∧ ¬i = 14 := by simpa using hq
            exact hI.quiet h4.1.1.1.1.1 h4.1.1.1.1.2 h4.1.1.1.2 h4.1.1.2 h4.1.2 h4.2 v_
          case steps =>
            refine ⟨?_, ?_, ?_, ?_, ?_, ?_, ?_, ?_, ?_, ?_, ?_, ?_, ?_, ?_, ?_, trivial⟩
            · intro s b_ w_ hI hbi hd hq R hR hN
              generalize hA : putAll _ 0 s _ = A
              have q14 : s 14 = .slice (some ⟨go, 0, none⟩) L capo := hq 14 (by kernel_rfl)
              clear hq
              refine stepG_on rfl ?_
              have hR' := hR rfl (.slice (some ⟨go, 0, none⟩) L capo) rfl
              clear hR hN hd
              refine opGives_value ?_ hR'
              subst hA
              simp only [dsOf, List.map_cons, List.map_nil, Option.getD_some, putAll, Act.put, List.setIfInBounds_toArray, List.set_cons_zero, List.set_cons_succ]
              go_simp
            · intro s b_ w_ hI hbi hd hq R hR hN
              generalize hA : putAll _ 0 s _ = A
              clear hq
              refine stepG_on rfl ?_
              have c0 := hI.cell c0 (fun _ h => pw_cell_below h.2 c0) (fun _ h => pw_cell_below h.2 k0)
              have c1 := hI.cell c1 (fun _ h => pw_cell_below h.2 c1) (fun _ h => pw_cell_below h.2 k1)
              have hR' := hR rfl (.agg #[.int .i64 (n : Int), .slice A1 xs.length d1]) rfl
              clear hR hN hd
              refine opGives_value ?_ hR'
              subst hA
              simp only [dsOf, List.map_cons, List.map_nil, Option.getD_some, putAll, Act.put, List.setIfInBounds_toArray, List.set_cons_zero, List.set_cons_succ]
              go_simp
            · intro s b_ w_ hI hbi hd hq R hR hN
              generalize hA : putAll _ 0 s _ = A
              clear hq
              refine stepG_on rfl ?_
              have c2 := hI.cell c2 (fun _ h => pw_cell_below h.2 c2) (fun _ h => pw_cell_below h.2 k2)
              have c3 := hI.cell c3 (fun _ h => pw_cell_below h.2 c3) (fun _ h => pw_cell_below h.2 k3)
              have hR' := hR rfl (.agg #[.int .i64 (n : Int), .slice A2 ys.length d2]) rfl
              clear hR hN hd
              refine opGives_value ?_ hR'
              subst hA
              simp only [dsOf, List.map_cons, List.map_nil, Option.getD_some, putAll, Act.put, List.setIfInBounds_toArray, List.set_cons_zero, List.set_cons_succ]
              go_simp
            · intro s b_ w_ hI hbi hd hq R hR hN
              generalize hA : putAll _ 0 s _ = A
              clear hq
              refine stepG_on rfl ?_
              have hR' := hR rfl (.slice A3 l.length d3) rfl
              clear hR hN hd
              refine opGives_value ?_ hR'
              subst hA
              simp only [dsOf, List.map_cons, List.map_nil, Option.getD_some, putAll, Act.put, List.setIfInBounds_toArray, List.set_cons_zero, List.set_cons_succ]
              go_simp
            · intro s b_ w_ hI hbi hd hq R hR hN
              generalize hA : putAll _ 0 s _ = A
              clear hq
              refine stepG_on rfl ?_
              have e3 : s 3 = _ := (hd 3 (by kernel_rfl)).2 rfl
              clear hR
              refine opGives_call (f := 101) (args := #[.slice A3 l.length d3]) ?_ ?_
              · subst hA
                clear hN hd
                simp only [dsOf, List.map_cons, List.map_nil, Option.getD_some, putAll, Act.put, List.setIfInBounds_toArray, List.set_cons_zero, List.set_cons_succ]
                go_simp
              clear hA A hd
              have hr_ := hI.ri4 hbi
              have hBw := hr_.hB (hr_.noa (hr_.noc hbi))
              refine (specOwn2 _ l w_ (HVW.out w_ hBw) HL6.out).mono ?_
              rintro e w3_ ⟨u3, rfl, ho, hb3⟩
              exact ⟨_, rfl, hN rfl _ _ (SI.left (by decide) (by decide) (hI.no13 (.inl hbi)) (hr_.clone hbi hb3 (ho.lower hBw.size)))⟩
            · intro s b_ w_ hI hbi hd hq R hR hN
              generalize hA : putAll _ 0 s _ = A
              clear hq
              refine stepG_on rfl ?_
              have hR' := hR rfl (.int .i64 (iv : Int)) rfl
              clear hR hN hd
              refine opGives_value ?_ hR'
              subst hA
              simp only [dsOf, List.map_cons, List.map_nil, Option.getD_some, putAll, Act.put, List.setIfInBounds_toArray, List.set_cons_zero, List.set_cons_succ]
              go_simp
            · intro s b_ w_ hI hbi hd hq R hR hN
              generalize hA : putAll _ 0 s _ = A
              clear hq
              refine stepG_on rfl ?_
              have e5 : s 5 = _ := (hd 5 (by kernel_rfl)).2 rfl
              clear hR
              have hN' := hN rfl (.slice (some ⟨w_.heap.size, 0, none⟩) 1 1) (w_.alloc (.cells #[.int .i64 (iv : Int)] 2)) (SI.left (by decide) (by decide) (hI.no13 (.inr (.inl hbi))) ((hI.ri6 hbi).build hbi))
              clear hN hd
              refine opGives_value ?_ hN'
              subst hA
              simp only [dsOf, List.map_cons, List.map_nil, Option.getD_some, putAll, Act.put, List.setIfInBounds_toArray, List.set_cons_zero, List.set_cons_succ]
              go_simp
            · intro s b_ w_ hI hbi hd hq R hR hN
              generalize hA : putAll _ 0 s _ = A
              clear hq
              refine stepG_on rfl ?_
              have b4 : b_ 4 = true := (hd 4 (by kernel_rfl)).1
              have b6 : b_ 6 = true := (hd 6 (by kernel_rfl)).1
              clear hR
              have hr_ := hI.ri7 hbi
              have hOC := hr_.hC b4 hbi
              obtain ⟨kb, ekb, hkb⟩ := hr_.hS b6 hbi
              have hBw := hr_.hB (hr_.noa hbi)
              obtain ⟨Ac, cc, eC, -⟩ := hOC.read
              refine append_gives wq.heap.size (.tmp 59) (.tmp 61) rfl (.slice Ac l.length cc) l (iv : Int) kb 1 ?_ ?_ hkb (by rw [← eC]; exact hOC) hBw.size (by have := HL6.out; omega) ?_
              · subst hA
                clear hN hd
                simp only [dsOf, List.map_cons, List.map_nil, Option.getD_some, putAll, Act.put, List.setIfInBounds_toArray, List.set_cons_zero, List.set_cons_succ]
                exact eC
              · subst hA
                clear hN hd
                simp only [dsOf, List.map_cons, List.map_nil, Option.getD_some, putAll, Act.put, List.setIfInBounds_toArray, List.set_cons_zero, List.set_cons_succ]
                exact ekb
              intro v1 wn1 ho1 hg1 hat1
              exact hN rfl _ _ (SI.left (by decide) (by decide) (hI.no13 (.inr (.inr (.inl hbi)))) (hr_.app b4 b6 hbi ho1 (by rw [eC]; exact hg1)))
            · intro s b_ w_ hI hbi hd hq R hR hN
              generalize hA : putAll _ 0 s _ = A
              clear hq
              refine stepG_on rfl ?_
              have hR' := hR rfl (.int .i64 (m : Int)) rfl
              clear hR hN hd
              refine opGives_value ?_ hR'
              subst hA
              simp only [dsOf, List.map_cons, List.map_nil, Option.getD_some, putAll, Act.put, List.setIfInBounds_toArray, List.set_cons_zero, List.set_cons_succ]
              go_simp
            · intro s b_ w_ hI hbi hd hq R hR hN
              generalize hA : putAll _ 0 s _ = A
              have q14 : s 14 = .slice (some ⟨go, 0, none⟩) L capo := hq 14 (by kernel_rfl)
              clear hq
              refine stepG_on rfl ?_
              have hR' := hR rfl (.slice (some ⟨go, 0, none⟩) L capo) rfl
              clear hR hN hd
              refine opGives_value ?_ hR'
              subst hA
              simp only [dsOf, List.map_cons, List.map_nil, Option.getD_some, putAll, Act.put, List.setIfInBounds_toArray, List.set_cons_zero, List.set_cons_succ]
              go_simp
            · intro s b_ w_ hI hbi hd hq R hR hN
              generalize hA : putAll _ 0 s _ = A
              clear hq
              refine stepG_on rfl ?_
              have e9 : s 9 = _ := (hd 9 (by kernel_rfl)).2 rfl
              have hR' := hR rfl (.int .i64 (L : Int)) rfl
              clear hR hN hd
              refine opGives_value ?_ hR'
              subst hA
              simp only [dsOf, List.map_cons, List.map_nil, Option.getD_some, putAll, Act.put, List.setIfInBounds_toArray, List.set_cons_zero, List.set_cons_succ]
              go_simp
            · intro s b_ w_ hI hbi hd hq R hR hN
              generalize hA : putAll _ 0 s _ = A
              clear hq
              refine stepG_on rfl ?_
              have e8 : s 8 = _ := (hd 8 (by kernel_rfl)).2 rfl
              have e10 : s 10 = _ := (hd 10 (by kernel_rfl)).2 rfl
              have hsb := HSUB.out
              have hR' := hR rfl (.int .i64 (M2 : Int)) rfl
              clear hR hN hd
              refine opGives_value ?_ hR'
              subst hA
              simp only [dsOf, List.map_cons, List.map_nil, Option.getD_some, putAll, Act.put, List.setIfInBounds_toArray, List.set_cons_zero, List.set_cons_succ]
              go_simp
            · intro s b_ w_ hI hbi hd hq R hR hN
              generalize hA : putAll _ 0 s _ = A
              clear hq
              refine stepG_on rfl ?_
              have e1 : s 1 = _ := (hd 1 (by kernel_rfl)).2 rfl
              have e2 : s 2 = _ := (hd 2 (by kernel_rfl)).2 rfl
              have b7 : b_ 7 = true := (hd 7 (by kernel_rfl)).1
              have e11 : s 11 = _ := (hd 11 (by kernel_rfl)).2 rfl
              clear hR
              have hr_ := hI.ri12 hbi
              have hOA := hr_.hA b7 hbi
              have hBw := hr_.hB hbi
              obtain ⟨Aa, ca, eA, -⟩ := hOA.read
              refine opGives_call (f := 48) (args := #[.agg #[.int .i64 (n : Int), .slice A1 xs.length d1], .agg #[.int .i64 (n : Int), .slice A2 ys.length d2], .slice Aa (l ++ [(iv : Int)]).length ca, .int .i64 (M2 : Int)]) ?_ ?_
              · subst hA
                clear hN hd
                have e7 := eA
                simp only [dsOf, List.map_cons, List.map_nil, Option.getD_some, putAll, Act.put, List.setIfInBounds_toArray, List.set_cons_zero, List.set_cons_succ]
                go_simp
              clear hA A hd
              rw [eA] at hOA
              refine (HIH.out _ w_ hOA.read hBw).mono ?_
              rintro e w3_ ⟨u3, rfl, ho, hb3⟩
              exact ⟨_, rfl, hN rfl _ _ (SI.left (by decide) (by decide) (hI.no13 (.inr (.inr (.inr (.inl hbi))))) (hr_.call b7 hbi ⟨ho.lower hBw.size, hBw.trans (hb3.mono hBw.size)⟩))⟩
            · intro s b_ w_ hI hbi hd hq R hR hN
              generalize hA : putAll _ 0 s _ = A
              clear hq
              refine stepG_on rfl ?_
              have e0 : s 0 = _ := (hd 0 (by kernel_rfl)).2 rfl
              have b12 : b_ 12 = true := (hd 12 (by kernel_rfl)).1
              clear hR
              have hr_ := hI.ri13 hbi
              obtain ⟨hD1, hD2⟩ := hr_.hD b12
              refine appendRows_gives w1.heap.size (.tmp 55) (.tmp 67) rfl (.slice (some ⟨go, 0, none⟩) L capo) (s 12) acc G wq.heap.size ?_ ?_ (HOW.out w_ hD2) hD1 HMID.out HMB.out (Nat.le_trans HMB.out hD2.size) HLL.out ?_
              · subst hA
                clear hN hd
                simp only [dsOf, List.map_cons, List.map_nil, Option.getD_some, putAll, Act.put, List.setIfInBounds_toArray, List.set_cons_zero, List.set_cons_succ]
                exact e0
              · subst hA
                clear hN hd
                simp only [dsOf, List.map_cons, List.map_nil, Option.getD_some, putAll, Act.put, List.setIfInBounds_toArray, List.set_cons_zero, List.set_cons_succ]
                rfl
              intro v1 wn1 ho1 hg1
              exact hN rfl _ _ (SI.right hr_ b12 hbi ⟨ho1, HBG.out w_ wn1 hD2 hg1⟩ (hI.no13 (.inr (.inr (.inr (.inr hbi))))).2)
            · intro s b_ w_ hI hbi hd hq R hR hN
              generalize hA : putAll _ 0 s _ = A
              clear hq
              refine stepG_on rfl ?_
              have b13 : b_ 13 = true := (hd 13 (by kernel_rfl)).1
              clear hR
              have h14 := hI.r13 b13
              have hN' := hN rfl (s 13) w_ (SI.last h14 b13 hbi)
              clear hN hd
              refine opGives_value ?_ hN'
              subst hA
              simp only [dsOf, List.map_cons, List.map_nil, Option.getD_some, putAll, Act.put, List.setIfInBounds_toArray, List.set_cons_zero, List.set_cons_succ]
              rfl
          case rest =>
            intro s9 b_ w9 hI hb hv
            simp only [dsOf, List.map_cons, List.map_nil, Option.getD_some, putAll, Act.put, List.setIfInBounds_toArray, List.set_cons_zero, List.set_cons_succ]
            clear hv 
            obtain ⟨-, hE1, hE2⟩ := hI.r13 (hb 13 (by decide))
            have e14_ := hI.e14 (hb 14 (by decide))
            rw [e14_]
            have HO9 := Aside0.mk hE1
            have HB9 := Aside0.mk hE2
            clear hI hb hE1 hE2 e14_
            generalize s9 13 = z9 at HO9 ⊢
            go_wp2
            go_roundw
            case rel => exact ⟨iv + 1, by go_num, by omega, ⟨by rw [HE.out]; exact HO9.out⟩, HB9⟩
            case measure => simp [intOf]; omega
      · have hfullI : ¬ (L : Int) < (m : Int) := by omega
        have HE := Aside0.mk (HEND.out (.inr (by omega)))
        go_wp2
        go_ret
        exact ⟨_, rfl, by rw [HE.out]; exact HO.out.lower HB.out.size, HB.out.trans (HBr.out.mono HB.out.size)⟩
    · have hltI : ¬ (iv : Int) < (n : Int) := by omega
      have HE := Aside0.mk (HEND.out (.inl (by omega)))
      go_wp2
      go_ret
      exact ⟨_, rfl, by rw [HE.out]; exact HO.out.lower HB.out.size, HB.out.trans (HBr.out.mono HB.out.size)⟩
end Go.Proofs.Ythbkboigbkadjaa.H
