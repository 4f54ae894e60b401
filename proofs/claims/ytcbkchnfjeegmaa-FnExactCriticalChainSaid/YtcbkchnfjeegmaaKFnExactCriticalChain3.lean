/- What a complex is, of the reference. The code of a complex. slices.IndexFunc, slices.ContainsFunc and areAll at [][]int64. Chains of the program: sums of bits. How many vertices a face has. Chains of the program: isChain, IsCycle. -/
import Derived.Test.YtcbkchnfjeegmaaKFnExactCriticalChain1
import Derived.Test.YtcbkchnfjeegmaaKFnExactCriticalChain2

namespace Go.Proofs.Ytcbkchnfjeegmaa.H
open Go.RowKit Go.Proofs.YtcbkchnfjeegmaaW.PrintWords Go.Proofs.YtcbkchnfjeegmaaW.PrintLast Go.Proofs.YtcbkchnfjeegmaaW.PrintMore
set_option linter.unusedVariables false
set_option linter.unusedSimpArgs false

theorem all_false {l : List Int} {p : Int → Bool} {i : Nat} {y : Int} (hi : i < l.length) (hy : l.getD i 0 = y) (h : p y = false) : l.all p = false := by
  rw [List.all_eq_false]
  exact ⟨y, mem_at hi hy, by rw [h]; decide⟩
theorem all_true {l : List Int} {p : Int → Bool} (h : ∀ i, i < l.length → p (l.getD i 0) = true) : l.all p = true := by
  rw [List.all_eq_true]
  intro x hx
  obtain ⟨j, hj, rfl⟩ := List.getElem_of_mem hx
  have := h j hj
  simpa [List.getD_eq_getElem?_getD, hj] using this

set_option maxHeartbeats 4000000 in
theorem specIs (a : Int) (u : Value) (l : List Int) (w : World) (hr : ReadI w u l) :
    Calls Try.prog 56 #[cx a u] w fun e w' => e = .returned (.bool (cxOk a l)) ∧ Below w.heap.size w w' := by
  have hba : Below w.heap.size w (w.alloc (.cells #[.int .i64 a, u] 28)) := Below.alloc (Below.refl _ _) (Nat.le_refl _) _
  have HB := Aside0.mk hba
  have HR0 := Aside0.mk (hr.below hba)
  obtain ⟨A, c, rfl, hc, hr⟩ := id hr
  have HR := Aside0.mk (Kd.C_below hr hba)
  have hlen : l.length ≤ 9223372036854775807 := hr.2.1
  clear hr hba
  obtain ⟨w1, hw1⟩ : ∃ w1, w1 = w.alloc (Obj.cells #[.int .i64 a, Value.slice A l.length c] 28) := ⟨_, rfl⟩
  have hc0 : w1.cell? ⟨w.heap.size, 0, none⟩ = some (.int .i64 a) := by rw [hw1]; simp
  have hc1 : w1.cell? ⟨w.heap.size, 1, none⟩ = some (Value.slice A l.length c) := by rw [hw1]; simp
  rw [← hw1] at HB HR HR0
  by_cases ha : 1 ≤ a ∧ a ≤ 6
  · obtain ⟨n, rfl⟩ : ∃ n : Nat, a = n := ⟨a.toNat, by omega⟩
    have hs : (decide ((1 : Int) ≤ n) && decide ((n : Int) ≤ 6)) = true := by simp; omega
    have hn : 1 ≤ n ∧ n ≤ 6 := by omega
    have HA : Aside0 (cxOk n l = (cxUp n l && l.all (belowIn l))) := ⟨by unfold cxOk; rw [hs]; rfl⟩
    obtain ⟨N, hN⟩ : ∃ N : Nat, N = 2 ^ n := ⟨_, rfl⟩
    have HN := Aside0.mk hN
    clear hN ha
    go_enter Try.func56, Try.ntmps56
    go_wp2_with (first | (rw [← hw1]; clear hw1; go_at_call 108; refine (specIn _ _ _ _).mono ?_; rintro e w2 ⟨rfl, hb⟩; rw [hs]; have hc0 := pw_cell_below hb hc0; have hc1 := pw_cell_below hb hc1; have HB2 := Aside0.mk hb; clear hb))
    go_loopw [3] (fun v wr => ∃ i : Nat, v = .int .i64 i ∧ i ≤ l.length ∧ Aside0 (∀ k, k < i → upAt n l k = true) ∧ Below w2.heap.size w2 wr) (fun v _ => l.length - (intOf v).toNat)
    case atStart => exact ⟨0, rfl, Nat.zero_le _, ⟨fun j hj => absurd hj (Nat.not_lt_zero _)⟩, Below.refl _ _⟩
    case round =>
      obtain ⟨i, rfl, hi, HU, hb⟩ := hrel
      have hc0r := pw_cell_below hb hc0
      have hc1r := pw_cell_below hb hc1
      have HBr := Aside0.mk (HB2.out.trans (hb.mono HB2.out.size))
      have HB3 := Aside0.mk hb
      clear hb hc0 hc1
      by_cases hlt : i < l.length
      · obtain ⟨ad, y, rfl, hcell, HY⟩ := ReadI.get (Kd.C_below HR.out HBr.out) hlt
        have hx0 : ∀ x : Ext wr, x.1.cell? ⟨w.heap.size, 0, none⟩ = some (.int .i64 n) := fun x => Ext.cell hc0r x
        have hx1 : ∀ x : Ext wr, x.1.cell? ⟨w.heap.size, 1, none⟩ = some (Value.slice (some ad) l.length c) := fun x => Ext.cell hc1r x
        have hx2 : ∀ x : Ext wr, x.1.cell? (ad.add i) = some (.int .i64 y) := fun x => Ext.cell hcell x
        clear hcell
        have HSA : Aside0 (∀ w : World, Calls Try.prog 109 #[.int .i64 n] w fun e w' => e = .returned (.int .i64 ((N : Int) - 1)) ∧ Below w.heap.size w w') := ⟨fun w => by rw [HN.out]; exact specAll n hn.2 w⟩
        cases hwi : (decide ((1 : Int) ≤ y) && decide (y ≤ (N : Int) - 1)) with
        | false =>
          have HSI : Aside0 (∀ w : World, Calls Try.prog 108 #[.int .i64 y, .int .i64 1, .int .i64 ((N : Int) - 1)] w fun e w' => e = .returned (.bool false) ∧ Below w.heap.size w w') := ⟨fun w => by rw [← hwi]; exact specIn _ _ _ w⟩
          have HWI := Aside0.mk hwi
          clear hwi
          go_wp2
          refine wp_region_ext (by kernel_rfl) (by kernel_rfl) ?_
          repeat (go_big_quiet_step ((first | (go_at_call 109; exact Calls.ext_of (HSA.out _)) | (go_at_call 108; exact Calls.ext_of (HSI.out _)))))
          refine wpQuiet_nil ?_
          rintro _ ⟨x, rfl⟩
          have hbx := x.2
          go_wp2
          go_ret
          exact ⟨by rw [HA.out, up_false hlt (by unfold upAt; rw [HY.out, ← HN.out, HWI.out]; rfl)]; rfl, by have := HB.out; have := HBr.out; (repeat (first | (with_reducible exact Below.refl _ _) | (with_reducible assumption) | (with_reducible refine below_step ?_ (by assumption)) | (with_reducible apply below_alloc) | (with_reducible apply below_drewN)))⟩
        | true =>
          have HSI : Aside0 (∀ w : World, Calls Try.prog 108 #[.int .i64 y, .int .i64 1, .int .i64 ((N : Int) - 1)] w fun e w' => e = .returned (.bool true) ∧ Below w.heap.size w w') := ⟨fun w => by rw [← hwi]; exact specIn _ _ _ w⟩
          have HWI := Aside0.mk hwi
          clear hwi
          by_cases h0 : i = 0
          · have h0' : decide (0 < i) = false := decide_eq_false (by omega)
            clear h0
            have h0'' : ¬ 0 < i := by simpa using h0'
            have H0 := Aside0.mk h0''
            clear h0''
            go_wp2
            refine wp_region_ext (by kernel_rfl) (by kernel_rfl) ?_
            repeat (go_big_quiet_step ((first | (go_at_call 109; exact Calls.ext_of (HSA.out _)) | (go_at_call 108; exact Calls.ext_of (HSI.out _)))))
            refine wpQuiet_nil ?_
            rintro _ ⟨x, rfl⟩
            have hbx := x.2
            go_wp2
            go_roundw
            case rel =>
              refine ⟨i + 1, by go_num, by omega, ⟨fun k hk => ?_⟩, by have := HB3.out; (repeat (first | (with_reducible exact Below.refl _ _) | (with_reducible assumption) | (with_reducible refine below_step ?_ (by assumption)) | (with_reducible apply below_alloc) | (with_reducible apply below_drewN)))⟩
              rcases Nat.lt_succ_iff_lt_or_eq.1 hk with h | rfl
              · exact HU.out k h
              · unfold upAt; rw [HY.out, ← HN.out, HWI.out, decide_eq_false H0.out]; rfl
            case measure => simp [intOf]; omega
          · have h0' : decide (0 < i) = true := decide_eq_true (by omega)
            have h1i : (0 : Int) ≤ (i : Int) - 1 := by omega
            have h2i : (i : Int) - 1 < l.length := by omega
            have h3i : ((i : Int) - 1).toNat = i - 1 := by omega
            obtain ⟨ad', y', e2, hcell2, HY2⟩ := ReadI.get (Kd.C_below HR.out HBr.out) (i := i - 1) (by omega)
            cases e2
            have hx3 : ∀ x : Ext wr, x.1.cell? (ad.add (i - 1)) = some (.int .i64 y') := fun x => Ext.cell hcell2 x
            clear hcell2
            by_cases hle : y ≤ y'
            · have HLE := Aside0.mk (decide_eq_true hle)
              go_wp2
              refine wp_region_ext (by kernel_rfl) (by kernel_rfl) ?_
              repeat (go_big_quiet_step ((first | (go_at_call 109; exact Calls.ext_of (HSA.out _)) | (go_at_call 108; exact Calls.ext_of (HSI.out _)))))
              refine wpQuiet_nil ?_
              rintro _ ⟨x, rfl⟩
              have hbx := x.2
              go_wp2
              go_ret
              exact ⟨by rw [HA.out, up_false hlt (by unfold upAt; rw [HY.out, HY2.out, ← HN.out, HWI.out, HLE.out, decide_eq_true (by omega)]; rfl)]; rfl, by have := HB.out; have := HBr.out; (repeat (first | (with_reducible exact Below.refl _ _) | (with_reducible assumption) | (with_reducible refine below_step ?_ (by assumption)) | (with_reducible apply below_alloc) | (with_reducible apply below_drewN)))⟩
            · have HLE := Aside0.mk (decide_eq_false hle)
              go_wp2
              refine wp_region_ext (by kernel_rfl) (by kernel_rfl) ?_
              repeat (go_big_quiet_step ((first | (go_at_call 109; exact Calls.ext_of (HSA.out _)) | (go_at_call 108; exact Calls.ext_of (HSI.out _)))))
              refine wpQuiet_nil ?_
              rintro _ ⟨x, rfl⟩
              have hbx := x.2
              go_wp2
              go_roundw
              case rel =>
                refine ⟨i + 1, by go_num, by omega, ⟨fun k hk => ?_⟩, by have := HB3.out; (repeat (first | (with_reducible exact Below.refl _ _) | (with_reducible assumption) | (with_reducible refine below_step ?_ (by assumption)) | (with_reducible apply below_alloc) | (with_reducible apply below_drewN)))⟩
                rcases Nat.lt_succ_iff_lt_or_eq.1 hk with h | rfl
                · exact HU.out k h
                · unfold upAt; rw [HY.out, HY2.out, ← HN.out, HWI.out, HLE.out, Bool.and_false]; rfl
              case measure => simp [intOf]; omega
      · have hu : cxUp n l = true := up_true (fun k hk => HU.out k (by omega))
        have HUU := Aside0.mk hu
        have HBD : Aside0 (∀ x ∈ l, 1 ≤ x ∧ x ≤ 63) := ⟨fun x hx => by have := cxUp_bd hu x hx; have := pw6 hn.2; omega⟩
        clear hu
        go_wp2
        go_loopw [4] (fun v wr2 => ∃ i : Nat, v = .int .i64 i ∧ i ≤ l.length ∧ Aside0 (∀ k, k < i → belowIn l (l.getD k 0) = true) ∧ Below wr.heap.size wr wr2) (fun v _ => l.length - (intOf v).toNat)
        case atStart => exact ⟨0, rfl, Nat.zero_le _, ⟨fun j hj => absurd hj (Nat.not_lt_zero _)⟩, Below.refl _ _⟩
        case round =>
          obtain ⟨i2, rfl, hi2, HI2, hb2⟩ := hrel
          have hc1s := pw_cell_below hb2 hc1r
          have hc0s := pw_cell_below hb2 hc0r
          have HBs := Aside0.mk (HBr.out.trans (hb2.mono HBr.out.size))
          have HBt := Aside0.mk hb2
          clear hb2
          by_cases hlt2 : i2 < l.length
          · obtain ⟨ad, y, rfl, hcell, HY⟩ := ReadI.get (Kd.C_below HR.out HBs.out) hlt2
            have hyb := HBD.out y (mem_at hlt2 HY.out)
            obtain ⟨f, rfl⟩ : ∃ f : Nat, y = f := ⟨y.toNat, by omega⟩
            have hf : f ≤ 63 := by omega
            clear hyb
            go_wp2_with (first | (go_at_call 103; refine (specBelow f hf _).mono ?_; rintro e w3 ⟨v3, rfl, ho, hb⟩; obtain ⟨A3, c3, rfl, hc3, hr3⟩ := ho.read; have hc1u := pw_cell_below hb hc1s; have hc0u := pw_cell_below hb hc0s; have HR3 := Aside0.mk hr3; have HB3a := Aside0.mk hb; have hl3 : (below f).length ≤ 9223372036854775807 := hr3.2.1; clear ho hb hr3))
            go_loopw [6] (fun v wr3 => ∃ j : Nat, v = .int .i64 j ∧ j ≤ (below f).length ∧ Aside0 (∀ k, k < j → decide ((below f).getD k 0 ∈ l) = true) ∧ Below w3.heap.size w3 wr3) (fun v _ => (below f).length - (intOf v).toNat)
            case atStart => exact ⟨0, rfl, Nat.zero_le _, ⟨fun j hj => absurd hj (Nat.not_lt_zero _)⟩, Below.refl _ _⟩
            case round =>
              obtain ⟨j, rfl, hj, HJ, hb5⟩ := hrel
              have hc1v := pw_cell_below hb5 hc1u
              have hc0v := pw_cell_below hb5 hc0u
              have HBv := Aside0.mk (HB3a.out.trans (hb5.mono HB3a.out.size))
              have HBx := Aside0.mk (HBs.out.trans (HBv.out.mono HBs.out.size))
              have HBy := Aside0.mk hb5
              by_cases hlt3 : j < (below f).length
              · obtain ⟨ad3, g, rfl, hcell3, HG⟩ := ReadI.get (Kd.C_below HR3.out hb5) hlt3
                clear hb5 hcell
                have hx0 : ∀ x : Ext wr, x.1.cell? ⟨w.heap.size, 0, none⟩ = some (.int .i64 n) := fun x => Ext.cell hc0v x
                have hx1 : ∀ x : Ext wr, x.1.cell? ⟨w.heap.size, 1, none⟩ = some (Value.slice (some ad) l.length c) := fun x => Ext.cell hc1v x
                have hx2 : ∀ x : Ext wr, x.1.cell? (ad3.add j) = some (.int .i64 g) := fun x => Ext.cell hcell3 x
                clear hcell3
                have hj1 : (0 : Int) ≤ (j : Int) := by omega
                have hj2 : (j : Int) < ((below f).length : Int) := by omega
                cases hg : decide (g ∈ l) with
                | false =>
                  have HSH : Aside0 (∀ x : Ext wr, Calls Try.prog 100 #[cx n (.slice (some ad) l.length c), .int .i64 g] x.1 fun e w' => e = .returned (.bool false) ∧ Below x.1.heap.size x.1 w') := ⟨fun x => by rw [← hg]; exact specHas n _ l g x.1 (HR0.out.below (HBx.out.trans (x.2.mono HBx.out.size)))⟩
                  have HGG := Aside0.mk hg
                  clear hg
                  go_wp2
                  refine wp_region_ext (by kernel_rfl) (by kernel_rfl) ?_
                  repeat (go_big_quiet_step ((first | (go_at_call 100; exact Calls.ext_of (HSH.out _)))))
                  refine wpQuiet_nil ?_
                  rintro _ ⟨x, rfl⟩
                  have hbx := x.2
                  go_wp2
                  go_ret
                  refine ⟨?_, by have := HB.out; have := HBx.out; (repeat (first | (with_reducible exact Below.refl _ _) | (with_reducible assumption) | (with_reducible refine below_step ?_ (by assumption)) | (with_reducible apply below_alloc) | (with_reducible apply below_drewN)))⟩
                  have e1 : belowIn l (f : Int) = false := all_false hlt3 HG.out HGG.out
                  rw [HA.out, HUU.out, all_false hlt2 HY.out e1]; rfl
                | true =>
                  have HSH : Aside0 (∀ x : Ext wr, Calls Try.prog 100 #[cx n (.slice (some ad) l.length c), .int .i64 g] x.1 fun e w' => e = .returned (.bool true) ∧ Below x.1.heap.size x.1 w') := ⟨fun x => by rw [← hg]; exact specHas n _ l g x.1 (HR0.out.below (HBx.out.trans (x.2.mono HBx.out.size)))⟩
                  have HGG := Aside0.mk hg
                  clear hg
                  go_wp2
                  refine wp_region_ext (by kernel_rfl) (by kernel_rfl) ?_
                  repeat (go_big_quiet_step ((first | (go_at_call 100; exact Calls.ext_of (HSH.out _)))))
                  refine wpQuiet_nil ?_
                  rintro _ ⟨x, rfl⟩
                  have hbx := x.2
                  go_wp2
                  go_roundw
                  case rel =>
                    refine ⟨j + 1, by go_num, by omega, ⟨fun k hk => ?_⟩, by have := HBy.out; (repeat (first | (with_reducible exact Below.refl _ _) | (with_reducible assumption) | (with_reducible refine below_step ?_ (by assumption)) | (with_reducible apply below_alloc) | (with_reducible apply below_drewN)))⟩
                    rcases Nat.lt_succ_iff_lt_or_eq.1 hk with h | rfl
                    · exact HJ.out k h
                    · rw [HG.out]; exact HGG.out
                  case measure => simp [intOf]; omega
              · clear hb5 hcell
                have HE : Aside0 (belowIn l (f : Int) = true) := ⟨all_true (l := below f) (fun k hk => HJ.out k (by omega))⟩
                go_wp2
                go_roundw
                case rel =>
                  refine ⟨i2 + 1, by go_num, by omega, ⟨fun k hk => ?_⟩, by have := HBt.out; have := HBv.out; (repeat (first | (with_reducible exact Below.refl _ _) | (with_reducible assumption) | (with_reducible refine below_step ?_ (by assumption)) | (with_reducible apply below_alloc) | (with_reducible apply below_drewN)))⟩
                  rcases Nat.lt_succ_iff_lt_or_eq.1 hk with h | rfl
                  · exact HI2.out k h
                  · rw [HY.out]; exact HE.out
                case measure => simp [intOf]; omega
          · have HE : Aside0 (l.all (belowIn l) = true) := ⟨all_true (fun k hk => HI2.out k (by omega))⟩
            go_wp2
            go_ret
            exact ⟨by rw [HA.out, HUU.out, HE.out]; rfl, by have := HB.out; have := HBs.out; (repeat (first | (with_reducible exact Below.refl _ _) | (with_reducible assumption) | (with_reducible refine below_step ?_ (by assumption)) | (with_reducible apply below_alloc) | (with_reducible apply below_drewN)))⟩
  · have hs : (decide ((1 : Int) ≤ a) && decide (a ≤ 6)) = false := by simp; omega
    have HA : Aside0 (cxOk a l = false) := ⟨by unfold cxOk; rw [hs]; rfl⟩
    clear ha
    go_enter Try.func56, Try.ntmps56
    go_wp2_with (first | (rw [← hw1]; clear hw1; go_at_call 108; refine (specIn _ _ _ _).mono ?_; rintro e w2 ⟨rfl, hb⟩; rw [hs]))
    go_ret
    exact ⟨by rw [HA.out]; rfl, by have := HB.out; (repeat (first | (with_reducible exact Below.refl _ _) | (with_reducible assumption) | (with_reducible refine below_step ?_ (by assumption)) | (with_reducible apply below_alloc) | (with_reducible apply below_drewN)))⟩
end Go.Proofs.Ytcbkchnfjeegmaa.H

namespace Go.Proofs.Ytcbkchnfjeegmaa.H
open Go.RowKit Go.Proofs.YtcbkchnfjeegmaaW.PrintWords Go.Proofs.YtcbkchnfjeegmaaW.PrintLast Go.Proofs.YtcbkchnfjeegmaaW.PrintMore
set_option linter.unusedVariables false
set_option linter.unusedSimpArgs false

/-- a function value of nothing that answers b -/
def ThunkB (w : World) (fv : Value) (b : Bool) : Prop :=
  ∃ g first caps, fv = .func (.func g) first caps ∧ Enters g ∧ ∀ w1, Below w.heap.size w w1 → Calls Try.prog g (first ++ #[] ++ caps) w1 fun e w2 => e = .returned (.bool b) ∧ Below w1.heap.size w1 w2
theorem ThunkB.below {w w' : World} {fv : Value} {b : Bool} (h : ThunkB w fv b) (hb : Below w.heap.size w w') : ThunkB w' fv b := by
  obtain ⟨g, first, caps, rfl, hent, hp⟩ := h
  exact ⟨g, first, caps, rfl, hent, fun w1 h1 => hp w1 (hb.trans (h1.mono hb.size))⟩

theorem always (w : World) : Calls Try.prog 60 #[] w fun e w' => e = .returned (.bool true) ∧ Below w.heap.size w w' := by
  go_enter Try.func60, Try.ntmps60
  go_wp2
  go_ret
  exact ⟨rfl, Below.refl _ _⟩
theorem alwaysB (w : World) : ThunkB w (.func (.func 60) #[] #[]) true :=
  ⟨_, _, _, rfl, Enters.mk' Try.func60 rfl rfl, fun w1 _ => always w1⟩

set_option maxHeartbeats 2000000 in
theorem complexCode2 (a : Int) (ku : Value) (xs : List Int) (fv : Value) (r : Bool) (w : World) (hk : ReadI w ku xs) (hf : cxOk a xs = true → ThunkB w fv r) (hfv : ∃ g first caps, fv = .func (.func g) first caps) :
    Calls Try.prog 59 #[cx a ku, fv] w fun e w' => e = .returned (.int .i64 (if cxOk a xs then (if r then 0 else 2) else 1)) ∧ Below w.heap.size w w' := by
  obtain ⟨w1, hw1⟩ : ∃ w1, w1 = w.alloc (.cells #[.int .i64 a, ku] 28) := ⟨_, rfl⟩
  have hB : Below w.heap.size w w1 := by rw [hw1]; exact Below.alloc (Below.refl _ _) (Nat.le_refl _) _
  have c0 : w1.cell? ⟨w.heap.size, 0, none⟩ = some (.int .i64 a) := by rw [hw1]; simp
  have c1 : w1.cell? ⟨w.heap.size, 1, none⟩ = some ku := by rw [hw1]; simp
  have HK := Aside0.mk (hk.below hB)
  have HB := Aside0.mk hB
  obtain ⟨g, first, caps, rfl⟩ := hfv
  have HF := Aside0.mk (fun h => (hf h).below hB)
  obtain ⟨A1, d1, rfl, -⟩ := id hk
  clear hk hf hB
  cases h1 : cxOk a xs with
  | false =>
    go_enter Try.func59, Try.ntmps59
    go_wp2_with (first | (rw [← hw1]; clear hw1; go_at_call 64; refine (isComplex _ _ xs _ HK.out).mono ?_; rintro e w2 ⟨rfl, hb⟩; rw [h1]))
    go_ret
    exact ⟨rfl, HB.out.trans (hb.mono HB.out.size)⟩
  | true =>
    obtain ⟨g', first', caps', e3, hent, hp⟩ := HF.out h1
    cases e3
    have HP := Aside0.mk hp
    clear hp HF
    unfold Enters at hent
    cases r with
    | false =>
      go_enter Try.func59, Try.ntmps59
      go_wp2_with (first | (rw [← hw1]; clear hw1; go_at_call 64; refine (isComplex _ _ xs _ HK.out).mono ?_; rintro e w2 ⟨rfl, hb⟩; rw [h1]; have HB2 := Aside0.mk hb; clear hb) | (refine (HP.out _ HB2.out).mono ?_; rintro e w3 ⟨rfl, hb⟩))
      go_ret
      exact ⟨rfl, HB.out.trans ((HB2.out.trans (hb.mono HB2.out.size)).mono HB.out.size)⟩
    | true =>
      go_enter Try.func59, Try.ntmps59
      go_wp2_with (first | (rw [← hw1]; clear hw1; go_at_call 64; refine (isComplex _ _ xs _ HK.out).mono ?_; rintro e w2 ⟨rfl, hb⟩; rw [h1]; have HB2 := Aside0.mk hb; clear hb) | (refine (HP.out _ HB2.out).mono ?_; rintro e w3 ⟨rfl, hb⟩))
      go_ret
      exact ⟨rfl, HB.out.trans ((HB2.out.trans (hb.mono HB2.out.size)).mono HB.out.size)⟩

end Go.Proofs.Ytcbkchnfjeegmaa.H

namespace Go.Proofs.Ytcbkchnfjeegmaa.H
open Go.RowKit Go.Proofs.YtcbkchnfjeegmaaW.PrintWords Go.Proofs.YtcbkchnfjeegmaaW.PrintLast Go.Proofs.YtcbkchnfjeegmaaW.PrintMore
set_option linter.unusedVariables false
set_option linter.unusedSimpArgs false

/-- a slice of slices of numbers -/
def ReadS (w : World) (v : Value) (xss : List (List Int)) : Prop := ∃ A c, v = .slice A xss.length c ∧ xss.length ≤ 1000 ∧ ∀ i xs, xss[i]? = some xs → ∃ ad u, A = some ad ∧ w.cell? (ad.add i) = some u ∧ ReadI w u xs
theorem ReadS.below {w w' : World} {v : Value} {xss : List (List Int)} (h : ReadS w v xss) (hb : Below w.heap.size w w') : ReadS w' v xss := by
  obtain ⟨A, c, rfl, hl, hr⟩ := h
  refine ⟨A, c, rfl, hl, fun i xs hi => ?_⟩
  obtain ⟨ad, u, e, hc, hu⟩ := hr i xs hi
  exact ⟨ad, u, e, pw_cell_below hb hc, hu.below hb⟩
theorem ReadS.nil (w : World) : ReadS w (.slice none 0 0) [] := ⟨none, 0, rfl, by simp, fun i xs h => by simp at h⟩

/-- a function value of one slice of numbers that answers a bool, and makes memory at the most -/
def PredS (w : World) (fv : Value) (p : List Int → Bool) (dom : List Int → Prop) : Prop :=
  ∃ g first caps, fv = .func (.func g) first caps ∧ Enters g ∧ ∀ w1 u xs, Below w.heap.size w w1 → ReadI w1 u xs → dom xs → Calls Try.prog g (first ++ #[u] ++ caps) w1 fun e w2 => e = .returned (.bool (p xs)) ∧ Below w1.heap.size w1 w2
theorem PredS.below {w w' : World} {fv : Value} {p : List Int → Bool} {dom : List Int → Prop} (h : PredS w fv p dom) (hb : Below w.heap.size w w') : PredS w' fv p dom := by
  obtain ⟨g, first, caps, rfl, hent, hp⟩ := h
  exact ⟨g, first, caps, rfl, hent, fun w1 u xs h1 hx hd => hp w1 u xs (hb.trans (h1.mono hb.size)) hx hd⟩

theorem idxS_found {p : List Int → Bool} {xss : List (List Int)} {i : Nat} {xs : List Int} (hi : xss[i]? = some xs) (h0 : ∀ (j : Nat) (xs : List Int), j < i → xss[j]? = some xs → p xs = false) (h1 : p xs = true) : idx p xss = i := by
  obtain ⟨hl, e1⟩ := List.getElem?_eq_some_iff.1 hi
  have e : xss.findIdx p = i := by
    rw [List.findIdx_eq hl]
    refine ⟨by rw [e1]; exact h1, fun j hj => h0 j _ hj (List.getElem?_eq_getElem (by omega))⟩
  unfold idx; rw [e, if_pos hl]
theorem idxS_none {p : List Int → Bool} {xss : List (List Int)} (h0 : ∀ (j : Nat) (xs : List Int), xss[j]? = some xs → p xs = false) : idx p xss = -1 := by
  have e : ¬ xss.findIdx p < xss.length := by
    rw [List.findIdx_lt_length]
    rintro ⟨x, hx, hp⟩
    obtain ⟨j, hj, rfl⟩ := List.getElem_of_mem hx
    rw [h0 j _ (List.getElem?_eq_getElem hj)] at hp; cases hp
  unfold idx; rw [if_neg e]

set_option maxHeartbeats 1000000 in
theorem indexFuncS (v : Value) (xss : List (List Int)) (fv : Value) (p : List Int → Bool) (dom : List Int → Prop) (w : World) (hr : ReadS w v xss) (hp : PredS w fv p dom) (hd : ∀ xs ∈ xss, dom xs) :
    Calls Try.prog 201 #[v, fv] w fun e w' => e = .returned (.int .i64 (idx p xss)) ∧ Below w.heap.size w w' := by
  obtain ⟨g, first, caps, rfl, hent, hp⟩ := hp
  obtain ⟨A, c, rfl, hl, hr⟩ := hr
  have HR := Aside0.mk hr
  have HP := Aside0.mk hp
  have HD := Aside0.mk hd
  unfold Enters at hent
  clear hr hp hd
  go_enter Try.func201, Try.ntmps201
  go_wp2
  go_loopw [8] (fun v wr => ∃ i : Nat, v = .int .i64 i ∧ i ≤ xss.length ∧ Aside0 (∀ j xs, j < i → xss[j]? = some xs → p xs = false) ∧ Below w.heap.size w wr) (fun v _ => xss.length - (intOf v).toNat)
  case atStart => exact ⟨0, rfl, Nat.zero_le _, ⟨fun j _ hj => absurd hj (Nat.not_lt_zero _)⟩, Below.refl _ _⟩
  case round =>
    obtain ⟨i, rfl, hi, HN, hb⟩ := hrel
    by_cases hlt : i < xss.length
    · obtain ⟨xs, hxs⟩ : ∃ xs, xss[i]? = some xs := ⟨_, List.getElem?_eq_getElem hlt⟩
      obtain ⟨ad, u, rfl, hcell, hu⟩ := HR.out i xs hxs
      have hcell := pw_cell_below hb hcell
      have HU := Aside0.mk (hu.below hb)
      have HB := Aside0.mk hb
      have HX := Aside0.mk hxs
      have HDX := Aside0.mk (HD.out xs (List.mem_of_getElem? hxs))
      clear hxs hu hb
      cases hpy : p xs with
      | false =>
        go_wp2_with (first | (refine (HP.out _ _ _ HB.out HU.out HDX.out).mono ?_; rintro e w' ⟨rfl, hb2⟩))
        go_roundw
        case rel => exact ⟨i + 1, by go_num, by omega, ⟨fun j xs' hj hx => by
          rcases Nat.lt_succ_iff_lt_or_eq.1 hj with h | rfl
          · exact HN.out j xs' h hx
          · have := HX.out; rw [hx] at this; cases this; exact hpy⟩, HB.out.trans (hb2.mono HB.out.size)⟩
        case measure => simp [intOf]; omega
      | true =>
        go_wp2_with (first | (refine (HP.out _ _ _ HB.out HU.out HDX.out).mono ?_; rintro e w' ⟨rfl, hb2⟩))
        go_ret
        exact ⟨by rw [idxS_found HX.out HN.out hpy]; rfl, HB.out.trans (hb2.mono HB.out.size)⟩
    · go_wp2
      go_ret
      exact ⟨by rw [idxS_none (fun j xs hj => HN.out j xs (by have := (List.getElem?_eq_some_iff.1 hj).1; omega) hj)]; rfl, hb⟩

theorem idxS_any {p : List Int → Bool} {xs : List (List Int)} : decide (0 ≤ idx p xs) = xs.any p := by
  unfold idx
  cases h : xs.any p with
  | true =>
    have : xs.findIdx p < xs.length := by rw [List.findIdx_lt_length]; simpa using h
    rw [if_pos this]; simp
  | false =>
    have : ¬ xs.findIdx p < xs.length := by rw [List.findIdx_lt_length]; simpa using h
    rw [if_neg this]; simp

set_option maxHeartbeats 1000000 in
theorem containsFuncS (v : Value) (xss : List (List Int)) (fv : Value) (p : List Int → Bool) (dom : List Int → Prop) (w : World) (hr : ReadS w v xss) (hp : PredS w fv p dom) (hd : ∀ xs ∈ xss, dom xs) :
    Calls Try.prog 161 #[v, fv] w fun e w' => e = .returned (.bool (xss.any p)) ∧ Below w.heap.size w w' := by
  have HR := Aside0.mk hr
  have HP := Aside0.mk hp
  have HD := Aside0.mk hd
  clear hp hd
  obtain ⟨A, c, rfl, -⟩ := id hr
  clear hr
  go_enter Try.func161, Try.ntmps161
  go_wp2_with (first | (go_at_call 201; refine (indexFuncS _ _ _ _ _ _ HR.out HP.out HD.out).mono ?_; rintro e w' ⟨rfl, hb2⟩))
  go_ret
  exact ⟨by simp [← idxS_any], hb2⟩

theorem areAllS1 (w : World) (b : Nat) (fv : Value) (p : List Int → Bool) (dom : List Int → Prop) (hc : w.cell? ⟨b, 0, none⟩ = some fv) (hp : PredS w fv p dom) :
    PredS w (.func (.func 162) #[] #[.pointer (some ⟨b, 0, none⟩)]) (fun x => !p x) dom := by
  refine ⟨_, _, _, rfl, Enters.mk' Try.func162 rfl rfl, fun w1 u xs hb hx hd => ?_⟩
  obtain ⟨g, first, caps, rfl, hent, hp⟩ := hp
  have hcell : w1.cell? ⟨b, 0, none⟩ = some (.func (.func g) first caps) := pw_cell_below hb hc
  have H := Aside0.mk (hp w1 u xs hb hx hd)
  unfold Enters at hent
  clear hp hb hx hc hd
  show Calls _ _ #[_, _] _ _
  go_enter Try.func162, Try.ntmps162
  go_wp2_with (first | (refine H.out.mono ?_; rintro e w' ⟨rfl, hb2⟩))
  go_ret
  exact ⟨by simp, hb2⟩

set_option maxHeartbeats 1000000 in
theorem areAllS (v : Value) (xss : List (List Int)) (fv : Value) (p : List Int → Bool) (dom : List Int → Prop) (w : World) (hr : ReadS w v xss) (hp : PredS w fv p dom) (hd : ∀ xs ∈ xss, dom xs) :
    Calls Try.prog 105 #[v, fv] w fun e w' => e = .returned (.bool (xss.all p)) ∧ Below w.heap.size w w' := by
  obtain ⟨g, first, caps, rfl, -⟩ := id hp
  have hba : Below w.heap.size w (w.alloc (.cells #[.func (.func g) first caps] 92)) := Below.alloc (Below.refl _ _) (Nat.le_refl _) _
  have HR := Aside0.mk (hr.below hba)
  have HP := Aside0.mk (areAllS1 (w.alloc (.cells #[.func (.func g) first caps] 92)) w.heap.size _ p dom (by simp) (hp.below hba))
  have HD := Aside0.mk hd
  have HB := Aside0.mk hba
  obtain ⟨A, c, rfl, -⟩ := id hr
  clear hr hp hba hd
  go_enter Try.func105, Try.ntmps105
  go_wp2_with (first | (go_at_call 161; refine (containsFuncS _ _ _ _ _ _ HR.out HP.out HD.out).mono ?_; rintro e w' ⟨rfl, hb2⟩))
  go_ret
  exact ⟨by simp [List.all_eq_not_any_not], HB.out.trans (hb2.mono HB.out.size)⟩
end Go.Proofs.Ytcbkchnfjeegmaa.H

namespace Go.Proofs.Ytcbkchnfjeegmaa.H
open Go.RowKit Go.Proofs.YtcbkchnfjeegmaaW.PrintWords Go.Proofs.YtcbkchnfjeegmaaW.PrintLast Go.Proofs.YtcbkchnfjeegmaaW.PrintMore
set_option linter.unusedVariables false
set_option linter.unusedSimpArgs false

theorem wrapU {n : Nat} (h : n < 18446744073709551616) : IntKind.u64.wrap (n : Int) = n := by
  show ((n : Int) % 18446744073709551616) = n
  omega
theorem ofInt_natU {a : Nat} (h : a < 18446744073709551616) : (BitVec.ofInt 64 (a : Int)).toNat = a := by
  rw [BitVec.ofInt_natCast, BitVec.toNat_ofNat]; exact Nat.mod_eq_of_lt h
theorem xor_u64 (a b : Nat) (ha : a < 18446744073709551616) (hb : b < 18446744073709551616) : bits .xor .u64 (a : Int) (b : Int) = ((a ^^^ b : Nat) : Int) := by
  have hx : a ^^^ b < 2 ^ 64 := Nat.xor_lt_two_pow ha hb
  show IntKind.u64.wrap ((BitVec.ofInt 64 (a : Int) ^^^ BitVec.ofInt 64 (b : Int)).toNat : Int) = _
  rw [BitVec.toNat_xor, ofInt_natU ha, ofInt_natU hb, wrapU (by omega)]
theorem and1_u64 (a : Nat) (ha : a < 18446744073709551616) : bits .and .u64 (a : Int) 1 = if a.testBit 0 then 1 else 0 := by
  show IntKind.u64.wrap ((BitVec.ofInt 64 (a : Int) &&& BitVec.ofInt 64 ((1 : Nat) : Int)).toNat : Int) = _
  rw [BitVec.toNat_and, ofInt_natU ha, ofInt_natU (by decide)]
  have h1 : a &&& 1 = a % 2 := Nat.and_one_is_mod a
  rw [h1, wrapU (by omega), Nat.testBit_zero]
  rcases Nat.mod_two_eq_zero_or_one a with h | h <;> rw [h] <;> rfl
theorem shr_bit (m k : Nat) (hm : m < 18446744073709551616) : bits .and .u64 ((m : Int) / 2 ^ k) 1 = if m.testBit k then 1 else 0 := by
  have e : ((m : Int) / 2 ^ k) = ((m / 2 ^ k : Nat) : Int) := by rw [Int.natCast_ediv, Int.natCast_pow]; rfl
  have hlt : m / 2 ^ k ≤ m := Nat.div_le_self _ _
  rw [e, and1_u64 _ (by omega)]
  have h2 : (m / 2 ^ k).testBit 0 = m.testBit k := by rw [Nat.testBit_div_two_pow]; simp
  rw [h2]
set_option maxRecDepth 100000 in
theorem powu : ∀ f, f < 64 → IntKind.u64.wrap ((2 : Int) ^ f) = ((2 ^ f : Nat) : Int) := by decide +kernel

theorem bits_snoc (l : List Int) (x : Int) : bitsI (l ++ [x]) = bitsI l ^^^ 2 ^ x.toNat := by unfold bitsI; rw [List.foldl_append]; rfl
theorem bitsI_lt {l : List Int} (h : ∀ x ∈ l, 0 ≤ x ∧ x ≤ 63) : bitsI l < 18446744073709551616 := bits_lt l h 0 (by decide)

set_option maxRecDepth 100000 in
set_option maxHeartbeats 2000000 in
theorem chainOf (v : Value) (l : List Int) (w : World) (hv : ReadI w v l) (hb : ∀ x ∈ l, 0 ≤ x ∧ x ≤ 63) :
    Calls Try.prog 53 #[v] w fun e w' => e = .returned (.int .u64 (bitsI l : Nat)) ∧ Below w.heap.size w w' := by
  have hlen := hv.len
  obtain ⟨A1, d1, rfl, hcc, hr⟩ := hv
  have HR := Aside0.mk hr
  have HB := Aside0.mk hb
  clear hr hcc hb
  go_enter Try.func53, Try.ntmps53
  go_wp2
  go_loopw [3, 8] (fun s3 s8 wr => ∃ i : Nat, s8 = .int .i64 i ∧ i ≤ l.length ∧ s3 = .int .u64 (bitsI (l.take i) : Nat) ∧ wr = w) (fun _ s8 _ => l.length - (intOf s8).toNat)
  case atStart => exact ⟨0, rfl, Nat.zero_le _, rfl, rfl⟩
  case round =>
    obtain ⟨i, rfl, hi, rfl, rfl⟩ := hrel
    by_cases hlt : i < l.length
    · obtain ⟨ad, y, rfl, hcell, HY⟩ := ReadI.get HR.out hlt
      have hy := HB.out y (mem_at hlt HY.out)
      obtain ⟨p, rfl⟩ : ∃ p : Nat, y = p := ⟨y.toNat, by omega⟩
      have hsh := powu p (by omega)
      have hpp : 2 ^ p < 18446744073709551616 := Nat.pow_lt_pow_right (a := 2) (by decide) (show p < 64 by omega)
      have hS := bitsI_lt (l := l.take i) (fun x hx => HB.out x (List.mem_of_mem_take hx))
      have HT : Aside0 (bitsI (l.take (i + 1)) = bitsI (l.take i) ^^^ 2 ^ p) := ⟨by rw [take_get hlt HY.out, bits_snoc, Int.toNat_natCast]⟩
      obtain ⟨S, hSe⟩ : ∃ S, S = bitsI (l.take i) := ⟨_, rfl⟩
      rw [← hSe] at hS HT ⊢
      obtain ⟨P, hP⟩ : ∃ P, P = 2 ^ p := ⟨_, rfl⟩
      rw [← hP] at hsh hpp HT
      have hxor := xor_u64 S P hS hpp
      clear hSe hP
      go_wp2
      go_roundw
      case rel => exact ⟨i + 1, by go_num, by omega, by rw [HT.out], trivial⟩
      case measure => simp [intOf]; omega
    · have e : i = l.length := by omega
      go_wp2
      go_ret
      exact ⟨by rw [e, List.take_length]; rfl, Below.refl _ _⟩

/-- the bits below k -/
def listB (m k : Nat) : List Int := ((List.range k).filter fun v => m.testBit v).map fun (v : Nat) => (v : Int)
theorem listB_hit {m k : Nat} (h : m.testBit k = true) : listB m (k + 1) = listB m k ++ [(k : Int)] := by
  unfold listB; rw [List.range_succ, List.filter_append, List.map_append]; simp [h]
theorem listB_miss {m k : Nat} (h : m.testBit k = false) : listB m (k + 1) = listB m k := by
  unfold listB; rw [List.range_succ, List.filter_append, List.map_append]; simp [h]
theorem listB_len (m k : Nat) : (listB m k).length ≤ k := by
  unfold listB; rw [List.length_map]; exact Nat.le_trans (List.length_filter_le _ _) (by simp)
theorem listB_mem {m k : Nat} {x : Int} : x ∈ listB m k ↔ ∃ v : Nat, x = v ∧ v < k ∧ m.testBit v = true := by
  unfold listB
  rw [List.mem_map]
  constructor
  · rintro ⟨v, hv, rfl⟩
    rw [List.mem_filter, List.mem_range] at hv
    exact ⟨v, rfl, hv.1, hv.2⟩
  · rintro ⟨v, rfl, h1, h2⟩
    exact ⟨v, List.mem_filter.2 ⟨List.mem_range.2 h1, h2⟩, rfl⟩
theorem listB_asc (m k : Nat) : (listB m k).Pairwise (· < ·) := by
  unfold listB
  rw [List.pairwise_map]
  exact List.Pairwise.sublist List.filter_sublist (List.Pairwise.imp (fun h => by omega) List.pairwise_lt_range)
theorem listB_all {m k : Nat} (hk : k ≤ 64) (h : m < 2 ^ k) : listB m k = listI m := by
  refine asc_ext (listB_asc _ _) (listI_asc _) (fun x => ?_)
  rw [listB_mem, listI_mem]
  constructor
  · rintro ⟨v, rfl, h1, h2⟩; exact ⟨v, rfl, by omega, h2⟩
  · rintro ⟨v, rfl, h1, h2⟩
    refine ⟨v, rfl, ?_, h2⟩
    rcases Nat.lt_or_ge v k with h3 | h3
    · exact h3
    · have := Nat.testBit_lt_two_pow (Nat.lt_of_lt_of_le h (Nat.pow_le_pow_right (by decide) h3))
      rw [this] at h2; cases h2
theorem shr_zero {m k : Nat} : ((m : Int) / 2 ^ k = 0) ↔ m < 2 ^ k := by
  have e : ((m : Int) / 2 ^ k) = ((m / 2 ^ k : Nat) : Int) := by rw [Int.natCast_ediv, Int.natCast_pow]; rfl
  rw [e]
  have hp := Nat.two_pow_pos k
  constructor
  · intro h
    have h0 : m / 2 ^ k = 0 := by omega
    rcases Nat.div_eq_zero_iff.1 h0 with h1 | h1
    · omega
    · exact h1
  · intro h
    rw [Nat.div_eq_of_lt h]; rfl

set_option maxRecDepth 100000 in
set_option maxHeartbeats 2000000 in
theorem chainList (m : Nat) (hm : m < 18446744073709551616) (h0 : m.testBit 0 = false) (w : World) :
    Calls Try.prog 55 #[.int .u64 m] w fun e w' => ∃ u, e = .returned u ∧ OwnI w.heap.size w' u (listI m) ∧ Below w.heap.size w w' := by
  have HZ := Aside0.mk h0
  go_enter Try.func55, Try.ntmps55
  go_wp2
  go_loopw [3, 4] (fun s3 s4 wr => ∃ k : Nat, s4 = .int .i64 k ∧ 1 ≤ k ∧ k ≤ 64 ∧ Aside0 (OwnI w.heap.size wr s3 (listB m k)) ∧ Aside0 (Below w.heap.size w wr)) (fun _ s4 _ => 64 - (intOf s4).toNat)
  case atStart => exact ⟨1, rfl, Nat.le_refl _, by decide, ⟨by rw [listB_miss (k := 0) HZ.out]; exact OwnI.nil _ _⟩, ⟨Below.refl _ _⟩⟩
  case round =>
    obtain ⟨k, rfl, hk1, hk, HO, HB⟩ := hrel
    by_cases hlt : m < 2 ^ k
    · have hz : ((m : Int) / 2 ^ k != 0) = false := by simp [shr_zero.2 hlt]
      have HE := Aside0.mk (listB_all hk hlt)
      clear hlt
      go_wp2
      go_ret
      exact ⟨_, rfl, by rw [← HE.out]; exact HO.out, HB.out⟩
    · have hz : ((m : Int) / 2 ^ k != 0) = true := by
        rw [bne_iff_ne]; exact fun h => hlt (shr_zero.1 h)
      have hk64 : k < 64 := by
        rcases Nat.lt_or_ge k 64 with h | h
        · exact h
        · exact absurd (Nat.lt_of_lt_of_le hm (Nat.pow_le_pow_right (n := 2) (by decide) h)) hlt
      have hbit := shr_bit m k hm
      have hll := listB_len m k
      clear hlt
      cases hb : m.testBit k with
      | true =>
        have HT := Aside0.mk (listB_hit hb)
        rw [hb, if_pos rfl] at hbit
        go_wp2_with (first | (at_builtin; refine app_own (w0 := w) w.heap.size rfl (.tmp 16) (.tmp 18) rfl _ (listB m k) k rfl rfl HO.out HB.out HB.out.size ?hl ?_; (case hl => omega); intro v1 w6 ho hb hg hat; have HO1 := Aside0.mk ho; have HB1 := Aside0.mk hb; clear ho hb hg hat))
        go_roundw
        case rel => exact ⟨k + 1, by go_num, by omega, by omega, ⟨by rw [HT.out]; exact HO1.out⟩, HB1⟩
        case measure => simp [intOf]; omega
      | false =>
        have HT := Aside0.mk (listB_miss hb)
        rw [hb, if_neg (by decide)] at hbit
        go_wp2
        go_roundw
        case rel => exact ⟨k + 1, by go_num, by omega, by omega, ⟨by rw [HT.out]; exact HO.out⟩, HB⟩
        case measure => simp [intOf]; omega

theorem bnd_snoc (l : List Int) (x : Int) : bndB (l ++ [x]) = bndB l ^^^ bitsI (below x.toNat) := by unfold bndB; rw [List.foldl_append]; rfl
theorem bndB_lt {l : List Int} (h : ∀ x ∈ l, 0 ≤ x ∧ x ≤ 63) : bndB l < 18446744073709551616 := bnd_lt l h 0 (by decide)

set_option maxRecDepth 100000 in
set_option maxHeartbeats 2000000 in
theorem boundary (m : Nat) (l : List Int) (hl : listI m = l) (hm : m < 18446744073709551616) (hb : ∀ x ∈ l, 1 ≤ x ∧ x ≤ 63) (w : World) :
    Calls Try.prog 54 #[.int .u64 m] w fun e w' => e = .returned (.int .u64 (bndB l : Nat)) ∧ Below w.heap.size w w' := by
  have h0 : m.testBit 0 = false := by
    cases h : m.testBit 0 with
    | false => rfl
    | true =>
      have := hb ((0 : Nat) : Int) (by rw [← hl]; exact listI_mem.2 ⟨0, rfl, by decide, h⟩)
      omega
  have HL := Aside0.mk (chainList m hm h0 w)
  rw [hl] at HL
  have HB := Aside0.mk hb
  clear hb hl h0
  go_enter Try.func54, Try.ntmps54
  go_wp2_with (first | (go_at_call 55; refine HL.out.mono ?_; rintro e w2 ⟨u, rfl, ho, hb⟩; have HBw := Aside0.mk hb; obtain ⟨A1, d1, rfl, hcc, hr⟩ := ho.read; have HR := Aside0.mk hr; have hlen := ho.read.len; clear ho hb hr hcc))
  go_loopw [3, 9] (fun s3 s9 wr => ∃ i : Nat, s9 = .int .i64 i ∧ i ≤ l.length ∧ s3 = .int .u64 (bndB (l.take i) : Nat) ∧ Aside0 (Below w2.heap.size w2 wr)) (fun _ s9 _ => l.length - (intOf s9).toNat)
  case atStart => exact ⟨0, rfl, Nat.zero_le _, rfl, ⟨Below.refl _ _⟩⟩
  case round =>
    obtain ⟨i, rfl, hi, rfl, HBi⟩ := hrel
    by_cases hlt : i < l.length
    · obtain ⟨ad, y, rfl, hcell, HY⟩ := ReadI.get (Kd.C_below HR.out HBi.out) hlt
      have hy := HB.out y (mem_at hlt HY.out)
      obtain ⟨p, rfl⟩ : ∃ p : Nat, y = p := ⟨y.toNat, by omega⟩
      have hS := bndB_lt (l := l.take i) (fun x hx => by have := HB.out x (List.mem_of_mem_take hx); omega)
      have HBD := Aside0.mk (below_bd p (by omega))
      have hP := bitsI_lt HBD.out
      have HT : Aside0 (bndB (l.take (i + 1)) = bndB (l.take i) ^^^ bitsI (below p)) := ⟨by rw [take_get hlt HY.out, bnd_snoc, Int.toNat_natCast]⟩
      obtain ⟨S, hSe⟩ : ∃ S, S = bndB (l.take i) := ⟨_, rfl⟩
      rw [← hSe] at hS HT ⊢
      obtain ⟨P, hPe⟩ : ∃ P, P = bitsI (below p) := ⟨_, rfl⟩
      rw [← hPe] at hP HT
      have HPE := Aside0.mk hPe
      have hxor := xor_u64 S P hS hP
      clear hSe hPe
      go_wp2_with (first | (go_at_call 107; refine (borders p (by omega) _).mono ?_; rintro e w5 ⟨u, rfl, ho, hb5⟩; have HO5 := Aside0.mk ho; obtain ⟨A5, d5, rfl, -⟩ := ho.read; have HB5 := Aside0.mk (HBi.out.trans (hb5.mono HBi.out.size)); clear ho hb5) | (go_at_call 53; refine (chainOf _ (below p) _ HO5.out.read HBD.out).mono ?_; rintro e w6 ⟨rfl, hb6⟩; rw [← HPE.out]; have HB6 := Aside0.mk (HB5.out.trans (hb6.mono HB5.out.size)); clear hb6))
      go_roundw
      case rel => exact ⟨i + 1, by go_num, by omega, by rw [HT.out], HB6⟩
      case measure => simp [intOf]; omega
    · have e : i = l.length := by omega
      go_wp2
      go_ret
      exact ⟨by rw [e, List.take_length]; rfl, HBw.out.trans (HBi.out.mono HBw.out.size)⟩
end Go.Proofs.Ytcbkchnfjeegmaa.H

namespace Go.Proofs.Ytcbkchnfjeegmaa.H
open Go.RowKit Go.Proofs.YtcbkchnfjeegmaaW.PrintWords Go.Proofs.YtcbkchnfjeegmaaW.PrintLast Go.Proofs.YtcbkchnfjeegmaaW.PrintMore
set_option linter.unusedVariables false
set_option linter.unusedSimpArgs false

/-- the number of vertices -/
def ones (f : Nat) : Nat := (vs f).length
theorem ones_step : ∀ g, g < 64 → ones g = g % 2 + ones (g / 2) := by decide +kernel
theorem ones_le : ∀ g, g < 64 → ones g ≤ 6 := by decide +kernel
set_option maxRecDepth 100000 in
set_option maxHeartbeats 1000000 in
theorem specOnes (x : Nat) (hx : x < 64) (w : World) : Calls Try.prog 101 #[.int .i64 x] w fun e w' => e = .returned (.int .i64 (ones x : Nat)) ∧ Below w.heap.size w w' := by
  go_enter Try.func101, Try.ntmps101
  go_wp2
  go_loopw [0, 3] (fun s0 s3 wr => ∃ g k : Nat, s0 = .int .i64 g ∧ g < 64 ∧ s3 = .int .i64 k ∧ k ≤ 6 ∧ k + ones g = ones x ∧ wr = w) (fun s0 _ _ => (intOf s0).toNat)
  case atStart => exact ⟨x, 0, rfl, hx, rfl, by decide, by omega, rfl⟩
  case round =>
    obtain ⟨g, k, rfl, hg, rfl, hk, he, rfl⟩ := hrel
    have hox := ones_le x hx
    by_cases h0 : 0 < g
    · have hst := ones_step g hg
      have h0I : (0 : Int) < (g : Int) := by omega
      have hr1 : Int.tmod (g : Int) 2 = ((g % 2 : Nat) : Int) := by rw [Int.tmod_eq_emod_of_nonneg (by omega)]; omega
      have hq1 : Int.tdiv (g : Int) 2 = ((g / 2 : Nat) : Int) := by rw [Int.tdiv_eq_ediv_of_nonneg (by omega)]; omega
      have hr2 : (g : Int) % 2 = ((g % 2 : Nat) : Int) := by omega
      have hq2 : (g : Int) / 2 = ((g / 2 : Nat) : Int) := by omega
      obtain ⟨r, hr⟩ : ∃ r, r = g % 2 := ⟨_, rfl⟩
      obtain ⟨q, hq⟩ : ∃ q, q = g / 2 := ⟨_, rfl⟩
      have hqg : q < g := by omega
      have hr6 : r ≤ 1 := by omega
      rw [← hr] at hst hr1 hr2
      rw [← hq] at hst hq1 hq2
      clear hr hq
      go_wp2
      go_roundw
      case rel => exact ⟨q, k + r, by first | rfl | (simp [hq1, hq2]) | (simp; omega), by omega, by first | rfl | (simp [hr1, hr2]) | (simp; omega), by omega, by omega, trivial⟩
      case measure => simp [intOf] <;> omega
    · obtain rfl : g = 0 := by omega
      go_wp2
      go_ret
      have h00 : ones 0 = 0 := by decide
      exact ⟨by rw [← he, h00]; simp, Below.refl _ _⟩

end Go.Proofs.Ytcbkchnfjeegmaa.H

namespace Go.Proofs.Ytcbkchnfjeegmaa.H
open Go.RowKit Go.Proofs.YtcbkchnfjeegmaaW.PrintWords Go.Proofs.YtcbkchnfjeegmaaW.PrintLast Go.Proofs.YtcbkchnfjeegmaaW.PrintMore
set_option linter.unusedVariables false
set_option linter.unusedSimpArgs false

/-- the i-th face is as it has to be -/
def chAt (xs l : List Int) (i : Nat) : Bool := decide (l.getD i 0 ∈ xs) && (((ones (l.getD i 0).toNat : Nat) : Int) == ((ones (l.getD 0 0).toNat : Nat) : Int)) && (decide (i = 0) || decide (l.getD (i - 1) 0 < l.getD i 0))
/-- these make a chain -/
def chOk (xs l : List Int) : Bool := (List.range l.length).all (chAt xs l)
/-- the code for chains -/
def codeChn (a : Int) (xs l : List Int) : Int := if cxOk a xs then (if chOk xs l then 0 else 2) else 1
/-- what IsCycle answers -/
def ansIsCycle (a : Int) (xs l : List Int) : Bool × Int := if codeChn a xs l = 0 then (decide (bndB l = 0), 0) else (false, codeChn a xs l)

set_option maxRecDepth 100000 in
set_option maxHeartbeats 8000000 in
theorem onesC (x : Nat) (h2 : x < 64) (w : World) : Calls Try.prog 202 #[.int .u64 x] w fun e w' => e = .returned (.int .i64 (ones x : Nat)) ∧ Below w.heap.size w w' := by
  rcases (by omega : x = 0 ∨ x = 1 ∨ x = 2 ∨ x = 3 ∨ x = 4 ∨ x = 5 ∨ x = 6 ∨ x = 7 ∨ x = 8 ∨ x = 9 ∨ x = 10 ∨ x = 11 ∨ x = 12 ∨ x = 13 ∨ x = 14 ∨ x = 15 ∨ x = 16 ∨ x = 17 ∨ x = 18 ∨ x = 19 ∨ x = 20 ∨ x = 21 ∨ x = 22 ∨ x = 23 ∨ x = 24 ∨ x = 25 ∨ x = 26 ∨ x = 27 ∨ x = 28 ∨ x = 29 ∨ x = 30 ∨ x = 31 ∨ x = 32 ∨ x = 33 ∨ x = 34 ∨ x = 35 ∨ x = 36 ∨ x = 37 ∨ x = 38 ∨ x = 39 ∨ x = 40 ∨ x = 41 ∨ x = 42 ∨ x = 43 ∨ x = 44 ∨ x = 45 ∨ x = 46 ∨ x = 47 ∨ x = 48 ∨ x = 49 ∨ x = 50 ∨ x = 51 ∨ x = 52 ∨ x = 53 ∨ x = 54 ∨ x = 55 ∨ x = 56 ∨ x = 57 ∨ x = 58 ∨ x = 59 ∨ x = 60 ∨ x = 61 ∨ x = 62 ∨ x = 63) with rfl | rfl | rfl | rfl | rfl | rfl | rfl | rfl | rfl | rfl | rfl | rfl | rfl | rfl | rfl | rfl | rfl | rfl | rfl | rfl | rfl | rfl | rfl | rfl | rfl | rfl | rfl | rfl | rfl | rfl | rfl | rfl | rfl | rfl | rfl | rfl | rfl | rfl | rfl | rfl | rfl | rfl | rfl | rfl | rfl | rfl | rfl | rfl | rfl | rfl | rfl | rfl | rfl | rfl | rfl | rfl | rfl | rfl | rfl | rfl | rfl | rfl | rfl | rfl
  all_goals
    go_enter Try.func202, Try.ntmps202
    go_wp2
    go_ret
    exact ⟨by kernel_rfl, by (repeat (first | (with_reducible exact Below.refl _ _) | (with_reducible assumption) | (with_reducible refine below_step ?_ (by assumption)) | (with_reducible apply below_alloc) | (with_reducible apply below_drewN)))⟩
theorem size (x : Nat) (h2 : x < 64) (w : World) : Calls Try.prog 163 #[.int .i64 x] w fun e w' => e = .returned (.int .i64 (ones x : Nat)) ∧ Below w.heap.size w w' := by
  have hw : IntKind.u64.wrap (x : Int) = x := wrapU (by omega)
  have HX := Aside0.mk (onesC x h2)
  go_enter Try.func163, Try.ntmps163
  go_wp2_with (first | (go_at_call 202; refine (HX.out _).mono ?_; rintro e w2 ⟨rfl, hb⟩))
  go_ret
  exact ⟨rfl, hb⟩
theorem chOk_at {xs l : List Int} {i : Nat} (h : chOk xs l = true) (hi : i < l.length) : chAt xs l i = true := List.all_eq_true.1 h i (List.mem_range.2 hi)
theorem chOk_false {xs l : List Int} {i : Nat} (hi : i < l.length) (h : chAt xs l i = false) : chOk xs l = false := List.all_eq_false.2 ⟨i, List.mem_range.2 hi, by rw [h]; decide⟩
theorem chOk_true {xs l : List Int} (h : ∀ i, i < l.length → chAt xs l i = true) : chOk xs l = true := List.all_eq_true.2 (fun i hi => h i (List.mem_range.1 hi))
theorem chAt_mem {xs l : List Int} {i : Nat} (h : chAt xs l i = true) : l.getD i 0 ∈ xs := by
  unfold chAt at h
  simp only [Bool.and_eq_true, decide_eq_true_eq] at h
  exact h.1.1

set_option maxRecDepth 100000 in
set_option maxHeartbeats 4000000 in
theorem isChain (n : Nat) (ku : Value) (xs : List Int) (v : Value) (l : List Int) (w : World) (hk : ReadI w ku xs) (hv : ReadI w v l) (hc : Cx n xs) :
    Calls Try.prog 106 #[cx n ku, v] w fun e w' => e = .returned (.bool (chOk xs l)) ∧ Below w.heap.size w w' := by
  obtain ⟨w1, hw1⟩ : ∃ w1, w1 = w.alloc (.cells #[.int .i64 n, ku] 28) := ⟨_, rfl⟩
  have hB : Below w.heap.size w w1 := by rw [hw1]; exact Below.alloc (Below.refl _ _) (Nat.le_refl _) _
  have c0 : w1.cell? ⟨w.heap.size, 0, none⟩ = some (.int .i64 n) := by rw [hw1]; simp
  have c1 : w1.cell? ⟨w.heap.size, 1, none⟩ = some ku := by rw [hw1]; simp
  have HB := Aside0.mk hB
  have HK := Aside0.mk (hk.below hB)
  have l2 := hv.len
  have HN := Aside0.mk hc
  obtain ⟨A1, d1, rfl, -⟩ := id hk
  obtain ⟨A2, d2, rfl, hcv, hrv⟩ := hv.below hB
  have HR := Aside0.mk hrv
  clear hk hv hB hcv hrv hc
  go_enter Try.func106, Try.ntmps106
  go_wp2
  rw [← hw1]
  clear hw1
  go_loopw [9] (fun s wr => ∃ i : Nat, s = .int .i64 i ∧ i ≤ l.length ∧ Aside0 (∀ t, t < i → chAt xs l t = true) ∧ Aside0 (Below w1.heap.size w1 wr)) (fun s _ => l.length - (intOf s).toNat)
  case atStart => exact ⟨0, rfl, Nat.zero_le _, ⟨fun t h => absurd h (Nat.not_lt_zero _)⟩, ⟨Below.refl _ _⟩⟩
  case round =>
    obtain ⟨i, rfl, hi, HI, HBw⟩ := hrel
    have c0 := pw_cell_below HBw.out c0
    have c1 := pw_cell_below HBw.out c1
    by_cases hlt : i < l.length
    · obtain ⟨ad, y, rfl, hcell, HY⟩ := ReadI.get (Kd.C_below HR.out HBw.out) hlt
      have x0 : ∀ x : Ext wr, x.1.cell? ⟨w.heap.size, 0, none⟩ = some (.int .i64 n) := fun x => Ext.cell c0 x
      have x1 : ∀ x : Ext wr, x.1.cell? ⟨w.heap.size, 1, none⟩ = some (.slice A1 xs.length d1) := fun x => Ext.cell c1 x
      obtain ⟨b, hbm⟩ : ∃ b, b = decide (y ∈ xs) := ⟨_, rfl⟩
      have HH : Aside0 (∀ x : Ext wr, Calls Try.prog 119 #[cx n (.slice A1 xs.length d1), .int .i64 y] x.1 fun e w' => e = .returned (.bool b) ∧ Below x.1.heap.size x.1 w') := ⟨fun x => by rw [hbm]; exact has n _ xs y x.1 ((HK.out.below HBw.out).below x.2) HN.out.asc (by have := HN.out.len; omega)⟩
      cases b with
      | false =>
        have HA : Aside0 (chOk xs l = false) := ⟨chOk_false hlt (by unfold chAt; rw [HY.out, ← hbm]; rfl)⟩
        clear hbm
        go_wp2
        refine wp_region_ext (by kernel_rfl) (by kernel_rfl) ?_
        repeat (go_big_quiet_step ((first | (go_at_call 119; exact Calls.ext_of (HH.out _)))))
        refine wpQuiet_nil ?_
        rintro _ ⟨x, rfl⟩
        have hbx := x.2
        go_wp2
        go_ret
        exact ⟨by rw [HA.out]; rfl, HB.out.trans ((HBw.out.trans (hbx.mono HBw.out.size)).mono HB.out.size)⟩
      | true =>
        have hym : y ∈ xs := of_decide_eq_true hbm.symm
        obtain ⟨z, rfl, hz1, hz2⟩ := HN.out.nat hym
        have h0lt : 0 < l.length := by omega
        obtain ⟨ad', y0, e0, hcell0, HY0⟩ := ReadI.get (Kd.C_below HR.out HBw.out) h0lt
        cases e0
        obtain ⟨z0, rfl, hz01, hz02⟩ : ∃ z0 : Nat, y0 = z0 ∧ 1 ≤ z0 ∧ z0 ≤ 63 := by
          have hm0 : y0 ∈ xs := by
            by_cases h : i = 0
            · subst h; rw [← HY0.out, HY.out]; exact hym
            · have := chAt_mem (HI.out 0 (by omega)); rw [HY0.out] at this; exact this
          exact HN.out.nat hm0
        rw [show ad.add 0 = ad by cases ad; rfl] at hcell0
        have x2 : ∀ x : Ext wr, x.1.cell? ad = some (.int .i64 z0) := fun x => Ext.cell hcell0 x
        obtain ⟨s1, hs1⟩ : ∃ s, s = ones z := ⟨_, rfl⟩
        obtain ⟨s0, hs0⟩ : ∃ s, s = ones z0 := ⟨_, rfl⟩
        have HS1 : Aside0 (∀ x : Ext wr, Calls Try.prog 163 #[.int .i64 z] x.1 fun e w' => e = .returned (.int .i64 (s1 : Nat)) ∧ Below x.1.heap.size x.1 w') := ⟨fun x => by rw [hs1]; exact size z (by omega) x.1⟩
        have HS0 : Aside0 (∀ x : Ext wr, Calls Try.prog 163 #[.int .i64 z0] x.1 fun e w' => e = .returned (.int .i64 (s0 : Nat)) ∧ Below x.1.heap.size x.1 w') := ⟨fun x => by rw [hs0]; exact size z0 (by omega) x.1⟩
        have HC : Aside0 (chAt xs l i = ((((s1 : Nat) : Int) == ((s0 : Nat) : Int)) && (decide (i = 0) || decide (l.getD (i - 1) 0 < (z : Int))))) := ⟨by unfold chAt; rw [HY.out, HY0.out, ← hbm, Bool.true_and, Int.toNat_natCast, Int.toNat_natCast, ← hs1, ← hs0]⟩
        clear hbm hym hs1 hs0 hcell0
        by_cases hss : s1 = s0
        · have hse : (((s1 : Nat) : Int) != ((s0 : Nat) : Int)) = false := by simp [hss]
          have hsb : (((s1 : Nat) : Int) == ((s0 : Nat) : Int)) = true := by simp [hss]
          rw [hsb, Bool.true_and] at HC
          clear hss hsb
          by_cases h0 : i = 0
          · have HA : Aside0 (∀ t, t < i + 1 → chAt xs l t = true) := ⟨fun t ht => by
              rcases Nat.lt_succ_iff_lt_or_eq.1 ht with h | h
              · exact HI.out t h
              · rw [h, HC.out, decide_eq_true h0]; rfl⟩
            have h0' : decide (0 < i) = false := decide_eq_false (by omega)
            clear h0
            go_wp2
            refine wp_region_ext (by kernel_rfl) (by kernel_rfl) ?_
            repeat (go_big_quiet_step ((first | (go_at_call 119; exact Calls.ext_of (HH.out _)) | (go_at_call 163; with_reducible exact Calls.ext_of (HS1.out _)) | (go_at_call 163; with_reducible exact Calls.ext_of (HS0.out _)))))
            refine wpQuiet_nil ?_
            rintro _ ⟨x, rfl⟩
            have hbx := x.2
            go_wp2
            go_roundw
            case rel => exact ⟨i + 1, by go_num, by omega, HA, ⟨HBw.out.trans (hbx.mono HBw.out.size)⟩⟩
            case measure => simp [intOf]; omega
          · have h0' : decide (0 < i) = true := decide_eq_true (by omega)
            have h1i : (0 : Int) ≤ (i : Int) - 1 := by omega
            have h2i : (i : Int) - 1 < l.length := by omega
            have h3i : ((i : Int) - 1).toNat = i - 1 := by omega
            obtain ⟨ad'', y', e2, hcell2, HY2⟩ := ReadI.get (Kd.C_below HR.out HBw.out) (i := i - 1) (by omega)
            cases e2
            have hx3 : ∀ x : Ext wr, x.1.cell? (ad.add (i - 1)) = some (.int .i64 y') := fun x => Ext.cell hcell2 x
            clear hcell2
            rw [HY2.out, decide_eq_false h0, Bool.false_or] at HC
            clear h0
            by_cases hle : (z : Int) ≤ y'
            · have hled : decide ((z : Int) ≤ y') = true := decide_eq_true hle
              have HA : Aside0 (chOk xs l = false) := ⟨chOk_false hlt (by rw [HC.out]; exact decide_eq_false (by omega))⟩
              go_wp2
              refine wp_region_ext (by kernel_rfl) (by kernel_rfl) ?_
              repeat (go_big_quiet_step ((first | (go_at_call 119; exact Calls.ext_of (HH.out _)) | (go_at_call 163; with_reducible exact Calls.ext_of (HS1.out _)) | (go_at_call 163; with_reducible exact Calls.ext_of (HS0.out _)))))
              refine wpQuiet_nil ?_
              rintro _ ⟨x, rfl⟩
              have hbx := x.2
              go_wp2
              go_ret
              exact ⟨by rw [HA.out]; rfl, HB.out.trans ((HBw.out.trans (hbx.mono HBw.out.size)).mono HB.out.size)⟩
            · have hled : decide ((z : Int) ≤ y') = false := decide_eq_false hle
              have HA : Aside0 (∀ t, t < i + 1 → chAt xs l t = true) := ⟨fun t ht => by
                rcases Nat.lt_succ_iff_lt_or_eq.1 ht with h | h
                · exact HI.out t h
                · rw [h, HC.out]; exact decide_eq_true (by omega)⟩
              go_wp2
              refine wp_region_ext (by kernel_rfl) (by kernel_rfl) ?_
              repeat (go_big_quiet_step ((first | (go_at_call 119; exact Calls.ext_of (HH.out _)) | (go_at_call 163; with_reducible exact Calls.ext_of (HS1.out _)) | (go_at_call 163; with_reducible exact Calls.ext_of (HS0.out _)))))
              refine wpQuiet_nil ?_
              rintro _ ⟨x, rfl⟩
              have hbx := x.2
              go_wp2
              go_roundw
              case rel => exact ⟨i + 1, by go_num, by omega, HA, ⟨HBw.out.trans (hbx.mono HBw.out.size)⟩⟩
              case measure => simp [intOf]; omega
        · have hse : (((s1 : Nat) : Int) != ((s0 : Nat) : Int)) = true := by simp; omega
          have HA : Aside0 (chOk xs l = false) := ⟨chOk_false hlt (by rw [HC.out, show (((s1 : Nat) : Int) == ((s0 : Nat) : Int)) = false by simp; omega]; rfl)⟩
          clear hss
          go_wp2
          refine wp_region_ext (by kernel_rfl) (by kernel_rfl) ?_
          repeat (go_big_quiet_step ((first | (go_at_call 119; exact Calls.ext_of (HH.out _)) | (go_at_call 163; with_reducible exact Calls.ext_of (HS1.out _)) | (go_at_call 163; with_reducible exact Calls.ext_of (HS0.out _)))))
          refine wpQuiet_nil ?_
          rintro _ ⟨x, rfl⟩
          have hbx := x.2
          go_wp2
          go_ret
          exact ⟨by rw [HA.out]; rfl, HB.out.trans ((HBw.out.trans (hbx.mono HBw.out.size)).mono HB.out.size)⟩
    · have HA := Aside0.mk (chOk_true (xs := xs) (fun t ht => HI.out t (by omega)))
      go_wp2
      go_ret
      exact ⟨by rw [HA.out]; rfl, HB.out.trans (HBw.out.mono HB.out.size)⟩
end Go.Proofs.Ytcbkchnfjeegmaa.H
