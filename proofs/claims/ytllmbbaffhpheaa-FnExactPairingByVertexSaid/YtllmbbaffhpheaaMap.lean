/- Maps between complexes: isMap, mapCode, IsMap. -/
import Derived.Test.YtllmbbaffhpheaaCxS
namespace Go.Proofs.Ytllmbbaffhpheaa.H
open Go.RowKit Go.Proofs.YtllmbbaffhpheaaW.PrintWords Go.Proofs.YtllmbbaffhpheaaW.PrintLast Go.Proofs.YtllmbbaffhpheaaW.PrintMore
set_option linter.unusedVariables false
set_option linter.unusedSimpArgs false

def inMap (m : Nat) (v : Int) : Bool := decide (0 ≤ v) && decide (v ≤ (m : Int) - 1)
/-- a map of n vertices to m -/
def mapOk (n m : Nat) (f : List Int) : Bool := decide (f.length = n) && f.all (inMap m)

set_option maxHeartbeats 1000000 in
theorem isMap1 (w : World) (b : Nat) (m : Nat) (hm : m ≤ 6) (hc : w.cell? ⟨b, 0, none⟩ = some (.int .i64 m)) :
    PredI w (.func (.func 113) #[] #[.pointer (some ⟨b, 0, none⟩)]) (inMap m) (fun _ => True) := by
  refine ⟨_, _, _, rfl, Enters.mk' Try.func113 rfl rfl, fun w1 x hb hx => ?_⟩
  have hcell : w1.cell? ⟨b, 0, none⟩ = some (.int .i64 m) := pw_cell_below hb hc
  clear hb hc
  show Calls _ _ #[_, _] _ _
  go_enter Try.func113, Try.ntmps113
  go_wp2_with (first | (go_at_call 71; refine (within _ _ _ _).mono ?_; rintro e w' ⟨rfl, hb⟩))
  go_ret
  exact ⟨rfl, by (repeat (first | (with_reducible exact Below.refl _ _) | (with_reducible assumption) | (with_reducible refine below_step ?_ (by assumption)) | (with_reducible apply below_alloc) | (with_reducible apply below_drewN)))⟩

set_option maxHeartbeats 1000000 in
theorem isMap (n m : Nat) (hn : n ≤ 6) (hm : m ≤ 6) (ku lu v : Value) (f : List Int) (w : World) (hr : ReadI w v f) :
    Calls Try.prog 62 #[cx n ku, cx m lu, v] w fun e w' => e = .returned (.bool (mapOk n m f)) ∧ Below w.heap.size w w' := by
  obtain ⟨w1, hw1⟩ : ∃ w1, w1 = (w.alloc (.cells #[.int .i64 n, ku] 28)).alloc (.cells #[.int .i64 m, lu] 28) := ⟨_, rfl⟩
  have hB : Below w.heap.size w w1 := by rw [hw1]; exact ((Below.refl _ w).alloc (Nat.le_refl _) _).alloc (by simp) _
  have hc0 : w1.cell? ⟨w.heap.size, 0, none⟩ = some (.int .i64 n) := by rw [hw1]; simp
  have hc1 : w1.cell? ⟨w.heap.size + 1, 0, none⟩ = some (.int .i64 m) := by rw [hw1]; simp
  have HV := Aside0.mk (hr.below hB)
  have HP := Aside0.mk (isMap1 w1 (w.heap.size + 1) m hm hc1)
  have HB := Aside0.mk hB
  obtain ⟨A, c, rfl, -⟩ := id hr
  clear hr hB
  have hx0 : ∀ x : Ext w1, x.1.cell? ⟨w.heap.size, 0, none⟩ = some (.int .i64 n) := fun x => Ext.cell hc0 x
  clear hc0 hc1
  cases hl : decide (f.length = n) with
  | false =>
    have hl1 : ((f.length : Int) == (n : Int)) = false := by simp at hl ⊢; omega
    have HL := Aside0.mk hl
    clear hl
    go_enter Try.func62, Try.ntmps62
    go_wp2
    rw [← hw1]
    clear hw1
    refine wp_region_ext (by kernel_rfl) (by kernel_rfl) ?_
    repeat (go_big_quiet_step ((first | (go_at_call 112; exact Calls.ext_of (length_any _ _ _ _)))))
    refine wpQuiet_nil ?_
    rintro _ ⟨x, rfl⟩
    have hbx := x.2
    go_wp2
    go_ret
    exact ⟨by unfold mapOk; rw [HL.out]; rfl, by have := HB.out; (repeat (first | (with_reducible exact Below.refl _ _) | (with_reducible assumption) | (with_reducible refine below_step ?_ (by assumption)) | (with_reducible apply below_alloc) | (with_reducible apply below_drewN)))⟩
  | true =>
    have hl1 : ((f.length : Int) == (n : Int)) = true := by simp at hl ⊢; omega
    have HL := Aside0.mk hl
    clear hl
    go_enter Try.func62, Try.ntmps62
    go_wp2
    rw [← hw1]
    clear hw1
    refine wp_region_ext (by kernel_rfl) (by kernel_rfl) ?_
    repeat (go_big_quiet_step ((first | (go_at_call 112; exact Calls.ext_of (length_any _ _ _ _)) | (go_at_call 57; exact Calls.ext_of (areAll _ _ _ (inMap m) (fun _ => True) _ (HV.out.below (Subtype.property _)) (HP.out.below (Subtype.property _)) (fun _ _ => trivial))))))
    refine wpQuiet_nil ?_
    rintro _ ⟨x, rfl⟩
    have hbx := x.2
    go_wp2
    go_ret
    exact ⟨by unfold mapOk; rw [HL.out]; rfl, by have := HB.out; (repeat (first | (with_reducible exact Below.refl _ _) | (with_reducible assumption) | (with_reducible refine below_step ?_ (by assumption)) | (with_reducible apply below_alloc) | (with_reducible apply below_drewN)))⟩

set_option maxHeartbeats 2000000 in
theorem specMap (n m : Nat) (hn : n ≤ 6) (hm : m ≤ 6) (ku lu v : Value) (f : List Int) (w : World) (hr : ReadI w v f) :
    Calls Try.prog 100 #[cx n ku, cx m lu, v] w fun e w' => e = .returned (.bool (mapOk n m f)) ∧ Below w.heap.size w w' := by
  obtain ⟨w1, hw1⟩ : ∃ w1, w1 = (w.alloc (.cells #[.int .i64 n, ku] 28)).alloc (.cells #[.int .i64 m, lu] 28) := ⟨_, rfl⟩
  have hB : Below w.heap.size w w1 := by rw [hw1]; exact ((Below.refl _ w).alloc (Nat.le_refl _) _).alloc (by simp) _
  have hc0 : w1.cell? ⟨w.heap.size, 0, none⟩ = some (.int .i64 n) := by rw [hw1]; simp
  have hc1 : w1.cell? ⟨w.heap.size + 1, 0, none⟩ = some (.int .i64 m) := by rw [hw1]; simp
  have hr1 := hr.below hB
  have HB := Aside0.mk hB
  obtain ⟨A, c, rfl, hc, hr2⟩ := hr1
  have HR := Aside0.mk hr2
  have hlen := hr2.2.1
  clear hr hr2 hB
  go_enter Try.func100, Try.ntmps100
  go_wp2
  rw [← hw1]
  clear hw1
  go_loopw [7] (fun v wr => ∃ i : Nat, v = .int .i64 i ∧ i ≤ f.length ∧ Aside0 (∀ k, k < i → inMap m (f.getD k 0) = true) ∧ Below w1.heap.size w1 wr) (fun v _ => f.length - (intOf v).toNat)
  case atStart => exact ⟨0, rfl, Nat.zero_le _, ⟨fun j hj => absurd hj (Nat.not_lt_zero _)⟩, Below.refl _ _⟩
  case round =>
    obtain ⟨i, rfl, hi, HU, hb⟩ := hrel
    have hc0r := pw_cell_below hb hc0
    have hc1r := pw_cell_below hb hc1
    have HBr := Aside0.mk hb
    by_cases hlt : i < f.length
    · obtain ⟨ad, y, rfl, hcell, HY⟩ := ReadI.get (Kd.C_below HR.out hb) hlt
      clear hb
      have hx1 : ∀ x : Ext wr, x.1.cell? ⟨w.heap.size + 1, 0, none⟩ = some (.int .i64 m) := fun x => Ext.cell hc1r x
      have hx2 : ∀ x : Ext wr, x.1.cell? (ad.add i) = some (.int .i64 y) := fun x => Ext.cell hcell x
      clear hcell
      have hj1 : (0 : Int) ≤ (i : Int) := by omega
      have hj2 : (i : Int) < (f.length : Int) := by omega
      cases hin : inMap m y with
      | false =>
        have HSI : Aside0 (∀ w : World, Calls Try.prog 69 #[.int .i64 y, .int .i64 0, .int .i64 ((m : Int) - 1)] w fun e w' => e = .returned (.bool false) ∧ Below w.heap.size w w') := ⟨fun w => by rw [← hin]; exact specIn _ _ _ w⟩
        have HIN := Aside0.mk hin
        clear hin
        go_wp2
        refine wp_region_ext (by kernel_rfl) (by kernel_rfl) ?_
        repeat (go_big_quiet_step ((first | (go_at_call 69; exact Calls.ext_of (HSI.out _)))))
        refine wpQuiet_nil ?_
        rintro _ ⟨x, rfl⟩
        have hbx := x.2
        go_wp2
        go_ret
        refine ⟨?_, by have := HB.out; have := HBr.out; (repeat (first | (with_reducible exact Below.refl _ _) | (with_reducible assumption) | (with_reducible refine below_step ?_ (by assumption)) | (with_reducible apply below_alloc) | (with_reducible apply below_drewN)))⟩
        unfold mapOk
        rw [all_false hlt HY.out HIN.out, Bool.and_false]; rfl
      | true =>
        have HSI : Aside0 (∀ w : World, Calls Try.prog 69 #[.int .i64 y, .int .i64 0, .int .i64 ((m : Int) - 1)] w fun e w' => e = .returned (.bool true) ∧ Below w.heap.size w w') := ⟨fun w => by rw [← hin]; exact specIn _ _ _ w⟩
        have HIN := Aside0.mk hin
        clear hin
        go_wp2
        refine wp_region_ext (by kernel_rfl) (by kernel_rfl) ?_
        repeat (go_big_quiet_step ((first | (go_at_call 69; exact Calls.ext_of (HSI.out _)))))
        refine wpQuiet_nil ?_
        rintro _ ⟨x, rfl⟩
        have hbx := x.2
        go_wp2
        go_roundw
        case rel =>
          refine ⟨i + 1, by go_num, by omega, ⟨fun k hk => ?_⟩, by have := HBr.out; (repeat (first | (with_reducible exact Below.refl _ _) | (with_reducible assumption) | (with_reducible refine below_step ?_ (by assumption)) | (with_reducible apply below_alloc) | (with_reducible apply below_drewN)))⟩
          rcases Nat.lt_succ_iff_lt_or_eq.1 hk with h | rfl
          · exact HU.out k h
          · rw [HY.out]; exact HIN.out
        case measure => simp [intOf]; omega
    · have HE : Aside0 (f.all (inMap m) = true) := ⟨all_true (fun k hk => HU.out k (by omega))⟩
      clear hb
      go_wp2
      go_ret
      refine ⟨?_, by have := HB.out; have := HBr.out; (repeat (first | (with_reducible exact Below.refl _ _) | (with_reducible assumption) | (with_reducible refine below_step ?_ (by assumption)) | (with_reducible apply below_alloc) | (with_reducible apply below_drewN)))⟩
      unfold mapOk
      rw [HE.out, Bool.and_true]
      have : ((f.length : Int) == (n : Int)) = decide (f.length = n) := by
        by_cases h : f.length = n <;> simp [h]; omega
      simp [this]
end Go.Proofs.Ytllmbbaffhpheaa.H
