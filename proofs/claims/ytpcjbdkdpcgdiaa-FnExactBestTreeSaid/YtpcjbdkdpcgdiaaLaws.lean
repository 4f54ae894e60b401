/- The laws' own helpers: copies of slices, equality, marks. -/
import Derived.Test.YtpcjbdkdpcgdiaaLib
namespace Go.Proofs.Ytpcjbdkdpcgdiaa.H
open Go.RowKit Go.Proofs.YtpcjbdkdpcgdiaaW.PrintWords Go.Proofs.YtpcjbdkdpcgdiaaW.PrintLast Go.Proofs.YtpcjbdkdpcgdiaaW.PrintMore
set_option linter.unusedVariables false
set_option linter.unusedSimpArgs false

theorem set_take {xs : List Int} {i : Nat} {y : Int} (h : i < xs.length) (hy : xs.getD i 0 = y) : (xs.take i ++ List.replicate (xs.length - i) (0 : Int)).set i y = xs.take (i + 1) ++ List.replicate (xs.length - (i + 1)) 0 := by
  rw [List.set_append_right _ _ (by simp; omega), take_get h hy]
  have e : xs.length - i = (xs.length - (i + 1)) + 1 := by omega
  rw [e, List.replicate_succ]
  have l : i - (xs.take i).length = 0 := by simp; omega
  rw [l, List.set_cons_zero]
  simp

set_option maxHeartbeats 1000000 in
theorem toInt64S (v : Value) (xs : List Int) (w : World) (hr : ReadI w v xs) (hl : xs.length ≤ 35184372088832) :
    Calls Try.prog 21 #[v] w fun e w' => ∃ u, e = .returned u ∧ OwnI w.heap.size w' u xs ∧ Below w.heap.size w w' := by
  obtain ⟨A, c, rfl, hc, hr⟩ := hr
  have HR := Aside0.mk hr
  have HC := Aside0.mk hc
  clear hr hc
  go_enter Try.func21, Try.ntmps21
  go_wp2_with (first | ((with_reducible refine gate_dst (N := 7) rfl ?_); refine make_own (w0 := w) w.heap.size rfl (N := 7) rfl _ _ rfl xs.length rfl rfl hl (Below.refl _ _) (Nat.le_refl _) ?_; intro v1 w1 ho hb hg hn; have HO := Aside0.mk ho; have HB := Aside0.mk hb; clear ho hb hg hn))
  go_loopw [4] (fun v wr => ∃ i : Nat, v = .int .i64 i ∧ i ≤ xs.length ∧ Aside0 (OwnI w.heap.size wr v1 (xs.take i ++ List.replicate (xs.length - i) 0)) ∧ Aside0 (Below w.heap.size w wr)) (fun v _ => xs.length - (intOf v).toNat)
  case atStart => exact ⟨0, rfl, Nat.zero_le _, by simpa using HO, HB⟩
  case round =>
    obtain ⟨i, rfl, hi, HI, HB2⟩ := hrel
    by_cases hlt : i < xs.length
    · obtain ⟨ad, y, e1, hcell, HY⟩ := ReadI.get (Kd.C_below HR.out HB2.out) hlt
      cases e1
      obtain ⟨g, cap, e2, -⟩ := Kd.R_form HI.out (by simp; omega)
      have el : (xs.take i ++ List.replicate (xs.length - i) (0 : Int)).length = xs.length := by simp; omega
      rw [el] at e2
      subst e2
      obtain ⟨⟨y0, hcell2⟩, hf2⟩ := OwnI.slot HI.out (i := i) (by omega)
      go_wp2_with (first | ((with_reducible refine gate_store (t := 2) (p := 20) rfl ?_); refine store_own (w0 := w) rfl (p := 20) rfl rfl i y HI.out ?ha ?hb ?hc ?_; (case ha => omega); (case hb => rfl); (case hc => rfl); intro w' ho hg hb; have HO2 := Aside0.mk ho; have HB3 := Aside0.mk (HB2.out.trans hb); clear ho hg hb))
      go_roundw
      case rel => exact ⟨i + 1, by go_num, by omega, ⟨by rw [← set_take hlt HY.out]; exact HO2.out⟩, HB3⟩
      case measure => simp [intOf]; omega
    · have e : i = xs.length := by omega
      have HE := Aside0.mk e
      clear e
      go_wp2
      go_ret
      exact ⟨_, rfl, by have := HI.out; rw [HE.out] at this; simpa using this, HB2.out⟩

set_option maxHeartbeats 1000000 in
theorem eqInt64S (v u : Value) (xs ys : List Int) (w : World) (hv : ReadI w v xs) (hu : ReadI w u ys) :
    Calls Try.prog 23 #[v, u] w fun e w' => e = .returned (.bool (xs == ys)) ∧ Below w.heap.size w w' := by
  obtain ⟨A, c, rfl, hc, hr⟩ := hv
  obtain ⟨A', c', rfl, hc', hr'⟩ := hu
  have hlx := hr.2.1
  have HR := Aside0.mk hr
  have HR' := Aside0.mk hr'
  clear hr hc hr' hc'
  by_cases hl : xs.length = ys.length
  · have h1 : ((xs.length : Int) != (ys.length : Int)) = false := by simp [hl]
    have HL := Aside0.mk hl
    clear hl
    go_enter Try.func23, Try.ntmps23
    go_wp2
    go_loopw [5] (fun v wr => ∃ i : Nat, v = .int .i64 i ∧ i ≤ xs.length ∧ Aside0 (xs.take i = ys.take i) ∧ Aside0 (Below w.heap.size w wr)) (fun v _ => xs.length - (intOf v).toNat)
    case atStart => exact ⟨0, rfl, Nat.zero_le _, ⟨rfl⟩, ⟨Below.refl _ _⟩⟩
    case round =>
      obtain ⟨i, rfl, hi, HI, HB2⟩ := hrel
      by_cases hlt : i < xs.length
      · obtain ⟨ad, x, e1, hcell, HX⟩ := ReadI.get (Kd.C_below HR.out HB2.out) hlt
        cases e1
        have hlt' : (i : Int) < (ys.length : Int) := by have := HL.out; omega
        obtain ⟨ad', y, e1, hcell', HY⟩ := ReadI.get (Kd.C_below HR'.out HB2.out) (i := i) (by have := HL.out; omega)
        cases e1
        cases hq : (x == y) with
        | true =>
          have hq' : (x != y) = false := by rw [bne, hq]; rfl
          have HQ := Aside0.mk hq
          clear hq
          go_wp2
          go_quiet (fail)
          go_wp2
          go_roundw
          case rel => exact ⟨i + 1, by go_num, by omega, ⟨by rw [take_get hlt HX.out, take_get (by omega) HY.out, HI.out, eq_of_beq HQ.out]⟩, ⟨below_drewN HB2.out _⟩⟩
          case measure => simp [intOf]; omega
        | false =>
          have hq' : (x != y) = true := by rw [bne, hq]; rfl
          have HQ := Aside0.mk hq
          clear hq
          go_wp2
          go_quiet (fail)
          go_wp2
          go_ret
          exact ⟨by
            have : (xs == ys) = false := by
              rw [beq_eq_false_iff_ne]
              rintro rfl
              have h3 := HQ.out
              rw [← HX.out, ← HY.out] at h3
              simp at h3
            rw [this]; rfl, below_drewN HB2.out _⟩
      · have e : i = xs.length := by omega
        have HE := Aside0.mk e
        clear e
        go_wp2
        go_ret
        exact ⟨by
          have h2 := HI.out
          rw [HE.out, List.take_length, HL.out, List.take_length] at h2
          rw [h2]; simp, HB2.out⟩
  · have h1 : ((xs.length : Int) != (ys.length : Int)) = true := by simp; omega
    go_enter Try.func23, Try.ntmps23
    go_wp2
    go_ret
    exact ⟨by
      have : (xs == ys) = false := by
        rw [beq_eq_false_iff_ne]
        rintro rfl
        exact hl rfl
      rw [this]; rfl, Below.refl _ _⟩
end Go.Proofs.Ytpcjbdkdpcgdiaa.H
