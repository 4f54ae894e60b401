/- LevelAt of the reference: codes. -/
import Derived.Test.YtllmbbaffhpheaaLevI
namespace Go.Proofs.Ytllmbbaffhpheaa.H
open Go.RowKit Go.Proofs.YtllmbbaffhpheaaW.PrintWords Go.Proofs.YtllmbbaffhpheaaW.PrintLast Go.Proofs.YtllmbbaffhpheaaW.PrintMore
set_option linter.unusedVariables false
set_option linter.unusedSimpArgs false

set_option maxRecDepth 100000 in
set_option maxHeartbeats 2000000 in
theorem specIsFun (a : Int) (ku : Value) (xs : List Int) (v : Value) (f : List Int) (w : World) (hk : ReadI w ku xs) (hv : ReadI w v f) :
    Calls Try.prog 121 #[cx a ku, v] w fun e w' => e = .returned (.bool (isFun xs.length f)) ∧ Below w.heap.size w w' := by
  obtain ⟨w1, hw1⟩ : ∃ w1, w1 = w.alloc (.cells #[.int .i64 a, ku] 28) := ⟨_, rfl⟩
  have hB : Below w.heap.size w w1 := by rw [hw1]; exact Below.alloc (Below.refl _ _) (Nat.le_refl _) _
  have c0 : w1.cell? ⟨w.heap.size, 0, none⟩ = some (.int .i64 a) := by rw [hw1]; simp
  have c1 : w1.cell? ⟨w.heap.size, 1, none⟩ = some ku := by rw [hw1]; simp
  have HB := Aside0.mk hB
  have l1 := hk.len
  have l2 := hv.len
  obtain ⟨A1, d1, rfl, -⟩ := id hk
  obtain ⟨A2, d2, rfl, hcv, hrv⟩ := hv.below hB
  have HRV := Aside0.mk hrv
  clear hk hv hB hcv hrv
  by_cases hl : f.length = xs.length
  · have hlb : ((f.length : Int) != (xs.length : Int)) = false := by simp; omega
    have HA : Aside0 (isFun xs.length f = f.all isVal) := ⟨by unfold isFun; rw [decide_eq_true hl, Bool.true_and]⟩
    clear hl
    go_enter Try.func121, Try.ntmps121
    go_wp2
    rw [← hw1]
    clear hw1
    go_loopw [5] (fun s wr => ∃ i : Nat, s = .int .i64 i ∧ i ≤ f.length ∧ Aside0 (∀ t, t < i → isVal (f.getD t 0) = true) ∧ Aside0 (Below w1.heap.size w1 wr)) (fun s _ => f.length - (intOf s).toNat)
    case atStart => exact ⟨0, rfl, Nat.zero_le _, ⟨fun t h => absurd h (Nat.not_lt_zero _)⟩, ⟨Below.refl _ _⟩⟩
    case round =>
      obtain ⟨i, rfl, hi, HI, HBw⟩ := hrel
      by_cases hlt : i < f.length
      · obtain ⟨ad, y, rfl, hcell, HY⟩ := ReadI.get (Kd.C_below HRV.out HBw.out) hlt
        have HX : Aside0 ((decide (-1000 ≤ y) && decide (y ≤ 1000)) = isVal y) := ⟨rfl⟩
        cases hin : isVal y with
        | false =>
          have HF : Aside0 (f.all isVal = false) := ⟨List.all_eq_false.2 ⟨y, mem_at hlt HY.out, by rw [hin]; decide⟩⟩
          go_wp2_with (first | (go_at_call 69; refine (specIn _ _ _ _).mono ?_; rintro e w2 ⟨rfl, hb⟩; rw [HX.out, hin]))
          go_ret
          exact ⟨by rw [HA.out, HF.out]; rfl, HB.out.trans ((HBw.out.trans (hb.mono HBw.out.size)).mono HB.out.size)⟩
        | true =>
          have HI2 : Aside0 (∀ t, t < i + 1 → isVal (f.getD t 0) = true) := ⟨fun t ht => by
            rcases Nat.lt_succ_iff_lt_or_eq.1 ht with h2 | rfl
            · exact HI.out t h2
            · rw [HY.out]; exact hin⟩
          go_wp2_with (first | (go_at_call 69; refine (specIn _ _ _ _).mono ?_; rintro e w2 ⟨rfl, hb⟩; rw [HX.out, hin]))
          go_roundw
          case rel => exact ⟨i + 1, by go_num, by omega, HI2, ⟨HBw.out.trans (hb.mono HBw.out.size)⟩⟩
          case measure => simp [intOf]; omega
      · have HF : Aside0 (f.all isVal = true) := ⟨by
          rw [List.all_eq_true]
          intro y hy
          obtain ⟨t, ht, e⟩ := List.getElem_of_mem hy
          have := HI.out t (by omega)
          rw [List.getD_eq_getElem?_getD, List.getElem?_eq_getElem ht, Option.getD_some, e] at this
          exact this⟩
        go_wp2
        go_ret
        exact ⟨by rw [HA.out, HF.out]; rfl, HB.out.trans (HBw.out.mono HB.out.size)⟩
  · have hlb : ((f.length : Int) != (xs.length : Int)) = true := by simp; omega
    have HA : Aside0 (isFun xs.length f = false) := ⟨by unfold isFun; rw [decide_eq_false hl, Bool.false_and]⟩
    clear hl
    go_enter Try.func121, Try.ntmps121
    go_wp2
    rw [← hw1]
    go_ret
    exact ⟨by rw [HA.out]; rfl, HB.out⟩

set_option maxRecDepth 100000 in
set_option maxHeartbeats 2000000 in
theorem specFunCode (a : Int) (ku : Value) (xs : List Int) (lv : Value) (f : List Int) (w : World) (hk : ReadI w ku xs) (hl : ReadS w lv [f]) :
    Calls Try.prog 74 #[cx a ku, lv] w fun e w' => e = .returned (.int .i64 (codeFun a xs true [f])) ∧ Below w.heap.size w w' := by
  obtain ⟨w1, hw1⟩ : ∃ w1, w1 = w.alloc (.cells #[.int .i64 a, ku] 28) := ⟨_, rfl⟩
  have hB : Below w.heap.size w w1 := by rw [hw1]; exact Below.alloc (Below.refl _ _) (Nat.le_refl _) _
  have c0 : w1.cell? ⟨w.heap.size, 0, none⟩ = some (.int .i64 a) := by rw [hw1]; simp
  have c1 : w1.cell? ⟨w.heap.size, 1, none⟩ = some ku := by rw [hw1]; simp
  have HB := Aside0.mk hB
  have HK := Aside0.mk (hk.below hB)
  obtain ⟨A1, d1, rfl, -⟩ := id hk
  obtain ⟨A2, d2, rfl, -, hr⟩ := hl.below hB
  obtain ⟨ad, u, rfl, hcell, hu⟩ := hr 0 f rfl
  obtain ⟨A3, d3, rfl, -⟩ := id hu
  have HU := Aside0.mk hu
  clear hk hl hB hr
  cases h1 : cxOk a xs with
  | false =>
    have HA : Aside0 (codeFun a xs true [f] = 1) := ⟨by unfold codeFun; rw [h1]; rfl⟩
    go_enter Try.func74, Try.ntmps74
    go_wp2_with (first | (rw [← hw1]; clear hw1; go_at_call 64; refine (specIs _ _ xs _ HK.out).mono ?_; rintro e w2 ⟨rfl, hb⟩; rw [h1]))
    go_ret
    exact ⟨by rw [HA.out]; rfl, HB.out.trans (hb.mono HB.out.size)⟩
  | true =>
    have HA : Aside0 (codeFun a xs true [f] = if isFun xs.length f then 0 else 2) := ⟨by unfold codeFun; rw [h1]; simp⟩
    go_enter Try.func74, Try.ntmps74
    go_wp2_with (first | (rw [← hw1]; clear hw1; go_at_call 64; refine (specIs _ _ xs _ HK.out).mono ?_; rintro e w2 ⟨rfl, hb⟩; rw [h1]; have HB2 := Aside0.mk hb; have c0 := pw_cell_below hb c0; have c1 := pw_cell_below hb c1; have hcell := pw_cell_below hb hcell; clear hb))
    go_loopw [5] (fun s wr => ∃ i : Nat, s = .int .i64 i ∧ i ≤ 1 ∧ Aside0 (i = 1 → isFun xs.length f = true) ∧ Aside0 (Below w2.heap.size w2 wr)) (fun s _ => 1 - (intOf s).toNat)
    case atStart => exact ⟨0, rfl, Nat.zero_le _, ⟨fun h => absurd h (by decide)⟩, ⟨Below.refl _ _⟩⟩
    case round =>
      obtain ⟨i, rfl, hi, HI, HBw⟩ := hrel
      have HB13 := Aside0.mk (HB2.out.trans (HBw.out.mono HB2.out.size))
      by_cases hlt : i < 1
      · obtain rfl : i = 0 := by omega
        have c0 := pw_cell_below HBw.out c0
        have c1 := pw_cell_below HBw.out c1
        have hcell := pw_cell_below HBw.out hcell
        obtain ⟨r, hr⟩ : ∃ r, r = isFun xs.length f := ⟨_, rfl⟩
        have HF : Aside0 (∀ x : Ext wr, Calls Try.prog 121 #[cx a (.slice A1 xs.length d1), .slice A3 f.length d3] x.1 fun e w' => e = .returned (.bool r) ∧ Below x.1.heap.size x.1 w') := ⟨fun x => by rw [hr]; exact specIsFun a _ xs _ f x.1 ((HK.out.below HB13.out).below x.2) ((HU.out.below HB13.out).below x.2)⟩
        have x0 : ∀ x : Ext wr, x.1.cell? ⟨w.heap.size, 0, none⟩ = some (.int .i64 a) := fun x => Ext.cell c0 x
        have x1 : ∀ x : Ext wr, x.1.cell? ⟨w.heap.size, 1, none⟩ = some (.slice A1 xs.length d1) := fun x => Ext.cell c1 x
        have x2 : ∀ x : Ext wr, x.1.cell? ad = some (.slice A3 f.length d3) := fun x => by have h := Ext.cell hcell x; rw [show ad.add 0 = ad by cases ad; rfl] at h; exact h
        have HRR := Aside0.mk hr
        clear hr
        go_wp2
        refine wp_region_ext (by kernel_rfl) (by kernel_rfl) ?_
        repeat (go_big_quiet_step ((first | (go_at_call 121; exact Calls.ext_of (HF.out _)))))
        refine wpQuiet_nil ?_
        rintro _ ⟨x, rfl⟩
        have hbx := x.2
        cases r with
        | true =>
          go_wp2
          go_roundw
          case rel => exact ⟨1, by go_num, by omega, ⟨fun _ => HRR.out.symm⟩, ⟨HBw.out.trans (hbx.mono HBw.out.size)⟩⟩
          case measure => simp [intOf]
        | false =>
          go_wp2
          go_ret
          exact ⟨by rw [HA.out, ← HRR.out]; rfl, HB.out.trans ((HB13.out.trans (hbx.mono HB13.out.size)).mono HB.out.size)⟩
      · have hf := HI.out (by omega)
        go_wp2
        go_ret
        exact ⟨by rw [HA.out, hf]; rfl, HB.out.trans (HB13.out.mono HB.out.size)⟩
end Go.Proofs.Ytllmbbaffhpheaa.H
