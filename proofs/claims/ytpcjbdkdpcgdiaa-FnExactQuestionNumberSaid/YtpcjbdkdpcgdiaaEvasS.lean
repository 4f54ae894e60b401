/- QuestionNumber and IsEvasive: what is drawn. -/
import Derived.Test.YtpcjbdkdpcgdiaaEvas
namespace Go.Proofs.Ytpcjbdkdpcgdiaa.H
open Go.RowKit Go.Proofs.YtpcjbdkdpcgdiaaW.PrintWords Go.Proofs.YtpcjbdkdpcgdiaaW.PrintLast Go.Proofs.YtpcjbdkdpcgdiaaW.PrintMore
set_option linter.unusedVariables false
set_option linter.unusedSimpArgs false

set_option maxRecDepth 100000 in
set_option maxHeartbeats 2000000 in
theorem specQuestionNumber (a : Int) (ku : Value) (xs : List Int) (w : World) (hk : ReadI w ku xs) :
    Calls Try.prog 16 #[cx a ku] w fun e w' => e = .returned (.tuple #[.int .i64 (ansQuestionNumber a xs).1, .int .i64 (ansQuestionNumber a xs).2]) ∧ Below w.heap.size w w' := by
  obtain ⟨w1, hw1⟩ : ∃ w1, w1 = w.alloc (.cells #[.int .i64 a, ku] 28) := ⟨_, rfl⟩
  have hB : Below w.heap.size w w1 := by rw [hw1]; exact Below.alloc (Below.refl _ _) (Nat.le_refl _) _
  have c0 : w1.cell? ⟨w.heap.size, 0, none⟩ = some (.int .i64 a) := by rw [hw1]; simp
  have c1 : w1.cell? ⟨w.heap.size, 1, none⟩ = some ku := by rw [hw1]; simp
  have HB := Aside0.mk hB
  have HK := Aside0.mk (hk.below hB)
  have HM := Aside0.mk (specIs a ku xs w1 HK.out)
  obtain ⟨A1, d1, rfl, -⟩ := id hk
  clear hk hB
  cases hx : cxOk a xs with
  | false =>
    have HA : Aside0 (ansQuestionNumber a xs = (0, 1)) := ⟨by unfold ansQuestionNumber; rw [hx]; rfl⟩
    rw [hx] at HM
    clear hx
    go_enter Try.func16, Try.ntmps16
    go_wp2_with (first | (go_at_call 43; rw [← hw1]; clear hw1; refine HM.out.mono ?_; rintro e w2 ⟨rfl, hb⟩; have HB2 := Aside0.mk hb; clear hb))
    go_ret2
    exact ⟨by rw [HA.out]; rfl, HB.out.trans (HB2.out.mono HB.out.size)⟩
  | true =>
    obtain ⟨n, rfl, hc⟩ := cxOk_nat hx
    have HA : Aside0 (ansQuestionNumber (n : Int) xs = (needV n xs 0 0, 0)) := ⟨by unfold ansQuestionNumber; rw [hx]; rfl⟩
    rw [hx] at HM
    clear hx
    have HC := Aside0.mk hc
    clear hc
    go_enter Try.func16, Try.ntmps16
    go_wp2_with (first | (go_at_call 43; rw [← hw1]; clear hw1; refine HM.out.mono ?_; rintro e w2 ⟨rfl, hb⟩; have HB2 := Aside0.mk hb; replace c0 := pw_cell_below hb c0; replace c1 := pw_cell_below hb c1; clear hb))
    have hmx : Try.prog.follows .mixedOrders = true := by kernel_rfl
    have hk2 := Aside0.mk (HK.out.below HB2.out)
    have hd : Below w2.heap.size w2 w2.drew := (Below.refl _ _).drew
    have HK3 := Aside0.mk (hk2.out.below hd)
    have HB3 := Aside0.mk hd
    replace c0 := pw_cell_below hd c0
    replace c1 := pw_cell_below hd c1
    have HC0 := Aside0.mk c0
    clear hd hk2
    go_region_with (first | (go_at_call 45; refine (specTable _).mono ?_; rintro e w4 ⟨u, rfl, ho, hb⟩; have HO := Aside0.mk ho; have HB4 := Aside0.mk hb; replace c0 := pw_cell_below hb c0; replace c1 := pw_cell_below hb c1; clear ho hb) | (go_at_call 44; refine (specNumber n _ xs _ _ HC.out.hi HK3.out _ HO.out HB4.out).mono ?_; rintro e w5 ⟨rfl, hb⟩; have HB5 := Aside0.mk (HB3.out.trans (hb.mono HB3.out.size)); replace c0 := pw_cell_below hb HC0.out; clear hb))
    all_goals go_wp2
    all_goals go_ret2
    all_goals exact ⟨by rw [HA.out]; rfl, HB.out.trans ((HB2.out.trans (HB5.out.mono HB2.out.size)).mono HB.out.size)⟩
set_option maxRecDepth 100000 in
set_option maxHeartbeats 2000000 in
theorem specIsEvasive (a : Int) (ku : Value) (xs : List Int) (w : World) (hk : ReadI w ku xs) :
    Calls Try.prog 12 #[cx a ku] w fun e w' => e = .returned (.tuple #[.bool (ansIsEvasive a xs).1, .int .i64 (ansIsEvasive a xs).2]) ∧ Below w.heap.size w w' := by
  obtain ⟨w1, hw1⟩ : ∃ w1, w1 = w.alloc (.cells #[.int .i64 a, ku] 28) := ⟨_, rfl⟩
  have hB : Below w.heap.size w w1 := by rw [hw1]; exact Below.alloc (Below.refl _ _) (Nat.le_refl _) _
  have c0 : w1.cell? ⟨w.heap.size, 0, none⟩ = some (.int .i64 a) := by rw [hw1]; simp
  have c1 : w1.cell? ⟨w.heap.size, 1, none⟩ = some ku := by rw [hw1]; simp
  have HB := Aside0.mk hB
  have HK := Aside0.mk (hk.below hB)
  have HM := Aside0.mk (specIs a ku xs w1 HK.out)
  obtain ⟨A1, d1, rfl, -⟩ := id hk
  clear hk hB
  cases hx : cxOk a xs with
  | false =>
    have HA : Aside0 (ansIsEvasive a xs = (false, 1)) := ⟨by unfold ansIsEvasive; rw [hx]; rfl⟩
    rw [hx] at HM
    clear hx
    go_enter Try.func12, Try.ntmps12
    go_wp2_with (first | (go_at_call 43; rw [← hw1]; clear hw1; refine HM.out.mono ?_; rintro e w2 ⟨rfl, hb⟩; have HB2 := Aside0.mk hb; clear hb))
    go_ret2
    exact ⟨by rw [HA.out]; rfl, HB.out.trans (HB2.out.mono HB.out.size)⟩
  | true =>
    obtain ⟨n, rfl, hc⟩ := cxOk_nat hx
    have HA : Aside0 (ansIsEvasive (n : Int) xs = (needV n xs 0 0 == (n : Int), 0)) := ⟨by unfold ansIsEvasive; rw [hx]; rfl⟩
    rw [hx] at HM
    clear hx
    have HC := Aside0.mk hc
    clear hc
    go_enter Try.func12, Try.ntmps12
    go_wp2_with (first | (go_at_call 43; rw [← hw1]; clear hw1; refine HM.out.mono ?_; rintro e w2 ⟨rfl, hb⟩; have HB2 := Aside0.mk hb; replace c0 := pw_cell_below hb c0; replace c1 := pw_cell_below hb c1; clear hb))
    have hmx : Try.prog.follows .mixedOrders = true := by kernel_rfl
    have hk2 := Aside0.mk (HK.out.below HB2.out)
    have hd : Below w2.heap.size w2 w2.drew := (Below.refl _ _).drew
    have HK3 := Aside0.mk (hk2.out.below hd)
    have HB3 := Aside0.mk hd
    replace c0 := pw_cell_below hd c0
    replace c1 := pw_cell_below hd c1
    have HC0 := Aside0.mk c0
    clear hd hk2
    go_region_with (first | (go_at_call 45; refine (specTable _).mono ?_; rintro e w4 ⟨u, rfl, ho, hb⟩; have HO := Aside0.mk ho; have HB4 := Aside0.mk hb; replace c0 := pw_cell_below hb c0; replace c1 := pw_cell_below hb c1; clear ho hb) | (go_at_call 44; refine (specNumber n _ xs _ _ HC.out.hi HK3.out _ HO.out HB4.out).mono ?_; rintro e w5 ⟨rfl, hb⟩; have HB5 := Aside0.mk (HB3.out.trans (hb.mono HB3.out.size)); replace c0 := pw_cell_below hb HC0.out; clear hb))
    all_goals go_wp2
    all_goals go_ret2
    all_goals exact ⟨by rw [HA.out]; rfl, HB.out.trans ((HB2.out.trans (HB5.out.mono HB2.out.size)).mono HB.out.size)⟩
set_option maxRecDepth 100000 in
set_option maxHeartbeats 2000000 in
theorem implIsEvasive (a : Int) (ku : Value) (xs : List Int) (w : World) (hk : ReadI w ku xs) :
    Calls Try.prog 14 #[cx a ku] w fun e w' => e = .returned (.tuple #[.bool (ansIsEvasive a xs).1, .int .i64 (ansIsEvasive a xs).2]) ∧ Below w.heap.size w w' := by
  obtain ⟨w1, hw1⟩ : ∃ w1, w1 = w.alloc (.cells #[.int .i64 a, ku] 28) := ⟨_, rfl⟩
  have hB : Below w.heap.size w w1 := by rw [hw1]; exact Below.alloc (Below.refl _ _) (Nat.le_refl _) _
  have c0 : w1.cell? ⟨w.heap.size, 0, none⟩ = some (.int .i64 a) := by rw [hw1]; simp
  have c1 : w1.cell? ⟨w.heap.size, 1, none⟩ = some ku := by rw [hw1]; simp
  have HB := Aside0.mk hB
  have HK := Aside0.mk (hk.below hB)
  have HM := Aside0.mk (complexCode2 a ku xs _ true w1 HK.out (fun _ => alwaysB w1) ⟨_, _, _, rfl⟩)
  obtain ⟨A1, d1, rfl, -⟩ := id hk
  clear hk hB
  cases hx : cxOk a xs with
  | false =>
    have HA : Aside0 (ansIsEvasive a xs = (false, 1)) := ⟨by unfold ansIsEvasive; rw [hx]; rfl⟩
    rw [hx] at HM
    clear hx
    go_enter Try.func14, Try.ntmps14
    go_wp2_with (first | (go_at_call 46; rw [← hw1]; clear hw1; refine HM.out.mono ?_; rintro e w2 ⟨rfl, hb⟩; have HB2 := Aside0.mk hb; clear hb))
    go_ret2
    exact ⟨by rw [HA.out]; rfl, HB.out.trans (HB2.out.mono HB.out.size)⟩
  | true =>
    obtain ⟨n, rfl, hc⟩ := cxOk_nat hx
    have HA : Aside0 (ansIsEvasive (n : Int) xs = (needV n xs 0 0 == (n : Int), 0)) := ⟨by unfold ansIsEvasive; rw [hx]; rfl⟩
    rw [hx] at HM
    clear hx
    have HC := Aside0.mk hc
    clear hc
    go_enter Try.func14, Try.ntmps14
    go_wp2_with (first | (go_at_call 46; rw [← hw1]; clear hw1; refine HM.out.mono ?_; rintro e w2 ⟨rfl, hb⟩; have HB2 := Aside0.mk hb; replace c0 := pw_cell_below hb c0; replace c1 := pw_cell_below hb c1; clear hb))
    have hd : Below w2.heap.size w2 w2.drew := (Below.refl _ _).drew
    have HKd := Aside0.mk ((HK.out.below HB2.out).below hd)
    replace c0 := pw_cell_below hd c0
    replace c1 := pw_cell_below hd c1
    have hmx : Try.prog.follows .mixedOrders = true := by kernel_rfl
    go_region_with (first | (go_at_call 48; refine (questionNumber n _ xs _ HKd.out HC.out).mono ?_; rintro e w3 ⟨rfl, hb⟩; have HB3 := Aside0.mk (hd.trans (hb.mono hd.size)); replace c0 := pw_cell_below hb c0; clear hb))
    all_goals go_wp2
    all_goals go_ret2
    all_goals exact ⟨by rw [HA.out]; rfl, HB.out.trans ((HB2.out.trans (HB3.out.mono HB2.out.size)).mono HB.out.size)⟩

end Go.Proofs.Ytpcjbdkdpcgdiaa.H
