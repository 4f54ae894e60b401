/- LeastEvaders of the program and of the reference. -/
import Derived.Test.YtpcjbdkdpcgdiaaEvad
import Derived.Test.YtpcjbdkdpcgdiaaEvas
namespace Go.Proofs.Ytpcjbdkdpcgdiaa.H
open Go.RowKit Go.Proofs.YtpcjbdkdpcgdiaaW.PrintWords Go.Proofs.YtpcjbdkdpcgdiaaW.PrintLast Go.Proofs.YtpcjbdkdpcgdiaaW.PrintMore
set_option linter.unusedVariables false
set_option linter.unusedSimpArgs false

/-- what LeastEvaders answers -/
def ansLeastEvaders (a : Int) (xs : List Int) : Int × Int := if cxOk a xs then (leastV a.toNat xs 0 0, 0) else (0, 1)

set_option maxRecDepth 100000 in
set_option maxHeartbeats 2000000 in
theorem implLeastEvaders (a : Int) (ku : Value) (xs : List Int) (w : World) (hk : ReadI w ku xs) :
    Calls Try.prog 19 #[cx a ku] w fun e w' => e = .returned (.tuple #[.int .i64 (ansLeastEvaders a xs).1, .int .i64 (ansLeastEvaders a xs).2]) ∧ Below w.heap.size w w' := by
  obtain ⟨w1, hw1⟩ : ∃ w1, w1 = w.alloc (.cells #[.int .i64 a, ku] 28) := ⟨_, rfl⟩
  have hB : Below w.heap.size w w1 := by rw [hw1]; exact Below.alloc (Below.refl _ _) (Nat.le_refl _) _
  have c0 : w1.cell? ⟨w.heap.size, 0, none⟩ = some (.int .i64 a) := by rw [hw1]; simp
  have c1 : w1.cell? ⟨w.heap.size, 1, none⟩ = some ku := by rw [hw1]; simp
  have HB := Aside0.mk hB
  have HK := Aside0.mk (hk.below hB)
  have HM := Aside0.mk (complexCode2 a ku xs _ true w1 HK.out (fun _ => alwaysB w1) ⟨_, _, _, rfl⟩)
  obtain ⟨A1, d1, rfl, -⟩ := id hk
  clear hk hB
  cases hx : cxOk a xs with
  | false =>
    have HA : Aside0 (ansLeastEvaders a xs = (0, 1)) := ⟨by unfold ansLeastEvaders; rw [hx]; rfl⟩
    rw [hx] at HM
    clear hx
    go_enter Try.func19, Try.ntmps19
    go_wp2_with (first | (go_at_call 46; rw [← hw1]; clear hw1; refine HM.out.mono ?_; rintro e w2 ⟨rfl, hb⟩; have HB2 := Aside0.mk hb; clear hb))
    go_ret2
    exact ⟨by rw [HA.out]; rfl, HB.out.trans (HB2.out.mono HB.out.size)⟩
  | true =>
    obtain ⟨n, rfl, hc⟩ := cxOk_nat hx
    have HA : Aside0 (ansLeastEvaders (n : Int) xs = (leastV n xs 0 0, 0)) := ⟨by unfold ansLeastEvaders; rw [hx]; rfl⟩
    rw [hx] at HM
    clear hx
    have HC := Aside0.mk hc
    clear hc
    have hmm := @run_makeMap Try.prog
    go_enter Try.func19, Try.ntmps19
    go_wp2_with (first | (go_at_call 46; rw [← hw1]; clear hw1; refine HM.out.mono ?_; rintro e w2 ⟨rfl, hb⟩; have HB2 := Aside0.mk hb; replace c0 := pw_cell_below hb c0; replace c1 := pw_cell_below hb c1; clear hb) | (go_at_call 50; obtain ⟨w3, hw3⟩ : ∃ w3, w3 = w2.alloc (.map #[] 0) := ⟨_, rfl⟩; rw [← hw3]; have hB3 : Below w2.heap.size w2 w3 := (by rw [hw3]; exact Below.alloc (Below.refl _ _) (Nat.le_refl _) _); have HM3 : Aside0 (MapI n (leastV n xs) w2.heap.size w3) := ⟨(by rw [hw3]; exact MapI.made _ _ _)⟩; clear hw3; refine (evaders n (.slice A1 xs.length d1) xs HC.out w2.heap.size 7 0 0 0 w3 rfl (lefts_lt HC.out.hi) (pl_zero n) (RdK.mk' (HK.out.below HB2.out) hB3 (Nat.le_refl _)) HM3.out).mono ?_; rintro e w4 ⟨rfl, hg, -⟩; have HB3 := Aside0.mk (HB2.out.trans ((hB3.trans (below_grown hg (Nat.le_refl _) hB3.size)).mono HB2.out.size)); clear hg hB3))
    go_ret2
    exact ⟨by rw [HA.out]; rfl, HB.out.trans (HB3.out.mono HB.out.size)⟩

/-- the reference's least number -/
theorem specLeastNumber (n : Nat) (ku : Value) (xs : List Int) (w wt : World) (hn : n ≤ 6) (hk : ReadI w ku xs) (u : Value) (hu : OwnI w.heap.size wt u (noneT 4096)) (hb : Below w.heap.size w wt) :
    Calls Try.prog 49 #[cx n ku, .int .i64 0, .int .i64 0, u] wt fun e w' => e = .returned (.int .i64 (leastV n xs 0 0)) ∧ Below w.heap.size w w' := by
  obtain ⟨g, c, rfl, -⟩ := Kd.R_form hu (by rw [noneT_len]; decide)
  rw [noneT_len] at hu ⊢
  have h1 := hu.base g (by simp [Value.ownBlock])
  refine (specLeast n hn ku xs g c 7 0 0 wt (lefts_lt hn) (pl_zero n) (RdK.mk' hk hb h1) ⟨_, hu.lower (Nat.zero_le _), tab_none hn _⟩).mono ?_
  rintro e w' ⟨rfl, hg, -⟩
  exact ⟨rfl, hb.trans (below_grown hg h1 hb.size)⟩
set_option maxRecDepth 100000 in
set_option maxHeartbeats 2000000 in
theorem specLeastEvaders (a : Int) (ku : Value) (xs : List Int) (w : World) (hk : ReadI w ku xs) :
    Calls Try.prog 18 #[cx a ku] w fun e w' => e = .returned (.tuple #[.int .i64 (ansLeastEvaders a xs).1, .int .i64 (ansLeastEvaders a xs).2]) ∧ Below w.heap.size w w' := by
  obtain ⟨w1, hw1⟩ : ∃ w1, w1 = w.alloc (.cells #[.int .i64 a, ku] 28) := ⟨_, rfl⟩
  have hB : Below w.heap.size w w1 := by rw [hw1]; exact Below.alloc (Below.refl _ _) (Nat.le_refl _) _
  have c0 : w1.cell? ⟨w.heap.size, 0, none⟩ = some (.int .i64 a) := by rw [hw1]; simp
  have c1 : w1.cell? ⟨w.heap.size, 1, none⟩ = some ku := by rw [hw1]; simp
  have HB := Aside0.mk hB
  have HK := Aside0.mk (hk.below hB)
  have HM := Aside0.mk (specIs a ku xs w1 HK.out)
  obtain ⟨A1, d1, rfl, -⟩ := id hk
  clear hk hB
  cases hx : cxOk a xs with
  | false =>
    have HA : Aside0 (ansLeastEvaders a xs = (0, 1)) := ⟨by unfold ansLeastEvaders; rw [hx]; rfl⟩
    rw [hx] at HM
    clear hx
    go_enter Try.func18, Try.ntmps18
    go_wp2_with (first | (go_at_call 43; rw [← hw1]; clear hw1; refine HM.out.mono ?_; rintro e w2 ⟨rfl, hb⟩; have HB2 := Aside0.mk hb; clear hb))
    go_ret2
    exact ⟨by rw [HA.out]; rfl, HB.out.trans (HB2.out.mono HB.out.size)⟩
  | true =>
    obtain ⟨n, rfl, hc⟩ := cxOk_nat hx
    have HA : Aside0 (ansLeastEvaders (n : Int) xs = (leastV n xs 0 0, 0)) := ⟨by unfold ansLeastEvaders; rw [hx]; rfl⟩
    rw [hx] at HM
    clear hx
    have HC := Aside0.mk hc
    clear hc
    go_enter Try.func18, Try.ntmps18
    go_wp2_with (first | (go_at_call 43; rw [← hw1]; clear hw1; refine HM.out.mono ?_; rintro e w2 ⟨rfl, hb⟩; have HB2 := Aside0.mk hb; replace c0 := pw_cell_below hb c0; replace c1 := pw_cell_below hb c1; clear hb))
    have hmx : Try.prog.follows .mixedOrders = true := by kernel_rfl
    have hk2 := Aside0.mk (HK.out.below HB2.out)
    have hd : Below w2.heap.size w2 w2.drew := (Below.refl _ _).drew
    have HK3 := Aside0.mk (hk2.out.below hd)
    have HB3 := Aside0.mk hd
    replace c0 := pw_cell_below hd c0
    replace c1 := pw_cell_below hd c1
    have HC0 := Aside0.mk c0
    clear hd hk2
    go_region_with (first | (go_at_call 45; refine (specTable _).mono ?_; rintro e w4 ⟨u, rfl, ho, hb⟩; have HO := Aside0.mk ho; have HB4 := Aside0.mk hb; replace c0 := pw_cell_below hb c0; replace c1 := pw_cell_below hb c1; clear ho hb) | (go_at_call 49; refine (specLeastNumber n _ xs _ _ HC.out.hi HK3.out _ HO.out HB4.out).mono ?_; rintro e w5 ⟨rfl, hb⟩; have HB5 := Aside0.mk (HB3.out.trans (hb.mono HB3.out.size)); replace c0 := pw_cell_below hb HC0.out; clear hb))
    all_goals go_wp2
    all_goals go_ret2
    all_goals exact ⟨by rw [HA.out]; rfl, HB.out.trans ((HB2.out.trans (HB5.out.mono HB2.out.size)).mono HB.out.size)⟩
end Go.Proofs.Ytpcjbdkdpcgdiaa.H
