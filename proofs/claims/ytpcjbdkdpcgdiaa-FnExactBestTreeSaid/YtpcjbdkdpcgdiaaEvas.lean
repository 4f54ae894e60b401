/- QuestionNumber and IsEvasive of the program and of the reference. -/
import Derived.Test.YtpcjbdkdpcgdiaaQuest
import Derived.Test.YtpcjbdkdpcgdiaaAlw
import Derived.Carry
namespace Go.Proofs.Ytpcjbdkdpcgdiaa.H
open Go.RowKit Go.Proofs.YtpcjbdkdpcgdiaaW.PrintWords Go.Proofs.YtpcjbdkdpcgdiaaW.PrintLast Go.Proofs.YtpcjbdkdpcgdiaaW.PrintMore
set_option linter.unusedVariables false
set_option linter.unusedSimpArgs false

/-- what QuestionNumber, and IsEvasive, answer -/
def ansQuestionNumber (a : Int) (xs : List Int) : Int × Int := if cxOk a xs then (needV a.toNat xs 0 0, 0) else (0, 1)
def ansIsEvasive (a : Int) (xs : List Int) : Bool × Int := if cxOk a xs then (needV a.toNat xs 0 0 == a, 0) else (false, 1)
theorem pl_zero (n : Nat) : Pl n 0 0 := ⟨Nat.two_pow_pos n, Nat.two_pow_pos n, rfl⟩
theorem lefts_lt {n p q : Nat} (hn : n ≤ 6) : lefts n p q < 7 := by have := frees_len (p ||| q) n; unfold lefts; omega

set_option maxRecDepth 100000 in
set_option maxHeartbeats 2000000 in
theorem questionNumber (n : Nat) (ku : Value) (xs : List Int) (w : World) (hk : ReadI w ku xs) (hc : Cx n xs) :
    Calls Try.prog 48 #[cx n ku] w fun e w' => e = .returned (.int .i64 (needV n xs 0 0)) ∧ Below w.heap.size w w' := by
  obtain ⟨wb, hwb⟩ : ∃ wb, wb = w.alloc (.cells #[.int .i64 n, ku] 28) := ⟨_, rfl⟩
  obtain ⟨w2, hw2⟩ : ∃ w2, w2 = wb.alloc (.map #[] 0) := ⟨_, rfl⟩
  have hsb : wb.heap.size = w.heap.size + 1 := by rw [hwb]; simp
  have hBb : Below w.heap.size w wb := by rw [hwb]; exact Below.alloc (Below.refl _ _) (Nat.le_refl _) _
  have hB1 : Below wb.heap.size wb w2 := by rw [hw2]; exact Below.alloc (Below.refl _ _) (Nat.le_refl _) _
  have hB : Below w.heap.size w w2 := hBb.trans (hB1.mono hBb.size)
  have HK := Aside0.mk (RdK.mk' (b := w.heap.size + 1) hk hB (Nat.le_succ _))
  have HM : Aside0 (MapI n (needV n xs) (w.heap.size + 1) w2) := ⟨by rw [hw2, ← hsb]; exact MapI.made _ _ _⟩
  have HB := Aside0.mk hB
  obtain ⟨A1, d1, rfl, -⟩ := id hk
  have HQ := Aside0.mk (questions n (.slice A1 xs.length d1) xs hc (w.heap.size + 1) 7 0 0 0 w2 rfl (lefts_lt hc.hi) (pl_zero n) HK.out HM.out)
  have hmm := @run_makeMap Try.prog
  subst hwb
  clear hk hsb hBb hB1 hB
  go_enter Try.func48, Try.ntmps48
  go_wp2_with (first | (go_at_call 82; rw [← hw2]; clear hw2; refine HQ.out.mono ?_; rintro e w3 ⟨rfl, hg, -⟩; have HG := Aside0.mk hg; clear hg))
  go_ret
  exact ⟨rfl, HB.out.trans (below_grown HG.out (Nat.le_succ _) HB.out.size)⟩

theorem cxOk_nat {a : Int} {xs : List Int} (h : cxOk a xs = true) : ∃ n : Nat, a = n ∧ Cx n xs := by
  obtain ⟨n, h1, h2, -⟩ := cxOk_cx h
  exact ⟨n, h1, h2⟩

set_option maxRecDepth 100000 in
set_option maxHeartbeats 2000000 in
theorem implQuestionNumber (a : Int) (ku : Value) (xs : List Int) (w : World) (hk : ReadI w ku xs) :
    Calls Try.prog 17 #[cx a ku] w fun e w' => e = .returned (.tuple #[.int .i64 (ansQuestionNumber a xs).1, .int .i64 (ansQuestionNumber a xs).2]) ∧ Below w.heap.size w w' := by
  obtain ⟨w1, hw1⟩ : ∃ w1, w1 = w.alloc (.cells #[.int .i64 a, ku] 28) := ⟨_, rfl⟩
  have hB : Below w.heap.size w w1 := by rw [hw1]; exact Below.alloc (Below.refl _ _) (Nat.le_refl _) _
  have c0 : w1.cell? ⟨w.heap.size, 0, none⟩ = some (.int .i64 a) := by rw [hw1]; simp
  have c1 : w1.cell? ⟨w.heap.size, 1, none⟩ = some ku := by rw [hw1]; simp
  have HB := Aside0.mk hB
  have HK := Aside0.mk (hk.below hB)
  have HM := Aside0.mk (complexCode2 a ku xs _ true w1 HK.out (fun _ => alwaysB w1) ⟨_, _, _, rfl⟩)
  obtain ⟨A1, d1, rfl, -⟩ := id hk
  clear hk hB
  cases hx : cxOk a xs with
  | false =>
    have HA : Aside0 (ansQuestionNumber a xs = (0, 1)) := ⟨by unfold ansQuestionNumber; rw [hx]; rfl⟩
    rw [hx] at HM
    clear hx
    go_enter Try.func17, Try.ntmps17
    go_wp2_with (first | (go_at_call 46; rw [← hw1]; clear hw1; refine HM.out.mono ?_; rintro e w2 ⟨rfl, hb⟩; have HB2 := Aside0.mk hb; clear hb))
    go_ret2
    exact ⟨by rw [HA.out]; rfl, HB.out.trans (HB2.out.mono HB.out.size)⟩
  | true =>
    obtain ⟨n, rfl, hc⟩ := cxOk_nat hx
    have HA : Aside0 (ansQuestionNumber (n : Int) xs = (needV n xs 0 0, 0)) := ⟨by unfold ansQuestionNumber; rw [hx]; rfl⟩
    rw [hx] at HM
    clear hx
    have HC := Aside0.mk hc
    clear hc
    go_enter Try.func17, Try.ntmps17
    go_wp2_with (first | (go_at_call 46; rw [← hw1]; clear hw1; refine HM.out.mono ?_; rintro e w2 ⟨rfl, hb⟩; have HB2 := Aside0.mk hb; replace c0 := pw_cell_below hb c0; replace c1 := pw_cell_below hb c1; clear hb) | (go_at_call 48; refine (questionNumber n _ xs _ (HK.out.below HB2.out) HC.out).mono ?_; rintro e w3 ⟨rfl, hb⟩; have HB3 := Aside0.mk (HB2.out.trans (hb.mono HB2.out.size)); clear hb))
    go_ret2
    exact ⟨by rw [HA.out]; rfl, HB.out.trans (HB3.out.mono HB.out.size)⟩

/-- the reference's own number -/
theorem specNumber (n : Nat) (ku : Value) (xs : List Int) (w wt : World) (hn : n ≤ 6) (hk : ReadI w ku xs) (u : Value) (hu : OwnI w.heap.size wt u (noneT 4096)) (hb : Below w.heap.size w wt) :
    Calls Try.prog 44 #[cx n ku, .int .i64 0, .int .i64 0, u] wt fun e w' => e = .returned (.int .i64 (needV n xs 0 0)) ∧ Below w.heap.size w w' := by
  obtain ⟨g, c, rfl, -⟩ := Kd.R_form hu (by rw [noneT_len]; decide)
  rw [noneT_len] at hu ⊢
  have h1 := hu.base g (by simp [Value.ownBlock])
  refine (specNeed n hn ku xs g c 7 0 0 wt (lefts_lt hn) (pl_zero n) (RdK.mk' hk hb h1) ⟨_, hu.lower (Nat.zero_le _), tab_none hn _⟩).mono ?_
  rintro e w' ⟨rfl, hg, -⟩
  exact ⟨rfl, hb.trans (below_grown hg h1 hb.size)⟩
end Go.Proofs.Ytpcjbdkdpcgdiaa.H
