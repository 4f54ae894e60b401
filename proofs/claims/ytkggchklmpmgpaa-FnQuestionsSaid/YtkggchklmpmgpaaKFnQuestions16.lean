/- QuestionsFor of the program and of the reference. LeastEvaders of the program and of the reference. How many vertices a face has, of the program: math/bits.OnesCount64, size, dimension. The Euler number, of the program. What the answers about questions have in common (plain). What the arguments of the laws read as. What a row of bytes reads as; big. -/
import Derived.WalkKit
import Derived.ProofKit
import Derived.OpenShut
import Derived.ShutString
import Derived.ChangeOld
import Derived.Lib.SmallJoins
import Derived.Test.YtkggchklmpmgpaaKFnQuestions1
import Derived.Test.YtkggchklmpmgpaaKFnQuestions2
import Derived.Test.YtkggchklmpmgpaaKFnQuestions3
import Derived.Test.YtkggchklmpmgpaaKFnQuestions4
import Derived.Test.YtkggchklmpmgpaaKFnQuestions5
import Derived.Test.YtkggchklmpmgpaaKFnQuestions6
import Derived.Test.YtkggchklmpmgpaaKFnQuestions7
import Derived.Test.YtkggchklmpmgpaaKFnQuestions8
import Derived.Test.YtkggchklmpmgpaaKFnQuestions9
import Derived.Test.YtkggchklmpmgpaaKFnQuestions10
import Derived.Test.YtkggchklmpmgpaaKFnQuestions11
import Derived.Test.YtkggchklmpmgpaaKFnQuestions12
import Derived.Test.YtkggchklmpmgpaaKFnQuestions13
import Derived.Test.YtkggchklmpmgpaaKFnQuestions14
import Derived.Test.YtkggchklmpmgpaaKFnQuestions15

namespace Go.Proofs.Ytkggchklmpmgpaa.H
open Go.RowKit Go.Proofs.YtkggchklmpmgpaaW.PrintWords Go.Proofs.YtkggchklmpmgpaaW.PrintLast Go.Proofs.YtkggchklmpmgpaaW.PrintMore
set_option linter.unusedVariables false
set_option linter.unusedSimpArgs false

/-- a hidden set -/
def hidIn (n : Nat) (h : Int) : Bool := decide (0 ≤ h) && decide (h ≤ ((2 ^ n : Nat) : Int) - 1)
/-- the code -/
def codeQ (a : Int) (xs t : List Int) (h : Int) : Int := if cxOk a xs then (if treeOk a.toNat t && hidIn a.toNat h then 0 else 2) else 1
/-- what QuestionsFor answers -/
def ansQuestionsFor (a : Int) (xs t : List Int) (h : Int) : List Int × Int :=
  if codeQ a xs t h = 0 then ((wayL t h.toNat a.toNat).take (neededV a.toNat xs t h.toNat), 0) else ([], codeQ a xs t h)
theorem codeQ_zero {a : Int} {xs t : List Int} {h : Int} (h0 : codeQ a xs t h = 0) : ∃ (n k : Nat), a = n ∧ Cx n xs ∧ treeOk n t = true ∧ h = k ∧ k < 2 ^ n ∧ k < 64 ∧ cxOk n xs = true ∧ hidIn n k = true := by
  unfold codeQ at h0
  split at h0
  · next h1 =>
    obtain ⟨n, rfl, hc⟩ := cxOk_nat h1
    split at h0
    · next h2 =>
      rw [Bool.and_eq_true] at h2
      have h3 := h2.2
      unfold hidIn at h3
      rw [Bool.and_eq_true, decide_eq_true_eq, decide_eq_true_eq] at h3
      have h5 : h ≤ ((2 ^ n : Nat) : Int) - 1 := h3.2
      have := pw6 hc.hi
      have e : h = (h.toNat : Int) := by omega
      exact ⟨n, h.toNat, rfl, hc, h2.1, e, by omega, by omega, h1, by rw [← e]; exact h2.2⟩
    · cases h0
  · cases h0
theorem lenQuestionsFor (a : Int) (xs t : List Int) (h : Int) : (ansQuestionsFor a xs t h).1.length ≤ 1073741824 := by
  unfold ansQuestionsFor
  split
  · next h0 =>
    obtain ⟨n, k, rfl, hc, -⟩ := codeQ_zero h0
    have := hc.hi
    rw [List.length_take, wayL_len]
    show min _ n ≤ _
    omega
  · simp

set_option maxRecDepth 100000 in
set_option maxHeartbeats 2000000 in
theorem questionsFor1 (w : World) (bk bt bh : Nat) (n : Nat) (hn : 1 ≤ n ∧ n ≤ 6) (ku : Value) (v : Value) (t : List Int) (h : Int) (hv : ReadI w v t) (h0 : w.cell? ⟨bk, 0, none⟩ = some (.int .i64 n)) (hk1 : w.cell? ⟨bk, 1, none⟩ = some ku) (h1 : w.cell? ⟨bt, 0, none⟩ = some v) (h2 : w.cell? ⟨bh, 0, none⟩ = some (.int .i64 h)) (A : Option Addr) (l d : Nat) (hku : ku = .slice A l d) :
    ThunkB w (.func (.func 75) #[] #[.pointer (some ⟨bk, 0, none⟩), .pointer (some ⟨bt, 0, none⟩), .pointer (some ⟨bh, 0, none⟩)]) (treeOk n t && hidIn n h) := by
  subst hku
  refine ⟨_, _, _, rfl, Enters.mk' Try.func75 rfl rfl, fun w1 hb => ?_⟩
  have c0 := pw_cell_below hb h0
  have c1 := pw_cell_below hb hk1
  have ct := pw_cell_below hb h1
  have ch := pw_cell_below hb h2
  have HV := Aside0.mk (hv.below hb)
  obtain ⟨A2, d2, rfl, -⟩ := id hv
  obtain ⟨N, hN⟩ : ∃ N : Nat, N = 2 ^ n := ⟨_, rfl⟩
  have HFU : Aside0 (∀ (u : Value) (W : World), Calls Try.prog 78 #[cx n u] W fun e w' => e = .returned (.int .i64 ((N : Int) - 1)) ∧ Below W.heap.size W w') := ⟨fun u W => by rw [hN]; exact full n hn.2 _ W⟩
  have HW := Aside0.mk (fun W => within h 0 ((N : Int) - 1) W)
  have HH : Aside0 (hidIn n h = (decide (0 ≤ h) && decide (h ≤ (N : Int) - 1))) := ⟨by rw [hN]; rfl⟩
  obtain ⟨hb, hhb⟩ : ∃ hb, hb = (decide (0 ≤ h) && decide (h ≤ (N : Int) - 1)) := ⟨_, rfl⟩
  rw [← hhb] at HW HH
  have HTR := Aside0.mk (fun W hr => isTree (.slice A2 t.length d2) t n hn W hr)
  have hd : Below w1.heap.size w1 w1.drew := (Below.refl _ _).drew
  have HV1 := Aside0.mk (HV.out.below hd)
  have c0 := pw_cell_below hd c0
  have c1 := pw_cell_below hd c1
  have ct := pw_cell_below hd ct
  have ch := pw_cell_below hd ch
  have hmx : Try.prog.follows .mixedOrders = true := by kernel_rfl
  clear h0 h1 h2 hk1 hv hN hhb
  cases hto : treeOk n t with
  | false =>
    rw [hto] at HTR
    clear hto
    show Calls _ _ #[_, _, _] _ _
    go_enter Try.func75, Try.ntmps75
    go_wp2
    go_region_with (first | (go_at_call 76; refine (HTR.out _ HV1.out).mono ?_; rintro e w4 ⟨rfl, hb4⟩; have HB4 := Aside0.mk (hd.trans (hb4.mono hd.size)); replace c0 := pw_cell_below hb4 c0; replace c1 := pw_cell_below hb4 c1; replace ch := pw_cell_below hb4 ch; clear hb4))
    all_goals go_wp2
    all_goals go_ret
    all_goals exact ⟨rfl, HB4.out⟩
  | true =>
    rw [hto] at HTR
    clear hto
    show Calls _ _ #[_, _, _] _ _
    go_enter Try.func75, Try.ntmps75
    go_wp2
    go_region_with (first | (go_at_call 76; refine (HTR.out _ HV1.out).mono ?_; rintro e w4 ⟨rfl, hb4⟩; have HB4 := Aside0.mk (hd.trans (hb4.mono hd.size)); replace c0 := pw_cell_below hb4 c0; replace c1 := pw_cell_below hb4 c1; replace ch := pw_cell_below hb4 ch; clear hb4) | (go_at_call 78; refine (HFU.out _ _).mono ?_; rintro e w5 ⟨rfl, hb4⟩; have HB5 := Aside0.mk (HB4.out.trans (hb4.mono HB4.out.size)); replace c0 := pw_cell_below hb4 c0; replace c1 := pw_cell_below hb4 c1; replace ch := pw_cell_below hb4 ch; clear hb4) | (go_at_call 77; refine (HW.out _).mono ?_; rintro e w6 ⟨rfl, hb4⟩; have HB6 := Aside0.mk (HB5.out.trans (hb4.mono HB5.out.size)); clear hb4))
    all_goals go_wp2
    all_goals go_ret
    all_goals exact ⟨by rw [Bool.true_and, HH.out]; rfl, HB6.out⟩

set_option maxRecDepth 100000 in
set_option maxHeartbeats 4000000 in
theorem implQuestionsFor (a : Int) (ku : Value) (xs : List Int) (v : Value) (t : List Int) (h : Int) (w : World) (hk : ReadI w ku xs) (hv : ReadI w v t) :
    Calls Try.prog 30 #[cx a ku, v, .int .i64 h] w fun e w' => ∃ u, e = .returned (.tuple #[u, .int .i64 (ansQuestionsFor a xs t h).2]) ∧ OwnQ w.heap.size w' u (ansQuestionsFor a xs t h).1 ∧ Below w.heap.size w w' := by
  obtain ⟨wb, hwb⟩ : ∃ wb, wb = w.alloc (.cells #[.int .i64 a, ku] 28) := ⟨_, rfl⟩
  obtain ⟨wc, hwc⟩ : ∃ wc, wc = wb.alloc (.cells #[v] 22) := ⟨_, rfl⟩
  obtain ⟨w1, hw1⟩ : ∃ w1, w1 = wc.alloc (.cells #[.int .i64 h] 2) := ⟨_, rfl⟩
  have hsb : wb.heap.size = w.heap.size + 1 := by rw [hwb]; simp
  have hsc : wc.heap.size = w.heap.size + 1 + 1 := by rw [hwc]; simp [hsb]
  have hBb : Below w.heap.size w wb := by rw [hwb]; exact Below.alloc (Below.refl _ _) (Nat.le_refl _) _
  have hBc : Below wb.heap.size wb wc := by rw [hwc]; exact Below.alloc (Below.refl _ _) (Nat.le_refl _) _
  have hB1 : Below wc.heap.size wc w1 := by rw [hw1]; exact Below.alloc (Below.refl _ _) (Nat.le_refl _) _
  have hBbc : Below wb.heap.size wb w1 := hBc.trans (hB1.mono hBc.size)
  have hB : Below w.heap.size w w1 := hBb.trans (hBbc.mono hBb.size)
  have c0 : w1.cell? ⟨w.heap.size, 0, none⟩ = some (.int .i64 a) := pw_cell_below hBbc (by rw [hwb]; simp)
  have c1 : w1.cell? ⟨w.heap.size, 1, none⟩ = some ku := pw_cell_below hBbc (by rw [hwb]; simp)
  have ct : w1.cell? ⟨w.heap.size + 1, 0, none⟩ = some v := pw_cell_below hB1 (by rw [hwc, ← hsb]; exact new_cell _ _ _ 0 _ rfl)
  have ch : w1.cell? ⟨w.heap.size + 1 + 1, 0, none⟩ = some (.int .i64 h) := by rw [hw1, ← hsc]; exact new_cell _ _ _ 0 _ rfl
  have HB := Aside0.mk hB
  have HK := Aside0.mk (hk.below hB)
  have HV := Aside0.mk (hv.below hB)
  obtain ⟨A1, d1, rfl, -⟩ := id hk
  obtain ⟨A2, d2, rfl, -⟩ := id hv
  have HM := Aside0.mk (complexCode2 a (.slice A1 xs.length d1) xs (.func (.func 75) #[] #[.pointer (some ⟨w.heap.size, 0, none⟩), .pointer (some ⟨w.heap.size + 1, 0, none⟩), .pointer (some ⟨w.heap.size + 1 + 1, 0, none⟩)]) (treeOk a.toNat t && hidIn a.toNat h) w1 HK.out (fun hx => by
    obtain ⟨n, rfl, hc⟩ := cxOk_nat hx
    exact questionsFor1 w1 _ _ _ n ⟨hc.lo, hc.hi⟩ _ _ t h HV.out c0 c1 ct ch _ _ _ rfl) ⟨_, _, _, rfl⟩)
  subst hwb
  subst hwc
  clear hk hv hsb hsc hBb hBc hBbc hB1 hB
  obtain ⟨q, hq⟩ : ∃ q, q = codeQ a xs t h := ⟨_, rfl⟩
  have HQ : Aside0 ((if cxOk a xs then (if (treeOk a.toNat t && hidIn a.toNat h) then (0 : Int) else 2) else 1) = q) := ⟨hq.symm⟩
  rw [HQ.out] at HM
  by_cases h0 : q = 0
  · have h0' := hq.symm.trans h0
    obtain ⟨n, k, rfl, hc, hto, rfl, hk2, hk64, -, -⟩ := codeQ_zero h0'
    have HA : Aside0 (ansQuestionsFor n xs t k = ((wayL t k n).take (neededV n xs t k), 0)) := ⟨by unfold ansQuestionsFor; rw [if_pos h0']; rfl⟩
    have HWY := Aside0.mk (fun (W : World) hk hv => wayI n (.slice A1 xs.length d1) xs hc (.slice A2 t.length d2) t k hk64 W hk hv hto)
    have hwl := wayL_len t k n
    have HWL := Aside0.mk hwl
    have hnl : neededV n xs t k ≤ n := firstTold_le _ _ _ _ _
    have hn1 := hc.lo
    obtain ⟨nd, hnd⟩ : ∃ nd, nd = neededV n xs t k := ⟨_, rfl⟩
    rw [← hnd] at HWY hnl HA
    rw [h0] at HM
    clear hq HQ h0 h0' hc hto hk2 hwl hnd
    go_enter Try.func30, Try.ntmps30
    go_wp2_with (first | (go_at_call 40; rw [← hw1]; clear hw1; refine HM.out.mono ?_; rintro e w2 ⟨rfl, hb⟩; have HB2 := Aside0.mk hb; replace c0 := pw_cell_below hb c0; replace c1 := pw_cell_below hb c1; replace ct := pw_cell_below hb ct; replace ch := pw_cell_below hb ch; clear hb) | (go_at_call 79; refine (HWY.out _ (HK.out.below HB2.out) (HV.out.below HB2.out)).mono ?_; rintro e w5 ⟨u5, rfl, ho, hb⟩; obtain ⟨g, cap, rfl, -⟩ := Kd.R_form ho (by rw [HWL.out]; omega); rw [HWL.out] at ho ⊢; have HO5 := Aside0.mk ho; have hcap : n ≤ cap := (by obtain ⟨_, _, e_, h_, -⟩ := ho.read; injection e_ with _ e1_ e2_; rw [← e2_] at h_; rw [HWL.out] at h_; exact h_); have HB5 := Aside0.mk (HB2.out.trans (hb.mono HB2.out.size)); clear ho hb))
    go_ret2
    refine ⟨_, by rw [HA.out]; rfl, ?_, HB.out.trans (HB5.out.mono HB.out.size)⟩
    rw [HA.out]
    have h1 := HB.out.size
    have h2 := HB2.out.size
    have h3 : ((wayL t k n).take nd).length = nd := by rw [List.length_take, HWL.out]; omega
    exact ⟨some ⟨g, 0, none⟩, nd, cap, by rw [h3]; rfl, by rw [h3]; exact Nat.le_refl _, by rw [h3]; exact (HO5.out.cut hnl).lower (by omega)⟩
  · have HA : Aside0 (ansQuestionsFor a xs t h = ([], q)) := ⟨by unfold ansQuestionsFor; rw [← hq, if_neg h0]⟩
    have hqb : (q != 0) = true := by simpa using h0
    clear hq HQ h0
    go_enter Try.func30, Try.ntmps30
    go_wp2_with (first | (go_at_call 40; rw [← hw1]; clear hw1; refine HM.out.mono ?_; rintro e w2 ⟨rfl, hb⟩; have HB2 := Aside0.mk hb; clear hb))
    go_ret2
    exact ⟨_, by rw [HA.out]; rfl, by rw [HA.out]; exact OwnQ.nil _ _, HB.out.trans (HB2.out.mono HB.out.size)⟩

set_option maxRecDepth 100000 in
set_option maxHeartbeats 4000000 in
theorem specQuestionsFor (a : Int) (ku : Value) (xs : List Int) (v : Value) (t : List Int) (h : Int) (w : World) (hk : ReadI w ku xs) (hv : ReadI w v t) :
    Calls Try.prog 31 #[cx a ku, v, .int .i64 h] w fun e w' => ∃ u, e = .returned (.tuple #[u, .int .i64 (ansQuestionsFor a xs t h).2]) ∧ OwnI w.heap.size w' u (ansQuestionsFor a xs t h).1 ∧ Below w.heap.size w w' := by
  obtain ⟨w1, hw1⟩ : ∃ w1, w1 = w.alloc (.cells #[.int .i64 a, ku] 28) := ⟨_, rfl⟩
  have hB : Below w.heap.size w w1 := by rw [hw1]; exact Below.alloc (Below.refl _ _) (Nat.le_refl _) _
  have c0 : w1.cell? ⟨w.heap.size, 0, none⟩ = some (.int .i64 a) := by rw [hw1]; simp
  have c1 : w1.cell? ⟨w.heap.size, 1, none⟩ = some ku := by rw [hw1]; simp
  have HB := Aside0.mk hB
  have HK := Aside0.mk (hk.below hB)
  have HV := Aside0.mk (hv.below hB)
  have HM := Aside0.mk (specTreeCode a ku xs v t w1 HK.out HV.out)
  obtain ⟨A1, d1, rfl, -⟩ := id hk
  obtain ⟨A2, d2, rfl, -⟩ := id hv
  clear hk hv hB
  obtain ⟨cd, hcd⟩ : ∃ cd : Int, cd = (if cxOk a xs then (if treeOk a.toNat t then 0 else 2) else 1) := ⟨_, rfl⟩
  rw [← hcd] at HM
  by_cases hc0 : cd = 0
  · obtain ⟨hx, hto⟩ : cxOk a xs = true ∧ treeOk a.toNat t = true := by
      rw [hc0] at hcd
      split at hcd
      · next h1 =>
        split at hcd
        · next h2 => exact ⟨h1, h2⟩
        · cases hcd
      · cases hcd
    obtain ⟨n, rfl, hc⟩ := cxOk_nat hx
    have hb64 := pw6 hc.hi
    have hn := hc.hi
    have hn1 := hc.lo
    have hsh := pow_wrap n (by omega)
    have HCQ : Aside0 (codeQ n xs t h = if hidIn n h then 0 else 2) := ⟨by unfold codeQ; rw [hx, if_pos rfl, hto, Bool.true_and]; rfl⟩
    obtain ⟨N, hN⟩ : ∃ N : Nat, N = 2 ^ n := ⟨_, rfl⟩
    have HW := Aside0.mk (fun W => specIn h 0 ((N : Int) - 1) W)
    have HHI : Aside0 (hidIn n h = (decide (0 ≤ h) && decide (h ≤ (N : Int) - 1))) := ⟨by rw [hN]; rfl⟩
    rw [← HHI.out] at HW
    have hwl := fun k => wayL_len t k n
    rw [← hN] at hb64 hsh
    have HT : Aside0 (treeOk n t = true) := ⟨hto⟩
    subst hc0
    cases hh : hidIn n h with
    | true =>
      have h0' : codeQ n xs t h = 0 := by rw [HCQ.out, hh]; rfl
      obtain ⟨_, k, -, -, -, rfl, -, hk64, -, -⟩ := codeQ_zero h0'
      have HA : Aside0 (ansQuestionsFor n xs t k = ((wayL t k n).take (neededV n xs t k), 0)) := ⟨by unfold ansQuestionsFor; rw [if_pos h0']; rfl⟩
      have HWL := Aside0.mk (hwl k)
      have HWY := Aside0.mk (fun (W : World) hv => specWay n hn (.slice A2 t.length d2) t k hk64 W hv HT.out)
      have HND := Aside0.mk (fun (W : World) hk hv => specNeeded n hn (.slice A1 xs.length d1) xs (.slice A2 t.length d2) t k hk64 W hk hv HT.out)
      have hnl : neededV n xs t k ≤ n := firstTold_le _ _ _ _ _
      obtain ⟨nd, hnd⟩ : ∃ nd, nd = neededV n xs t k := ⟨_, rfl⟩
      rw [← hnd] at HND hnl HA
      rw [hh] at HW
      have hndI : (nd : Int) ≤ (n : Int) := by omega
      clear hcd hx hto hc hN hwl hh h0' hnd
      go_enter Try.func31, Try.ntmps31
      go_wp2_with (first | (go_at_call 80; rw [← hw1]; clear hw1; refine HM.out.mono ?_; rintro e w2 ⟨rfl, hb⟩; have HB2 := Aside0.mk hb; replace c0 := pw_cell_below hb c0; replace c1 := pw_cell_below hb c1; clear hb) | (go_at_call 81; refine (HW.out _).mono ?_; rintro e w3 ⟨rfl, hb⟩; have HB3 := Aside0.mk (HB2.out.trans (hb.mono HB2.out.size)); replace c0 := pw_cell_below hb c0; replace c1 := pw_cell_below hb c1; clear hb) | (go_at_call 82; refine (HWY.out _ (HV.out.below HB3.out)).mono ?_; rintro e w5 ⟨u5, rfl, ho, hb⟩; obtain ⟨g, cap, rfl, -⟩ := Kd.R_form ho (by rw [HWL.out]; omega); rw [HWL.out] at ho ⊢; have HO5 := Aside0.mk ho; have hcap : n ≤ cap := (by obtain ⟨_, _, e_, h_, -⟩ := ho.read; injection e_ with _ e1_ e2_; rw [← e2_] at h_; rw [HWL.out] at h_; exact h_); have HB5 := Aside0.mk (HB3.out.trans (hb.mono HB3.out.size)); replace c0 := pw_cell_below hb c0; replace c1 := pw_cell_below hb c1; clear ho hb) | (go_at_call 84; refine (HND.out _ (HK.out.below HB5.out) (HV.out.below HB5.out)).mono ?_; rintro e w6 ⟨rfl, hb⟩; have HB6 := Aside0.mk (HB5.out.trans (hb.mono HB5.out.size)); have HO6 := Aside0.mk ((HO5.out.below hb).cut hnl); have h3 : ((wayL t k n).take nd).length = nd := (by rw [List.length_take, HWL.out]; omega); have H3 := Aside0.mk h3; have HRD := Aside0.mk HO6.out.read; clear hb h3) | (go_at_call 83; refine (specOwn _ ((wayL t k n).take nd) _ HRD.out (by rw [H3.out]; omega)).mono ?_; rintro e w7 ⟨u7, rfl, ho, hb⟩; obtain ⟨A7, d7, rfl, -⟩ := ho.read; rw [H3.out] at ho ⊢; have HO7 := Aside0.mk ho; have HB7 := Aside0.mk (HB6.out.trans (hb.mono HB6.out.size)); clear ho hb))
      go_ret2
      refine ⟨_, by rw [HA.out]; rfl, ?_, HB.out.trans (HB7.out.mono HB.out.size)⟩
      rw [HA.out]
      have h1 := HB.out.size
      have h2 := HB6.out.size
      exact HO7.out.lower (Nat.le_trans h1 h2)
    | false =>
      have h0' : codeQ n xs t h = 2 := by rw [HCQ.out, hh]; rfl
      have HA : Aside0 (ansQuestionsFor n xs t h = ([], 2)) := ⟨by unfold ansQuestionsFor; rw [h0', if_neg (by decide)]⟩
      rw [hh] at HW
      clear hcd hx hto hc hN hwl hh h0'
      go_enter Try.func31, Try.ntmps31
      go_wp2_with (first | (go_at_call 80; rw [← hw1]; clear hw1; refine HM.out.mono ?_; rintro e w2 ⟨rfl, hb⟩; have HB2 := Aside0.mk hb; replace c0 := pw_cell_below hb c0; replace c1 := pw_cell_below hb c1; clear hb) | (go_at_call 81; refine (HW.out _).mono ?_; rintro e w3 ⟨rfl, hb⟩; have HB3 := Aside0.mk (HB2.out.trans (hb.mono HB2.out.size)); clear hb))
      go_ret2
      exact ⟨_, by rw [HA.out]; rfl, by rw [HA.out]; exact OwnI.nil _ _, HB.out.trans (HB3.out.mono HB.out.size)⟩
  · have hq : codeQ a xs t h = cd := by
      unfold codeQ
      rw [hcd]
      split
      · next h1 =>
        rw [hcd, h1, if_pos rfl] at hc0
        split at hc0
        · exact absurd rfl hc0
        · next h2 => rw [Bool.not_eq_true] at h2; rw [h2]; rfl
      · rfl
    have HA : Aside0 (ansQuestionsFor a xs t h = ([], cd)) := ⟨by unfold ansQuestionsFor; rw [hq, if_neg hc0]⟩
    have hqb : (cd == 0) = false := by simpa using hc0
    have hqc : (cd != 0) = true := by simpa using hc0
    clear hcd hc0 hq
    go_enter Try.func31, Try.ntmps31
    go_wp2_with (first | (go_at_call 80; rw [← hw1]; clear hw1; refine HM.out.mono ?_; rintro e w2 ⟨rfl, hb⟩; have HB2 := Aside0.mk hb; clear hb))
    go_ret2
    exact ⟨_, by rw [HA.out]; rfl, by rw [HA.out]; exact OwnI.nil _ _, HB.out.trans (HB2.out.mono HB.out.size)⟩
end Go.Proofs.Ytkggchklmpmgpaa.H

namespace Go.Proofs.Ytkggchklmpmgpaa.H
open Go.RowKit Go.Proofs.YtkggchklmpmgpaaW.PrintWords Go.Proofs.YtkggchklmpmgpaaW.PrintLast Go.Proofs.YtkggchklmpmgpaaW.PrintMore
set_option linter.unusedVariables false
set_option linter.unusedSimpArgs false

/-- what LeastEvaders answers -/
def ansLeastEvaders (a : Int) (xs : List Int) : Int × Int := if cxOk a xs then (leastV a.toNat xs 0 0, 0) else (0, 1)

set_option maxRecDepth 100000 in
set_option maxHeartbeats 2000000 in
theorem implLeastEvaders (a : Int) (ku : Value) (xs : List Int) (w : World) (hk : ReadI w ku xs) :
    Calls Try.prog 27 #[cx a ku] w fun e w' => e = .returned (.tuple #[.int .i64 (ansLeastEvaders a xs).1, .int .i64 (ansLeastEvaders a xs).2]) ∧ Below w.heap.size w w' := by
  obtain ⟨w1, hw1⟩ : ∃ w1, w1 = w.alloc (.cells #[.int .i64 a, ku] 28) := ⟨_, rfl⟩
  have hB : Below w.heap.size w w1 := by rw [hw1]; exact Below.alloc (Below.refl _ _) (Nat.le_refl _) _
  have c0 : w1.cell? ⟨w.heap.size, 0, none⟩ = some (.int .i64 a) := by rw [hw1]; simp
  have c1 : w1.cell? ⟨w.heap.size, 1, none⟩ = some ku := by rw [hw1]; simp
  have HB := Aside0.mk hB
  have HK := Aside0.mk (hk.below hB)
  have HM := Aside0.mk (complexCode2 a ku xs _ true w1 HK.out (fun _ => alwaysB w1) ⟨_, _, _, rfl⟩)
  obtain ⟨A1, d1, rfl, -⟩ := id hk
  clear hk hB
  cases hx : cxOk a xs with
  | false =>
    have HA : Aside0 (ansLeastEvaders a xs = (0, 1)) := ⟨by unfold ansLeastEvaders; rw [hx]; rfl⟩
    rw [hx] at HM
    clear hx
    go_enter Try.func27, Try.ntmps27
    go_wp2_with (first | (go_at_call 40; rw [← hw1]; clear hw1; refine HM.out.mono ?_; rintro e w2 ⟨rfl, hb⟩; have HB2 := Aside0.mk hb; clear hb))
    go_ret2
    exact ⟨by rw [HA.out]; rfl, HB.out.trans (HB2.out.mono HB.out.size)⟩
  | true =>
    obtain ⟨n, rfl, hc⟩ := cxOk_nat hx
    have HA : Aside0 (ansLeastEvaders (n : Int) xs = (leastV n xs 0 0, 0)) := ⟨by unfold ansLeastEvaders; rw [hx]; rfl⟩
    rw [hx] at HM
    clear hx
    have HC := Aside0.mk hc
    clear hc
    have hmm := @run_makeMap Try.prog
    go_enter Try.func27, Try.ntmps27
    go_wp2_with (first | (go_at_call 40; rw [← hw1]; clear hw1; refine HM.out.mono ?_; rintro e w2 ⟨rfl, hb⟩; have HB2 := Aside0.mk hb; replace c0 := pw_cell_below hb c0; replace c1 := pw_cell_below hb c1; clear hb) | (go_at_call 71; obtain ⟨w3, hw3⟩ : ∃ w3, w3 = w2.alloc (.map #[] 0) := ⟨_, rfl⟩; rw [← hw3]; have hB3 : Below w2.heap.size w2 w3 := (by rw [hw3]; exact Below.alloc (Below.refl _ _) (Nat.le_refl _) _); have HM3 : Aside0 (MapI n (leastV n xs) w2.heap.size w3) := ⟨(by rw [hw3]; exact MapI.made _ _ _)⟩; clear hw3; refine (evaders n (.slice A1 xs.length d1) xs HC.out w2.heap.size 7 0 0 0 w3 rfl (lefts_lt HC.out.hi) (pl_zero n) (RdK.mk' (HK.out.below HB2.out) hB3 (Nat.le_refl _)) HM3.out).mono ?_; rintro e w4 ⟨rfl, hg, -⟩; have HB3 := Aside0.mk (HB2.out.trans ((hB3.trans (below_grown hg (Nat.le_refl _) hB3.size)).mono HB2.out.size)); clear hg hB3))
    go_ret2
    exact ⟨by rw [HA.out]; rfl, HB.out.trans (HB3.out.mono HB.out.size)⟩

/-- the reference's least number -/
theorem specLeastNumber (n : Nat) (ku : Value) (xs : List Int) (w wt : World) (hn : n ≤ 6) (hk : ReadI w ku xs) (u : Value) (hu : OwnI w.heap.size wt u (noneT 4096)) (hb : Below w.heap.size w wt) :
    Calls Try.prog 72 #[cx n ku, .int .i64 0, .int .i64 0, u] wt fun e w' => e = .returned (.int .i64 (leastV n xs 0 0)) ∧ Below w.heap.size w w' := by
  obtain ⟨g, c, rfl, -⟩ := Kd.R_form hu (by rw [noneT_len]; decide)
  rw [noneT_len] at hu ⊢
  have h1 := hu.base g (by simp [Value.ownBlock])
  refine (specLeast n hn ku xs g c 7 0 0 wt (lefts_lt hn) (pl_zero n) (RdK.mk' hk hb h1) ⟨_, hu.lower (Nat.zero_le _), tab_none hn _⟩).mono ?_
  rintro e w' ⟨rfl, hg, -⟩
  exact ⟨rfl, hb.trans (below_grown hg h1 hb.size)⟩
set_option maxRecDepth 100000 in
set_option maxHeartbeats 2000000 in
theorem specLeastEvaders (a : Int) (ku : Value) (xs : List Int) (w : World) (hk : ReadI w ku xs) :
    Calls Try.prog 28 #[cx a ku] w fun e w' => e = .returned (.tuple #[.int .i64 (ansLeastEvaders a xs).1, .int .i64 (ansLeastEvaders a xs).2]) ∧ Below w.heap.size w w' := by
  obtain ⟨w1, hw1⟩ : ∃ w1, w1 = w.alloc (.cells #[.int .i64 a, ku] 28) := ⟨_, rfl⟩
  have hB : Below w.heap.size w w1 := by rw [hw1]; exact Below.alloc (Below.refl _ _) (Nat.le_refl _) _
  have c0 : w1.cell? ⟨w.heap.size, 0, none⟩ = some (.int .i64 a) := by rw [hw1]; simp
  have c1 : w1.cell? ⟨w.heap.size, 1, none⟩ = some ku := by rw [hw1]; simp
  have HB := Aside0.mk hB
  have HK := Aside0.mk (hk.below hB)
  have HM := Aside0.mk (specIs a ku xs w1 HK.out)
  obtain ⟨A1, d1, rfl, -⟩ := id hk
  clear hk hB
  cases hx : cxOk a xs with
  | false =>
    have HA : Aside0 (ansLeastEvaders a xs = (0, 1)) := ⟨by unfold ansLeastEvaders; rw [hx]; rfl⟩
    rw [hx] at HM
    clear hx
    go_enter Try.func28, Try.ntmps28
    go_wp2_with (first | (go_at_call 38; rw [← hw1]; clear hw1; refine HM.out.mono ?_; rintro e w2 ⟨rfl, hb⟩; have HB2 := Aside0.mk hb; clear hb))
    go_ret2
    exact ⟨by rw [HA.out]; rfl, HB.out.trans (HB2.out.mono HB.out.size)⟩
  | true =>
    obtain ⟨n, rfl, hc⟩ := cxOk_nat hx
    have HA : Aside0 (ansLeastEvaders (n : Int) xs = (leastV n xs 0 0, 0)) := ⟨by unfold ansLeastEvaders; rw [hx]; rfl⟩
    rw [hx] at HM
    clear hx
    have HC := Aside0.mk hc
    clear hc
    go_enter Try.func28, Try.ntmps28
    go_wp2_with (first | (go_at_call 38; rw [← hw1]; clear hw1; refine HM.out.mono ?_; rintro e w2 ⟨rfl, hb⟩; have HB2 := Aside0.mk hb; replace c0 := pw_cell_below hb c0; replace c1 := pw_cell_below hb c1; clear hb))
    have hmx : Try.prog.follows .mixedOrders = true := by kernel_rfl
    have hk2 := Aside0.mk (HK.out.below HB2.out)
    have hd : Below w2.heap.size w2 w2.drew := (Below.refl _ _).drew
    have HK3 := Aside0.mk (hk2.out.below hd)
    have HB3 := Aside0.mk hd
    replace c0 := pw_cell_below hd c0
    replace c1 := pw_cell_below hd c1
    have HC0 := Aside0.mk c0
    clear hd hk2
    go_region_with (first | (go_at_call 70; refine (specTable _).mono ?_; rintro e w4 ⟨u, rfl, ho, hb⟩; have HO := Aside0.mk ho; have HB4 := Aside0.mk hb; replace c0 := pw_cell_below hb c0; replace c1 := pw_cell_below hb c1; clear ho hb) | (go_at_call 72; refine (specLeastNumber n _ xs _ _ HC.out.hi HK3.out _ HO.out HB4.out).mono ?_; rintro e w5 ⟨rfl, hb⟩; have HB5 := Aside0.mk (HB3.out.trans (hb.mono HB3.out.size)); replace c0 := pw_cell_below hb HC0.out; clear hb))
    all_goals go_wp2
    all_goals go_ret2
    all_goals exact ⟨by rw [HA.out]; rfl, HB.out.trans ((HB2.out.trans (HB5.out.mono HB2.out.size)).mono HB.out.size)⟩
end Go.Proofs.Ytkggchklmpmgpaa.H

namespace Go.Proofs.Ytkggchklmpmgpaa.H
open Go.RowKit Go.Proofs.YtkggchklmpmgpaaW.PrintWords Go.Proofs.YtkggchklmpmgpaaW.PrintLast Go.Proofs.YtkggchklmpmgpaaW.PrintMore
set_option linter.unusedVariables false
set_option linter.unusedSimpArgs false

theorem wrapUc {n : Nat} (h : n < 18446744073709551616) : IntKind.u64.wrap (n : Int) = n := by
  show ((n : Int) % 18446744073709551616) = n
  omega
set_option maxRecDepth 100000 in
set_option maxHeartbeats 8000000 in
theorem onesC (x : Nat) (h2 : x < 64) (w : World) : Calls Try.prog 180 #[.int .u64 x] w fun e w' => e = .returned (.int .i64 (ones x : Nat)) ∧ Below w.heap.size w w' := by
  rcases (by omega : x = 0 ∨ x = 1 ∨ x = 2 ∨ x = 3 ∨ x = 4 ∨ x = 5 ∨ x = 6 ∨ x = 7 ∨ x = 8 ∨ x = 9 ∨ x = 10 ∨ x = 11 ∨ x = 12 ∨ x = 13 ∨ x = 14 ∨ x = 15 ∨ x = 16 ∨ x = 17 ∨ x = 18 ∨ x = 19 ∨ x = 20 ∨ x = 21 ∨ x = 22 ∨ x = 23 ∨ x = 24 ∨ x = 25 ∨ x = 26 ∨ x = 27 ∨ x = 28 ∨ x = 29 ∨ x = 30 ∨ x = 31 ∨ x = 32 ∨ x = 33 ∨ x = 34 ∨ x = 35 ∨ x = 36 ∨ x = 37 ∨ x = 38 ∨ x = 39 ∨ x = 40 ∨ x = 41 ∨ x = 42 ∨ x = 43 ∨ x = 44 ∨ x = 45 ∨ x = 46 ∨ x = 47 ∨ x = 48 ∨ x = 49 ∨ x = 50 ∨ x = 51 ∨ x = 52 ∨ x = 53 ∨ x = 54 ∨ x = 55 ∨ x = 56 ∨ x = 57 ∨ x = 58 ∨ x = 59 ∨ x = 60 ∨ x = 61 ∨ x = 62 ∨ x = 63) with rfl | rfl | rfl | rfl | rfl | rfl | rfl | rfl | rfl | rfl | rfl | rfl | rfl | rfl | rfl | rfl | rfl | rfl | rfl | rfl | rfl | rfl | rfl | rfl | rfl | rfl | rfl | rfl | rfl | rfl | rfl | rfl | rfl | rfl | rfl | rfl | rfl | rfl | rfl | rfl | rfl | rfl | rfl | rfl | rfl | rfl | rfl | rfl | rfl | rfl | rfl | rfl | rfl | rfl | rfl | rfl | rfl | rfl | rfl | rfl | rfl | rfl | rfl | rfl
  all_goals
    go_enter Try.func180, Try.ntmps180
    go_wp2
    go_ret
    exact ⟨by kernel_rfl, by (repeat (first | (with_reducible exact Below.refl _ _) | (with_reducible assumption) | (with_reducible refine below_step ?_ (by assumption)) | (with_reducible apply below_alloc) | (with_reducible apply below_drewN)))⟩
theorem size (x : Nat) (h2 : x < 64) (w : World) : Calls Try.prog 150 #[.int .i64 x] w fun e w' => e = .returned (.int .i64 (ones x : Nat)) ∧ Below w.heap.size w w' := by
  have hw : IntKind.u64.wrap (x : Int) = x := wrapUc (by omega)
  have HX := Aside0.mk (onesC x h2)
  go_enter Try.func150, Try.ntmps150
  go_wp2_with (first | (go_at_call 180; refine (HX.out _).mono ?_; rintro e w2 ⟨rfl, hb⟩))
  go_ret
  exact ⟨rfl, hb⟩
theorem dimI (x : Nat) (h2 : x < 64) (w : World) : Calls Try.prog 106 #[.int .i64 x] w fun e w' => e = .returned (.int .i64 ((ones x : Int) - 1)) ∧ Below w.heap.size w w' := by
  have HX := Aside0.mk (size x h2)
  have h6 := ones_le x h2
  go_enter Try.func106, Try.ntmps106
  go_wp2_with (first | (go_at_call 150; refine (HX.out _).mono ?_; rintro e w2 ⟨rfl, hb⟩))
  go_ret
  exact ⟨by first | rfl | (congr 2; omega) | simp, hb⟩
end Go.Proofs.Ytkggchklmpmgpaa.H

namespace Go.Proofs.Ytkggchklmpmgpaa.H
open Go.RowKit Go.Proofs.YtkggchklmpmgpaaW.PrintWords Go.Proofs.YtkggchklmpmgpaaW.PrintLast Go.Proofs.YtkggchklmpmgpaaW.PrintMore
set_option linter.unusedVariables false
set_option linter.unusedSimpArgs false

theorem eulT_bd (x : Int) : -1 ≤ eulT x ∧ eulT x ≤ 3 := by
  unfold eulT
  have h0 : (0 : Int) ≤ (ones x.toNat : Int) := by omega
  have h1 : -1 ≤ Int.tmod ((ones x.toNat : Int) - 1) 2 ∧ Int.tmod ((ones x.toNat : Int) - 1) 2 ≤ 1 := by
    by_cases h : ones x.toNat = 0
    · rw [h]; decide
    · rw [Int.tmod_eq_emod_of_nonneg (by omega)]; omega
  omega
theorem eulV_bd : ∀ l : List Int, -(l.length : Int) ≤ eulV l ∧ eulV l ≤ 3 * l.length
  | [] => by decide
  | x :: r => by
    have ih := eulV_bd r
    have h := eulT_bd x
    unfold eulV at ih ⊢
    rw [List.map_cons, List.sum_cons, List.length_cons]
    omega
theorem eulV_next {xs : List Int} {i : Nat} {y : Int} (h : i < xs.length) (hy : xs.getD i 0 = y) : eulV (xs.take (i + 1)) = eulV (xs.take i) + eulT y := by
  unfold eulV
  rw [take_get h hy, List.map_append, List.sum_append]
  simp
/-- what EulerNumber answers -/
def ansEulerNumber (a : Int) (xs : List Int) : Int × Int := if cxOk a xs then (eulV xs, 0) else (0, 1)
theorem ones_pos : ∀ f : Nat, f < 64 → 0 < f → 0 < ones f := by decide +kernel

set_option maxRecDepth 100000 in
set_option maxHeartbeats 4000000 in
theorem eulerI (n : Nat) (ku : Value) (xs : List Int) (w : World) (hk : ReadI w ku xs) (hc : Cx n xs) :
    Calls Try.prog 53 #[cx n ku] w fun e w' => e = .returned (.int .i64 (eulV xs)) ∧ Below w.heap.size w w' := by
  obtain ⟨w1, hw1⟩ : ∃ w1, w1 = w.alloc (.cells #[.int .i64 n, ku] 28) := ⟨_, rfl⟩
  have hB : Below w.heap.size w w1 := by rw [hw1]; exact Below.alloc (Below.refl _ _) (Nat.le_refl _) _
  have c0 : w1.cell? ⟨w.heap.size, 0, none⟩ = some (.int .i64 n) := by rw [hw1]; simp
  have c1 : w1.cell? ⟨w.heap.size, 1, none⟩ = some ku := by rw [hw1]; simp
  have HB := Aside0.mk hB
  have HC := Aside0.mk hc
  have hlen := hc.len
  obtain ⟨A1, d1, rfl, hcv, hrv⟩ := hk.below hB
  have HR := Aside0.mk hrv
  clear hk hB hcv hrv hc
  go_enter Try.func53, Try.ntmps53
  go_wp2
  rw [← hw1]
  go_wp2
  go_loopw [3, 9] (fun s3 s9 wr => ∃ i : Nat, s9 = .int .i64 i ∧ s3 = .int .i64 (eulV (xs.take i)) ∧ i ≤ xs.length ∧ Aside0 (Below w1.heap.size w1 wr)) (fun _ s9 _ => xs.length - (intOf s9).toNat)
  case atStart => exact ⟨0, rfl, rfl, Nat.zero_le _, ⟨Below.refl _ _⟩⟩
  case round =>
    obtain ⟨i, rfl, rfl, hi, HBr⟩ := hrel
    by_cases hlt : i < xs.length
    · have hltI : (i : Int) < (xs.length : Int) := by omega
      obtain ⟨ad, y, rfl, hcell, HY⟩ := ReadI.get (Kd.C_below HR.out HBr.out) hlt
      obtain ⟨f, rfl, hf1, hf2⟩ := HC.out.nat (mem_at hlt HY.out)
      have hbd := eulV_bd (xs.take i)
      rw [List.length_take, Nat.min_eq_left hi] at hbd
      have HN := Aside0.mk (eulV_next hlt HY.out)
      have h0 := ones_pos f (by omega) hf1
      have h6 := ones_le f (by omega)
      obtain ⟨k, hk⟩ : ∃ k : Nat, (ones f : Int) - 1 = k := ⟨ones f - 1, by omega⟩
      have HD := Aside0.mk (dimI f (by omega))
      rw [hk] at HD
      obtain ⟨r, hr⟩ : ∃ r, r = k % 2 := ⟨_, rfl⟩
      have hr1 : Int.tmod (k : Int) 2 = (r : Int) := by rw [Int.tmod_eq_emod_of_nonneg (by omega)]; omega
      have hr2 : (k : Int) % 2 = (r : Int) := by omega
      have hr3 : r ≤ 1 := by omega
      have HT : Aside0 (eulT (f : Int) = 1 - 2 * (r : Int)) := ⟨by unfold eulT; rw [Int.toNat_natCast, hk, hr1]⟩
      obtain ⟨E, hE⟩ : ∃ E, E = eulV (xs.take i) := ⟨_, rfl⟩
      rw [← hE] at hbd ⊢
      rw [← hE] at HN
      clear hE h0 h6 hk hr
      go_wp2_with (first | (go_at_call 106; refine (HD.out _).mono ?_; rintro e w2 ⟨rfl, hb⟩; have HB2 := Aside0.mk (HBr.out.trans (hb.mono HBr.out.size)); clear hb))
      go_roundw
      case rel => exact ⟨i + 1, by go_num, by rw [HN.out, HT.out] <;> first | rfl | (simp [hr1, hr2]) | (simp; omega), by omega, HB2⟩
      case measure => simp [intOf]; omega
    · have e : i = xs.length := by omega
      have HE := Aside0.mk e
      clear e
      go_wp2
      go_ret
      exact ⟨by rw [HE.out, List.take_length]; rfl, HB.out.trans (HBr.out.mono HB.out.size)⟩

set_option maxRecDepth 100000 in
set_option maxHeartbeats 2000000 in
theorem implEulerNumber (a : Int) (ku : Value) (xs : List Int) (w : World) (hk : ReadI w ku xs) :
    Calls Try.prog 36 #[cx a ku] w fun e w' => e = .returned (.tuple #[.int .i64 (ansEulerNumber a xs).1, .int .i64 (ansEulerNumber a xs).2]) ∧ Below w.heap.size w w' := by
  obtain ⟨w1, hw1⟩ : ∃ w1, w1 = w.alloc (.cells #[.int .i64 a, ku] 28) := ⟨_, rfl⟩
  have hB : Below w.heap.size w w1 := by rw [hw1]; exact Below.alloc (Below.refl _ _) (Nat.le_refl _) _
  have c0 : w1.cell? ⟨w.heap.size, 0, none⟩ = some (.int .i64 a) := by rw [hw1]; simp
  have c1 : w1.cell? ⟨w.heap.size, 1, none⟩ = some ku := by rw [hw1]; simp
  have HB := Aside0.mk hB
  have HK := Aside0.mk (hk.below hB)
  have HM := Aside0.mk (complexCode2 a ku xs _ true w1 HK.out (fun _ => alwaysB w1) ⟨_, _, _, rfl⟩)
  obtain ⟨A1, d1, rfl, -⟩ := id hk
  clear hk hB
  cases hx : cxOk a xs with
  | false =>
    have HA : Aside0 (ansEulerNumber a xs = (0, 1)) := ⟨by unfold ansEulerNumber; rw [hx]; rfl⟩
    rw [hx] at HM
    clear hx
    go_enter Try.func36, Try.ntmps36
    go_wp2_with (first | (go_at_call 40; rw [← hw1]; clear hw1; refine HM.out.mono ?_; rintro e w2 ⟨rfl, hb⟩; have HB2 := Aside0.mk hb; clear hb))
    go_ret2
    exact ⟨by rw [HA.out]; rfl, HB.out.trans (HB2.out.mono HB.out.size)⟩
  | true =>
    have HA : Aside0 (ansEulerNumber a xs = (eulV xs, 0)) := ⟨by unfold ansEulerNumber; rw [hx]; rfl⟩
    obtain ⟨n, rfl, hc⟩ := cxOk_nat hx
    rw [hx] at HM
    have HC := Aside0.mk hc
    clear hx hc
    go_enter Try.func36, Try.ntmps36
    go_wp2_with (first | (go_at_call 40; rw [← hw1]; clear hw1; refine HM.out.mono ?_; rintro e w2 ⟨rfl, hb⟩; have HB2 := Aside0.mk hb; replace c0 := pw_cell_below hb c0; replace c1 := pw_cell_below hb c1; clear hb) | (go_at_call 53; refine (eulerI n _ xs _ (HK.out.below HB2.out) HC.out).mono ?_; rintro e w3 ⟨rfl, hb⟩; have HB3 := Aside0.mk hb; clear hb))
    go_ret2
    exact ⟨by rw [HA.out]; rfl, HB.out.trans ((HB2.out.trans (HB3.out.mono HB2.out.size)).mono HB.out.size)⟩
end Go.Proofs.Ytkggchklmpmgpaa.H

namespace Go.Proofs.Ytkggchklmpmgpaa.H
open Go.RowKit Go.Proofs.YtkggchklmpmgpaaW.PrintWords Go.Proofs.YtkggchklmpmgpaaW.PrintLast Go.Proofs.YtkggchklmpmgpaaW.PrintMore
set_option linter.unusedVariables false
set_option linter.unusedSimpArgs false

theorem key_ev {b : Int} {zs ts : List Int} (h : (ansEvadersOf b zs ts).2 = 0) : (ansLeastEvaders b zs).2 = 0 ∧ (ansLeastEvaders b zs).1 ≤ ((ansEvadersOf b zs ts).1.length : Int) ∧ (ansEvadersOf b zs ts).1.length % 2 = 0 := by
  unfold ansEvadersOf ansLeastEvaders at *
  split at h
  · next h1 =>
    obtain ⟨n, rfl, hc⟩ := cxOk_nat h1
    split at h
    · next h2 =>
      have := ev_least hc.lo hc.hi (xs := zs) h2
      rw [h1, if_pos rfl]
      refine ⟨rfl, ?_⟩
      rw [if_pos rfl, if_pos h2]
      exact this
    · cases h
  · cases h
theorem key_qf {b : Int} {zs ts : List Int} {h : Int} (h0 : (ansQuestionsFor b zs ts h).2 = 0) : (ansEvadersOf b zs ts).2 = 0 ∧ decide (h ∈ (ansEvadersOf b zs ts).1) = (((ansQuestionsFor b zs ts h).1.length : Int) == b) := by
  unfold ansQuestionsFor at h0 ⊢
  split at h0
  · next hq =>
    rw [if_pos hq]
    obtain ⟨n, k, rfl, hc, ht, rfl, hk, -, hok, -⟩ := codeQ_zero hq
    unfold ansEvadersOf
    rw [hok, if_pos rfl, Int.toNat_natCast, if_pos ht]
    refine ⟨rfl, ?_⟩
    simp only [Int.toNat_natCast]
    have hle : neededV n zs ts k ≤ n := firstTold_le n zs ts k n
    rw [List.length_take, wayL_len, Nat.min_eq_left hle, Bool.eq_iff_iff, decide_eq_true_eq, beq_iff_eq, evTo_mem]
    constructor
    · rintro ⟨-, h2⟩; omega
    · intro h2; exact ⟨hk, by omega⟩
  · next hq => exact absurd h0 hq
theorem ev_len64 (b : Int) (zs ts : List Int) : (ansEvadersOf b zs ts).1.length ≤ 64 := by
  unfold ansEvadersOf
  split
  · next h1 =>
    obtain ⟨n, rfl, hc⟩ := cxOk_nat h1
    split
    · have h2 := (pw6 hc.hi).2
      exact Nat.le_trans (evTo_len n zs ts (2 ^ n)) h2
    · simp
  · simp
theorem key_bad {a : Int} {ys : List Int} (h : cxOk a ys = false) : ansQuestionNumber a ys = (0, 1) ∧ ansIsEvasive a ys = (false, 1) ∧ ansLeastEvaders a ys = (0, 1) := by
  unfold ansQuestionNumber ansIsEvasive ansLeastEvaders
  rw [h]
  exact ⟨rfl, rfl, rfl⟩
theorem key_good {a : Int} {ys : List Int} (h : cxOk a ys = true) : ∃ (N L X : Int), ansQuestionNumber a ys = (N, 0) ∧ ansIsEvasive a ys = (N == a, 0) ∧ ansLeastEvaders a ys = (L, 0) ∧ ansEulerNumber a ys = (X, 0) ∧ 0 ≤ N ∧ N ≤ a ∧ decide (0 < L) = (N == a) ∧ (N ≠ a → X = 1) := by
  obtain ⟨n, rfl, hc⟩ := cxOk_nat h
  refine ⟨needV n ys 0 0, leastV n ys 0 0, eulV ys, ?_, ?_, ?_, ?_, ?_, ?_, ?_, ?_⟩
  · unfold ansQuestionNumber; rw [h]; rfl
  · unfold ansIsEvasive; rw [h]; rfl
  · unfold ansLeastEvaders; rw [h]; rfl
  · unfold ansEulerNumber; rw [h]; rfl
  · exact (needV_bd n ys 0 0).1
  · exact (needV_bd n ys 0 0).2
  · have hl : lefts n 0 0 = n := by
      unfold lefts frees
      rw [List.filter_eq_self.2 (fun v _ => by simp)]
      simp
    have hlo := hc.lo
    have := need_evade hc.hi ys (n - 1) 0 0 (pl_zero n) (by omega)
    rw [hl] at this
    rw [Bool.eq_iff_iff, decide_eq_true_eq, beq_iff_eq]
    exact this.symm
  · exact fun hne => eul_need hc hne
end Go.Proofs.Ytkggchklmpmgpaa.H

namespace Go.Proofs.Ytkggchklmpmgpaa.H
open Go.ChangeShapes Go.WideShapes Go.ChangeAt
open Go.RowKit Go.Proofs.YtkggchklmpmgpaaW.PrintWords Go.Proofs.YtkggchklmpmgpaaW.PrintLast Go.Proofs.YtkggchklmpmgpaaW.PrintMore
set_option linter.unusedVariables false
set_option linter.unusedSimpArgs false

/-- an int64 -/
def W64 (a : Int) : Prop := (Lit.int .i64 a).wf = true
theorem W64.bd {a : Int} (h : W64 a) : -9223372036854775808 ≤ a ∧ a ≤ 9223372036854775807 := by
  simpa [W64, Lit.wf, IntKind.min, IntKind.max, IntKind.signed, IntKind.bits] using h

end Go.Proofs.Ytkggchklmpmgpaa.H

namespace Go.Proofs.Ytkggchklmpmgpaa.H
open Go.ChangeShapes Go.WideShapes Go.ChangeAt
open Go.RowKit Go.Proofs.YtkggchklmpmgpaaW.PrintWords Go.Proofs.YtkggchklmpmgpaaW.PrintLast Go.Proofs.YtkggchklmpmgpaaW.PrintMore
set_option linter.unusedVariables false
set_option linter.unusedSimpArgs false

set_option maxRecDepth 100000 in
theorem open_code {H : Type} {enc : TypeId × Value → H} {W : World} {base : Nat} {v : Value} {d : DataW H} {p : List MemPlace}
    (hv : Value.okWide Try.prog W .any base 40 v) (h : DataW.Trod enc Try.prog W 0 (fun _ => true) true 40 v d p) : ∃ n : Nat, ReadY W v n ∧ n ≤ 9223372036854775807 := by
  obtain ⟨a1, len1, cap1, rfl⟩ := okWide_slice Try.underlying40 hv
  obtain ⟨fuel, hf⟩ := h
  rcases open_ints Try.underlying40 Try.underlying5 (by kernel_rfl) hf with ⟨hcs, _⟩ | ⟨x, l, c, zs, hcs, _, hl, hm, hz, _, hcell, hwz⟩
  · injection hcs with hcs _
    injection hcs with e1 e2 e3
    subst e1 e2 e3
    exact ⟨0, ⟨none, 0, rfl, fun h => absurd h (Nat.lt_irrefl _)⟩, by omega⟩
  · injection hcs with hcs _
    injection hcs with e1 e2 e3
    subst e1 e2 e3
    refine ⟨len1, ⟨some x, cap1, rfl, fun _ => ⟨x, rfl, fun i hi => ?_⟩⟩, ?_⟩
    · have hzl : i < zs.length := by simp at hz; omega
      have h1 := hcell i hzl
      have h2 := hwz (zs.getD i 0) (by rw [List.getD_eq_getElem?_getD, List.getElem?_eq_getElem hzl]; exact List.getElem_mem hzl)
      have h3 : 0 ≤ zs.getD i 0 ∧ zs.getD i 0 ≤ 255 := by simpa [Lit.wf, IntKind.min, IntKind.max, IntKind.signed, IntKind.bits] using h2
      refine ⟨(zs.getD i 0).toNat, by omega, ?_⟩
      rw [show (((zs.getD i 0).toNat : Nat) : Int) = zs.getD i 0 by omega]
      exact h1
    · unfold maxLen at hm
      omega

theorem bigB (v : Value) (n : Nat) (w : World) (hv : ReadY w v n) (hn : n ≤ 9223372036854775807) : Calls Try.prog 21 #[v] w fun e w' => e = .returned (.bool (decide (4096 < n))) ∧ Below w.heap.size w w' := by
  obtain ⟨A, c, rfl, -⟩ := id hv
  clear hv
  by_cases h : 4096 < n
  · have h1 : (4096 : Int) < (n : Int) := by omega
    have HH : Aside0 (decide (4096 < n) = true) := ⟨decide_eq_true h⟩
    clear h
    go_enter Try.func21, Try.ntmps21
    go_wp2
    go_ret
    exact ⟨by rw [HH.out] <;> simp [h1], Below.refl _ _⟩
  · have h1 : ¬ (4096 : Int) < (n : Int) := by omega
    have HH : Aside0 (decide (4096 < n) = false) := ⟨decide_eq_false h⟩
    clear h
    go_enter Try.func21, Try.ntmps21
    go_wp2
    go_ret
    exact ⟨by rw [HH.out] <;> simp [h1], Below.refl _ _⟩
/-- what is read is read behind too -/
theorem Aside0.readc {w w' : World} {v : Value} {xs : List Int} (h : Aside0 (ReadI w v xs)) (hb : Below w.heap.size w w') : Aside0 (ReadI w' v xs) := ⟨ReadI.below h.out hb⟩
theorem Aside0.ready {w w' : World} {v : Value} {n : Nat} (h : Aside0 (ReadY w v n)) (hb : Below w.heap.size w w') : Aside0 (ReadY w' v n) := ⟨ReadY.below h.out hb⟩
end Go.Proofs.Ytkggchklmpmgpaa.H
