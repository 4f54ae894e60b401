/- QuestionsFor of the program and of the reference. -/
import Derived.Test.YtpcjbdkdpcgdiaaWayS
import Derived.Test.YtpcjbdkdpcgdiaaCut
namespace Go.Proofs.Ytpcjbdkdpcgdiaa.H
open Go.RowKit Go.Proofs.YtpcjbdkdpcgdiaaW.PrintWords Go.Proofs.YtpcjbdkdpcgdiaaW.PrintLast Go.Proofs.YtpcjbdkdpcgdiaaW.PrintMore
set_option linter.unusedVariables false
set_option linter.unusedSimpArgs false

/-- a hidden set -/
def hidIn (n : Nat) (h : Int) : Bool := decide (0 ≤ h) && decide (h ≤ ((2 ^ n : Nat) : Int) - 1)
/-- the code -/
def codeQ (a : Int) (xs t : List Int) (h : Int) : Int := if cxOk a xs then (if treeOk a.toNat t && hidIn a.toNat h then 0 else 2) else 1
/-- what QuestionsFor answers -/
def ansQuestionsFor (a : Int) (xs t : List Int) (h : Int) : List Int × Int :=
  if codeQ a xs t h = 0 then ((wayL t h.toNat a.toNat).take (neededV a.toNat xs t h.toNat), 0) else ([], codeQ a xs t h)
theorem codeQ_zero {a : Int} {xs t : List Int} {h : Int} (h0 : codeQ a xs t h = 0) : ∃ (n k : Nat), a = n ∧ Cx n xs ∧ treeOk n t = true ∧ h = k ∧ k < 2 ^ n ∧ k < 64 ∧ cxOk n xs = true ∧ hidIn n k = true := by
  unfold codeQ at h0
  split at h0
  · next h1 =>
    obtain ⟨n, rfl, hc⟩ := cxOk_nat h1
    split at h0
    · next h2 =>
      rw [Bool.and_eq_true] at h2
      have h3 := h2.2
      unfold hidIn at h3
      rw [Bool.and_eq_true, decide_eq_true_eq, decide_eq_true_eq] at h3
      have h5 : h ≤ ((2 ^ n : Nat) : Int) - 1 := h3.2
      have := pw6 hc.hi
      have e : h = (h.toNat : Int) := by omega
      exact ⟨n, h.toNat, rfl, hc, h2.1, e, by omega, by omega, h1, by rw [← e]; exact h2.2⟩
    · cases h0
  · cases h0
theorem lenQuestionsFor (a : Int) (xs t : List Int) (h : Int) : (ansQuestionsFor a xs t h).1.length ≤ 1073741824 := by
  unfold ansQuestionsFor
  split
  · next h0 =>
    obtain ⟨n, k, rfl, hc, -⟩ := codeQ_zero h0
    have := hc.hi
    rw [List.length_take, wayL_len]
    show min _ n ≤ _
    omega
  · simp

set_option maxRecDepth 100000 in
set_option maxHeartbeats 2000000 in
theorem questionsFor1 (w : World) (bk bt bh : Nat) (n : Nat) (hn : 1 ≤ n ∧ n ≤ 6) (ku : Value) (v : Value) (t : List Int) (h : Int) (hv : ReadI w v t) (h0 : w.cell? ⟨bk, 0, none⟩ = some (.int .i64 n)) (hk1 : w.cell? ⟨bk, 1, none⟩ = some ku) (h1 : w.cell? ⟨bt, 0, none⟩ = some v) (h2 : w.cell? ⟨bh, 0, none⟩ = some (.int .i64 h)) (A : Option Addr) (l d : Nat) (hku : ku = .slice A l d) :
    ThunkB w (.func (.func 56) #[] #[.pointer (some ⟨bk, 0, none⟩), .pointer (some ⟨bt, 0, none⟩), .pointer (some ⟨bh, 0, none⟩)]) (treeOk n t && hidIn n h) := by
  subst hku
  refine ⟨_, _, _, rfl, Enters.mk' Try.func56 rfl rfl, fun w1 hb => ?_⟩
  have c0 := pw_cell_below hb h0
  have c1 := pw_cell_below hb hk1
  have ct := pw_cell_below hb h1
  have ch := pw_cell_below hb h2
  have HV := Aside0.mk (hv.below hb)
  obtain ⟨A2, d2, rfl, -⟩ := id hv
  obtain ⟨N, hN⟩ : ∃ N : Nat, N = 2 ^ n := ⟨_, rfl⟩
  have HFU : Aside0 (∀ (u : Value) (W : World), Calls Try.prog 59 #[cx n u] W fun e w' => e = .returned (.int .i64 ((N : Int) - 1)) ∧ Below W.heap.size W w') := ⟨fun u W => by rw [hN]; exact full n hn.2 _ W⟩
  have HW := Aside0.mk (fun W => within h 0 ((N : Int) - 1) W)
  have HH : Aside0 (hidIn n h = (decide (0 ≤ h) && decide (h ≤ (N : Int) - 1))) := ⟨by rw [hN]; rfl⟩
  obtain ⟨hb, hhb⟩ : ∃ hb, hb = (decide (0 ≤ h) && decide (h ≤ (N : Int) - 1)) := ⟨_, rfl⟩
  rw [← hhb] at HW HH
  have HTR := Aside0.mk (fun W hr => isTree (.slice A2 t.length d2) t n hn W hr)
  have hd : Below w1.heap.size w1 w1.drew := (Below.refl _ _).drew
  have HV1 := Aside0.mk (HV.out.below hd)
  have c0 := pw_cell_below hd c0
  have c1 := pw_cell_below hd c1
  have ct := pw_cell_below hd ct
  have ch := pw_cell_below hd ch
  have hmx : Try.prog.follows .mixedOrders = true := by kernel_rfl
  clear h0 h1 h2 hk1 hv hN hhb
  cases hto : treeOk n t with
  | false =>
    rw [hto] at HTR
    clear hto
    show Calls _ _ #[_, _, _] _ _
    go_enter Try.func56, Try.ntmps56
    go_wp2
    go_region_with (first | (go_at_call 57; refine (HTR.out _ HV1.out).mono ?_; rintro e w4 ⟨rfl, hb4⟩; have HB4 := Aside0.mk (hd.trans (hb4.mono hd.size)); replace c0 := pw_cell_below hb4 c0; replace c1 := pw_cell_below hb4 c1; replace ch := pw_cell_below hb4 ch; clear hb4))
    all_goals go_wp2
    all_goals go_ret
    all_goals exact ⟨rfl, HB4.out⟩
  | true =>
    rw [hto] at HTR
    clear hto
    show Calls _ _ #[_, _, _] _ _
    go_enter Try.func56, Try.ntmps56
    go_wp2
    go_region_with (first | (go_at_call 57; refine (HTR.out _ HV1.out).mono ?_; rintro e w4 ⟨rfl, hb4⟩; have HB4 := Aside0.mk (hd.trans (hb4.mono hd.size)); replace c0 := pw_cell_below hb4 c0; replace c1 := pw_cell_below hb4 c1; replace ch := pw_cell_below hb4 ch; clear hb4) | (go_at_call 59; refine (HFU.out _ _).mono ?_; rintro e w5 ⟨rfl, hb4⟩; have HB5 := Aside0.mk (HB4.out.trans (hb4.mono HB4.out.size)); replace c0 := pw_cell_below hb4 c0; replace c1 := pw_cell_below hb4 c1; replace ch := pw_cell_below hb4 ch; clear hb4) | (go_at_call 58; refine (HW.out _).mono ?_; rintro e w6 ⟨rfl, hb4⟩; have HB6 := Aside0.mk (HB5.out.trans (hb4.mono HB5.out.size)); clear hb4))
    all_goals go_wp2
    all_goals go_ret
    all_goals exact ⟨by rw [Bool.true_and, HH.out]; rfl, HB6.out⟩

set_option maxRecDepth 100000 in
set_option maxHeartbeats 4000000 in
theorem implQuestionsFor (a : Int) (ku : Value) (xs : List Int) (v : Value) (t : List Int) (h : Int) (w : World) (hk : ReadI w ku xs) (hv : ReadI w v t) :
    Calls Try.prog 22 #[cx a ku, v, .int .i64 h] w fun e w' => ∃ u, e = .returned (.tuple #[u, .int .i64 (ansQuestionsFor a xs t h).2]) ∧ OwnQ w.heap.size w' u (ansQuestionsFor a xs t h).1 ∧ Below w.heap.size w w' := by
  obtain ⟨wb, hwb⟩ : ∃ wb, wb = w.alloc (.cells #[.int .i64 a, ku] 28) := ⟨_, rfl⟩
  obtain ⟨wc, hwc⟩ : ∃ wc, wc = wb.alloc (.cells #[v] 22) := ⟨_, rfl⟩
  obtain ⟨w1, hw1⟩ : ∃ w1, w1 = wc.alloc (.cells #[.int .i64 h] 2) := ⟨_, rfl⟩
  have hsb : wb.heap.size = w.heap.size + 1 := by rw [hwb]; simp
  have hsc : wc.heap.size = w.heap.size + 1 + 1 := by rw [hwc]; simp [hsb]
  have hBb : Below w.heap.size w wb := by rw [hwb]; exact Below.alloc (Below.refl _ _) (Nat.le_refl _) _
  have hBc : Below wb.heap.size wb wc := by rw [hwc]; exact Below.alloc (Below.refl _ _) (Nat.le_refl _) _
  have hB1 : Below wc.heap.size wc w1 := by rw [hw1]; exact Below.alloc (Below.refl _ _) (Nat.le_refl _) _
  have hBbc : Below wb.heap.size wb w1 := hBc.trans (hB1.mono hBc.size)
  have hB : Below w.heap.size w w1 := hBb.trans (hBbc.mono hBb.size)
  have c0 : w1.cell? ⟨w.heap.size, 0, none⟩ = some (.int .i64 a) := pw_cell_below hBbc (by rw [hwb]; simp)
  have c1 : w1.cell? ⟨w.heap.size, 1, none⟩ = some ku := pw_cell_below hBbc (by rw [hwb]; simp)
  have ct : w1.cell? ⟨w.heap.size + 1, 0, none⟩ = some v := pw_cell_below hB1 (by rw [hwc, ← hsb]; exact new_cell _ _ _ 0 _ rfl)
  have ch : w1.cell? ⟨w.heap.size + 1 + 1, 0, none⟩ = some (.int .i64 h) := by rw [hw1, ← hsc]; exact new_cell _ _ _ 0 _ rfl
  have HB := Aside0.mk hB
  have HK := Aside0.mk (hk.below hB)
  have HV := Aside0.mk (hv.below hB)
  obtain ⟨A1, d1, rfl, -⟩ := id hk
  obtain ⟨A2, d2, rfl, -⟩ := id hv
  have HM := Aside0.mk (complexCode2 a (.slice A1 xs.length d1) xs (.func (.func 56) #[] #[.pointer (some ⟨w.heap.size, 0, none⟩), .pointer (some ⟨w.heap.size + 1, 0, none⟩), .pointer (some ⟨w.heap.size + 1 + 1, 0, none⟩)]) (treeOk a.toNat t && hidIn a.toNat h) w1 HK.out (fun hx => by
    obtain ⟨n, rfl, hc⟩ := cxOk_nat hx
    exact questionsFor1 w1 _ _ _ n ⟨hc.lo, hc.hi⟩ _ _ t h HV.out c0 c1 ct ch _ _ _ rfl) ⟨_, _, _, rfl⟩)
  subst hwb
  subst hwc
  clear hk hv hsb hsc hBb hBc hBbc hB1 hB
  obtain ⟨q, hq⟩ : ∃ q, q = codeQ a xs t h := ⟨_, rfl⟩
  have HQ : Aside0 ((if cxOk a xs then (if (treeOk a.toNat t && hidIn a.toNat h) then (0 : Int) else 2) else 1) = q) := ⟨hq.symm⟩
  rw [HQ.out] at HM
  by_cases h0 : q = 0
  · have h0' := hq.symm.trans h0
    obtain ⟨n, k, rfl, hc, hto, rfl, hk2, hk64, -, -⟩ := codeQ_zero h0'
    have HA : Aside0 (ansQuestionsFor n xs t k = ((wayL t k n).take (neededV n xs t k), 0)) := ⟨by unfold ansQuestionsFor; rw [if_pos h0']; rfl⟩
    have HWY := Aside0.mk (fun (W : World) hk hv => wayI n (.slice A1 xs.length d1) xs hc (.slice A2 t.length d2) t k hk64 W hk hv hto)
    have hwl := wayL_len t k n
    have HWL := Aside0.mk hwl
    have hnl : neededV n xs t k ≤ n := firstTold_le _ _ _ _ _
    have hn1 := hc.lo
    obtain ⟨nd, hnd⟩ : ∃ nd, nd = neededV n xs t k := ⟨_, rfl⟩
    rw [← hnd] at HWY hnl HA
    rw [h0] at HM
    clear hq HQ h0 h0' hc hto hk2 hwl hnd
    go_enter Try.func22, Try.ntmps22
    go_wp2_with (first | (go_at_call 46; rw [← hw1]; clear hw1; refine HM.out.mono ?_; rintro e w2 ⟨rfl, hb⟩; have HB2 := Aside0.mk hb; replace c0 := pw_cell_below hb c0; replace c1 := pw_cell_below hb c1; replace ct := pw_cell_below hb ct; replace ch := pw_cell_below hb ch; clear hb) | (go_at_call 60; refine (HWY.out _ (HK.out.below HB2.out) (HV.out.below HB2.out)).mono ?_; rintro e w5 ⟨u5, rfl, ho, hb⟩; obtain ⟨g, cap, rfl, -⟩ := Kd.R_form ho (by rw [HWL.out]; omega); rw [HWL.out] at ho ⊢; have HO5 := Aside0.mk ho; have hcap : n ≤ cap := (by obtain ⟨_, _, e_, h_, -⟩ := ho.read; injection e_ with _ e1_ e2_; rw [← e2_] at h_; rw [HWL.out] at h_; exact h_); have HB5 := Aside0.mk (HB2.out.trans (hb.mono HB2.out.size)); clear ho hb))
    go_ret2
    refine ⟨_, by rw [HA.out]; rfl, ?_, HB.out.trans (HB5.out.mono HB.out.size)⟩
    rw [HA.out]
    have h1 := HB.out.size
    have h2 := HB2.out.size
    have h3 : ((wayL t k n).take nd).length = nd := by rw [List.length_take, HWL.out]; omega
    exact ⟨some ⟨g, 0, none⟩, nd, cap, by rw [h3]; rfl, by rw [h3]; exact Nat.le_refl _, by rw [h3]; exact (HO5.out.cut hnl).lower (by omega)⟩
  · have HA : Aside0 (ansQuestionsFor a xs t h = ([], q)) := ⟨by unfold ansQuestionsFor; rw [← hq, if_neg h0]⟩
    have hqb : (q != 0) = true := by simpa using h0
    clear hq HQ h0
    go_enter Try.func22, Try.ntmps22
    go_wp2_with (first | (go_at_call 46; rw [← hw1]; clear hw1; refine HM.out.mono ?_; rintro e w2 ⟨rfl, hb⟩; have HB2 := Aside0.mk hb; clear hb))
    go_ret2
    exact ⟨_, by rw [HA.out]; rfl, by rw [HA.out]; exact OwnQ.nil _ _, HB.out.trans (HB2.out.mono HB.out.size)⟩

set_option maxRecDepth 100000 in
set_option maxHeartbeats 4000000 in
theorem specQuestionsFor (a : Int) (ku : Value) (xs : List Int) (v : Value) (t : List Int) (h : Int) (w : World) (hk : ReadI w ku xs) (hv : ReadI w v t) :
    Calls Try.prog 20 #[cx a ku, v, .int .i64 h] w fun e w' => ∃ u, e = .returned (.tuple #[u, .int .i64 (ansQuestionsFor a xs t h).2]) ∧ OwnI w.heap.size w' u (ansQuestionsFor a xs t h).1 ∧ Below w.heap.size w w' := by
  obtain ⟨w1, hw1⟩ : ∃ w1, w1 = w.alloc (.cells #[.int .i64 a, ku] 28) := ⟨_, rfl⟩
  have hB : Below w.heap.size w w1 := by rw [hw1]; exact Below.alloc (Below.refl _ _) (Nat.le_refl _) _
  have c0 : w1.cell? ⟨w.heap.size, 0, none⟩ = some (.int .i64 a) := by rw [hw1]; simp
  have c1 : w1.cell? ⟨w.heap.size, 1, none⟩ = some ku := by rw [hw1]; simp
  have HB := Aside0.mk hB
  have HK := Aside0.mk (hk.below hB)
  have HV := Aside0.mk (hv.below hB)
  have HM := Aside0.mk (specTreeCode a ku xs v t w1 HK.out HV.out)
  obtain ⟨A1, d1, rfl, -⟩ := id hk
  obtain ⟨A2, d2, rfl, -⟩ := id hv
  clear hk hv hB
  obtain ⟨cd, hcd⟩ : ∃ cd : Int, cd = (if cxOk a xs then (if treeOk a.toNat t then 0 else 2) else 1) := ⟨_, rfl⟩
  rw [← hcd] at HM
  by_cases hc0 : cd = 0
  · obtain ⟨hx, hto⟩ : cxOk a xs = true ∧ treeOk a.toNat t = true := by
      rw [hc0] at hcd
      split at hcd
      · next h1 =>
        split at hcd
        · next h2 => exact ⟨h1, h2⟩
        · cases hcd
      · cases hcd
    obtain ⟨n, rfl, hc⟩ := cxOk_nat hx
    have hb64 := pw6 hc.hi
    have hn := hc.hi
    have hn1 := hc.lo
    have hsh := pow_wrap n (by omega)
    have HCQ : Aside0 (codeQ n xs t h = if hidIn n h then 0 else 2) := ⟨by unfold codeQ; rw [hx, if_pos rfl, hto, Bool.true_and]; rfl⟩
    obtain ⟨N, hN⟩ : ∃ N : Nat, N = 2 ^ n := ⟨_, rfl⟩
    have HW := Aside0.mk (fun W => specIn h 0 ((N : Int) - 1) W)
    have HHI : Aside0 (hidIn n h = (decide (0 ≤ h) && decide (h ≤ (N : Int) - 1))) := ⟨by rw [hN]; rfl⟩
    rw [← HHI.out] at HW
    have hwl := fun k => wayL_len t k n
    rw [← hN] at hb64 hsh
    have HT : Aside0 (treeOk n t = true) := ⟨hto⟩
    subst hc0
    cases hh : hidIn n h with
    | true =>
      have h0' : codeQ n xs t h = 0 := by rw [HCQ.out, hh]; rfl
      obtain ⟨_, k, -, -, -, rfl, -, hk64, -, -⟩ := codeQ_zero h0'
      have HA : Aside0 (ansQuestionsFor n xs t k = ((wayL t k n).take (neededV n xs t k), 0)) := ⟨by unfold ansQuestionsFor; rw [if_pos h0']; rfl⟩
      have HWL := Aside0.mk (hwl k)
      have HWY := Aside0.mk (fun (W : World) hv => specWay n hn (.slice A2 t.length d2) t k hk64 W hv HT.out)
      have HND := Aside0.mk (fun (W : World) hk hv => specNeeded n hn (.slice A1 xs.length d1) xs (.slice A2 t.length d2) t k hk64 W hk hv HT.out)
      have hnl : neededV n xs t k ≤ n := firstTold_le _ _ _ _ _
      obtain ⟨nd, hnd⟩ : ∃ nd, nd = neededV n xs t k := ⟨_, rfl⟩
      rw [← hnd] at HND hnl HA
      rw [hh] at HW
      have hndI : (nd : Int) ≤ (n : Int) := by omega
      clear hcd hx hto hc hN hwl hh h0' hnd
      go_enter Try.func20, Try.ntmps20
      go_wp2_with (first | (go_at_call 51; rw [← hw1]; clear hw1; refine HM.out.mono ?_; rintro e w2 ⟨rfl, hb⟩; have HB2 := Aside0.mk hb; replace c0 := pw_cell_below hb c0; replace c1 := pw_cell_below hb c1; clear hb) | (go_at_call 52; refine (HW.out _).mono ?_; rintro e w3 ⟨rfl, hb⟩; have HB3 := Aside0.mk (HB2.out.trans (hb.mono HB2.out.size)); replace c0 := pw_cell_below hb c0; replace c1 := pw_cell_below hb c1; clear hb) | (go_at_call 53; refine (HWY.out _ (HV.out.below HB3.out)).mono ?_; rintro e w5 ⟨u5, rfl, ho, hb⟩; obtain ⟨g, cap, rfl, -⟩ := Kd.R_form ho (by rw [HWL.out]; omega); rw [HWL.out] at ho ⊢; have HO5 := Aside0.mk ho; have hcap : n ≤ cap := (by obtain ⟨_, _, e_, h_, -⟩ := ho.read; injection e_ with _ e1_ e2_; rw [← e2_] at h_; rw [HWL.out] at h_; exact h_); have HB5 := Aside0.mk (HB3.out.trans (hb.mono HB3.out.size)); replace c0 := pw_cell_below hb c0; replace c1 := pw_cell_below hb c1; clear ho hb) | (go_at_call 55; refine (HND.out _ (HK.out.below HB5.out) (HV.out.below HB5.out)).mono ?_; rintro e w6 ⟨rfl, hb⟩; have HB6 := Aside0.mk (HB5.out.trans (hb.mono HB5.out.size)); have HO6 := Aside0.mk ((HO5.out.below hb).cut hnl); have h3 : ((wayL t k n).take nd).length = nd := (by rw [List.length_take, HWL.out]; omega); have H3 := Aside0.mk h3; have HRD := Aside0.mk HO6.out.read; clear hb h3) | (go_at_call 54; refine (specOwn _ ((wayL t k n).take nd) _ HRD.out (by rw [H3.out]; omega)).mono ?_; rintro e w7 ⟨u7, rfl, ho, hb⟩; obtain ⟨A7, d7, rfl, -⟩ := ho.read; rw [H3.out] at ho ⊢; have HO7 := Aside0.mk ho; have HB7 := Aside0.mk (HB6.out.trans (hb.mono HB6.out.size)); clear ho hb))
      go_ret2
      refine ⟨_, by rw [HA.out]; rfl, ?_, HB.out.trans (HB7.out.mono HB.out.size)⟩
      rw [HA.out]
      have h1 := HB.out.size
      have h2 := HB6.out.size
      exact HO7.out.lower (Nat.le_trans h1 h2)
    | false =>
      have h0' : codeQ n xs t h = 2 := by rw [HCQ.out, hh]; rfl
      have HA : Aside0 (ansQuestionsFor n xs t h = ([], 2)) := ⟨by unfold ansQuestionsFor; rw [h0', if_neg (by decide)]⟩
      rw [hh] at HW
      clear hcd hx hto hc hN hwl hh h0'
      go_enter Try.func20, Try.ntmps20
      go_wp2_with (first | (go_at_call 51; rw [← hw1]; clear hw1; refine HM.out.mono ?_; rintro e w2 ⟨rfl, hb⟩; have HB2 := Aside0.mk hb; replace c0 := pw_cell_below hb c0; replace c1 := pw_cell_below hb c1; clear hb) | (go_at_call 52; refine (HW.out _).mono ?_; rintro e w3 ⟨rfl, hb⟩; have HB3 := Aside0.mk (HB2.out.trans (hb.mono HB2.out.size)); clear hb))
      go_ret2
      exact ⟨_, by rw [HA.out]; rfl, by rw [HA.out]; exact OwnI.nil _ _, HB.out.trans (HB3.out.mono HB.out.size)⟩
  · have hq : codeQ a xs t h = cd := by
      unfold codeQ
      rw [hcd]
      split
      · next h1 =>
        rw [hcd, h1, if_pos rfl] at hc0
        split at hc0
        · exact absurd rfl hc0
        · next h2 => rw [Bool.not_eq_true] at h2; rw [h2]; rfl
      · rfl
    have HA : Aside0 (ansQuestionsFor a xs t h = ([], cd)) := ⟨by unfold ansQuestionsFor; rw [hq, if_neg hc0]⟩
    have hqb : (cd == 0) = false := by simpa using hc0
    have hqc : (cd != 0) = true := by simpa using hc0
    clear hcd hc0 hq
    go_enter Try.func20, Try.ntmps20
    go_wp2_with (first | (go_at_call 51; rw [← hw1]; clear hw1; refine HM.out.mono ?_; rintro e w2 ⟨rfl, hb⟩; have HB2 := Aside0.mk hb; clear hb))
    go_ret2
    exact ⟨_, by rw [HA.out]; rfl, by rw [HA.out]; exact OwnI.nil _ _, HB.out.trans (HB2.out.mono HB.out.size)⟩
end Go.Proofs.Ytpcjbdkdpcgdiaa.H
