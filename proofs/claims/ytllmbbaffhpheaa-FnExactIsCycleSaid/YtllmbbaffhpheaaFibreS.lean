/- OpenFibre of the reference. -/
import Derived.Test.YtllmbbaffhpheaaFibreI
namespace Go.Proofs.Ytllmbbaffhpheaa.H
open Go.RowKit Go.Proofs.YtllmbbaffhpheaaW.PrintWords Go.Proofs.YtllmbbaffhpheaaW.PrintLast Go.Proofs.YtllmbbaffhpheaaW.PrintMore
set_option linter.unusedVariables false
set_option linter.unusedSimpArgs false

theorem codeSimp_range (a b : Int) (xs ys f : List Int) (r : Bool) : codeSimp a b xs ys [f] r = if codeSimp a b xs ys [f] true ≠ 1 ∧ r = false then 2 else codeSimp a b xs ys [f] true := by
  unfold codeSimp
  generalize (cxOk a xs && cxOk b ys) = c
  simp only [List.all_cons, List.all_nil, Bool.and_true]
  generalize mapOk a.toNat b.toNat f = m1
  generalize simpOk xs ys f = s1
  revert c m1 s1 r
  decide

set_option maxRecDepth 100000 in
set_option maxHeartbeats 1000000 in
theorem specOver (a : Int) (ku : Value) (xs : List Int) (b : Int) (lu : Value) (ys : List Int) (v : Value) (f : List Int) (g : Int) (w : World) (hk : ReadI w ku xs) (hl : ReadI w lu ys) (hv : ReadI w v f) :
    Calls Try.prog 88 #[cx a ku, cx b lu, v, .int .i64 g] w fun e w' => e = .returned (.int .i64 (codeSimp a b xs ys [f] (decide (g ∈ ys)))) ∧ Below w.heap.size w w' := by
  obtain ⟨w1, hw1⟩ : ∃ w1, w1 = (w.alloc (.cells #[.int .i64 a, ku] 28)).alloc (.cells #[.int .i64 b, lu] 28) := ⟨_, rfl⟩
  have hB : Below w.heap.size w w1 := by rw [hw1]; exact ((Below.refl _ w).alloc (Nat.le_refl _) _).alloc (by simp) _
  have c0 : w1.cell? ⟨w.heap.size, 0, none⟩ = some (.int .i64 a) := by rw [hw1]; simp
  have c1 : w1.cell? ⟨w.heap.size, 1, none⟩ = some ku := by rw [hw1]; simp
  have c2 : w1.cell? ⟨w.heap.size + 1, 0, none⟩ = some (.int .i64 b) := by rw [hw1]; simp
  have c3 : w1.cell? ⟨w.heap.size + 1, 1, none⟩ = some lu := by rw [hw1]; simp
  have HK := Aside0.mk (hk.below hB)
  have HL := Aside0.mk (hl.below hB)
  have HV := Aside0.mk (hv.below hB)
  have HB := Aside0.mk hB
  obtain ⟨A1, d1, rfl, -⟩ := id hk
  obtain ⟨A2, d2, rfl, -⟩ := id hl
  obtain ⟨A3, d3, rfl, -⟩ := id hv
  clear hk hl hv hB
  have HC := Aside0.mk (codeSimp_range a b xs ys f (decide (g ∈ ys)))
  obtain ⟨q, hq⟩ : ∃ q, q = codeSimp a b xs ys [f] true := ⟨_, rfl⟩
  rw [← hq] at HC
  have HQ := Aside0.mk hq
  clear hq
  by_cases h1 : q = 1
  · have hqb : (q != 1) = false := by simp [h1]
    have HA : Aside0 (codeSimp a b xs ys [f] (decide (g ∈ ys)) = q) := ⟨by rw [HC.out, if_neg (fun h => h.1 h1)]⟩
    clear h1
    go_enter Try.func88, Try.ntmps88
    go_wp2_with (first | (go_at_call 52; rw [← hw1]; clear hw1; refine (specCode a _ xs b _ ys _ f _ HK.out HL.out HV.out).mono ?_; rintro e w2 ⟨rfl, hb⟩; rw [← HQ.out]))
    go_ret
    exact ⟨by rw [HA.out]; rfl, by have := HB.out; (repeat (first | (with_reducible exact Below.refl _ _) | (with_reducible assumption) | (with_reducible refine below_step ?_ (by assumption)) | (with_reducible apply below_alloc) | (with_reducible apply below_drewN)))⟩
  · have hqb : (q != 1) = true := by simpa using h1
    cases hr : decide (g ∈ ys) with
    | true =>
      have HA : Aside0 (codeSimp a b xs ys [f] true = q) := ⟨HQ.out.symm⟩
      clear h1
      go_enter Try.func88, Try.ntmps88
      go_wp2_with (first | (go_at_call 52; rw [← hw1]; clear hw1; refine (specCode a _ xs b _ ys _ f _ HK.out HL.out HV.out).mono ?_; rintro e w2 ⟨rfl, hb⟩; rw [← HQ.out]; have c2 := pw_cell_below hb c2; have c3 := pw_cell_below hb c3; have HB2 := Aside0.mk hb; clear hb) | (go_at_call 53; refine (specHas b _ ys g _ (HL.out.below HB2.out)).mono ?_; rintro e w3 ⟨rfl, hb3⟩; rw [hr]))
      go_ret
      exact ⟨by rw [HA.out]; rfl, by have := HB.out; have := HB2.out; (repeat (first | (with_reducible exact Below.refl _ _) | (with_reducible assumption) | (with_reducible refine below_step ?_ (by assumption)) | (with_reducible apply below_alloc) | (with_reducible apply below_drewN)))⟩
    | false =>
      have HA : Aside0 (codeSimp a b xs ys [f] false = 2) := ⟨by rw [← hr, HC.out, if_pos ⟨h1, hr⟩]⟩
      clear h1
      go_enter Try.func88, Try.ntmps88
      go_wp2_with (first | (go_at_call 52; rw [← hw1]; clear hw1; refine (specCode a _ xs b _ ys _ f _ HK.out HL.out HV.out).mono ?_; rintro e w2 ⟨rfl, hb⟩; rw [← HQ.out]; have c2 := pw_cell_below hb c2; have c3 := pw_cell_below hb c3; have HB2 := Aside0.mk hb; clear hb) | (go_at_call 53; refine (specHas b _ ys g _ (HL.out.below HB2.out)).mono ?_; rintro e w3 ⟨rfl, hb3⟩; rw [hr]))
      go_ret
      exact ⟨by rw [HA.out]; rfl, by have := HB.out; have := HB2.out; (repeat (first | (with_reducible exact Below.refl _ _) | (with_reducible assumption) | (with_reducible refine below_step ?_ (by assumption)) | (with_reducible apply below_alloc) | (with_reducible apply below_drewN)))⟩

set_option maxRecDepth 100000 in
set_option maxHeartbeats 2000000 in
theorem specOpen (n m : Nat) (ku : Value) (xs : List Int) (v : Value) (f : List Int) (g : Int) (w : World) (hk : ReadI w ku xs) (hv : ReadI w v f) (hcn : Cx n xs) (hm : m ≤ 6) (hf : Mp n m f) :
    Calls Try.prog 89 #[cx n ku, v, .int .i64 g] w fun e w' => ∃ u, e = .returned u ∧ OwnI w.heap.size w' u (xs.filter (opAt f g)) ∧ Below w.heap.size w w' := by
  obtain ⟨w1, hw1⟩ : ∃ w1, w1 = w.alloc (.cells #[.int .i64 n, ku] 28) := ⟨_, rfl⟩
  have hB : Below w.heap.size w w1 := by rw [hw1]; exact (Below.refl _ w).alloc (Nat.le_refl _) _
  have hsz1 : w1.heap.size = w.heap.size + 1 := by rw [hw1]; simp
  have c0 : w1.cell? ⟨w.heap.size, 0, none⟩ = some (.int .i64 n) := by rw [hw1]; simp
  have c1 : w1.cell? ⟨w.heap.size, 1, none⟩ = some ku := by rw [hw1]; simp
  have hk1 := hk.below hB
  have HV := Aside0.mk (hv.below hB)
  have HB := Aside0.mk hB
  obtain ⟨A2, d2, rfl, -⟩ := id hv
  obtain ⟨A1, d1, rfl, hc, hr⟩ := hk1
  have HR := Aside0.mk hr
  have hlen := hr.2.1
  have HN := Aside0.mk hcn
  have HF := Aside0.mk hf
  have hl63 := hcn.len
  have HS1 := Aside0.mk hsz1
  clear hk hv hB hr hcn hf hsz1
  go_enter Try.func89, Try.ntmps89
  go_wp2
  rw [← hw1]
  clear hw1
  go_loopw [7, 8] (fun s7 s8 wr => ∃ i : Nat, s8 = .int .i64 i ∧ i ≤ xs.length ∧ Aside0 (OwnI w1.heap.size wr s7 ((xs.take i).filter (opAt f g))) ∧ Aside0 (Below w1.heap.size w1 wr)) (fun _ s8 _ => xs.length - (intOf s8).toNat)
  case atStart => exact ⟨0, rfl, Nat.zero_le _, ⟨by have := OwnI.empty (b := w1.heap.size) w1 (Nat.le_refl _); rw [HS1.out] at this ⊢; exact this⟩, ⟨Below.alloc (Below.refl _ _) (Nat.le_refl _) _⟩⟩
  case round =>
    obtain ⟨i, rfl, hi, HO, HBw⟩ := hrel
    have c0 := pw_cell_below HBw.out c0
    have c1 := pw_cell_below HBw.out c1
    by_cases hlt : i < xs.length
    · obtain ⟨ad, y, rfl, hcell, HY⟩ := ReadI.get (Kd.C_below HR.out HBw.out) hlt
      obtain ⟨z, rfl, hz1, hz2⟩ := cx_dom HN.out HF.out (mem_at hlt HY.out)
      have HT := Aside0.mk (filter_take (opAt f g) hlt HY.out)
      have hlf : f.length ≤ 6 := by rw [HF.out.len]; exact HN.out.hi
      have HI := Aside0.mk (specMoved z hz2 _ f wr (HV.out.below HBw.out) hlf (HF.out.bd5 hm))
      have HFX : Aside0 (opAt f g (z : Int) = (((img z f : Nat) : Int) == g)) := ⟨rfl⟩
      have hll : ((xs.take i).filter (opAt f g)).length ≤ 63 := Nat.le_trans (List.length_filter_le _ _) (by rw [List.length_take]; omega)
      clear hz1 hlf
      obtain ⟨t, ht⟩ : ∃ t, t = img z f := ⟨_, rfl⟩
      rw [← ht] at HI HFX
      clear ht
      cases hfx : (((t : Nat) : Int) == g) with
      | true =>
        have HXX := Aside0.mk hfx
        go_wp2_with (first | (go_at_call 54; refine HI.out.mono ?_; rintro e w5 ⟨rfl, hb5⟩; have HO5 := Aside0.mk (OwnI.below HO.out hb5); have HB5 := Aside0.mk (HBw.out.trans (hb5.mono HBw.out.size)); have c0 := pw_cell_below hb5 c0; have c1 := pw_cell_below hb5 c1; have hcell := pw_cell_below hb5 hcell; clear hb5) | (at_builtin; refine app_own (w0 := w1) w1.heap.size rfl (.tmp 26) (.tmp 32) rfl _ ((xs.take i).filter (opAt f g)) z rfl rfl HO5.out HB5.out HB5.out.size ?hl ?_; (case hl => omega); intro v1 w6 ho hb hg hat; have HO1 := Aside0.mk ho; have HB1 := Aside0.mk hb; clear ho hb hg hat))
        go_roundw
        case rel => exact ⟨i + 1, by go_num, by omega, ⟨by rw [HT.out, HFX.out, HXX.out, if_pos rfl]; exact HO1.out⟩, HB1⟩
        case measure => simp [intOf]; omega
      | false =>
        have HXX := Aside0.mk hfx
        go_wp2_with (first | (go_at_call 54; refine HI.out.mono ?_; rintro e w5 ⟨rfl, hb5⟩; have HO5 := Aside0.mk (OwnI.below HO.out hb5); have HB5 := Aside0.mk (HBw.out.trans (hb5.mono HBw.out.size)); clear hb5))
        go_roundw
        case rel => exact ⟨i + 1, by go_num, by omega, ⟨by rw [HT.out, HFX.out, HXX.out, if_neg (by decide)]; exact HO5.out⟩, HB5⟩
        case measure => simp [intOf]; omega
    · have e : i = xs.length := by omega
      have HE := Aside0.mk e
      clear e
      go_wp2
      go_ret
      exact ⟨_, rfl, by have := HO.out; rw [HE.out, List.take_length] at this; exact this.lower HB.out.size, HB.out.trans (HBw.out.mono HB.out.size)⟩

set_option maxRecDepth 100000 in
set_option maxHeartbeats 1000000 in
theorem specOpenFibre (a : Int) (ku : Value) (xs : List Int) (b : Int) (lu : Value) (ys : List Int) (v : Value) (f : List Int) (g : Int) (w : World) (hk : ReadI w ku xs) (hl : ReadI w lu ys) (hv : ReadI w v f) :
    Calls Try.prog 45 #[cx a ku, cx b lu, v, .int .i64 g] w fun e w' => ∃ u, e = .returned (.tuple #[u, .int .i64 (ansOpenFibre a xs b ys f g).2]) ∧ OwnI w.heap.size w' u (ansOpenFibre a xs b ys f g).1 ∧ Below w.heap.size w w' := by
  obtain ⟨w1, hw1⟩ : ∃ w1, w1 = (w.alloc (.cells #[.int .i64 a, ku] 28)).alloc (.cells #[.int .i64 b, lu] 28) := ⟨_, rfl⟩
  have hB : Below w.heap.size w w1 := by rw [hw1]; exact ((Below.refl _ w).alloc (Nat.le_refl _) _).alloc (by simp) _
  have c0 : w1.cell? ⟨w.heap.size, 0, none⟩ = some (.int .i64 a) := by rw [hw1]; simp
  have c1 : w1.cell? ⟨w.heap.size, 1, none⟩ = some ku := by rw [hw1]; simp
  have c2 : w1.cell? ⟨w.heap.size + 1, 0, none⟩ = some (.int .i64 b) := by rw [hw1]; simp
  have c3 : w1.cell? ⟨w.heap.size + 1, 1, none⟩ = some lu := by rw [hw1]; simp
  have HK := Aside0.mk (hk.below hB)
  have HL := Aside0.mk (hl.below hB)
  have HV := Aside0.mk (hv.below hB)
  have HB := Aside0.mk hB
  have hsz := hB.size
  obtain ⟨A1, d1, rfl, -⟩ := id hk
  obtain ⟨A2, d2, rfl, -⟩ := id hl
  obtain ⟨A3, d3, rfl, -⟩ := id hv
  clear hk hl hv hB
  obtain ⟨q, hq⟩ : ∃ q, q = codeSimp a b xs ys [f] (decide (g ∈ ys)) := ⟨_, rfl⟩
  by_cases h0 : q = 0
  · have h0' := hq.symm.trans h0
    obtain ⟨n, m, rfl, rfl, hcn, hcm, hmp, -, -⟩ := codeSimp_zero' h0'
    have HA : Aside0 (ansOpenFibre n xs m ys f g = (xs.filter (opAt f g), 0)) := ⟨by unfold ansOpenFibre; rw [if_pos h0']⟩
    have HN := Aside0.mk hcn
    have HC := Aside0.mk hcm
    have HF := Aside0.mk (hmp f (by simp))
    have HQ := Aside0.mk h0'
    clear hcn hcm hmp hq h0 h0'
    go_enter Try.func45, Try.ntmps45
    go_wp2_with (first | (go_at_call 88; rw [← hw1]; clear hw1; refine (specOver n _ xs m _ ys _ f g _ HK.out HL.out HV.out).mono ?_; rintro e w3 ⟨rfl, hb⟩; rw [HQ.out]; have c0 := pw_cell_below hb c0; have c1 := pw_cell_below hb c1; have HB3 := Aside0.mk hb; clear hb) | (go_at_call 89; refine (specOpen n m _ xs _ f g _ (HK.out.below HB3.out) (HV.out.below HB3.out) HN.out HC.out.hi HF.out).mono ?_; rintro e w4 ⟨u, rfl, ho, hb4⟩; obtain ⟨A4, d4, rfl, -⟩ := ho.read; have HO := Aside0.mk ho; clear ho))
    go_ret2
    have := HB.out
    have := HB3.out
    exact ⟨_, by rw [HA.out]; rfl, by rw [HA.out]; exact HO.out.lower (Nat.le_trans hsz HB3.out.size), by (repeat (first | (with_reducible exact Below.refl _ _) | (with_reducible assumption) | (with_reducible refine below_step ?_ (by assumption)) | (with_reducible apply below_alloc) | (with_reducible apply below_drewN)))⟩
  · have HA : Aside0 (ansOpenFibre a xs b ys f g = ([], q)) := ⟨by unfold ansOpenFibre; rw [← hq, if_neg h0]⟩
    have hqb : (q != 0) = true := by simpa using h0
    have HQ := Aside0.mk hq
    clear hq h0
    go_enter Try.func45, Try.ntmps45
    go_wp2_with (first | (go_at_call 88; rw [← hw1]; clear hw1; refine (specOver a _ xs b _ ys _ f g _ HK.out HL.out HV.out).mono ?_; rintro e w3 ⟨rfl, hb⟩; rw [← HQ.out]))
    go_ret2
    exact ⟨_, by rw [HA.out]; rfl, by rw [HA.out]; exact OwnI.nil _ _, by have := HB.out; (repeat (first | (with_reducible exact Below.refl _ _) | (with_reducible assumption) | (with_reducible refine below_step ?_ (by assumption)) | (with_reducible apply below_alloc) | (with_reducible apply below_drewN)))⟩
theorem lenOpenFibre (a : Int) (xs : List Int) (b : Int) (ys f : List Int) (g : Int) : (ansOpenFibre a xs b ys f g).1.length ≤ 1073741824 := by
  unfold ansOpenFibre
  split
  · next h =>
    obtain ⟨n, m, -, -, hc, -⟩ := codeSimp_zero' h
    exact Nat.le_trans (List.length_filter_le _ _) (by have := hc.len; omega)
  · simp
end Go.Proofs.Ytllmbbaffhpheaa.H
