/- ImageComplex of the reference, joined. -/
import Derived.Test.YtllmbbaffhpheaaMade
namespace Go.Proofs.Ytllmbbaffhpheaa.H
open Go.RowKit Go.Proofs.YtllmbbaffhpheaaW.PrintWords Go.Proofs.YtllmbbaffhpheaaW.PrintLast Go.Proofs.YtllmbbaffhpheaaW.PrintMore
set_option linter.unusedVariables false
set_option linter.unusedSimpArgs false

set_option maxRecDepth 100000 in
set_option maxHeartbeats 2000000 in
theorem specImageComplex (a : Int) (ku : Value) (xs : List Int) (b : Int) (lu : Value) (ys : List Int) (v : Value) (f : List Int) (w : World) (hk : ReadI w ku xs) (hl : ReadI w lu ys) (hv : ReadI w v f) :
    Calls Try.prog 49 #[cx a ku, cx b lu, v] w fun e w' => ∃ u, e = .returned (.tuple #[.agg #[.int .i64 (ansImageComplex a xs b ys f).1.1, u], .int .i64 (ansImageComplex a xs b ys f).2]) ∧ OwnI w.heap.size w' u (ansImageComplex a xs b ys f).1.2 ∧ Below w.heap.size w w' := by
  obtain ⟨w0, hw0⟩ : ∃ w0, w0 = (w.alloc (.cells #[.int .i64 a, ku] 28)).alloc (.cells #[.int .i64 b, lu] 28) := ⟨_, rfl⟩
  obtain ⟨w1, hw1⟩ : ∃ w1, w1 = w0.alloc (.cells #[.int .i64 0, .slice none 0 0] 28) := ⟨_, rfl⟩
  have hs0 : w0.heap.size = w.heap.size + 1 + 1 := by rw [hw0]; simp
  have hs1 : w1.heap.size = w.heap.size + 1 + 1 + 1 := by rw [hw1]; simp [hs0]
  have hB0 : Below w.heap.size w w0 := by rw [hw0]; exact ((Below.refl _ w).alloc (Nat.le_refl _) _).alloc (by simp) _
  have hB1 : Below w0.heap.size w0 w1 := by rw [hw1]; exact Below.alloc (Below.refl _ _) (Nat.le_refl _) _
  have hB : Below w.heap.size w w1 := hB0.trans (hB1.mono hB0.size)
  have c0 : w1.cell? ⟨w.heap.size, 0, none⟩ = some (.int .i64 a) := pw_cell_below hB1 (by rw [hw0]; simp)
  have c1 : w1.cell? ⟨w.heap.size, 1, none⟩ = some ku := pw_cell_below hB1 (by rw [hw0]; simp)
  have c2 : w1.cell? ⟨w.heap.size + 1, 0, none⟩ = some (.int .i64 b) := pw_cell_below hB1 (by rw [hw0]; simp)
  have c3 : w1.cell? ⟨w.heap.size + 1, 1, none⟩ = some lu := pw_cell_below hB1 (by rw [hw0]; simp)
  have hk1 : w1.heap[w.heap.size + 1 + 1]? = some (.cells #[.int .i64 0, .slice none 0 0] 28) := by rw [hw1, ← hs0]; exact blk_new _ _
  have HK := Aside0.mk (hk.below hB)
  have HL := Aside0.mk (hl.below hB)
  have HV := Aside0.mk (hv.below hB)
  have HB := Aside0.mk hB
  have HBK := Aside0.mk hk1
  have hsz := Aside0.mk hs1
  obtain ⟨A2, d2, rfl, -⟩ := id hl
  obtain ⟨A3, d3, rfl, -⟩ := id hv
  obtain ⟨A1, d1, rfl, hcc, hr⟩ := hk.below hB
  have HR := Aside0.mk hr
  clear hk hl hv hB hB0 hB1 hk1 hr hs1 hs0 hcc
  subst hw0
  obtain ⟨q, hq⟩ : ∃ q, q = codeSimp a b xs ys [f] true := ⟨_, rfl⟩
  by_cases h0 : q = 0
  · have h0' := hq.symm.trans h0
    obtain ⟨n, m, rfl, rfl, hcn, hcm, hmp, -, -⟩ := codeSimp_zero' h0'
    have HA : Aside0 (ansImageComplex n xs m ys f = (((m : Int), thL (madeAt (imgs f xs)) (2 ^ m)), 0)) := ⟨by unfold ansImageComplex; rw [if_pos h0', Int.toNat_natCast, thL_congr (p' := madeAt (imgs f xs)) (fun q hq1 _ => im_made hcn (codeSimp_below h0') q hq1)]⟩
    have HN := Aside0.mk hcn
    have HC := Aside0.mk hcm
    have HF := Aside0.mk (hmp f (by simp))
    have HQ := Aside0.mk h0'
    have hl63 := hcn.len
    have hlen : xs.length ≤ 9223372036854775807 := by omega
    clear hcn hcm hmp hq h0 h0'
    go_enter Try.func49, Try.ntmps49
    go_wp2_with (first | (go_at_call 52; rw [← hw1]; clear hw1; refine (specCode n _ xs m _ ys _ f _ HK.out HL.out HV.out).mono ?_; rintro e w3 ⟨rfl, hb⟩; rw [HQ.out]; have c0 := pw_cell_below hb c0; have c1 := pw_cell_below hb c1; have c2 := pw_cell_below hb c2; have HB3 := Aside0.mk hb; have HBK3 := Aside0.mk (blk_below HBK.out hb); clear hb))
    go_loopw [9, 10] (fun s9 s10 wr => ∃ i : Nat, s10 = .int .i64 i ∧ i ≤ xs.length ∧ Aside0 (OwnI w3.heap.size wr s9 (imgs f (xs.take i))) ∧ Aside0 (Below w3.heap.size w3 wr)) (fun _ s10 _ => xs.length - (intOf s10).toNat)
    case atStart => exact ⟨0, rfl, Nat.zero_le _, ⟨OwnI.empty w3 (Nat.le_refl _)⟩, ⟨Below.alloc (Below.refl _ _) (Nat.le_refl _) _⟩⟩
    case round =>
      obtain ⟨i, rfl, hi, HO, HBw⟩ := hrel
      have c0 := pw_cell_below HBw.out c0
      have c1 := pw_cell_below HBw.out c1
      have c2 := pw_cell_below HBw.out c2
      have HB13 := Aside0.mk (HB3.out.trans (HBw.out.mono HB3.out.size))
      by_cases hlt : i < xs.length
      · obtain ⟨ad, y, rfl, hcell, HY⟩ := ReadI.get (Kd.C_below HR.out HB13.out) hlt
        obtain ⟨z, rfl, hz1, hz2⟩ := cx_dom HN.out HF.out (mem_at hlt HY.out)
        have HT : Aside0 (imgs f (xs.take (i + 1)) = imgs f (xs.take i) ++ [((img z f : Nat) : Int)]) := ⟨by unfold imgs; rw [take_get hlt HY.out, List.map_append]; rfl⟩
        have hlf : f.length ≤ 6 := by rw [HF.out.len]; exact HN.out.hi
        have HI := Aside0.mk (specMoved z hz2 _ f wr (HV.out.below HB13.out) hlf (HF.out.bd5 HC.out.hi))
        have hll : (imgs f (xs.take i)).length ≤ 63 := by unfold imgs; rw [List.length_map, List.length_take]; omega
        clear hz1 hlf
        obtain ⟨t, ht⟩ : ∃ t, t = img z f := ⟨_, rfl⟩
        rw [← ht] at HI HT
        clear ht
        go_wp2_with (first | (go_at_call 54; refine HI.out.mono ?_; rintro e w5 ⟨rfl, hb5⟩; have HO5 := Aside0.mk (OwnI.below HO.out hb5); have HB5 := Aside0.mk (HBw.out.trans (hb5.mono HBw.out.size)); clear hb5) | (at_builtin; refine app_own (w0 := w3) w3.heap.size rfl (.tmp 27) (.tmp 35) rfl _ (imgs f (xs.take i)) t rfl rfl HO5.out HB5.out HB5.out.size ?hl ?_; (case hl => omega); intro v1 w6 ho hb hg hat; have HO1 := Aside0.mk ho; have HB1 := Aside0.mk hb; clear ho hb hg hat))
        go_roundw
        case rel => exact ⟨i + 1, by go_num, by omega, ⟨by rw [HT.out]; exact HO1.out⟩, HB1⟩
        case measure => simp [intOf]; omega
      · have e : i = xs.length := by omega
        have HE := Aside0.mk e
        obtain ⟨Av, cv, rfl, -⟩ := HO.out.read
        have HRD : Aside0 (ReadI wr (.slice Av (imgs f (xs.take i)).length cv) (imgs f xs)) := ⟨by have := HO.out.read; rw [e, List.take_length] at this ⊢; exact this⟩
        have HSS : Aside0 (∀ s ∈ imgs f xs, ∃ z : Nat, s = z ∧ z < 64) := ⟨fun s hs => by
          unfold imgs at hs
          obtain ⟨x, hx, rfl⟩ := List.mem_map.1 hs
          exact ⟨_, rfl, img_lt63 (HF.out.bd5 HC.out.hi)⟩⟩
        clear e
        go_wp2_with (first | (go_at_call 95; refine (specMade m HC.out.hi _ (imgs f xs) _ HRD.out HSS.out).mono ?_; rintro e w6 ⟨u, rfl, ho, hb6⟩; obtain ⟨A4, d4, rfl, -⟩ := ho.read; have HO6 := Aside0.mk ho; have HB6 := Aside0.mk (HB13.out.trans (hb6.mono HB13.out.size)); have HK2 := Aside0.mk (blk_below (blk_below HBK3.out HBw.out) hb6); have hwz := hb6.size; have c60 : w6.cell? ⟨w.heap.size + 1 + 1, 0, none⟩ = some (.int .i64 0) := blk_cell HK2.out 0; have c61 : w6.cell? ⟨w.heap.size + 1 + 1, 1, none⟩ = some (.slice none 0 0) := blk_cell HK2.out 1; have f60 : w6.frozen? ⟨w.heap.size + 1 + 1, 0, none⟩ = false := blk_frozen HK2.out 0; have f61 : w6.frozen? ⟨w.heap.size + 1 + 1, 1, none⟩ = false := blk_frozen HK2.out 1; clear ho hb6))
        refine bodyPost_ret (results_ct rfl _ _ (w.heap.size + 1 + 1) 28 #[.int .i64 m, .slice A4 (thL (madeAt (imgs f xs)) (2 ^ m)).length d4] (0, 0) _ rfl (by refine blk_put (cs := #[.int .i64 m, .slice none 0 0]) ?_ 1 _ rfl; refine blk_put (cs := #[.int .i64 0, .slice none 0 0]) ?_ 0 _ rfl; exact HK2.out) Try.underlying28 rfl (by kernel_rfl)) rfl ?_
        have hsz := hsz.out
        have hs5 := HB13.out.size
        have hb := HB.out.trans (HB6.out.mono HB.out.size)
        refine ⟨.slice A4 (thL (madeAt (imgs f xs)) (2 ^ m)).length d4, by rw [HA.out]; rfl, ?_, (hb.setCell (by simp; omega) _).setCell (by simp; omega) _⟩
        have ho := HO6.out
        have hbs := ho.base
        have ho := ho.lower (b' := w.heap.size) (by omega)
        rw [HA.out]
        exact (ho.grown (set_grown' _ (w.heap.size + 1 + 1) _ _) (fun j hj e => by have := hbs _ hj; cases e; omega)).grown (set_grown' _ (w.heap.size + 1 + 1) _ _) (fun j hj e => by have := hbs _ hj; cases e; omega)
  · have HA : Aside0 (ansImageComplex a xs b ys f = ((0, []), q)) := ⟨by unfold ansImageComplex; rw [← hq, if_neg h0]⟩
    have hqb : (q != 0) = true := by simpa using h0
    have HQ := Aside0.mk hq
    clear hq h0
    go_enter Try.func49, Try.ntmps49
    go_wp2_with (first | (go_at_call 52; rw [← hw1]; clear hw1; refine (specCode a _ xs b _ ys _ f _ HK.out HL.out HV.out).mono ?_; rintro e w3 ⟨rfl, hb⟩; rw [← HQ.out]; have HB3 := Aside0.mk hb; have HK2 := Aside0.mk (blk_below HBK.out hb); have c60 : w3.cell? ⟨w.heap.size + 1 + 1, 0, none⟩ = some (.int .i64 0) := blk_cell HK2.out 0; have c61 : w3.cell? ⟨w.heap.size + 1 + 1, 1, none⟩ = some (.slice none 0 0) := blk_cell HK2.out 1; have f60 : w3.frozen? ⟨w.heap.size + 1 + 1, 0, none⟩ = false := blk_frozen HK2.out 0; have f61 : w3.frozen? ⟨w.heap.size + 1 + 1, 1, none⟩ = false := blk_frozen HK2.out 1; clear hb))
    refine bodyPost_ret (results_ct rfl _ _ (w.heap.size + 1 + 1) 28 #[.int .i64 0, .slice none 0 0] (0, 0) _ rfl (by refine blk_put (cs := #[.int .i64 0, .slice none 0 0]) ?_ 1 _ rfl; refine blk_put (cs := #[.int .i64 0, .slice none 0 0]) ?_ 0 _ rfl; exact HK2.out) Try.underlying28 rfl (by kernel_rfl)) rfl ?_
    have hsz := hsz.out
    have hb := HB.out.trans (HB3.out.mono HB.out.size)
    exact ⟨.slice none 0 0, by rw [HA.out]; rfl, by rw [HA.out]; exact OwnI.nil _ _, (hb.setCell (by simp; omega) _).setCell (by simp; omega) _⟩
end Go.Proofs.Ytllmbbaffhpheaa.H
