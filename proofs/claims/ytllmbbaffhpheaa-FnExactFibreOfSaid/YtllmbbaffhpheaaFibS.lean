/- FibreOf of the reference. -/
import Derived.Test.YtllmbbaffhpheaaFib
import Derived.Test.YtllmbbaffhpheaaGrow
namespace Go.Proofs.Ytllmbbaffhpheaa.H
open Go.RowKit Go.Proofs.YtllmbbaffhpheaaW.PrintWords Go.Proofs.YtllmbbaffhpheaaW.PrintLast Go.Proofs.YtllmbbaffhpheaaW.PrintMore
set_option linter.unusedVariables false
set_option linter.unusedSimpArgs false

set_option maxRecDepth 100000 in
set_option maxHeartbeats 2000000 in
theorem specFibreOf (a : Int) (ku : Value) (xs : List Int) (b : Int) (lu : Value) (ys : List Int) (v : Value) (f : List Int) (g : Int) (w : World) (hk : ReadI w ku xs) (hl : ReadI w lu ys) (hv : ReadI w v f) :
    Calls Try.prog 47 #[cx a ku, cx b lu, v, .int .i64 g] w fun e w' => ∃ u, e = .returned (.tuple #[.agg #[.int .i64 (ansFibreOf a xs b ys f g).1.1, u], .int .i64 (ansFibreOf a xs b ys f g).2]) ∧ OwnI w.heap.size w' u (ansFibreOf a xs b ys f g).1.2 ∧ Below w.heap.size w w' := by
  obtain ⟨w0, hw0⟩ : ∃ w0, w0 = (w.alloc (.cells #[.int .i64 a, ku] 28)).alloc (.cells #[.int .i64 b, lu] 28) := ⟨_, rfl⟩
  obtain ⟨w1, hw1⟩ : ∃ w1, w1 = w0.alloc (.cells #[.int .i64 0, .slice none 0 0] 28) := ⟨_, rfl⟩
  have hs0 : w0.heap.size = w.heap.size + 1 + 1 := by rw [hw0]; simp
  have hs1 : w1.heap.size = w.heap.size + 1 + 1 + 1 := by rw [hw1]; simp [hs0]
  have hB0 : Below w.heap.size w w0 := by rw [hw0]; exact ((Below.refl _ w).alloc (Nat.le_refl _) _).alloc (by simp) _
  have hB1 : Below w0.heap.size w0 w1 := by rw [hw1]; exact Below.alloc (Below.refl _ _) (Nat.le_refl _) _
  have hB : Below w.heap.size w w1 := hB0.trans (hB1.mono hB0.size)
  have c0 : w1.cell? ⟨w.heap.size, 0, none⟩ = some (.int .i64 a) := pw_cell_below hB1 (by rw [hw0]; simp)
  have c1 : w1.cell? ⟨w.heap.size, 1, none⟩ = some ku := pw_cell_below hB1 (by rw [hw0]; simp)
  have c2 : w1.cell? ⟨w.heap.size + 1, 0, none⟩ = some (.int .i64 b) := pw_cell_below hB1 (by rw [hw0]; simp)
  have c3 : w1.cell? ⟨w.heap.size + 1, 1, none⟩ = some lu := pw_cell_below hB1 (by rw [hw0]; simp)
  have hk1 : w1.heap[w.heap.size + 1 + 1]? = some (.cells #[.int .i64 0, .slice none 0 0] 28) := by rw [hw1, ← hs0]; exact blk_new _ _
  have HK := Aside0.mk (hk.below hB)
  have HL := Aside0.mk (hl.below hB)
  have HV := Aside0.mk (hv.below hB)
  have HB := Aside0.mk hB
  have HBK := Aside0.mk hk1
  have hsz := Aside0.mk hs1
  obtain ⟨A2, d2, rfl, -⟩ := id hl
  obtain ⟨A3, d3, rfl, -⟩ := id hv
  obtain ⟨A1, d1, rfl, hcc, hr⟩ := hk.below hB
  have HR := Aside0.mk hr
  clear hk hl hv hB hB0 hB1 hk1 hr hs1 hs0 hcc
  subst hw0
  obtain ⟨q, hq⟩ : ∃ q, q = codeSimp a b xs ys [f] (decide (g ∈ ys)) := ⟨_, rfl⟩
  by_cases h0 : q = 0
  · have h0' := hq.symm.trans h0
    obtain ⟨n, m, rfl, rfl, hcn, hcm, hmp, -, hgy⟩ := codeSimp_zero' h0'
    have hgm : g ∈ ys := of_decide_eq_true hgy
    have hgb := hcm.bd g hgm
    obtain ⟨k, rfl⟩ : ∃ k : Nat, g = k := ⟨g.toNat, by omega⟩
    have hk6 : k < 64 := by have := pw6 hcm.hi; omega
    have HA : Aside0 (ansFibreOf n xs m ys f k = (((n : Int), xs.filter (inAt f k)), 0)) := ⟨by unfold ansFibreOf; rw [if_pos h0']; rfl⟩
    have HN := Aside0.mk hcn
    have HC := Aside0.mk hcm
    have HF := Aside0.mk (hmp f (by simp))
    have HQ := Aside0.mk h0'
    have HK6 := Aside0.mk hk6
    have hl63 := hcn.len
    have hmx : Try.prog.follows .mixedOrders = true := by kernel_rfl
    have hlen : xs.length ≤ 9223372036854775807 := by omega
    clear hcn hcm hmp hq h0 h0' hgy hgm hgb hk6
    go_enter Try.func47, Try.ntmps47
    go_wp2_with (first | (go_at_call 88; rw [← hw1]; clear hw1; refine (specOver n _ xs m _ ys _ f k _ HK.out HL.out HV.out).mono ?_; rintro e w3 ⟨rfl, hb⟩; rw [HQ.out]; have c0 := pw_cell_below hb c0; have c1 := pw_cell_below hb c1; have c2 := pw_cell_below hb c2; have HB3 := Aside0.mk hb; have HBK3 := Aside0.mk (blk_below HBK.out hb); clear hb))
    go_loopw [12] (fun s12 wr => ∃ i : Nat, s12 = .int .i64 i ∧ i ≤ xs.length ∧ (∃ s, Aside0 (wr.heap[w3.heap.size + 1]? = some (.cells #[.int .i64 n, s] 28)) ∧ Aside0 (OwnI w3.heap.size wr s ((xs.take i).filter (inAt f k))) ∧ Aside0 (∀ j, s.ownBlock = some j → j ≠ w3.heap.size + 1)) ∧ Aside0 (Below w3.heap.size w3 wr)) (fun s12 _ => xs.length - (intOf s12).toNat)
    case atStart =>
      refine ⟨0, rfl, Nat.zero_le _, ⟨_, ⟨by simpa using blk_new (w3.alloc (.cells #[] 2)) _⟩, ⟨(OwnI.empty w3 (Nat.le_refl _)).below (Below.alloc (Below.refl _ _) (Nat.le_refl _) _)⟩, ⟨fun j hj e => ?_⟩⟩, ⟨(Below.alloc (Below.refl _ _) (Nat.le_refl _) _).alloc (by simp) _⟩⟩
      have : w3.heap.size = j := by simpa [Value.ownBlock] using hj
      omega
    case round =>
      obtain ⟨i, rfl, hi, ⟨sv, HKb, HO, HNE⟩, HBw⟩ := hrel
      have c0 := pw_cell_below HBw.out c0
      have c1 := pw_cell_below HBw.out c1
      obtain ⟨Av, cv, rfl, -⟩ := HO.out.read
      have hll : ((xs.take i).filter (inAt f k)).length ≤ 63 := Nat.le_trans (List.length_filter_le _ _) (by rw [List.length_take]; omega)
      have HB13 := Aside0.mk (HB3.out.trans (HBw.out.mono HB3.out.size))
      by_cases hlt : i < xs.length
      · obtain ⟨ad, y, rfl, hcell, HY⟩ := ReadI.get (Kd.C_below HR.out HB13.out) hlt
        obtain ⟨z, rfl, hz1, hz2⟩ := cx_dom HN.out HF.out (mem_at hlt HY.out)
        have HT := Aside0.mk (filter_take (inAt f k) hlt HY.out)
        have hlf : f.length ≤ 6 := by rw [HF.out.len]; exact HN.out.hi
        have HI := Aside0.mk (specMoved z hz2 _ f wr (HV.out.below HB13.out) hlf (HF.out.bd5 HC.out.hi))
        have himg := img_lt63 (f := z) (HF.out.bd5 HC.out.hi)
        have hand := and_i64 (img z f) k (by omega) (by have := HK6.out; omega)
        have HFX : Aside0 ((((img z f &&& k : Nat) : Int) == ((img z f : Nat) : Int)) = inAt f k (z : Int)) := ⟨by
          unfold inAt
          rw [Int.toNat_natCast, Bool.eq_iff_iff, beq_iff_eq, decide_eq_true_eq]; omega⟩
        clear hz1 hlf himg
        obtain ⟨t, ht⟩ : ∃ t, t = img z f := ⟨_, rfl⟩
        rw [← ht] at HI HFX hand
        clear ht
        cases hfx : (((t &&& k : Nat) : Int) == (t : Int)) with
        | true =>
          have HXX := Aside0.mk hfx
          go_wp2_with (first | (go_at_call 54; refine HI.out.mono ?_; rintro e w5 ⟨rfl, hb5⟩; have HO5 := Aside0.mk (OwnI.below HO.out hb5); have HKb5 := Aside0.mk (blk_below HKb.out hb5); have HB5 := Aside0.mk (HBw.out.trans (hb5.mono HBw.out.size)); have c0 := pw_cell_below hb5 c0; have c1 := pw_cell_below hb5 c1; have hcell := pw_cell_below hb5 hcell; clear hb5))
          refine wp_region_tail 8 (fun j => match j with | 0 => fun v _ => v = .pointer (some ⟨w3.heap.size + 1, 1, none⟩) | 1 => fun v _ => v = .slice Av ((xs.take i).filter (inAt f k)).length cv | 2 => fun v _ => v = .pointer (some ⟨w.heap.size, 1, none⟩) | 3 => fun v _ => v = .slice (some ad) xs.length d1 | 4 => fun v _ => v = .int .i64 i | 5 => fun v _ => v = .pointer (some (ad.add i)) | 6 => fun v _ => v = .int .i64 z | 7 => fun v W => ∃ b, v = .slice (some ⟨b, 0, none⟩) 1 1 ∧ W.cell? ⟨b, 0, none⟩ = some (.int .i64 z) | _ => fun _ _ => True) [0, 1, 0, 4, 0, 28, 60, 124, 255, 511, 1023] hmx (by kernel_rfl) ?st ?steps ?rest
          case st =>
            intro j v w1_ w2_ hb
            match j with
            | 0 | 1 | 2 | 3 | 4 | 5 | 6 => exact id
            | 7 => exact fun ⟨b, e, h⟩ => ⟨b, e, pw_cell_below hb h⟩
            | n + 8 => exact id
          case steps =>
            refine ⟨?_, ?_, ?_, ?_, ?_, ?_, ?_, ?_, trivial⟩
            · intro s w_ hb hd R hR
              generalize hA : putAll _ 0 s _ = A
              have hR' := hR (.pointer (some ⟨w3.heap.size + 1, 1, none⟩)) _ (Below.refl _ _) (rfl)
              clear hR hd
              refine opGives_value ?_ hR'
              subst hA
              simp only [dsOf, List.take, List.map_cons, List.map_nil, Option.getD_some, putAll, Act.put, List.setIfInBounds_toArray, List.set_cons_zero, List.set_cons_succ]
              go_simp
            · intro s w_ hb hd R hR
              generalize hA : putAll _ 0 s _ = A
              have e0 : s 0 = _ := hd 0 (by kernel_rfl)
              have c11 : w_.cell? ⟨w3.heap.size + 1, 1, none⟩ = some (.slice Av ((xs.take i).filter (inAt f k)).length cv) := blk_cell (blk_below HKb5.out hb) 1
              have hR' := hR (.slice Av ((xs.take i).filter (inAt f k)).length cv) _ (Below.refl _ _) (rfl)
              clear hR hd
              refine opGives_value ?_ hR'
              subst hA
              simp only [dsOf, List.take, List.map_cons, List.map_nil, Option.getD_some, putAll, Act.put, List.setIfInBounds_toArray, List.set_cons_zero, List.set_cons_succ]
              go_simp
            · intro s w_ hb hd R hR
              generalize hA : putAll _ 0 s _ = A
              have hR' := hR (.pointer (some ⟨w.heap.size, 1, none⟩)) _ (Below.refl _ _) (rfl)
              clear hR hd
              refine opGives_value ?_ hR'
              subst hA
              simp only [dsOf, List.take, List.map_cons, List.map_nil, Option.getD_some, putAll, Act.put, List.setIfInBounds_toArray, List.set_cons_zero, List.set_cons_succ]
              go_simp
            · intro s w_ hb hd R hR
              generalize hA : putAll _ 0 s _ = A
              have e2 : s 2 = _ := hd 2 (by kernel_rfl)
              have c1 := pw_cell_below hb c1
              have hR' := hR (.slice (some ad) xs.length d1) _ (Below.refl _ _) (rfl)
              clear hR hd
              refine opGives_value ?_ hR'
              subst hA
              simp only [dsOf, List.take, List.map_cons, List.map_nil, Option.getD_some, putAll, Act.put, List.setIfInBounds_toArray, List.set_cons_zero, List.set_cons_succ]
              go_simp
            · intro s w_ hb hd R hR
              generalize hA : putAll _ 0 s _ = A
              have hR' := hR (.int .i64 i) _ (Below.refl _ _) (rfl)
              clear hR hd
              refine opGives_value ?_ hR'
              subst hA
              simp only [dsOf, List.take, List.map_cons, List.map_nil, Option.getD_some, putAll, Act.put, List.setIfInBounds_toArray, List.set_cons_zero, List.set_cons_succ]
              go_simp
            · intro s w_ hb hd R hR
              generalize hA : putAll _ 0 s _ = A
              have e3 : s 3 = _ := hd 3 (by kernel_rfl)
              have e4 : s 4 = _ := hd 4 (by kernel_rfl)
              have hR' := hR (.pointer (some (ad.add i))) _ (Below.refl _ _) (rfl)
              clear hR hd
              refine opGives_value ?_ hR'
              subst hA
              simp only [dsOf, List.take, List.map_cons, List.map_nil, Option.getD_some, putAll, Act.put, List.setIfInBounds_toArray, List.set_cons_zero, List.set_cons_succ]
              go_simp
            · intro s w_ hb hd R hR
              generalize hA : putAll _ 0 s _ = A
              have e5 : s 5 = _ := hd 5 (by kernel_rfl)
              have hcell := pw_cell_below hb hcell
              have hR' := hR (.int .i64 z) _ (Below.refl _ _) (rfl)
              clear hR hd
              refine opGives_value ?_ hR'
              subst hA
              simp only [dsOf, List.take, List.map_cons, List.map_nil, Option.getD_some, putAll, Act.put, List.setIfInBounds_toArray, List.set_cons_zero, List.set_cons_succ]
              go_simp
            · intro s w_ hb hd R hR
              generalize hA : putAll _ 0 s _ = A
              have e6 : s 6 = _ := hd 6 (by kernel_rfl)
              have hR' := hR (.slice (some ⟨w_.heap.size, 0, none⟩) 1 1) (w_.alloc (.cells #[.int .i64 z] 2)) (Below.alloc (Below.refl _ _) (Nat.le_refl _) _) ⟨_, rfl, by simp⟩
              clear hR hd
              refine opGives_value ?_ hR'
              subst hA
              simp only [dsOf, List.take, List.map_cons, List.map_nil, Option.getD_some, putAll, Act.put, List.setIfInBounds_toArray, List.set_cons_zero, List.set_cons_succ]
              go_simp
          case rest =>
            intro s w6 hb hv
            have e1 : s 1 = _ := hv 1 (by decide)
            obtain ⟨b7, e7, hc7⟩ : ∃ b, s 7 = .slice (some ⟨b, 0, none⟩) 1 1 ∧ w6.cell? ⟨b, 0, none⟩ = some (.int .i64 z) := hv 7 (by decide)
            have HO6 := Aside0.mk (OwnI.below HO5.out hb)
            have HKb6 := Aside0.mk (blk_below HKb5.out hb)
            have HB6 := Aside0.mk (HB5.out.trans (hb.mono HB5.out.size))
            clear hv hb
            simp only [dsOf, List.take, List.map_cons, List.map_nil, Option.getD_some, putAll, Act.put, List.setIfInBounds_toArray, List.set_cons_zero, List.set_cons_succ]
            refine .inl (append_gives w3.heap.size (.tmp 47) (.tmp 53) rfl (.slice Av ((xs.take i).filter (inAt f k)).length cv) ((xs.take i).filter (inAt f k)) z b7 1 e1 e7 hc7 HO6.out HB6.out.size (by omega) ?_)
            intro v1 w7 ho hg hat
            have hne : some (w3.heap.size + 1) ≠ (Value.slice Av ((xs.take i).filter (inAt f k)).length cv).ownBlock := fun e => HNE.out _ e.symm rfl
            have HKb7 := Aside0.mk ((hg.block _ (blk_lt HKb6.out) hne).trans HKb6.out)
            have HB7 := Aside0.mk (HB6.out.grown hg HB6.out.size (fun j hj => HO6.out.base j hj))
            have HNE7 : Aside0 (∀ j, v1.ownBlock = some j → j ≠ w3.heap.size + 1) := ⟨fun j hj => by
              rcases hat with hat | hat
              · rw [hat] at hj; exact HNE.out j hj
              · rw [hat] at hj; have := blk_lt HKb6.out; cases hj; omega⟩
            have HO7 := Aside0.mk ho
            obtain ⟨A7, d7, rfl, -⟩ := ho.read
            have c71 : w7.cell? ⟨w3.heap.size + 1, 1, none⟩ = some (.slice Av ((xs.take i).filter (inAt f k)).length cv) := blk_cell HKb7.out 1
            have f71 : w7.frozen? ⟨w3.heap.size + 1, 1, none⟩ = false := blk_frozen HKb7.out 1
            clear ho hg hat hne
            simp only [List.drop, Act.put, List.setIfInBounds_toArray, List.set_cons_zero, List.set_cons_succ]
            refine .inl (opGives_value (v := .pointer (some ⟨w3.heap.size + 1, 1, none⟩)) (w' := w7) (by go_simp) ?_)
            simp only [List.drop, Act.put, List.setIfInBounds_toArray, List.set_cons_zero, List.set_cons_succ]
            refine .inr ⟨w7.setCell ⟨w3.heap.size + 1, 1, none⟩ (.slice A7 ((xs.take i).filter (inAt f k) ++ [(z : Int)]).length d7), by go_simp, ?_⟩
            simp only [List.drop, Act.put, List.setIfInBounds_toArray, List.set_cons_zero, List.set_cons_succ]
            unfold tailList
            go_wp2
            go_roundw
            case rel =>
              have h6 := HO7.out
              have h7 := HNE7.out
              rw [List.length_append, List.length_singleton] at h6 h7
              refine ⟨i + 1, by go_num, by omega, ⟨_, ⟨blk_put HKb7.out 1 _ rfl⟩, ⟨?_⟩, ⟨h7⟩⟩, ⟨HB7.out.setCell (by simp) _⟩⟩
              rw [HT.out, ← HFX.out, HXX.out, if_pos rfl]
              exact h6.grown (set_grown' _ (w3.heap.size + 1) _ _) (fun j hj e => by have := h7 j hj; cases e; omega)
            case measure => simp [intOf]; omega
        | false =>
          have HXX := Aside0.mk hfx
          go_wp2_with (first | (go_at_call 54; refine HI.out.mono ?_; rintro e w5 ⟨rfl, hb5⟩; have HO5 := Aside0.mk (OwnI.below HO.out hb5); have HKb5 := Aside0.mk (blk_below HKb.out hb5); have HB5 := Aside0.mk (HBw.out.trans (hb5.mono HBw.out.size)); clear hb5))
          go_roundw
          case rel => exact ⟨i + 1, by go_num, by omega, ⟨_, HKb5, ⟨by rw [HT.out, ← HFX.out, HXX.out, if_neg (by decide)]; exact HO5.out⟩, HNE⟩, HB5⟩
          case measure => simp [intOf]; omega
      · have e : i = xs.length := by omega
        have HE := Aside0.mk e
        clear e
        have HK2 := Aside0.mk (blk_below HBK3.out HBw.out)
        have c10 : wr.cell? ⟨w3.heap.size + 1, 0, none⟩ = some (.int .i64 n) := blk_cell HKb.out 0
        have c11 : wr.cell? ⟨w3.heap.size + 1, 1, none⟩ = some (.slice Av ((xs.take i).filter (inAt f k)).length cv) := blk_cell HKb.out 1
        have c60 : wr.cell? ⟨w.heap.size + 1 + 1, 0, none⟩ = some (.int .i64 0) := blk_cell HK2.out 0
        have c61 : wr.cell? ⟨w.heap.size + 1 + 1, 1, none⟩ = some (.slice none 0 0) := blk_cell HK2.out 1
        have f60 : wr.frozen? ⟨w.heap.size + 1 + 1, 0, none⟩ = false := blk_frozen HK2.out 0
        have f61 : wr.frozen? ⟨w.heap.size + 1 + 1, 1, none⟩ = false := blk_frozen HK2.out 1
        go_wp2
        refine bodyPost_ret (results_ct rfl _ _ (w.heap.size + 1 + 1) 28 #[.int .i64 n, .slice Av ((xs.take i).filter (inAt f k)).length cv] (0, 0) _ rfl (by refine blk_put (cs := #[.int .i64 n, .slice none 0 0]) ?_ 1 _ rfl; refine blk_put (cs := #[.int .i64 0, .slice none 0 0]) ?_ 0 _ rfl; exact HK2.out) Try.underlying28 rfl (by kernel_rfl)) rfl ?_
        have hsz := hsz.out
        have hs5 := HB3.out.size
        have hb := HB.out.trans (HB13.out.mono HB.out.size)
        refine ⟨.slice Av ((xs.take i).filter (inAt f k)).length cv, by rw [HA.out]; rfl, ?_, (hb.setCell (by simp; omega) _).setCell (by simp; omega) _⟩
        have ho := HO.out
        have hbs := ho.base
        have ho := ho.lower (b' := w.heap.size) (by omega)
        rw [HA.out]
        rw [HE.out, List.take_length] at ho hbs ⊢
        exact (ho.grown (set_grown' _ (w.heap.size + 1 + 1) _ _) (fun j hj e => by have := hbs _ hj; cases e; omega)).grown (set_grown' _ (w.heap.size + 1 + 1) _ _) (fun j hj e => by have := hbs _ hj; cases e; omega)
  · have HA : Aside0 (ansFibreOf a xs b ys f g = ((0, []), q)) := ⟨by unfold ansFibreOf; rw [← hq, if_neg h0]⟩
    have hqb : (q != 0) = true := by simpa using h0
    have HQ := Aside0.mk hq
    clear hq h0
    go_enter Try.func47, Try.ntmps47
    go_wp2_with (first | (go_at_call 88; rw [← hw1]; clear hw1; refine (specOver a _ xs b _ ys _ f g _ HK.out HL.out HV.out).mono ?_; rintro e w3 ⟨rfl, hb⟩; rw [← HQ.out]; have HB3 := Aside0.mk hb; have HK2 := Aside0.mk (blk_below HBK.out hb); have c60 : w3.cell? ⟨w.heap.size + 1 + 1, 0, none⟩ = some (.int .i64 0) := blk_cell HK2.out 0; have c61 : w3.cell? ⟨w.heap.size + 1 + 1, 1, none⟩ = some (.slice none 0 0) := blk_cell HK2.out 1; have f60 : w3.frozen? ⟨w.heap.size + 1 + 1, 0, none⟩ = false := blk_frozen HK2.out 0; have f61 : w3.frozen? ⟨w.heap.size + 1 + 1, 1, none⟩ = false := blk_frozen HK2.out 1; clear hb))
    refine bodyPost_ret (results_ct rfl _ _ (w.heap.size + 1 + 1) 28 #[.int .i64 0, .slice none 0 0] (0, 0) _ rfl (by refine blk_put (cs := #[.int .i64 0, .slice none 0 0]) ?_ 1 _ rfl; refine blk_put (cs := #[.int .i64 0, .slice none 0 0]) ?_ 0 _ rfl; exact HK2.out) Try.underlying28 rfl (by kernel_rfl)) rfl ?_
    have hsz := hsz.out
    have hb := HB.out.trans (HB3.out.mono HB.out.size)
    exact ⟨.slice none 0 0, by rw [HA.out]; rfl, by rw [HA.out]; exact OwnI.nil _ _, (hb.setCell (by simp; omega) _).setCell (by simp; omega) _⟩

theorem lenFibreOf (a : Int) (xs : List Int) (b : Int) (ys f : List Int) (g : Int) : (ansFibreOf a xs b ys f g).1.2.length ≤ 1073741824 := by
  unfold ansFibreOf
  split
  · next h =>
    obtain ⟨n, m, -, -, hc, -⟩ := codeSimp_zero' h
    exact Nat.le_trans (List.length_filter_le _ _) (by have := hc.len; omega)
  · simp
end Go.Proofs.Ytllmbbaffhpheaa.H
