/- LevelAt of the reference. -/
import Derived.Test.YtllmbbaffhpheaaLevS
import Derived.Test.YtllmbbaffhpheaaGrow
namespace Go.Proofs.Ytllmbbaffhpheaa.H
open Go.RowKit Go.Proofs.YtllmbbaffhpheaaW.PrintWords Go.Proofs.YtllmbbaffhpheaaW.PrintLast Go.Proofs.YtllmbbaffhpheaaW.PrintMore
set_option linter.unusedVariables false
set_option linter.unusedSimpArgs false

theorem made_nil (g : Int) : madeAt [] g = false := rfl
theorem made_snoc (l : List Int) (s g : Int) : madeAt (l ++ [s]) g = (madeAt l g || decide (g.toNat &&& s.toNat = g.toNat)) := by
  unfold madeAt; rw [List.any_append]; simp

set_option maxRecDepth 100000 in
set_option maxHeartbeats 4000000 in
theorem specLevel (n : Nat) (ku : Value) (xs : List Int) (v : Value) (f : List Int) (c : Int) (w : World) (hk : ReadI w ku xs) (hv : ReadI w v f) (hc : Cx n xs) (hl : f.length = xs.length) :
    Calls Try.prog 75 #[cx n ku, v, .int .i64 c] w fun e w' => ∃ u, e = .returned (.agg #[.int .i64 n, u]) ∧ OwnI w.heap.size w' u (xs.filter (madeAt (levTo xs f c xs.length))) ∧ Below w.heap.size w w' := by
  obtain ⟨wa, hwa⟩ : ∃ wa, wa = w.alloc (.cells #[.int .i64 n, ku] 28) := ⟨_, rfl⟩
  obtain ⟨w1, hw1⟩ : ∃ w1, w1 = wa.alloc (.cells #[.int .i64 0, .slice none 0 0] 28) := ⟨_, rfl⟩
  have hsa : wa.heap.size = w.heap.size + 1 := by rw [hwa]; simp
  have hs1 : w1.heap.size = w.heap.size + 1 + 1 := by rw [hw1]; simp [hsa]
  have hBa : Below w.heap.size w wa := by rw [hwa]; exact Below.alloc (Below.refl _ _) (Nat.le_refl _) _
  have hB1 : Below wa.heap.size wa w1 := by rw [hw1]; exact Below.alloc (Below.refl _ _) (Nat.le_refl _) _
  have hB : Below w.heap.size w w1 := hBa.trans (hB1.mono hBa.size)
  have c0 : w1.cell? ⟨w.heap.size, 0, none⟩ = some (.int .i64 n) := pw_cell_below hB1 (by rw [hwa]; simp)
  have c1 : w1.cell? ⟨w.heap.size, 1, none⟩ = some ku := pw_cell_below hB1 (by rw [hwa]; simp)
  have c0a : wa.cell? ⟨w.heap.size, 0, none⟩ = some (.int .i64 n) := by rw [hwa]; simp
  have hk1 : w1.heap[w.heap.size + 1]? = some (.cells #[.int .i64 0, .slice none 0 0] 28) := by rw [hw1, ← hsa]; exact blk_new _ _
  have HBK := Aside0.mk hk1
  have HB := Aside0.mk hB
  have hsz := Aside0.mk hs1
  have HN := Aside0.mk hc
  have hl63 := hc.len
  have hlf := Aside0.mk hl
  have hmx : Try.prog.follows .mixedOrders = true := by kernel_rfl
  obtain ⟨A1, d1, rfl, hcc, hr⟩ := hk.below hB
  obtain ⟨A2, d2, rfl, hcv, hrv⟩ := hv.below hB
  have HR := Aside0.mk hr
  have HRV := Aside0.mk hrv
  clear hk hv hB hBa hB1 hk1 hr hrv hsa hcc hcv hl hc
  subst hwa
  go_enter Try.func75, Try.ntmps75
  go_wp2
  rw [← hw1]
  have hsw : w.heap.size + 1 + 1 = w1.heap.size := hs1.symm
  simp only [hsw]
  clear hw1 c0a hs1
  go_loopw [8] (fun s8 wr => ∃ i : Nat, s8 = .int .i64 i ∧ i ≤ xs.length ∧ (∃ s, Aside0 (wr.heap[w1.heap.size + 1]? = some (.cells #[.int .i64 n, s] 28)) ∧ Aside0 (OwnI w1.heap.size wr s ((xs.take i).filter (madeAt (levTo xs f c xs.length)))) ∧ Aside0 (∀ j, s.ownBlock = some j → j ≠ w1.heap.size + 1)) ∧ Aside0 (Below w1.heap.size w1 wr)) (fun s8 _ => xs.length - (intOf s8).toNat)
  case atStart =>
    refine ⟨0, rfl, Nat.zero_le _, ⟨_, ⟨by simpa using blk_new (w1.alloc (.cells #[] 2)) _⟩, ⟨(OwnI.empty w1 (Nat.le_refl _)).below (Below.alloc (Below.refl _ _) (Nat.le_refl _) _)⟩, ⟨fun j hj e => ?_⟩⟩, ⟨(Below.alloc (Below.refl _ _) (Nat.le_refl _) _).alloc (by simp) _⟩⟩
    have : w1.heap.size = j := by simpa [Value.ownBlock] using hj
    omega
  case round =>
    obtain ⟨i, rfl, hi, ⟨sv, HKb, HO, HNE⟩, HBw⟩ := hrel
    obtain ⟨Av, cv, rfl, -⟩ := HO.out.read
    have hll : ((xs.take i).filter (madeAt (levTo xs f c xs.length))).length ≤ 63 := Nat.le_trans (List.length_filter_le _ _) (by rw [List.length_take]; omega)
    obtain ⟨wo, rfl⟩ : ∃ wo, wo = wr := ⟨_, rfl⟩
    have c0 := pw_cell_below HBw.out c0
    have c1 := pw_cell_below HBw.out c1
    by_cases hlt : i < xs.length
    · obtain ⟨ad, y, rfl, hcell, HY⟩ := ReadI.get (Kd.C_below HR.out HBw.out) hlt
      obtain ⟨z, rfl, hz1, hz2⟩ := HN.out.nat (mem_at hlt HY.out)
      have HT := Aside0.mk (filter_take (madeAt (levTo xs f c xs.length)) hlt HY.out)
      go_wp2
      go_loopw [9, 10] (fun s9 s10 wr => ∃ j : Nat, s10 = .int .i64 j ∧ j ≤ xs.length ∧ s9 = .bool (madeAt (levTo xs f c j) z) ∧ Aside0 (Below wo.heap.size wo wr)) (fun _ s10 _ => xs.length - (intOf s10).toNat)
      case atStart => exact ⟨0, rfl, Nat.zero_le _, rfl, ⟨Below.refl _ _⟩⟩
      case round =>
        obtain ⟨j, rfl, hj, rfl, HBi⟩ := hrel
        have HB13 := Aside0.mk (HBw.out.trans (HBi.out.mono HBw.out.size))
        have c0 := pw_cell_below HBi.out c0
        have c1 := pw_cell_below HBi.out c1
        have hcell := pw_cell_below HBi.out hcell
        by_cases hlt2 : j < xs.length
        · obtain ⟨ad', y', e', hcell', HY'⟩ := ReadI.get (Kd.C_below HR.out HB13.out) hlt2
          cases e'
          obtain ⟨z', rfl, hz1', hz2'⟩ := HN.out.nat (mem_at hlt2 HY'.out)
          have hlt3 : j < f.length := by rw [hlf.out]; exact hlt2
          obtain ⟨ad2, q, rfl, hcell2, HZ⟩ := ReadI.get (Kd.C_below HRV.out HB13.out) hlt3
          have hand := and_i64 z z' (by omega) (by omega)
          have x1 : ∀ x : Ext wr, x.1.cell? ⟨w.heap.size, 1, none⟩ = some (.slice (some ad) xs.length d1) := fun x => Ext.cell c1 x
          have x2 : ∀ x : Ext wr, x.1.cell? (ad.add i) = some (.int .i64 z) := fun x => Ext.cell hcell x
          have x3 : ∀ x : Ext wr, x.1.cell? (ad.add j) = some (.int .i64 z') := fun x => Ext.cell hcell' x
          have x4 : ∀ x : Ext wr, x.1.cell? (ad2.add j) = some (.int .i64 q) := fun x => Ext.cell hcell2 x
          have hiI : (i : Int) < (xs.length : Int) := by omega
          have hjI : (j : Int) < (xs.length : Int) := by omega
          have hjF : (j : Int) < (f.length : Int) := by omega
          cases hb1 : madeAt (levTo xs f c j) z with
          | true =>
            have HM : Aside0 (madeAt (levTo xs f c (j + 1)) z = true) := ⟨by
              by_cases hq : q ≤ c
              · rw [levTo_hit HY'.out HZ.out hq, made_snoc, hb1]; rfl
              · rw [levTo_miss (xs := xs) HZ.out hq, hb1]⟩
            go_wp2
            refine wp_region_ext (by kernel_rfl) (by kernel_rfl) ?_
            repeat (go_big_quiet_step (fail))
            refine wpQuiet_nil ?_
            rintro _ ⟨x, rfl⟩
            have hbx := x.2
            go_wp2
            go_roundw
            case rel => exact ⟨j + 1, by go_num, by omega, by rw [HM.out], ⟨HBi.out.trans (hbx.mono HBi.out.size)⟩⟩
            case measure => simp [intOf]; omega
          | false =>
            by_cases hq : q ≤ c
            · have hqd : decide (q ≤ c) = true := decide_eq_true hq
              have HM : Aside0 (madeAt (levTo xs f c (j + 1)) z = (((z &&& z' : Nat) : Int) == (z : Int))) := ⟨by
                rw [levTo_hit HY'.out HZ.out hq, made_snoc, hb1, Bool.false_or, Int.toNat_natCast, Int.toNat_natCast, Bool.eq_iff_iff, decide_eq_true_eq, beq_iff_eq]; omega⟩
              go_wp2
              refine wp_region_ext (by kernel_rfl) (by kernel_rfl) ?_
              repeat (go_big_quiet_step (fail))
              refine wpQuiet_nil ?_
              rintro _ ⟨x, rfl⟩
              have hbx := x.2
              go_wp2
              go_roundw
              case rel => exact ⟨j + 1, by go_num, by omega, by rw [HM.out], ⟨HBi.out.trans (hbx.mono HBi.out.size)⟩⟩
              case measure => simp [intOf]; omega
            · have hqd : decide (q ≤ c) = false := decide_eq_false hq
              have HM : Aside0 (madeAt (levTo xs f c (j + 1)) z = false) := ⟨by rw [levTo_miss (xs := xs) HZ.out hq, hb1]⟩
              go_wp2
              refine wp_region_ext (by kernel_rfl) (by kernel_rfl) ?_
              repeat (go_big_quiet_step (fail))
              refine wpQuiet_nil ?_
              rintro _ ⟨x, rfl⟩
              have hbx := x.2
              go_wp2
              go_roundw
              case rel => exact ⟨j + 1, by go_num, by omega, by rw [HM.out], ⟨HBi.out.trans (hbx.mono HBi.out.size)⟩⟩
              case measure => simp [intOf]; omega
        · have e : j = xs.length := by omega
          subst e
          cases hfx : madeAt (levTo xs f c xs.length) z with
          | true =>
            have HXX := Aside0.mk hfx
            have HO5 := Aside0.mk (OwnI.below HO.out HBi.out)
            have HKb5 := Aside0.mk (blk_below HKb.out HBi.out)
            have HB5 := HB13
            go_wp2
            refine wp_region_tail 8 (fun j => match j with | 0 => fun v _ => v = .pointer (some ⟨w1.heap.size + 1, 1, none⟩) | 1 => fun v _ => v = .slice Av ((xs.take i).filter (madeAt (levTo xs f c xs.length))).length cv | 2 => fun v _ => v = .pointer (some ⟨w.heap.size, 1, none⟩) | 3 => fun v _ => v = .slice (some ad) xs.length d1 | 4 => fun v _ => v = .int .i64 i | 5 => fun v _ => v = .pointer (some (ad.add i)) | 6 => fun v _ => v = .int .i64 z | 7 => fun v W => ∃ b, v = .slice (some ⟨b, 0, none⟩) 1 1 ∧ W.cell? ⟨b, 0, none⟩ = some (.int .i64 z) | _ => fun _ _ => True) [0, 1, 0, 4, 0, 28, 60, 124, 255, 511, 1023] hmx (by kernel_rfl) ?st ?steps ?rest
            case st =>
              intro j v w1_ w2_ hb
              match j with
              | 0 | 1 | 2 | 3 | 4 | 5 | 6 => exact id
              | 7 => exact fun ⟨b, e, h⟩ => ⟨b, e, pw_cell_below hb h⟩
              | n + 8 => exact id
            case steps =>
              refine ⟨?_, ?_, ?_, ?_, ?_, ?_, ?_, ?_, trivial⟩
              · intro s w_ hb hd R hR
                generalize hA : putAll _ 0 s _ = A
                have hR' := hR (.pointer (some ⟨w1.heap.size + 1, 1, none⟩)) _ (Below.refl _ _) (rfl)
                clear hR hd
                refine opGives_value ?_ hR'
                subst hA
                simp only [dsOf, List.take, List.map_cons, List.map_nil, Option.getD_some, putAll, Act.put, List.setIfInBounds_toArray, List.set_cons_zero, List.set_cons_succ]
                go_simp
              · intro s w_ hb hd R hR
                generalize hA : putAll _ 0 s _ = A
                have e0 : s 0 = _ := hd 0 (by kernel_rfl)
                have c11 : w_.cell? ⟨w1.heap.size + 1, 1, none⟩ = some (.slice Av ((xs.take i).filter (madeAt (levTo xs f c xs.length))).length cv) := blk_cell (blk_below HKb5.out hb) 1
                have hR' := hR (.slice Av ((xs.take i).filter (madeAt (levTo xs f c xs.length))).length cv) _ (Below.refl _ _) (rfl)
                clear hR hd
                refine opGives_value ?_ hR'
                subst hA
                simp only [dsOf, List.take, List.map_cons, List.map_nil, Option.getD_some, putAll, Act.put, List.setIfInBounds_toArray, List.set_cons_zero, List.set_cons_succ]
                go_simp
              · intro s w_ hb hd R hR
                generalize hA : putAll _ 0 s _ = A
                have hR' := hR (.pointer (some ⟨w.heap.size, 1, none⟩)) _ (Below.refl _ _) (rfl)
                clear hR hd
                refine opGives_value ?_ hR'
                subst hA
                simp only [dsOf, List.take, List.map_cons, List.map_nil, Option.getD_some, putAll, Act.put, List.setIfInBounds_toArray, List.set_cons_zero, List.set_cons_succ]
                go_simp
              · intro s w_ hb hd R hR
                generalize hA : putAll _ 0 s _ = A
                have e2 : s 2 = _ := hd 2 (by kernel_rfl)
                have c1 := pw_cell_below hb c1
                have hR' := hR (.slice (some ad) xs.length d1) _ (Below.refl _ _) (rfl)
                clear hR hd
                refine opGives_value ?_ hR'
                subst hA
                simp only [dsOf, List.take, List.map_cons, List.map_nil, Option.getD_some, putAll, Act.put, List.setIfInBounds_toArray, List.set_cons_zero, List.set_cons_succ]
                go_simp
              · intro s w_ hb hd R hR
                generalize hA : putAll _ 0 s _ = A
                have hR' := hR (.int .i64 i) _ (Below.refl _ _) (rfl)
                clear hR hd
                refine opGives_value ?_ hR'
                subst hA
                simp only [dsOf, List.take, List.map_cons, List.map_nil, Option.getD_some, putAll, Act.put, List.setIfInBounds_toArray, List.set_cons_zero, List.set_cons_succ]
                go_simp
              · intro s w_ hb hd R hR
                generalize hA : putAll _ 0 s _ = A
                have e3 : s 3 = _ := hd 3 (by kernel_rfl)
                have e4 : s 4 = _ := hd 4 (by kernel_rfl)
                have hR' := hR (.pointer (some (ad.add i))) _ (Below.refl _ _) (rfl)
                clear hR hd
                refine opGives_value ?_ hR'
                subst hA
                simp only [dsOf, List.take, List.map_cons, List.map_nil, Option.getD_some, putAll, Act.put, List.setIfInBounds_toArray, List.set_cons_zero, List.set_cons_succ]
                go_simp
              · intro s w_ hb hd R hR
                generalize hA : putAll _ 0 s _ = A
                have e5 : s 5 = _ := hd 5 (by kernel_rfl)
                have hcell := pw_cell_below hb hcell
                have hR' := hR (.int .i64 z) _ (Below.refl _ _) (rfl)
                clear hR hd
                refine opGives_value ?_ hR'
                subst hA
                simp only [dsOf, List.take, List.map_cons, List.map_nil, Option.getD_some, putAll, Act.put, List.setIfInBounds_toArray, List.set_cons_zero, List.set_cons_succ]
                go_simp
              · intro s w_ hb hd R hR
                generalize hA : putAll _ 0 s _ = A
                have e6 : s 6 = _ := hd 6 (by kernel_rfl)
                have hR' := hR (.slice (some ⟨w_.heap.size, 0, none⟩) 1 1) (w_.alloc (.cells #[.int .i64 z] 2)) (Below.alloc (Below.refl _ _) (Nat.le_refl _) _) ⟨_, rfl, by simp⟩
                clear hR hd
                refine opGives_value ?_ hR'
                subst hA
                simp only [dsOf, List.take, List.map_cons, List.map_nil, Option.getD_some, putAll, Act.put, List.setIfInBounds_toArray, List.set_cons_zero, List.set_cons_succ]
                go_simp
            case rest =>
              intro s w6 hb hv
              have e1 : s 1 = _ := hv 1 (by decide)
              obtain ⟨b7, e7, hc7⟩ : ∃ b, s 7 = .slice (some ⟨b, 0, none⟩) 1 1 ∧ w6.cell? ⟨b, 0, none⟩ = some (.int .i64 z) := hv 7 (by decide)
              have HO6 := Aside0.mk (OwnI.below HO5.out hb)
              have HKb6 := Aside0.mk (blk_below HKb5.out hb)
              have HB6 := Aside0.mk (HB5.out.trans (hb.mono HB5.out.size))
              clear hv hb
              simp only [dsOf, List.take, List.map_cons, List.map_nil, Option.getD_some, putAll, Act.put, List.setIfInBounds_toArray, List.set_cons_zero, List.set_cons_succ]
              refine .inl (append_gives w1.heap.size (.tmp 59) (.tmp 65) rfl (.slice Av ((xs.take i).filter (madeAt (levTo xs f c xs.length))).length cv) ((xs.take i).filter (madeAt (levTo xs f c xs.length))) z b7 1 e1 e7 hc7 HO6.out HB6.out.size (by omega) ?_)
              intro v1 w7 ho hg hat
              have hne : some (w1.heap.size + 1) ≠ (Value.slice Av ((xs.take i).filter (madeAt (levTo xs f c xs.length))).length cv).ownBlock := fun e => HNE.out _ e.symm rfl
              have HKb7 := Aside0.mk ((hg.block _ (blk_lt HKb6.out) hne).trans HKb6.out)
              have HB7 := Aside0.mk (HB6.out.grown hg HB6.out.size (fun j hj => HO6.out.base j hj))
              have HNE7 : Aside0 (∀ j, v1.ownBlock = some j → j ≠ w1.heap.size + 1) := ⟨fun j hj => by
                rcases hat with hat | hat
                · rw [hat] at hj; exact HNE.out j hj
                · rw [hat] at hj; have := blk_lt HKb6.out; cases hj; omega⟩
              have HO7 := Aside0.mk ho
              obtain ⟨A7, d7, rfl, -⟩ := ho.read
              have c71 : w7.cell? ⟨w1.heap.size + 1, 1, none⟩ = some (.slice Av ((xs.take i).filter (madeAt (levTo xs f c xs.length))).length cv) := blk_cell HKb7.out 1
              have f71 : w7.frozen? ⟨w1.heap.size + 1, 1, none⟩ = false := blk_frozen HKb7.out 1
              clear ho hg hat hne
              simp only [List.drop, Act.put, List.setIfInBounds_toArray, List.set_cons_zero, List.set_cons_succ]
              refine .inl (opGives_value (v := .pointer (some ⟨w1.heap.size + 1, 1, none⟩)) (w' := w7) (by go_simp) ?_)
              simp only [List.drop, Act.put, List.setIfInBounds_toArray, List.set_cons_zero, List.set_cons_succ]
              refine .inr ⟨w7.setCell ⟨w1.heap.size + 1, 1, none⟩ (.slice A7 (((xs.take i).filter (madeAt (levTo xs f c xs.length))) ++ [(z : Int)]).length d7), by go_simp, ?_⟩
              simp only [List.drop, Act.put, List.setIfInBounds_toArray, List.set_cons_zero, List.set_cons_succ]
              unfold tailList
              go_wp2
              go_roundw
              case rel =>
                have h6 := HO7.out
                have h7 := HNE7.out
                rw [List.length_append, List.length_singleton] at h6 h7
                refine ⟨i + 1, by go_num, by omega, ⟨_, ⟨blk_put HKb7.out 1 _ rfl⟩, ⟨?_⟩, ⟨h7⟩⟩, ⟨HB7.out.setCell (by simp) _⟩⟩
                rw [HT.out, HXX.out, if_pos rfl]
                exact h6.grown (set_grown' _ (w1.heap.size + 1) _ _) (fun j hj e => by have := h7 j hj; cases e; omega)
              case measure => simp [intOf]; omega
          | false =>
            have HXX := Aside0.mk hfx
            go_wp2
            go_roundw
            case rel => exact ⟨i + 1, by go_num, by omega, ⟨_, ⟨blk_below HKb.out HBi.out⟩, ⟨by rw [HT.out, HXX.out, if_neg (by decide)]; exact OwnI.below HO.out HBi.out⟩, HNE⟩, HB13⟩
            case measure => simp [intOf]; omega
    · have e : i = xs.length := by omega
      have HE := Aside0.mk e
      clear e
      have HK2 := Aside0.mk (blk_below HBK.out HBw.out)
      have c10 : wo.cell? ⟨w1.heap.size + 1, 0, none⟩ = some (.int .i64 n) := blk_cell HKb.out 0
      have c11 : wo.cell? ⟨w1.heap.size + 1, 1, none⟩ = some (.slice Av ((xs.take i).filter (madeAt (levTo xs f c xs.length))).length cv) := blk_cell HKb.out 1
      have c60 : wo.cell? ⟨w.heap.size + 1, 0, none⟩ = some (.int .i64 0) := blk_cell HK2.out 0
      have c61 : wo.cell? ⟨w.heap.size + 1, 1, none⟩ = some (.slice none 0 0) := blk_cell HK2.out 1
      have f60 : wo.frozen? ⟨w.heap.size + 1, 0, none⟩ = false := blk_frozen HK2.out 0
      have f61 : wo.frozen? ⟨w.heap.size + 1, 1, none⟩ = false := blk_frozen HK2.out 1
      go_wp2
      refine bodyPost_ret (results_cell_row rfl _ _ (w.heap.size + 1) 28 #[.int .i64 n, .slice Av ((xs.take i).filter (madeAt (levTo xs f c xs.length))).length cv] (0, 0) _ rfl (by refine blk_put (cs := #[.int .i64 n, .slice none 0 0]) ?_ 1 _ rfl; refine blk_put (cs := #[.int .i64 0, .slice none 0 0]) ?_ 0 _ rfl; exact HK2.out) Try.underlying28 rfl (by kernel_rfl)) rfl ?_
      have hb := HB.out.trans (HBw.out.mono HB.out.size)
      refine ⟨_, rfl, ?_, (hb.setCell (by simp) _).setCell (by simp) _⟩
      have hs := hsz.out
      have hbs := HO.out.base
      have ho := HO.out.lower (b' := w.heap.size) (by omega)
      rw [HE.out, List.take_length] at ho hbs ⊢
      exact (ho.grown (set_grown' _ (w.heap.size + 1) _ _) (fun j hj e => by have := hbs _ hj; cases e; omega)).grown (set_grown' _ (w.heap.size + 1) _ _) (fun j hj e => by have := hbs _ hj; cases e; omega)
end Go.Proofs.Ytllmbbaffhpheaa.H
