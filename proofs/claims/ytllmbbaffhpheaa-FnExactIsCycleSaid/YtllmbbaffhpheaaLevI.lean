/- LevelAt of the program. -/
import Derived.Test.YtllmbbaffhpheaaLev
import Derived.Test.YtllmbbaffhpheaaPhi
namespace Go.Proofs.Ytllmbbaffhpheaa.H
open Go.RowKit Go.Proofs.YtllmbbaffhpheaaW.PrintWords Go.Proofs.YtllmbbaffhpheaaW.PrintLast Go.Proofs.YtllmbbaffhpheaaW.PrintMore
set_option linter.unusedVariables false
set_option linter.unusedSimpArgs false

/-- the faces with numbers at most c, out of the first k -/
def levTo (xs f : List Int) (c : Int) (k : Nat) : List Int := (List.range k).filterMap fun j => if f.getD j 0 ≤ c then some (xs.getD j 0) else none
theorem levTo_hit {xs f : List Int} {c y z : Int} {k : Nat} (hy : xs.getD k 0 = y) (hz : f.getD k 0 = z) (h : z ≤ c) : levTo xs f c (k + 1) = levTo xs f c k ++ [y] := by
  unfold levTo
  rw [List.range_succ, List.filterMap_append]
  subst hz hy
  simp only [List.filterMap_cons, List.filterMap_nil]
  rw [if_pos h]
theorem levTo_miss {xs f : List Int} {c z : Int} {k : Nat} (hz : f.getD k 0 = z) (h : ¬ z ≤ c) : levTo xs f c (k + 1) = levTo xs f c k := by
  unfold levTo
  rw [List.range_succ, List.filterMap_append]
  subst hz
  simp only [List.filterMap_cons, List.filterMap_nil]
  rw [if_neg h, List.append_nil]
theorem levTo_mem {xs f : List Int} {c : Int} {k : Nat} (hk : k ≤ xs.length) : ∀ x ∈ levTo xs f c k, x ∈ xs := by
  intro x hx
  unfold levTo at hx
  obtain ⟨j, hj, h⟩ := List.mem_filterMap.1 hx
  rw [List.mem_range] at hj
  split at h
  · cases h
    exact mem_at (by omega) rfl
  · cases h
theorem levTo_len (xs f : List Int) (c : Int) (k : Nat) : (levTo xs f c k).length ≤ k := by
  unfold levTo
  exact Nat.le_trans (List.length_filterMap_le _ _) (by simp)
/-- what LevelAt answers -/
def ansLevelAt (a : Int) (xs f : List Int) (c : Int) : (Int × List Int) × Int :=
  if codeFun a xs (isVal c) [f] = 0 then ((a, xs.filter (madeAt (levTo xs f c xs.length))), 0) else ((0, []), codeFun a xs (isVal c) [f])
theorem codeFun_zero {a : Int} {xs f : List Int} {r : Bool} (h : codeFun a xs r [f] = 0) : ∃ n : Nat, a = n ∧ Cx n xs ∧ xs.all (belowIn xs) = true ∧ f.length = xs.length ∧ r = true := by
  unfold codeFun at h
  split at h
  · next h1 =>
    obtain ⟨n, rfl, hn, hb⟩ := cxOk_cx h1
    split at h
    · next h2 =>
      simp only [List.all_cons, List.all_nil, Bool.and_true, Bool.and_eq_true, isFun, decide_eq_true_eq] at h2
      exact ⟨n, rfl, hn, hb, h2.2.1, h2.1⟩
    · cases h
  · cases h
theorem lenLevelAt (a : Int) (xs f : List Int) (c : Int) : (ansLevelAt a xs f c).1.2.length ≤ 1073741824 := by
  unfold ansLevelAt
  split
  · next h =>
    obtain ⟨n, -, hc, -⟩ := codeFun_zero h
    exact Nat.le_trans (List.length_filter_le _ _) (by have := hc.len; omega)
  · simp
theorem lev_law {n : Nat} {xs ss : List Int} (hc : Cx n xs) (hb : xs.all (belowIn xs) = true) (hs : ∀ s ∈ ss, s ∈ xs) : thL (madeAt ss) (2 ^ n) = xs.filter (madeAt ss) := by
  rw [← thL_filter hc]
  refine thL_congr (fun q h1 _ => ?_)
  cases hm : madeAt ss q with
  | false => rw [Bool.and_false]
  | true =>
    rw [Bool.and_true]
    symm
    rw [decide_eq_true_eq]
    unfold madeAt at hm
    rw [List.any_eq_true] at hm
    obtain ⟨s, hsm, h⟩ := hm
    rw [decide_eq_true_eq, Int.toNat_natCast] at h
    obtain ⟨z, rfl, -, -⟩ := hc.nat (hs s hsm)
    rw [Int.toNat_natCast] at h
    exact sub_in hc hb (by omega) z (hs _ hsm) h

set_option maxRecDepth 100000 in
set_option maxHeartbeats 2000000 in
theorem level (n : Nat) (ku : Value) (xs : List Int) (v : Value) (f : List Int) (c : Int) (w : World) (hk : ReadI w ku xs) (hv : ReadI w v f) (hc : Cx n xs) (hl : f.length = xs.length) :
    Calls Try.prog 78 #[cx n ku, v, .int .i64 c] w fun e w' => ∃ u, e = .returned (.agg #[.int .i64 n, u]) ∧ OwnI w.heap.size w' u (thL (madeAt (levTo xs f c xs.length)) (2 ^ n)) ∧ Below w.heap.size w w' := by
  obtain ⟨wa, hwa⟩ : ∃ wa, wa = w.alloc (.cells #[.int .i64 n, ku] 28) := ⟨_, rfl⟩
  obtain ⟨w1, hw1⟩ : ∃ w1, w1 = wa.alloc (.cells #[.int .i64 0, .slice none 0 0] 28) := ⟨_, rfl⟩
  have hsa : wa.heap.size = w.heap.size + 1 := by rw [hwa]; simp
  have hs1 : w1.heap.size = w.heap.size + 1 + 1 := by rw [hw1]; simp [hsa]
  have hBa : Below w.heap.size w wa := by rw [hwa]; exact Below.alloc (Below.refl _ _) (Nat.le_refl _) _
  have hB1 : Below wa.heap.size wa w1 := by rw [hw1]; exact Below.alloc (Below.refl _ _) (Nat.le_refl _) _
  have hB : Below w.heap.size w w1 := hBa.trans (hB1.mono hBa.size)
  have c0 : w1.cell? ⟨w.heap.size, 0, none⟩ = some (.int .i64 n) := pw_cell_below hB1 (by rw [hwa]; simp)
  have c1 : w1.cell? ⟨w.heap.size, 1, none⟩ = some ku := pw_cell_below hB1 (by rw [hwa]; simp)
  have hk1 : w1.heap[w.heap.size + 1]? = some (.cells #[.int .i64 0, .slice none 0 0] 28) := by rw [hw1, ← hsa]; exact blk_new _ _
  have HBK := Aside0.mk hk1
  have HB := Aside0.mk hB
  have hsz := Aside0.mk hs1
  have HN := Aside0.mk hc
  have hl63 := hc.len
  have hlf := Aside0.mk hl
  obtain ⟨A1, d1, rfl, hcc, hr⟩ := hk.below hB
  obtain ⟨A2, d2, rfl, hcv, hrv⟩ := hv.below hB
  have HR := Aside0.mk hr
  have HRV := Aside0.mk hrv
  clear hk hv hB hBa hB1 hk1 hr hrv hs1 hsa hcc hcv hl hc
  subst hwa
  go_enter Try.func78, Try.ntmps78
  go_wp2
  rw [← hw1]
  clear hw1
  go_loopw [7, 13] (fun s7 s13 wr => ∃ i : Nat, s13 = .int .i64 i ∧ i ≤ xs.length ∧ Aside0 (OwnI w1.heap.size wr s7 (levTo xs f c i)) ∧ Aside0 (Below w1.heap.size w1 wr)) (fun _ s13 _ => xs.length - (intOf s13).toNat)
  case atStart => exact ⟨0, rfl, Nat.zero_le _, ⟨OwnI.nil _ _⟩, ⟨Below.refl _ _⟩⟩
  case round =>
    obtain ⟨i, rfl, hi, HO, HBw⟩ := hrel
    have c0 := pw_cell_below HBw.out c0
    have c1 := pw_cell_below HBw.out c1
    have hll := levTo_len xs f c i
    by_cases hlt : i < xs.length
    · obtain ⟨ad, y, rfl, hcell, HY⟩ := ReadI.get (Kd.C_below HR.out HBw.out) hlt
      have hlt2 : i < f.length := by rw [hlf.out]; exact hlt
      obtain ⟨ad2, z, rfl, hcell2, HZ⟩ := ReadI.get (Kd.C_below HRV.out HBw.out) hlt2
      by_cases hzc : z ≤ c
      · have HT := Aside0.mk (levTo_hit HY.out HZ.out hzc)
        go_wp2_with (first | (at_builtin; refine app_own (w0 := w1) w1.heap.size rfl (.tmp 24) (.tmp 26) rfl _ (levTo xs f c i) y rfl rfl HO.out HBw.out HBw.out.size ?hl ?_; (case hl => omega); intro v1 w6 ho hb hg hat; have HO1 := Aside0.mk ho; have HB1 := Aside0.mk hb; clear ho hb hg hat))
        go_roundw
        case rel => exact ⟨i + 1, by go_num, by omega, ⟨by rw [HT.out]; exact HO1.out⟩, HB1⟩
        case measure => simp [intOf]; omega
      · have HT := Aside0.mk (levTo_miss (xs := xs) HZ.out hzc)
        go_wp2
        go_roundw
        case rel => exact ⟨i + 1, by go_num, by omega, ⟨by rw [HT.out]; exact HO.out⟩, HBw⟩
        case measure => simp [intOf]; omega
    · have e : i = xs.length := by omega
      obtain ⟨Av, cv, rfl, -⟩ := HO.out.read
      have HRD : Aside0 (ReadI wr (.slice Av (levTo xs f c i).length cv) (levTo xs f c xs.length)) := ⟨by rw [← e]; exact HO.out.read⟩
      have HSS : Aside0 (∀ s ∈ levTo xs f c xs.length, ∃ z : Nat, s = z ∧ z < 64) := ⟨fun s hs => by
        obtain ⟨z, rfl, -, h⟩ := HN.out.nat (levTo_mem (Nat.le_refl _) s hs)
        exact ⟨z, rfl, by omega⟩⟩
      clear e
      go_wp2_with (first | (go_at_call 124; refine (madeBy n HN.out.hi _ _ _ HRD.out HSS.out).mono ?_; rintro e w2 ⟨u, rfl, ho, hb2⟩; obtain ⟨A4, d4, rfl, -⟩ := ho.read; have HO2 := Aside0.mk ho; have hwz := hb2.size; have HB2 := Aside0.mk (HBw.out.trans (hb2.mono HBw.out.size)); have HK2 := Aside0.mk (blk_below (blk_below HBK.out HBw.out) hb2); have c60 : w2.cell? ⟨w.heap.size + 1, 0, none⟩ = some (.int .i64 0) := blk_cell HK2.out 0; have c61 : w2.cell? ⟨w.heap.size + 1, 1, none⟩ = some (.slice none 0 0) := blk_cell HK2.out 1; have f60 : w2.frozen? ⟨w.heap.size + 1, 0, none⟩ = false := blk_frozen HK2.out 0; have f61 : w2.frozen? ⟨w.heap.size + 1, 1, none⟩ = false := blk_frozen HK2.out 1; clear ho hb2))
      refine bodyPost_ret (results_cell_row rfl _ _ (w.heap.size + 1) 28 #[.int .i64 n, .slice A4 (thL (madeAt (levTo xs f c xs.length)) (2 ^ n)).length d4] (0, 0) _ rfl (by refine blk_put (cs := #[.int .i64 n, .slice none 0 0]) ?_ 1 _ rfl; refine blk_put (cs := #[.int .i64 0, .slice none 0 0]) ?_ 0 _ rfl; exact HK2.out) Try.underlying28 rfl (by kernel_rfl)) rfl ?_
      have hb := HB.out.trans (HB2.out.mono HB.out.size)
      refine ⟨_, rfl, ?_, (hb.setCell (by simp) _).setCell (by simp) _⟩
      have hs := hsz.out
      have hs2 := HBw.out.size
      have hbs := HO2.out.base
      have ho := HO2.out.lower (b' := w.heap.size) (by omega)
      exact (ho.grown (set_grown' _ (w.heap.size + 1) _ _) (fun j hj e => by have := hbs _ hj; cases e; omega)).grown (set_grown' _ (w.heap.size + 1) _ _) (fun j hj e => by have := hbs _ hj; cases e; omega)

set_option maxRecDepth 100000 in
set_option maxHeartbeats 2000000 in
theorem implLevelAt (a : Int) (ku : Value) (xs : List Int) (v : Value) (f : List Int) (c : Int) (w : World) (hk : ReadI w ku xs) (hv : ReadI w v f) :
    Calls Try.prog 37 #[cx a ku, v, .int .i64 c] w fun e w' => ∃ u, e = .returned (.tuple #[.agg #[.int .i64 (ansLevelAt a xs f c).1.1, u], .int .i64 (ansLevelAt a xs f c).2]) ∧ OwnI w.heap.size w' u (ansLevelAt a xs f c).1.2 ∧ Below w.heap.size w w' := by
  obtain ⟨wa, hwa⟩ : ∃ wa, wa = w.alloc (.cells #[.int .i64 a, ku] 28) := ⟨_, rfl⟩
  obtain ⟨w1, hw1⟩ : ∃ w1, w1 = wa.alloc (.cells #[.int .i64 0, .slice none 0 0] 28) := ⟨_, rfl⟩
  have hsa : wa.heap.size = w.heap.size + 1 := by rw [hwa]; simp
  have hs1 : w1.heap.size = w.heap.size + 1 + 1 := by rw [hw1]; simp [hsa]
  have hBa : Below w.heap.size w wa := by rw [hwa]; exact Below.alloc (Below.refl _ _) (Nat.le_refl _) _
  have hB1 : Below wa.heap.size wa w1 := by rw [hw1]; exact Below.alloc (Below.refl _ _) (Nat.le_refl _) _
  have hB : Below w.heap.size w w1 := hBa.trans (hB1.mono hBa.size)
  have c0 : w1.cell? ⟨w.heap.size, 0, none⟩ = some (.int .i64 a) := pw_cell_below hB1 (by rw [hwa]; simp)
  have c1 : w1.cell? ⟨w.heap.size, 1, none⟩ = some ku := pw_cell_below hB1 (by rw [hwa]; simp)
  have hk1 : w1.heap[w.heap.size + 1]? = some (.cells #[.int .i64 0, .slice none 0 0] 28) := by rw [hw1, ← hsa]; exact blk_new _ _
  have HBK := Aside0.mk hk1
  have HB := Aside0.mk hB
  have hsz := Aside0.mk hs1
  have HK := Aside0.mk (hk.below hB)
  have HV := Aside0.mk (hv.below hB)
  obtain ⟨A1, d1, rfl, -⟩ := id hk
  obtain ⟨A2, d2, rfl, -⟩ := id hv
  clear hk hv hB hBa hB1 hk1 hs1 hsa
  subst hwa
  obtain ⟨q, hq⟩ : ∃ q, q = codeFun a xs (isVal c) [f] := ⟨_, rfl⟩
  have HQ := Aside0.mk hq
  clear hq
  have hmx : Try.prog.follows .mixedOrders = true := by kernel_rfl
  go_enter Try.func37, Try.ntmps37
  go_wp2
  rw [← hw1]
  clear hw1
  refine wp_region_phi (fun j => match j with | 0 => fun v _ => v = .agg #[.int .i64 a, .slice A1 xs.length d1] | 1 => fun v _ => v = .int .i64 c | 2 => fun v _ => v = .bool (isVal c) | 3 => fun v _ => v = .slice A2 f.length d2 | 4 => fun v W => ReadS W v [f] | 5 => fun v _ => v = .int .i64 q | 6 => fun v _ => v = .int .i64 q | _ => fun _ _ => True) [0, 0, 2, 0, 8, 31, 63] hmx (by kernel_rfl) ?st ?steps ?rest
  case st =>
    intro j v w1_ w2_ hb
    match j with
    | 0 | 1 | 2 | 3 | 5 | 6 => exact id
    | 4 => exact fun h => h.below hb
    | n + 7 => exact id
  case steps =>
    refine ⟨?_, ?_, ?_, ?_, ?_, ?_, ?_, trivial⟩
    · intro s w_ hb hd R hR
      generalize hA : putAll _ 0 s _ = A
      have c0 := pw_cell_below hb c0
      have c1 := pw_cell_below hb c1
      have hR' := hR (.agg #[.int .i64 a, .slice A1 xs.length d1]) _ (Below.refl _ _) (rfl)
      clear hR hd
      refine opGives_value ?_ hR'
      subst hA
      simp only [dsOf, List.map_cons, List.map_nil, Option.getD_some, putAll, Act.put, List.setIfInBounds_toArray, List.set_cons_zero, List.set_cons_succ]
      go_simp
    · intro s w_ hb hd R hR
      generalize hA : putAll _ 0 s _ = A
      have hR' := hR (.int .i64 c) _ (Below.refl _ _) (rfl)
      clear hR hd
      refine opGives_value ?_ hR'
      subst hA
      simp only [dsOf, List.map_cons, List.map_nil, Option.getD_some, putAll, Act.put, List.setIfInBounds_toArray, List.set_cons_zero, List.set_cons_succ]
      go_simp
    · intro s w_ hb hd R hR
      generalize hA : putAll _ 0 s _ = A
      have e1 : s 1 = _ := hd 1 (by kernel_rfl)
      refine opGives_call (f := 77) (args := #[.int .i64 c]) ?_ ?_
      · subst hA
        clear hR hd
        simp only [dsOf, List.map_cons, List.map_nil, Option.getD_some, putAll, Act.put, List.setIfInBounds_toArray, List.set_cons_zero, List.set_cons_succ]
        go_simp
      clear hA A
      refine (isValue c w_).mono ?_
      rintro e w__ ⟨rfl, hb5⟩
      exact ⟨_, rfl, hR _ _ hb5 rfl⟩
    · intro s w_ hb hd R hR
      generalize hA : putAll _ 0 s _ = A
      have hR' := hR (.slice A2 f.length d2) _ (Below.refl _ _) (rfl)
      clear hR hd
      refine opGives_value ?_ hR'
      subst hA
      simp only [dsOf, List.map_cons, List.map_nil, Option.getD_some, putAll, Act.put, List.setIfInBounds_toArray, List.set_cons_zero, List.set_cons_succ]
      go_simp
    · intro s w_ hb hd R hR
      generalize hA : putAll _ 0 s _ = A
      have e3 : s 3 = _ := hd 3 (by kernel_rfl)
      have hR' := hR (.slice (some ⟨w_.heap.size, 0, none⟩) 1 1) (w_.alloc (.cells #[.slice A2 f.length d2] 22)) (Below.alloc (Below.refl _ _) (Nat.le_refl _) _) (ReadS.one' (HV.out.below hb))
      clear hR hd
      refine opGives_value ?_ hR'
      subst hA
      simp only [dsOf, List.map_cons, List.map_nil, Option.getD_some, putAll, Act.put, List.setIfInBounds_toArray, List.set_cons_zero, List.set_cons_succ]
      go_simp
    · intro s w_ hb hd R hR
      generalize hA : putAll _ 0 s _ = A
      have e0 : s 0 = _ := hd 0 (by kernel_rfl)
      have e2 : s 2 = _ := hd 2 (by kernel_rfl)
      have o4 : ReadS w_ (s 4) [f] := hd 4 (by kernel_rfl)
      refine opGives_call (f := 76) (args := #[.agg #[.int .i64 a, .slice A1 xs.length d1], .bool (isVal c), s 4]) ?_ ?_
      · subst hA
        clear hR hd
        simp only [dsOf, List.map_cons, List.map_nil, Option.getD_some, putAll, Act.put, List.setIfInBounds_toArray, List.set_cons_zero, List.set_cons_succ]
        go_simp
      clear hA A
      refine (functionCode a _ xs (isVal c) (s 4) [f] w_ (HK.out.below hb) o4).mono ?_
      rw [← HQ.out]
      rintro e w__ ⟨rfl, hb5⟩
      exact ⟨_, rfl, hR _ _ hb5 rfl⟩
    · intro s w_ hb hd R hR
      generalize hA : putAll _ 0 s _ = A
      have e5 : s 5 = _ := hd 5 (by kernel_rfl)
      have hR' := hR (.int .i64 q) _ (Below.refl _ _) (rfl)
      clear hR hd
      refine opGives_value ?_ hR'
      subst hA
      simp only [dsOf, List.map_cons, List.map_nil, Option.getD_some, putAll, Act.put, List.setIfInBounds_toArray, List.set_cons_zero, List.set_cons_succ]
      go_simp
  case rest =>
    intro s w2 hb hv
    have e6 : s 6 = _ := hv 6 (by decide)
    have c0 := pw_cell_below hb c0
    have c1 := pw_cell_below hb c1
    have HB2 := Aside0.mk hb
    have HBK2 := Aside0.mk (blk_below HBK.out hb)
    simp only [dsOf, List.map_cons, List.map_nil, Option.getD_some, putAll, Act.put, List.setIfInBounds_toArray, List.set_cons_zero, List.set_cons_succ]
    rw [e6]
    clear hv e6 hb
    by_cases h0 : q = 0
    · have h0' := HQ.out.symm.trans h0
      obtain ⟨n, rfl, hcn, hbl, hfl, -⟩ := codeFun_zero h0'
      have HA : Aside0 (ansLevelAt n xs f c = (((n : Int), thL (madeAt (levTo xs f c xs.length)) (2 ^ n)), 0)) := ⟨by unfold ansLevelAt; rw [if_pos h0', lev_law hcn hbl (levTo_mem (Nat.le_refl _))]⟩
      have HN := Aside0.mk hcn
      have HL := Aside0.mk hfl
      subst h0
      clear hcn hbl hfl h0'
      go_wp2_with (first | (go_at_call 78; refine (level n _ xs _ f c _ (HK.out.below HB2.out) (HV.out.below HB2.out) HN.out HL.out).mono ?_; rintro e w6 ⟨u, rfl, ho, hb6⟩; obtain ⟨A4, d4, rfl, -⟩ := ho.read; have HO := Aside0.mk ho; have HK2 := Aside0.mk (blk_below HBK2.out hb6); have c60 : w6.cell? ⟨w.heap.size + 1, 0, none⟩ = some (.int .i64 0) := blk_cell HK2.out 0; have c61 : w6.cell? ⟨w.heap.size + 1, 1, none⟩ = some (.slice none 0 0) := blk_cell HK2.out 1; have f60 : w6.frozen? ⟨w.heap.size + 1, 0, none⟩ = false := blk_frozen HK2.out 0; have f61 : w6.frozen? ⟨w.heap.size + 1, 1, none⟩ = false := blk_frozen HK2.out 1; have HB6 := Aside0.mk hb6; clear ho hb6))
      refine bodyPost_ret (results_ct rfl _ _ (w.heap.size + 1) 28 #[.int .i64 n, .slice A4 (thL (madeAt (levTo xs f c xs.length)) (2 ^ n)).length d4] (0, 0) _ rfl (by refine blk_put (cs := #[.int .i64 n, .slice none 0 0]) ?_ 1 _ rfl; refine blk_put (cs := #[.int .i64 0, .slice none 0 0]) ?_ 0 _ rfl; exact HK2.out) Try.underlying28 rfl (by kernel_rfl)) rfl ?_
      have hsz := hsz.out
      have hs5 := HB2.out.size
      have hb := HB.out.trans ((HB2.out.trans (HB6.out.mono HB2.out.size)).mono HB.out.size)
      refine ⟨.slice A4 (thL (madeAt (levTo xs f c xs.length)) (2 ^ n)).length d4, by rw [HA.out]; rfl, ?_, (hb.setCell (by simp) _).setCell (by simp) _⟩
      have hbs := HO.out.base
      have ho := HO.out.lower (b' := w.heap.size) (by omega)
      rw [HA.out]
      exact (ho.grown (set_grown' _ (w.heap.size + 1) _ _) (fun j hj e => by have := hbs _ hj; cases e; omega)).grown (set_grown' _ (w.heap.size + 1) _ _) (fun j hj e => by have := hbs _ hj; cases e; omega)
    · have HA : Aside0 (ansLevelAt a xs f c = ((0, []), q)) := ⟨by unfold ansLevelAt; rw [← HQ.out, if_neg h0]⟩
      have hqb : (q != 0) = true := by simpa using h0
      have c60 : w2.cell? ⟨w.heap.size + 1, 0, none⟩ = some (.int .i64 0) := blk_cell HBK2.out 0
      have c61 : w2.cell? ⟨w.heap.size + 1, 1, none⟩ = some (.slice none 0 0) := blk_cell HBK2.out 1
      have f60 : w2.frozen? ⟨w.heap.size + 1, 0, none⟩ = false := blk_frozen HBK2.out 0
      have f61 : w2.frozen? ⟨w.heap.size + 1, 1, none⟩ = false := blk_frozen HBK2.out 1
      clear h0
      go_wp2
      refine bodyPost_ret (results_ct rfl _ _ (w.heap.size + 1) 28 #[.int .i64 0, .slice none 0 0] (0, 0) _ rfl (by refine blk_put (cs := #[.int .i64 0, .slice none 0 0]) ?_ 1 _ rfl; refine blk_put (cs := #[.int .i64 0, .slice none 0 0]) ?_ 0 _ rfl; exact HBK2.out) Try.underlying28 rfl (by kernel_rfl)) rfl ?_
      have hb := HB.out.trans (HB2.out.mono HB.out.size)
      exact ⟨.slice none 0 0, by rw [HA.out]; rfl, by rw [HA.out]; exact OwnI.nil _ _, (hb.setCell (by simp) _).setCell (by simp) _⟩
end Go.Proofs.Ytllmbbaffhpheaa.H
