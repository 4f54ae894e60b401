/- PairingByFibres of the reference. The length of PairingByFibres's answer. -/
import Derived.Test.YtcbkchnfjeegmaaKFnExactPairingByFibres1
import Derived.Test.YtcbkchnfjeegmaaKFnExactPairingByFibres2
import Derived.Test.YtcbkchnfjeegmaaKFnExactPairingByFibres3
import Derived.Test.YtcbkchnfjeegmaaKFnExactPairingByFibres4
import Derived.Test.YtcbkchnfjeegmaaKFnExactPairingByFibres5
import Derived.Test.YtcbkchnfjeegmaaKFnExactPairingByFibres6

namespace Go.Proofs.Ytcbkchnfjeegmaa.H
open Go.RowKit Go.Proofs.YtcbkchnfjeegmaaW.PrintWords Go.Proofs.YtcbkchnfjeegmaaW.PrintLast Go.Proofs.YtcbkchnfjeegmaaW.PrintMore
set_option linter.unusedVariables false
set_option linter.unusedSimpArgs false

def Bl (w w' : World) : Prop := Below w.heap.size w w'
theorem Bl.trans {a b c : World} (h : Bl a b) (k : Bl b c) : Bl a c := Below.trans h (Below.mono k (Below.size h))
theorem by_new {F : List Int} {v j : Nat} {z : Int} (hF : F.Pairwise (· < ·)) (hj : j < F.length) (hz : F.getD j 0 = z) : ∀ p ∈ byTo F v j, p.1 ≠ z := by
  intro p hp e
  have h1 := (by_lows F v j (by omega)).subset (List.mem_map.2 ⟨p, hp, rfl⟩)
  obtain ⟨k, hk, e2⟩ := List.getElem_of_mem h1
  rw [List.length_take] at hk
  rw [List.getElem_take] at e2
  rw [List.getD_eq_getElem?_getD, List.getElem?_eq_getElem hj] at hz
  have := List.pairwise_iff_getElem.1 hF k j (by omega) hj (by omega)
  simp only [Option.getD_some] at hz
  omega
theorem tab_next {xs : List Int} {L : List (Int × Int)} {i : Nat} {x : Int} (h : i < xs.length) (hx : xs.getD i 0 = x) : tabOut (xs.take (i + 1)) L = tabOut (xs.take i) L ++ (if 0 < highTo L x then [(x, highTo L x)] else []) := by
  unfold tabOut
  rw [take_get h hx, List.filterMap_append, List.filterMap_cons]
  by_cases h0 : 0 < highTo L x
  · rw [if_pos h0, if_pos h0]; rfl
  · rw [if_neg h0, if_neg h0]; rfl
theorem tab_len (L : List (Int × Int)) (l : List Int) : (tabOut l L).length ≤ l.length := List.length_filterMap_le _ _
theorem own_cell {b g c : Nat} {w : World} {xs : List Int} {h : Int → Int} (ho : OwnI b w (.slice (some ⟨g, 0, none⟩) xs.length c) (xs.map h)) {i : Nat} {x : Int} (hi : i < xs.length) (hx : xs.getD i 0 = x) : w.cell? ⟨g, i, none⟩ = some (.int .i64 (h x)) := by
  obtain ⟨A, c', e, -, hr⟩ := ho.read
  rw [List.length_map] at e hr
  cases e
  obtain ⟨ad, e2, hc⟩ := ReadI.at_ (xs := xs.map h) (by rw [List.length_map]; exact hr) (i := i) (by rw [List.length_map]; exact hi)
  cases e2
  rw [add_mk] at hc
  rw [hc, List.getD_eq_getElem?_getD, List.getElem?_map, List.getElem?_eq_getElem hi]
  rw [List.getD_eq_getElem?_getD, List.getElem?_eq_getElem hi] at hx
  simp only [Option.getD_some] at hx
  simp [hx]
set_option maxRecDepth 100000 in
/-- append(v, p) at pairs, as one operation -/
theorem appendP_gives {o : Oper} {ev : Operand → Value} {W : World} (base : Nat) (s x : Operand) (ho : o.op = .call { callee := .builtin .append, args := #[s, x], argTypes := #[43, 43] })
    (v : Value) (ps : List (Int × Int)) (p q : Int) (b : Nat) (hs : ev s = v) (hx : ev x = .slice (some ⟨b, 0, none⟩) 1 1) (hc0 : W.cell? ⟨b, 0, none⟩ = some (.int .i64 p)) (hc1 : W.cell? ⟨b, 1, none⟩ = some (.int .i64 q))
    (HO : OwnP base W v ps) (hbase : base ≤ W.heap.size) (hl : ps.length < 1000000) {R : Value → World → Prop}
    (h : ∀ v1 w1, OwnP base w1 v1 (ps ++ [(p, q)]) → W.grownBy w1 v.ownBlock → R v1 w1) : opGives Try.prog o ev W R := by
  obtain ⟨i0, hi, hzz⟩ := Option.map_eq_some_iff.1 infoP2
  simp only [Prod.mk.injEq] at hzz
  obtain ⟨hz0, hz1, hz2⟩ := hzz
  obtain ⟨v', w', hrun, h2, h3, -⟩ := run_append_own_at (P := Try.prog) W base 43 o.type 83 i0 _ 2 16 Try.underlying43 hi hz0 hz1 hz2 rfl (by decide) v ps.length ((flat ps).map (Value.int .i64)) HO ⟨b, 0, none⟩ 1 1 [.int .i64 p, .int .i64 q] rfl
    (fun j u hj => by
      rcases j with _ | _ | j
      · simp at hj; rw [← hj]; rw [add_mk]; exact hc0
      · simp at hj; rw [← hj]; rw [add_mk]; exact hc1
      · simp at hj) (fun u hu => by
      rcases List.mem_cons.1 hu with rfl | hu
      · rfl
      · rcases List.mem_cons.1 hu with rfl | hu
        · rfl
        · cases hu) (by simp only [maxLen]; omega) (by omega) hbase
  refine opGives_value (w' := w') (v := v') ?_ (h v' w' ?_ h3)
  · unfold execOp
    simp only [ho, resolve, invoke, builtin, Sem.run_bind, Sem.run_pure, Result.andThen_ok, List.map_toArray, List.map_cons, List.map_nil, hs, hx, hrun]
  · unfold OwnP
    rw [List.length_append, flat_app, List.map_append]
    exact h2
theorem made_form {b : Nat} {w : World} {v : Value} {k n : Nat} {xs : List Int} (h : OwnI b w v xs) (hat : ∃ j, v.ownBlock = some j ∧ k ≤ j) (hn : xs.length = n) : ∃ g c, v = .slice (some ⟨g, 0, none⟩) n c := by
  subst hn
  have ho := Kd.own_of_R h
  obtain ⟨-, ⟨rfl, -⟩ | ⟨g, cap, cur, rfl, -⟩⟩ := ho
  · obtain ⟨j, hj, -⟩ := hat
    cases hj
  · obtain ⟨A, c, e, -⟩ := h.read
    injection e with e1 e2 e3
    exact ⟨g, cap, by rw [e2]⟩
theorem tab_zero (xs f : List Int) (n : Nat) : xs.map (highTo (allPv xs f n [])) = List.replicate xs.length 0 := by
  have : ∀ l : List Int, l.map (highTo (allPv xs f n [])) = List.replicate l.length 0 := fun l => by
    induction l with
    | nil => rfl
    | cons a r ih => rw [List.map_cons, ih]; rfl
  exact this xs
/-- a new fibre's faces are no lows yet -/
theorem low_new {xs f ys : List Int} {n i : Nat} {g : Int} (hy : ys.Pairwise (· < ·)) (hi : i < ys.length) (hg : ys.getD i 0 = g) : ∀ p ∈ allPv xs f n (ys.take i), p.1 ∉ fibL xs f g := by
  intro p hp hin
  obtain ⟨g', hg', -, h2, -⟩ := all_mem hp
  have h3 := op_one h2 (List.mem_filter.1 hin).2
  obtain ⟨k, hk, e⟩ := List.getElem_of_mem hg'
  rw [List.length_take] at hk
  rw [List.getElem_take] at e
  rw [List.getD_eq_getElem?_getD, List.getElem?_eq_getElem hi] at hg
  have := List.pairwise_iff_getElem.1 hy k i (by omega) hi (by omega)
  simp only [Option.getD_some] at hg
  omega
def placeI (xs : List Int) (y : Int) : Int := idx (fun x => x == y) xs
set_option maxRecDepth 100000 in
set_option maxHeartbeats 1000000 in
theorem specPlace (v : Value) (xs : List Int) (y : Int) (w : World) (hr : ReadI w v xs) :
    Calls Try.prog 87 #[v, .int .i64 y] w fun e w' => e = .returned (.int .i64 (placeI xs y)) ∧ Below w.heap.size w w' := by
  have hlen := hr.len
  obtain ⟨A, c, rfl, hc, hr⟩ := hr
  have HR := Aside0.mk hr
  clear hr hc
  go_enter Try.func87, Try.ntmps87
  go_wp2
  go_loopw [5] (fun v wr => ∃ i : Nat, v = .int .i64 i ∧ i ≤ xs.length ∧ Aside0 (∀ j, j < i → (xs.getD j 0 == y) = false) ∧ wr = w) (fun v _ => xs.length - (intOf v).toNat)
  case atStart => exact ⟨0, rfl, Nat.zero_le _, ⟨fun j hj => absurd hj (Nat.not_lt_zero _)⟩, rfl⟩
  case round =>
    obtain ⟨i, rfl, hi, HN, rfl⟩ := hrel
    by_cases hlt : i < xs.length
    · obtain ⟨ad, x, rfl, hcell, HY⟩ := ReadI.get HR.out hlt
      cases hq : (x == y) with
      | true =>
        have HM : Aside0 (placeI xs y = i) := ⟨idx_found hlt HN.out (by rw [HY.out]; exact hq)⟩
        go_wp2
        go_ret
        exact ⟨by rw [HM.out]; rfl, Below.refl _ _⟩
      | false =>
        have HX := Aside0.mk hq
        go_wp2
        go_roundw
        case rel => exact ⟨i + 1, by go_num, by omega, ⟨fun j hj => by
          rcases Nat.lt_succ_iff_lt_or_eq.1 hj with h | rfl
          · exact HN.out j h
          · rw [HY.out]; exact HX.out⟩, trivial⟩
        case measure => simp [intOf]; omega
    · have HM : Aside0 (placeI xs y = -1) := ⟨idx_none (fun j hj => HN.out j (by omega))⟩
      go_wp2
      go_ret
      exact ⟨by rw [HM.out]; rfl, Below.refl _ _⟩
theorem place_any (xs : List Int) (y : Int) : decide (0 ≤ placeI xs y) = decide (y ∈ xs) := by
  unfold placeI
  rw [idx_any, Bool.eq_iff_iff, List.any_eq_true, decide_eq_true_eq]
  constructor
  · rintro ⟨x, hx, e⟩; rw [← eq_of_beq e]; exact hx
  · intro h; exact ⟨y, h, by simp⟩
theorem place_in {xs : List Int} {y : Int} (h : y ∈ xs) : ∃ i : Nat, placeI xs y = i ∧ i < xs.length ∧ xs.getD i 0 = y := by
  have h1 := place_any xs y
  rw [decide_eq_true h, decide_eq_true_eq] at h1
  unfold placeI idx at h1 ⊢
  by_cases hlt : xs.findIdx (fun x => x == y) < xs.length
  · refine ⟨_, if_pos hlt, hlt, ?_⟩
    have := List.findIdx_getElem (w := hlt)
    rw [List.getD_eq_getElem?_getD, List.getElem?_eq_getElem hlt]
    exact eq_of_beq this
  · rw [if_neg hlt] at h1; omega

set_option maxRecDepth 100000 in
set_option maxHeartbeats 8000000 in
theorem specPairingByFibres (a : Int) (ku : Value) (xs : List Int) (b : Int) (lu : Value) (ys : List Int) (v : Value) (f : List Int) (w : World) (hk : ReadI w ku xs) (hl : ReadI w lu ys) (hv : ReadI w v f) :
    Calls Try.prog 44 #[cx a ku, cx b lu, v] w fun e w' => ∃ u, e = .returned (.tuple #[u, .int .i64 (ansPairingByFibres a xs b ys f).2]) ∧ OwnP w.heap.size w' u (ansPairingByFibres a xs b ys f).1 ∧ Below w.heap.size w w' := by
  obtain ⟨w1, hw1⟩ : ∃ w1, w1 = (w.alloc (.cells #[.int .i64 a, ku] 28)).alloc (.cells #[.int .i64 b, lu] 28) := ⟨_, rfl⟩
  have hB : Below w.heap.size w w1 := by rw [hw1]; exact ((Below.refl _ w).alloc (Nat.le_refl _) _).alloc (by simp) _
  have c0 : w1.cell? ⟨w.heap.size, 0, none⟩ = some (.int .i64 a) := by rw [hw1]; simp
  have c1 : w1.cell? ⟨w.heap.size, 1, none⟩ = some ku := by rw [hw1]; simp
  have c2 : w1.cell? ⟨w.heap.size + 1, 0, none⟩ = some (.int .i64 b) := by rw [hw1]; simp
  have c3 : w1.cell? ⟨w.heap.size + 1, 1, none⟩ = some lu := by rw [hw1]; simp
  have HK := Aside0.mk (fun W (h : Below w1.heap.size w1 W) => (hk.below hB).below h)
  have HL := Aside0.mk (fun W (h : Below w1.heap.size w1 W) => (hl.below hB).below h)
  have HV := Aside0.mk (fun W (h : Below w1.heap.size w1 W) => (hv.below hB).below h)
  have HB := Aside0.mk hB
  have C0 := Aside0.mk (fun W (h : Below w1.heap.size w1 W) => pw_cell_below h c0)
  have C1 := Aside0.mk (fun W (h : Below w1.heap.size w1 W) => pw_cell_below h c1)
  have C3 := Aside0.mk (fun W (h : Below w1.heap.size w1 W) => pw_cell_below h c3)
  have hyl := hl.len
  have hxl := hk.len
  have HM := Aside0.mk (specCode a ku xs b lu ys v f w1 (hk.below hB) (hl.below hB) (hv.below hB))
  obtain ⟨A1, d1, rfl, -⟩ := id hk
  obtain ⟨A2, d2, rfl, -⟩ := id hl
  obtain ⟨A3, d3, rfl, -⟩ := id hv
  have hmx : Try.prog.follows .mixedOrders = true := by kernel_rfl
  clear hk hl hv hB
  obtain ⟨q, hq⟩ : ∃ q, q = codeSimp a b xs ys [f] true := ⟨_, rfl⟩
  by_cases h0 : q = 0
  · have h0' := hq.symm.trans h0
    obtain ⟨n, m, rfl, rfl, hcn, hcm, hmp, -, -⟩ := codeSimp_zero' h0'
    have HA : Aside0 (ansPairingByFibres n xs m ys f = (tabOut xs (allPv xs f n ys), 0)) := ⟨by unfold ansPairingByFibres; rw [if_pos h0']; rfl⟩
    have hn6 := hcn.hi
    have HOF := Aside0.mk (fun g W (h : Below w1.heap.size w1 W) => specOpen n m _ xs _ f g W (HK.out W h) (HV.out W h) hcn hcm.hi (hmp f (by simp)))
    have HXD : Aside0 (∀ x ∈ xs, 0 ≤ x ∧ x ≤ 63) := ⟨fun x hx => by obtain ⟨z, h1, h2, h3⟩ := hcn.nat hx; omega⟩
    have HXL := Aside0.mk hcn.len
    have HYL := Aside0.mk hcm.len
    have HXA := Aside0.mk hcn.asc
    have HYA := Aside0.mk hcm.asc
    have hxl63 := hcn.len
    rw [← hq, h0] at HM
    clear hcn hcm hmp hq h0 h0'
    go_enter Try.func44, Try.ntmps44
    go_wp2_with (first | (go_at_call 85; rw [← hw1]; clear hw1; refine HM.out.mono ?_; rintro e w3 ⟨rfl, hb⟩; have c0 := C0.out _ hb; have c1 := C1.out _ hb; have c3 := C3.out _ hb; have HB3 := Aside0.mk hb; clear hb) | ((with_reducible refine gate_dst (N := 28) rfl ?_); refine make_own (w0 := w1) w1.heap.size rfl (N := 28) rfl (.tmp 27) (.tmp 27) rfl xs.length rfl rfl (by omega) HB3.out HB3.out.size ?_; intro v1 w4 ho4 hb4 hg4 hat4; obtain ⟨g0, k0, rfl⟩ := made_form ho4 hat4 List.length_replicate; have HT4 := Aside0.mk ho4; have HB4 := Aside0.mk hb4; clear ho4 hb4 hg4 hat4))
    go_loopw [10] (fun s10 wr => ∃ ii : Nat, s10 = .int .i64 ii ∧ ii ≤ ys.length ∧ Aside0 (OwnI w1.heap.size wr (.slice (some ⟨g0, 0, none⟩) xs.length k0) (xs.map (highTo (allPv xs f n (ys.take ii))))) ∧ Aside0 (Below w1.heap.size w1 wr)) (fun s10 _ => ys.length - (intOf s10).toNat)
    case atStart => exact ⟨0, rfl, Nat.zero_le _, ⟨by rw [List.take_zero, tab_zero]; exact HT4.out⟩, HB4⟩
    case round =>
      obtain ⟨ii, rfl, hi, HT, HBr⟩ := hrel
      have HG0 : Aside0 (g0 + 1 ≤ wr.heap.size) := ⟨HT.out.lt g0 rfl⟩
      have HGB : Aside0 (w1.heap.size ≤ g0) := ⟨HT.out.base g0 rfl⟩
      by_cases hlt : ii < ys.length
      · obtain ⟨A_, c_, e_, -, hcc⟩ := HL.out _ HBr.out
        cases e_
        obtain ⟨ad, g, e1, hcell, HG⟩ := ReadI.get hcc hlt
        cases e1
        have c0 := C0.out _ HBr.out
        have c1 := C1.out _ HBr.out
        have c3 := C3.out _ HBr.out
        have HNX := Aside0.mk (allPv_next (xs := xs) (f := f) (n := n) hlt HG.out)
        have HLW := Aside0.mk (low_new (xs := xs) (f := f) (n := n) HYA.out hlt HG.out)
        have HFD : Aside0 (∀ x ∈ fibL xs f g, x ∈ xs) := ⟨fun x hx => (List.mem_filter.1 hx).1⟩
        have HFA : Aside0 ((fibL xs f g).Pairwise (· < ·)) := ⟨HXA.out.filter _⟩
        clear hcc
        go_wp2
        refine wp_region_g Bl (fun w => (Below.refl _ w).drew) (fun _ _ _ => Bl.trans) (fun i => match i with | 0 => fun v _ => v = cx n (.slice A1 xs.length d1) | 1 => fun v _ => v = .slice A3 f.length d3 | 2 => fun v _ => v = .pointer (some ⟨w.heap.size + 1, 1, none⟩) | 3 => fun v _ => v = .slice (some ad) ys.length d2 | 4 => fun v _ => v = .int .i64 (ii : Nat) | 5 => fun v _ => v = .pointer (some (ad.add ii)) | 6 => fun v _ => v = .int .i64 g | 7 => fun v W => OwnI (g0 + 1) W v (fibL xs f g) | 8 => fun v W => OwnI (g0 + 1) W v (fibL xs f g) | _ => fun _ _ => True)
          [0, 0, 0, 4, 0, 28, 60, 127, 255] hmx (by kernel_rfl) ?st ?steps ?rest
        case st =>
          intro i v w1_ w2_ hb
          match i with
          | 0 | 1 | 2 | 3 | 4 | 5 | 6 => exact id
          | 7 => exact fun h => OwnI.below h hb
          | 8 => exact fun h => OwnI.below h hb
          | n + 9 => exact id
        case steps =>
          refine ⟨?_, ?_, ?_, ?_, ?_, ?_, ?_, ?_, ?_, trivial⟩
          · intro s w_ hb hd hq R hR
            generalize hA : putAll _ 0 s _ = A
            clear hq
            have c0_ := C0.out _ (HBr.out.trans (Below.mono hb HBr.out.size))
            have c1_ := C1.out _ (HBr.out.trans (Below.mono hb HBr.out.size))
            have hR' := hR (cx n (.slice A1 xs.length d1)) _ (Below.refl _ _) rfl
            clear hR hd
            refine opGives_value ?_ hR'
            subst hA
            simp only [dsOf, List.map_cons, List.map_nil, Option.getD_some, putAll, Act.put, List.setIfInBounds_toArray, List.set_cons_zero, List.set_cons_succ]
            go_simp
          · intro s w_ hb hd hq R hR
            generalize hA : putAll _ 0 s _ = A
            clear hq
            have hR' := hR (.slice A3 f.length d3) _ (Below.refl _ _) rfl
            clear hR hd
            refine opGives_value ?_ hR'
            subst hA
            simp only [dsOf, List.map_cons, List.map_nil, Option.getD_some, putAll, Act.put, List.setIfInBounds_toArray, List.set_cons_zero, List.set_cons_succ]
            go_simp
          · intro s w_ hb hd hq R hR
            generalize hA : putAll _ 0 s _ = A
            clear hq
            have hR' := hR (.pointer (some ⟨w.heap.size + 1, 1, none⟩)) _ (Below.refl _ _) rfl
            clear hR hd
            refine opGives_value ?_ hR'
            subst hA
            simp only [dsOf, List.map_cons, List.map_nil, Option.getD_some, putAll, Act.put, List.setIfInBounds_toArray, List.set_cons_zero, List.set_cons_succ]
            go_simp
          · intro s w_ hb hd hq R hR
            generalize hA : putAll _ 0 s _ = A
            have e2 : s 2 = _ := hd 2 (by kernel_rfl)
            clear hq
            have c3_ := C3.out _ (HBr.out.trans (Below.mono hb HBr.out.size))
            have hR' := hR (.slice (some ad) ys.length d2) _ (Below.refl _ _) rfl
            clear hR hd
            refine opGives_value ?_ hR'
            subst hA
            simp only [dsOf, List.map_cons, List.map_nil, Option.getD_some, putAll, Act.put, List.setIfInBounds_toArray, List.set_cons_zero, List.set_cons_succ]
            go_simp
          · intro s w_ hb hd hq R hR
            generalize hA : putAll _ 0 s _ = A
            clear hq
            have hR' := hR (.int .i64 (ii : Nat)) _ (Below.refl _ _) rfl
            clear hR hd
            refine opGives_value ?_ hR'
            subst hA
            simp only [dsOf, List.map_cons, List.map_nil, Option.getD_some, putAll, Act.put, List.setIfInBounds_toArray, List.set_cons_zero, List.set_cons_succ]
            go_simp
          · intro s w_ hb hd hq R hR
            generalize hA : putAll _ 0 s _ = A
            have e3 : s 3 = _ := hd 3 (by kernel_rfl)
            have e4 : s 4 = _ := hd 4 (by kernel_rfl)
            clear hq
            have hR' := hR (.pointer (some (ad.add ii))) _ (Below.refl _ _) rfl
            clear hR hd
            refine opGives_value ?_ hR'
            subst hA
            simp only [dsOf, List.map_cons, List.map_nil, Option.getD_some, putAll, Act.put, List.setIfInBounds_toArray, List.set_cons_zero, List.set_cons_succ]
            go_simp
          · intro s w_ hb hd hq R hR
            generalize hA : putAll _ 0 s _ = A
            have e5 : s 5 = _ := hd 5 (by kernel_rfl)
            clear hq
            have hcell_ := pw_cell_below hb hcell
            have hR' := hR (.int .i64 g) _ (Below.refl _ _) rfl
            clear hR hd
            refine opGives_value ?_ hR'
            subst hA
            simp only [dsOf, List.map_cons, List.map_nil, Option.getD_some, putAll, Act.put, List.setIfInBounds_toArray, List.set_cons_zero, List.set_cons_succ]
            go_simp
          · intro s w_ hb hd hq R hR
            generalize hA : putAll _ 0 s _ = A
            have e0 : s 0 = _ := hd 0 (by kernel_rfl)
            have e1 : s 1 = _ := hd 1 (by kernel_rfl)
            have e6 : s 6 = _ := hd 6 (by kernel_rfl)
            clear hq
            refine opGives_call (f := 86) (args := #[cx n (.slice A1 xs.length d1), .slice A3 f.length d3, .int .i64 g]) ?_ ?_
            · subst hA
              clear hR hd
              simp only [dsOf, List.map_cons, List.map_nil, Option.getD_some, putAll, Act.put, List.setIfInBounds_toArray, List.set_cons_zero, List.set_cons_succ]
              go_simp
            clear hA A hd
            refine (HOF.out g _ (HBr.out.trans (Below.mono hb HBr.out.size))).mono ?_
            rintro e w3_ ⟨u, rfl, ho, hb3⟩
            exact ⟨_, rfl, hR _ _ hb3 (OwnI.lower ho (Nat.le_trans HG0.out (Below.size hb)))⟩
          · intro s w_ hb hd hq R hR
            generalize hA : putAll _ 0 s _ = A
            have o7_ : OwnI (g0 + 1) w_ (s 7) (fibL xs f g) := hd 7 (by kernel_rfl)
            obtain ⟨A7_, d7_, e7, -⟩ := o7_.read
            rw [e7] at o7_
            clear hq
            have hR' := hR (.slice A7_ (fibL xs f g).length d7_) _ (Below.refl _ _) o7_
            clear hR hd
            refine opGives_value ?_ hR'
            subst hA
            simp only [dsOf, List.map_cons, List.map_nil, Option.getD_some, putAll, Act.put, List.setIfInBounds_toArray, List.set_cons_zero, List.set_cons_succ]
            go_simp
        case rest =>
          intro s9 w9 hb hv
          have o8_ : OwnI (g0 + 1) w9 (s9 8) (fibL xs f g) := hv 8 (by decide)
          obtain ⟨A4, d4, e8_, -⟩ := o8_.read
          rw [e8_] at o8_
          simp only [dsOf, List.map_cons, List.map_nil, Option.getD_some, putAll, Act.put, List.setIfInBounds_toArray, List.set_cons_zero, List.set_cons_succ]
          rw [e8_]
          clear hv e8_
          have HO8 := Aside0.mk o8_
          have HT8 := Aside0.mk (HT.out.below hb)
          have HB8 := Aside0.mk (HBr.out.trans (Below.mono hb HBr.out.size))
          clear o8_ hb
          go_wp2
          go_loopw [12, 13] (fun s12 s13 wx => ∃ (v : Nat) (bo : Bool) (X : List (Int × Int)), s12 = .bool bo ∧ s13 = .int .i64 v ∧ v ≤ n ∧ Aside0 (if bo then X = fpv (fibL xs f g) 0 n else X = [] ∧ fpv (fibL xs f g) v (n - v) = fpv (fibL xs f g) 0 n) ∧ Aside0 (OwnI w1.heap.size wx (.slice (some ⟨g0, 0, none⟩) xs.length k0) (xs.map (highTo (allPv xs f n (ys.take ii) ++ X)))) ∧ Aside0 (OwnI (g0 + 1) wx (.slice A4 (fibL xs f g).length d4) (fibL xs f g)) ∧ Aside0 (Below w1.heap.size w1 wx)) (fun _ s13 _ => n - (intOf s13).toNat)
          case atStart => exact ⟨0, false, [], rfl, rfl, Nat.zero_le _, ⟨by rw [if_neg (by decide)]; exact ⟨rfl, rfl⟩⟩, ⟨by rw [List.append_nil]; exact HT8.out⟩, HO8, HB8⟩
          case round =>
            obtain ⟨v, bo, X, rfl, rfl, hv, HXX, HTx, HOx, HBx⟩ := hrel
            have c0x := C0.out _ HBx.out
            have c1x := C1.out _ HBx.out
            cases bo with
            | true =>
              have HR : Aside0 (X = fpv (fibL xs f g) 0 n) := ⟨by have := HXX.out; rwa [if_pos rfl] at this⟩
              by_cases hvn : v < n
              · have hvI : (v : Int) < (n : Int) := by omega
                go_wp2
                go_roundw
                case rel => exact ⟨ii + 1, by go_num, by omega, ⟨by rw [HNX.out, ← HR.out]; exact HTx.out⟩, HBx⟩
                case measure => simp [intOf]; omega
              · have hvI : ¬ (v : Int) < (n : Int) := by omega
                go_wp2
                go_roundw
                case rel => exact ⟨ii + 1, by go_num, by omega, ⟨by rw [HNX.out, ← HR.out]; exact HTx.out⟩, HBx⟩
                case measure => simp [intOf]; omega
            | false =>
              have HX0 : Aside0 (X = []) := ⟨by have := HXX.out; rw [if_neg (by decide)] at this; exact this.1⟩
              have HFV : Aside0 (fpv (fibL xs f g) v (n - v) = fpv (fibL xs f g) 0 n) := ⟨by have := HXX.out; rw [if_neg (by decide)] at this; exact this.2⟩
              by_cases hvn : v < n
              · have hvI : (v : Int) < (n : Int) := by omega
                have hfl63 : (fibL xs f g).length ≤ 63 := Nat.le_trans (List.length_filter_le _ _) HXL.out
                have hsh := pow_wrap v (by omega)
                have hpp : 2 ^ v < 64 := by have := Nat.pow_lt_pow_right (a := 2) (by decide) (show v < 6 by omega); omega
                have hpos := Nat.two_pow_pos v
                have HAN : Aside0 (∀ z : Nat, z < 64 → bits .and .i64 (z : Int) ((2 ^ v : Nat) : Int) = if z.testBit v then ((2 ^ v : Nat) : Int) else 0) := ⟨fun z hz => by rw [and_i64 z _ (by omega) (by omega), and_bit]; split <;> rfl⟩
                have HOR : Aside0 (∀ z : Nat, z < 64 → bits .or .i64 (z : Int) ((2 ^ v : Nat) : Int) = ((z ||| 2 ^ v : Nat) : Int)) := ⟨fun z hz => or_i64 z _ (by omega) (by omega)⟩
                have HHT : Aside0 (∀ (i z : Nat), (fibL xs f g).getD i 0 = (z : Int) → upAtV (fibL xs f g) v z = true → byTo (fibL xs f g) v (i + 1) = byTo (fibL xs f g) v i ++ [((z : Int), ((z ||| 2 ^ v : Nat) : Int))]) := ⟨fun i z h1 h2 => byTo_hit h1 h2⟩
                have HUP : Aside0 (∀ z, upAtV (fibL xs f g) v z = (!z.testBit v && decide (((z ||| 2 ^ v : Nat) : Int) ∈ fibL xs f g))) := ⟨fun z => rfl⟩
                obtain ⟨P, hP⟩ : ∃ P, P = 2 ^ v := ⟨_, rfl⟩
                rw [← hP] at hsh hpp HAN HOR HHT hpos HUP
                clear hP
                go_wp2
                simp only [hsh]
                go_loopw [12, 15] (fun s12 s15 wy => ∃ (j : Nat) (bo : Bool), s12 = .bool bo ∧ s15 = .int .i64 j ∧ j ≤ (fibL xs f g).length ∧ Aside0 (bo = decide (0 < (byTo (fibL xs f g) v j).length)) ∧ Aside0 (OwnI w1.heap.size wy (.slice (some ⟨g0, 0, none⟩) xs.length k0) (xs.map (highTo (allPv xs f n (ys.take ii) ++ byTo (fibL xs f g) v j)))) ∧ Aside0 (OwnI (g0 + 1) wy (.slice A4 (fibL xs f g).length d4) (fibL xs f g)) ∧ Aside0 (Below w1.heap.size w1 wy)) (fun _ s15 _ => (fibL xs f g).length - (intOf s15).toNat)
                case atStart => exact ⟨0, false, rfl, rfl, Nat.zero_le _, ⟨rfl⟩, ⟨by have h := HTx.out; rw [HX0.out] at h; exact h⟩, HOx, HBx⟩
                case round =>
                  obtain ⟨j, bo, rfl, rfl, hj, HBO, HTy, HOy, HBy⟩ := hrel
                  have c1y := C1.out _ HBy.out
                  by_cases hjt : j < (fibL xs f g).length
                  · obtain ⟨A_, c_, e_, -, hcc⟩ := HOy.out.read
                    cases e_
                    obtain ⟨ad4, y, e4, hcelly, HY⟩ := ReadI.get hcc hjt
                    cases e4
                    have hyd := HXD.out y (HFD.out y (mem_at hjt HY.out))
                    obtain ⟨z, rfl⟩ : ∃ z : Nat, y = z := ⟨y.toNat, by omega⟩
                    have hand := HAN.out z (by omega)
                    have hor := HOR.out z (by omega)
                    have hup := Aside0.mk (HUP.out z)
                    have HH := Aside0.mk (HHT.out j z HY.out)
                    have HM := Aside0.mk (fun h : upAtV (fibL xs f g) v z = false => byTo_miss (k := j) HY.out h)
                    have HZX := Aside0.mk (HFD.out _ (mem_at hjt HY.out))
                    have HZN : Aside0 (∀ p ∈ allPv xs f n (ys.take ii) ++ byTo (fibL xs f g) v j, p.1 ≠ (z : Int)) := ⟨fun p hp e => by
                      rcases List.mem_append.1 hp with hp | hp
                      · exact HLW.out p hp (by rw [e]; exact mem_at hjt HY.out)
                      · exact by_new HFA.out hjt HY.out p hp e⟩
                    obtain ⟨G, hG⟩ : ∃ G, G = z ||| P := ⟨_, rfl⟩
                    rw [← hG] at hor hup HH
                    clear hG hyd hcc
                    cases htb : z.testBit v with
                    | true =>
                      rw [htb, if_pos rfl] at hand
                      have hP0 : ((P : Int) == 0) = false := by rw [beq_eq_false_iff_ne]; omega
                      have HT2 := Aside0.mk (HM.out (by rw [hup.out, htb]; rfl))
                      go_wp2
                      go_roundw
                      case rel => exact ⟨j + 1, bo, rfl, by go_num, by omega, ⟨by rw [HT2.out]; exact HBO.out⟩, ⟨by rw [HT2.out]; exact HTy.out⟩, HOy, HBy⟩
                      case measure => simp [intOf]; omega
                    | false =>
                      rw [htb, if_neg (by decide)] at hand
                      have HPF := Aside0.mk (place_any (fibL xs f g) (G : Int))
                      obtain ⟨r, hr⟩ : ∃ r, r = placeI (fibL xs f g) (G : Int) := ⟨_, rfl⟩
                      have HPR := Aside0.mk (fun W (h : ReadI W (.slice (some ad4) (fibL xs f g).length d4) (fibL xs f g)) => specPlace _ _ (G : Int) W h)
                      rw [← hr] at HPF HPR
                      clear hr
                      cases hin : decide ((G : Int) ∈ fibL xs f g) with
                      | false =>
                        have hr0 : ¬ (0 : Int) ≤ r := by have h := HPF.out; rw [hin] at h; exact of_decide_eq_false h
                        have HT2 := Aside0.mk (HM.out (by rw [hup.out, htb, hin]; rfl))
                        go_wp2_with (first | (go_at_call 87; refine (HPR.out _ HOy.out.read).mono ?_; rintro e w5 ⟨rfl, hb⟩; have HT5 := Aside0.mk (HTy.out.below hb); have HO5 := Aside0.mk (HOy.out.below hb); have HB5 := Aside0.mk (HBy.out.trans (hb.mono HBy.out.size)); clear hb))
                        go_roundw
                        case rel => (repeat apply Exists.intro); exact ⟨⟨j + 1, bo, rfl, by go_num, by omega, ⟨by rw [HT2.out]; exact HBO.out⟩, ⟨by rw [HT2.out]; exact HT5.out⟩, HO5, HB5⟩, rfl⟩
                        case measure => simp [intOf]; omega
                      | true =>
                        have hr0 : (0 : Int) ≤ r := by have h := HPF.out; rw [hin] at h; exact of_decide_eq_true h
                        have HT2 := Aside0.mk (HH.out (by rw [hup.out, htb, hin]; rfl))
                        obtain ⟨ix, hix, hixl, hixz⟩ := place_in HZX.out
                        have HIX := Aside0.mk hix
                        have HTS := Aside0.mk (tab_set (y := (G : Int)) HXA.out hixl hixz HZN.out)
                        have hixI : (ix : Int) < (xs.length : Int) := by omega
                        have HIL := Aside0.mk hixl
                        clear hix hixl hixz
                        go_wp2_with (first | (go_at_call 87; refine (HPR.out _ HOy.out.read).mono ?_; rintro e w5 ⟨rfl, hb⟩; have HT5 := Aside0.mk (HTy.out.below hb); have HO5 := Aside0.mk (HOy.out.below hb); have HB5 := Aside0.mk (HBy.out.trans (hb.mono HBy.out.size)); have hcelly := pw_cell_below hb hcelly; have c1y := pw_cell_below hb c1y; clear hb))
                        have HPX : Aside0 (∀ W, Below w5.heap.size w5 W → Calls Try.prog 87 #[.slice A1 xs.length d1, .int .i64 (z : Nat)] W fun e w' => e = .returned (.int .i64 (ix : Nat)) ∧ Below W.heap.size W w') := ⟨fun W h => by have h2 := specPlace _ xs (z : Int) W (HK.out W (HB5.out.trans (h.mono HB5.out.size))); rw [HIX.out] at h2; exact h2⟩
                        refine wp_region_tail 14 (fun i => match i with | 0 => fun v _ => v = .slice (some ⟨g0, 0, none⟩) xs.length k0 | 1 => fun v _ => v = .pointer (some ⟨w.heap.size, 1, none⟩) | 2 => fun v _ => v = .slice A1 xs.length d1 | 3 => fun v _ => v = .slice (some ad4) (fibL xs f g).length d4 | 4 => fun v _ => v = .int .i64 (j : Nat) | 5 => fun v _ => v = .pointer (some (ad4.add j)) | 6 => fun v _ => v = .int .i64 (z : Nat) | 7 => fun v _ => v = .int .i64 (ix : Nat) | 8 => fun v _ => v = .slice (some ad4) (fibL xs f g).length d4 | 9 => fun v _ => v = .int .i64 (j : Nat) | 10 => fun v _ => v = .pointer (some (ad4.add j)) | 11 => fun v _ => v = .int .i64 (z : Nat) | 12 => fun v _ => v = .int .i64 (P : Nat) | 13 => fun v _ => v = .int .i64 (G : Nat) | _ => fun _ _ => True)
                          [0, 0, 2, 0, 0, 24, 56, 126, 0, 0, 768, 1792, 0, 7936, 16383, 32767] hmx (by kernel_rfl) ?st ?steps ?rest
                        case st =>
                          intro i v w1_ w2_ hb
                          match i with
                          | 0 | 1 | 2 | 3 | 4 | 5 | 6 | 7 | 8 | 9 | 10 | 11 | 12 | 13 => exact id
                          | n + 14 => exact id
                        case steps =>
                          refine ⟨?_, ?_, ?_, ?_, ?_, ?_, ?_, ?_, ?_, ?_, ?_, ?_, ?_, ?_, trivial⟩
                          · intro s w_ hb hd R hR
                            generalize hA : putAll _ 0 s _ = A
                            have hR' := hR (.slice (some ⟨g0, 0, none⟩) xs.length k0) _ (Below.refl _ _) rfl
                            clear hR hd
                            refine opGives_value ?_ hR'
                            subst hA
                            simp only [dsOf, List.take, List.map_cons, List.map_nil, Option.getD_some, putAll, Act.put, List.setIfInBounds_toArray, List.set_cons_zero, List.set_cons_succ]
                            go_simp
                          · intro s w_ hb hd R hR
                            generalize hA : putAll _ 0 s _ = A
                            have hR' := hR (.pointer (some ⟨w.heap.size, 1, none⟩)) _ (Below.refl _ _) rfl
                            clear hR hd
                            refine opGives_value ?_ hR'
                            subst hA
                            simp only [dsOf, List.take, List.map_cons, List.map_nil, Option.getD_some, putAll, Act.put, List.setIfInBounds_toArray, List.set_cons_zero, List.set_cons_succ]
                            go_simp
                          · intro s w_ hb hd R hR
                            generalize hA : putAll _ 0 s _ = A
                            have e1 : s 1 = _ := hd 1 (by kernel_rfl)
                            have c1_ := pw_cell_below hb c1y
                            have hR' := hR (.slice A1 xs.length d1) _ (Below.refl _ _) rfl
                            clear hR hd
                            refine opGives_value ?_ hR'
                            subst hA
                            simp only [dsOf, List.take, List.map_cons, List.map_nil, Option.getD_some, putAll, Act.put, List.setIfInBounds_toArray, List.set_cons_zero, List.set_cons_succ]
                            go_simp
                          · intro s w_ hb hd R hR
                            generalize hA : putAll _ 0 s _ = A
                            have hR' := hR (.slice (some ad4) (fibL xs f g).length d4) _ (Below.refl _ _) rfl
                            clear hR hd
                            refine opGives_value ?_ hR'
                            subst hA
                            simp only [dsOf, List.take, List.map_cons, List.map_nil, Option.getD_some, putAll, Act.put, List.setIfInBounds_toArray, List.set_cons_zero, List.set_cons_succ]
                            go_simp
                          · intro s w_ hb hd R hR
                            generalize hA : putAll _ 0 s _ = A
                            have hR' := hR (.int .i64 (j : Nat)) _ (Below.refl _ _) rfl
                            clear hR hd
                            refine opGives_value ?_ hR'
                            subst hA
                            simp only [dsOf, List.take, List.map_cons, List.map_nil, Option.getD_some, putAll, Act.put, List.setIfInBounds_toArray, List.set_cons_zero, List.set_cons_succ]
                            go_simp
                          · intro s w_ hb hd R hR
                            generalize hA : putAll _ 0 s _ = A
                            have e3 : s 3 = _ := hd 3 (by kernel_rfl)
                            have e4 : s 4 = _ := hd 4 (by kernel_rfl)
                            have hR' := hR (.pointer (some (ad4.add j))) _ (Below.refl _ _) rfl
                            clear hR hd
                            refine opGives_value ?_ hR'
                            subst hA
                            simp only [dsOf, List.take, List.map_cons, List.map_nil, Option.getD_some, putAll, Act.put, List.setIfInBounds_toArray, List.set_cons_zero, List.set_cons_succ]
                            go_simp
                          · intro s w_ hb hd R hR
                            generalize hA : putAll _ 0 s _ = A
                            have e5 : s 5 = _ := hd 5 (by kernel_rfl)
                            have hcell_ := pw_cell_below hb hcelly
                            have hR' := hR (.int .i64 (z : Nat)) _ (Below.refl _ _) rfl
                            clear hR hd
                            refine opGives_value ?_ hR'
                            subst hA
                            simp only [dsOf, List.take, List.map_cons, List.map_nil, Option.getD_some, putAll, Act.put, List.setIfInBounds_toArray, List.set_cons_zero, List.set_cons_succ]
                            go_simp
                          · intro s w_ hb hd R hR
                            generalize hA : putAll _ 0 s _ = A
                            have e2 : s 2 = _ := hd 2 (by kernel_rfl)
                            have e6 : s 6 = _ := hd 6 (by kernel_rfl)
                            refine opGives_call (f := 87) (args := #[.slice A1 xs.length d1, .int .i64 (z : Nat)]) ?_ ?_
                            · subst hA
                              clear hR hd
                              simp only [dsOf, List.take, List.map_cons, List.map_nil, Option.getD_some, putAll, Act.put, List.setIfInBounds_toArray, List.set_cons_zero, List.set_cons_succ]
                              go_simp
                            clear hA A hd
                            refine (HPX.out _ (Below.mono hb (Nat.le_refl _))).mono ?_
                            rintro e w3_ ⟨rfl, hb3⟩
                            exact ⟨_, rfl, hR _ _ hb3 rfl⟩
                          · intro s w_ hb hd R hR
                            generalize hA : putAll _ 0 s _ = A
                            have hR' := hR (.slice (some ad4) (fibL xs f g).length d4) _ (Below.refl _ _) rfl
                            clear hR hd
                            refine opGives_value ?_ hR'
                            subst hA
                            simp only [dsOf, List.take, List.map_cons, List.map_nil, Option.getD_some, putAll, Act.put, List.setIfInBounds_toArray, List.set_cons_zero, List.set_cons_succ]
                            go_simp
                          · intro s w_ hb hd R hR
                            generalize hA : putAll _ 0 s _ = A
                            have hR' := hR (.int .i64 (j : Nat)) _ (Below.refl _ _) rfl
                            clear hR hd
                            refine opGives_value ?_ hR'
                            subst hA
                            simp only [dsOf, List.take, List.map_cons, List.map_nil, Option.getD_some, putAll, Act.put, List.setIfInBounds_toArray, List.set_cons_zero, List.set_cons_succ]
                            go_simp
                          · intro s w_ hb hd R hR
                            generalize hA : putAll _ 0 s _ = A
                            have e8 : s 8 = _ := hd 8 (by kernel_rfl)
                            have e9 : s 9 = _ := hd 9 (by kernel_rfl)
                            have hR' := hR (.pointer (some (ad4.add j))) _ (Below.refl _ _) rfl
                            clear hR hd
                            refine opGives_value ?_ hR'
                            subst hA
                            simp only [dsOf, List.take, List.map_cons, List.map_nil, Option.getD_some, putAll, Act.put, List.setIfInBounds_toArray, List.set_cons_zero, List.set_cons_succ]
                            go_simp
                          · intro s w_ hb hd R hR
                            generalize hA : putAll _ 0 s _ = A
                            have e10 : s 10 = _ := hd 10 (by kernel_rfl)
                            have hcell_ := pw_cell_below hb hcelly
                            have hR' := hR (.int .i64 (z : Nat)) _ (Below.refl _ _) rfl
                            clear hR hd
                            refine opGives_value ?_ hR'
                            subst hA
                            simp only [dsOf, List.take, List.map_cons, List.map_nil, Option.getD_some, putAll, Act.put, List.setIfInBounds_toArray, List.set_cons_zero, List.set_cons_succ]
                            go_simp
                          · intro s w_ hb hd R hR
                            generalize hA : putAll _ 0 s _ = A
                            have hR' := hR (.int .i64 (P : Nat)) _ (Below.refl _ _) rfl
                            clear hR hd
                            refine opGives_value ?_ hR'
                            subst hA
                            simp only [dsOf, List.take, List.map_cons, List.map_nil, Option.getD_some, putAll, Act.put, List.setIfInBounds_toArray, List.set_cons_zero, List.set_cons_succ]
                            go_simp
                          · intro s w_ hb hd R hR
                            generalize hA : putAll _ 0 s _ = A
                            have e11 : s 11 = _ := hd 11 (by kernel_rfl)
                            have e12 : s 12 = _ := hd 12 (by kernel_rfl)
                            have hR' := hR (.int .i64 (G : Nat)) _ (Below.refl _ _) rfl
                            clear hR hd
                            refine opGives_value ?_ hR'
                            subst hA
                            simp only [dsOf, List.take, List.map_cons, List.map_nil, Option.getD_some, putAll, Act.put, List.setIfInBounds_toArray, List.set_cons_zero, List.set_cons_succ]
                            go_simp
                        case rest =>
                          intro s9 w9 hb hv
                          have e0_ : s9 0 = _ := hv 0 (by decide)
                          have e7_ : s9 7 = _ := hv 7 (by decide)
                          have e13_ : s9 13 = _ := hv 13 (by decide)
                          clear hv
                          simp only [dsOf, List.take, List.map_cons, List.map_nil, Option.getD_some, putAll, Act.put, List.setIfInBounds_toArray, List.set_cons_zero, List.set_cons_succ]
                          have HT9 := Aside0.mk (HT5.out.below hb)
                          have HO9 := Aside0.mk (HO5.out.below hb)
                          have HB9 := Aside0.mk (HB5.out.trans (Below.mono hb HB5.out.size))
                          clear hb
                          obtain ⟨⟨yo, cc⟩, ff⟩ := OwnI.slot HT9.out HIL.out
                          simp only [e0_, e7_, e13_]
                          refine .inl (opGives_value (v := .pointer (some ⟨g0, ix, none⟩)) (w' := w9) (by go_simp) ?_)
                          simp only [List.drop, Act.put, List.setIfInBounds_toArray, List.set_cons_zero, List.set_cons_succ]
                          obtain ⟨xw, hxw⟩ : ∃ x, x = w9.setCell ⟨g0, ix, none⟩ (.int .i64 (G : Int)) := ⟨_, rfl⟩
                          refine .inr ⟨xw, (by rw [hxw]; go_simp), ?_⟩
                          simp only [List.drop, Act.put, List.setIfInBounds_toArray, List.set_cons_zero, List.set_cons_succ]
                          unfold tailList
                          have HTN : Aside0 (OwnI w1.heap.size xw (.slice (some ⟨g0, 0, none⟩) xs.length k0) (xs.map (highTo (allPv xs f n (ys.take ii) ++ byTo (fibL xs f g) v (j + 1))))) := ⟨by rw [hxw, HT2.out, ← List.append_assoc, ← HTS.out]; exact OwnI.put HT9.out ix _⟩
                          have HON : Aside0 (OwnI (g0 + 1) xw (.slice (some ad4) (fibL xs f g).length d4) (fibL xs f g)) := ⟨by rw [hxw]; exact HO9.out.grown (set_grown' _ g0 _ _) (fun k hk e => by have := HO9.out.base k hk; cases e; omega)⟩
                          have HBN : Aside0 (Below w1.heap.size w1 xw) := ⟨by rw [hxw]; exact HB9.out.setCell (by have := HGB.out; simpa using this) _⟩
                          clear cc ff e0_ e7_ e13_ hxw
                          go_wp2
                          go_roundw
                          case rel => first | exact ⟨j + 1, true, rfl, by go_num, by omega, ⟨by rw [HT2.out]; simp⟩, HTN, HON, HBN⟩ | ((repeat apply Exists.intro); exact ⟨⟨j + 1, true, rfl, by go_num, by omega, ⟨by rw [HT2.out]; simp⟩, HTN, HON, HBN⟩, rfl⟩)
                          case measure => simp [intOf]; omega
                  · have e : j = (fibL xs f g).length := by omega
                    have HTE : Aside0 (OwnI w1.heap.size wr (.slice (some ⟨g0, 0, none⟩) xs.length k0) (xs.map (highTo (allPv xs f n (ys.take ii) ++ pvs (fibL xs f g) v)))) := ⟨by have h := HTy.out; rw [e] at h; exact h⟩
                    have HBE : Aside0 (bo = decide (0 < (pvs (fibL xs f g) v).length)) := ⟨by have h := HBO.out; rw [e] at h; exact h⟩
                    clear e
                    cases bo with
                    | true =>
                      have HHI := Aside0.mk (fpv_hit (F := fibL xs f g) hvn (fun h => by have h1 := HBE.out; rw [h] at h1; cases h1))
                      go_wp2
                      go_roundw
                      case rel => exact ⟨v + 1, true, pvs (fibL xs f g) v, rfl, by go_num, by omega, ⟨by rw [if_pos rfl, ← HFV.out, HHI.out]⟩, HTE, HOy, HBy⟩
                      case measure => simp [intOf]; omega
                    | false =>
                      have hz : (pvs (fibL xs f g) v).length = 0 := by have h1 := HBE.out; have h2 := of_decide_eq_false h1.symm; omega
                      have HSK := Aside0.mk (fpv_skip (F := fibL xs f g) hvn hz)
                      have HNIL : Aside0 (pvs (fibL xs f g) v = []) := ⟨List.length_eq_zero_iff.1 hz⟩
                      clear hz
                      go_wp2
                      go_roundw
                      case rel => exact ⟨v + 1, false, [], rfl, by go_num, by omega, ⟨by rw [if_neg (by decide)]; exact ⟨rfl, by rw [← HSK.out]; exact HFV.out⟩⟩, ⟨by have h := HTE.out; rw [HNIL.out] at h; exact h⟩, HOy, HBy⟩
                      case measure => simp [intOf]; omega
              · have hvI : ¬ (v : Int) < (n : Int) := by omega
                have HZ : Aside0 (fpv (fibL xs f g) 0 n = []) := ⟨by rw [← HFV.out, show v = n by omega]; exact fpv_end _ _⟩
                go_wp2
                go_roundw
                case rel => exact ⟨ii + 1, by go_num, by omega, ⟨by rw [HNX.out, HZ.out, ← HX0.out]; exact HTx.out⟩, HBx⟩
                case measure => simp [intOf]; omega
      · have HTE : Aside0 (OwnI w1.heap.size wr (.slice (some ⟨g0, 0, none⟩) xs.length k0) (xs.map (highTo (allPv xs f n ys)))) := ⟨by have h := HT.out; rw [show ii = ys.length by omega, List.take_length] at h; exact h⟩
        have c3 := C3.out _ HBr.out
        obtain ⟨L, hL⟩ : ∃ L, L = allPv xs f n ys := ⟨_, rfl⟩
        have HLE := Aside0.mk hL
        rw [← hL] at HTE
        clear hL
        have HE := Aside0.mk (OwnP.empty (b := g0 + 1) wr HG0.out)
        have HTA := Aside0.mk (HTE.out.below (Below.alloc (Below.refl _ wr) (Nat.le_refl _) (.cells #[] 83)))
        have HBA : Aside0 (Below w1.heap.size w1 (wr.alloc (.cells #[] 83))) := ⟨HBr.out.alloc HBr.out.size _⟩
        go_wp2
        go_loopw [16, 17] (fun s16 s17 wx => ∃ i : Nat, s17 = .int .i64 i ∧ i ≤ xs.length ∧ Aside0 (OwnP (g0 + 1) wx s16 (tabOut (xs.take i) L)) ∧ Aside0 (OwnI w1.heap.size wx (.slice (some ⟨g0, 0, none⟩) xs.length k0) (xs.map (highTo L))) ∧ Aside0 (Below w1.heap.size w1 wx)) (fun _ s17 _ => xs.length - (intOf s17).toNat)
        case atStart => exact ⟨0, rfl, Nat.zero_le _, HE, HTA, HBA⟩
        case round =>
          obtain ⟨i4, rfl, hi4, HO4, HT4, HB4⟩ := hrel
          have c1 := C1.out _ HB4.out
          by_cases hlt4 : i4 < xs.length
          · obtain ⟨A_, c_, e_, -, hcc⟩ := HK.out _ HB4.out
            cases e_
            obtain ⟨ad1, x, e1, hcell, HX⟩ := ReadI.get hcc hlt4
            cases e1
            have hcelt := own_cell HT4.out hlt4 HX.out
            have HTN := Aside0.mk (tab_next (L := L) hlt4 HX.out)
            have hi4I : (i4 : Int) < (xs.length : Int) := by omega
            have HTL := Aside0.mk (tab_len L (xs.take i4))
            have HTK : Aside0 ((xs.take i4).length ≤ 63) := ⟨by rw [List.length_take]; omega⟩
            obtain ⟨y, hy⟩ : ∃ y, y = highTo L x := ⟨_, rfl⟩
            rw [← hy] at hcelt HTN
            clear hcc hy
            by_cases hy0 : 0 < y
            · rw [if_pos hy0] at HTN
              go_wp2
              refine wp_region_tail 12 (fun i => match i with | 0 => fun v _ => v = u16 | 1 => fun v _ => v = .pointer (some ⟨w.heap.size, 1, none⟩) | 2 => fun v _ => v = .slice (some ad1) xs.length d1 | 3 => fun v _ => v = .int .i64 (i4 : Nat) | 4 => fun v _ => v = .pointer (some (ad1.add i4)) | 5 => fun v _ => v = .int .i64 x | 6 => fun v _ => v = .slice (some ⟨g0, 0, none⟩) xs.length k0 | 7 => fun v _ => v = .int .i64 (i4 : Nat) | 8 => fun v _ => v = .pointer (some (⟨g0, i4, none⟩ : Addr)) | 9 => fun v _ => v = .int .i64 y | 10 => fun v _ => v = .agg #[.int .i64 x, .int .i64 y] | 11 => fun v W => ∃ b, v = .slice (some ⟨b, 0, none⟩) 1 1 ∧ W.cell? ⟨b, 0, none⟩ = some (.int .i64 x) ∧ W.cell? ⟨b, 1, none⟩ = some (.int .i64 y) | _ => fun _ _ => True)
                [0, 0, 2, 0, 14, 30, 0, 0, 192, 448, 1022, 2046, 4095, 8191] hmx (by kernel_rfl) ?st ?steps ?rest
              case st =>
                intro i v w1_ w2_ hb
                match i with
                | 0 | 1 | 2 | 3 | 4 | 5 | 6 | 7 | 8 | 9 | 10 => exact id
                | 11 => exact fun ⟨b, e, h, k⟩ => ⟨b, e, pw_cell_below hb h, pw_cell_below hb k⟩
                | n + 12 => exact id
              case steps =>
                refine ⟨?_, ?_, ?_, ?_, ?_, ?_, ?_, ?_, ?_, ?_, ?_, ?_, trivial⟩
                · intro s w_ hb hd R hR
                  generalize hA : putAll _ 0 s _ = A
                  have hR' := hR (u16) _ (Below.refl _ _) rfl
                  clear hR hd
                  refine opGives_value ?_ hR'
                  subst hA
                  simp only [dsOf, List.take, List.map_cons, List.map_nil, Option.getD_some, putAll, Act.put, List.setIfInBounds_toArray, List.set_cons_zero, List.set_cons_succ]
                  go_simp
                · intro s w_ hb hd R hR
                  generalize hA : putAll _ 0 s _ = A
                  have hR' := hR (.pointer (some ⟨w.heap.size, 1, none⟩)) _ (Below.refl _ _) rfl
                  clear hR hd
                  refine opGives_value ?_ hR'
                  subst hA
                  simp only [dsOf, List.take, List.map_cons, List.map_nil, Option.getD_some, putAll, Act.put, List.setIfInBounds_toArray, List.set_cons_zero, List.set_cons_succ]
                  go_simp
                · intro s w_ hb hd R hR
                  generalize hA : putAll _ 0 s _ = A
                  have e1 : s 1 = _ := hd 1 (by kernel_rfl)
                  have c1_ := pw_cell_below hb c1
                  have hR' := hR (.slice (some ad1) xs.length d1) _ (Below.refl _ _) rfl
                  clear hR hd
                  refine opGives_value ?_ hR'
                  subst hA
                  simp only [dsOf, List.take, List.map_cons, List.map_nil, Option.getD_some, putAll, Act.put, List.setIfInBounds_toArray, List.set_cons_zero, List.set_cons_succ]
                  go_simp
                · intro s w_ hb hd R hR
                  generalize hA : putAll _ 0 s _ = A
                  have hR' := hR (.int .i64 (i4 : Nat)) _ (Below.refl _ _) rfl
                  clear hR hd
                  refine opGives_value ?_ hR'
                  subst hA
                  simp only [dsOf, List.take, List.map_cons, List.map_nil, Option.getD_some, putAll, Act.put, List.setIfInBounds_toArray, List.set_cons_zero, List.set_cons_succ]
                  go_simp
                · intro s w_ hb hd R hR
                  generalize hA : putAll _ 0 s _ = A
                  have e2 : s 2 = _ := hd 2 (by kernel_rfl)
                  have e3 : s 3 = _ := hd 3 (by kernel_rfl)
                  have hR' := hR (.pointer (some (ad1.add i4))) _ (Below.refl _ _) rfl
                  clear hR hd
                  refine opGives_value ?_ hR'
                  subst hA
                  simp only [dsOf, List.take, List.map_cons, List.map_nil, Option.getD_some, putAll, Act.put, List.setIfInBounds_toArray, List.set_cons_zero, List.set_cons_succ]
                  go_simp
                · intro s w_ hb hd R hR
                  generalize hA : putAll _ 0 s _ = A
                  have e4 : s 4 = _ := hd 4 (by kernel_rfl)
                  have hcell_ := pw_cell_below hb hcell
                  have hR' := hR (.int .i64 x) _ (Below.refl _ _) rfl
                  clear hR hd
                  refine opGives_value ?_ hR'
                  subst hA
                  simp only [dsOf, List.take, List.map_cons, List.map_nil, Option.getD_some, putAll, Act.put, List.setIfInBounds_toArray, List.set_cons_zero, List.set_cons_succ]
                  go_simp
                · intro s w_ hb hd R hR
                  generalize hA : putAll _ 0 s _ = A
                  have hR' := hR (.slice (some ⟨g0, 0, none⟩) xs.length k0) _ (Below.refl _ _) rfl
                  clear hR hd
                  refine opGives_value ?_ hR'
                  subst hA
                  simp only [dsOf, List.take, List.map_cons, List.map_nil, Option.getD_some, putAll, Act.put, List.setIfInBounds_toArray, List.set_cons_zero, List.set_cons_succ]
                  go_simp
                · intro s w_ hb hd R hR
                  generalize hA : putAll _ 0 s _ = A
                  have hR' := hR (.int .i64 (i4 : Nat)) _ (Below.refl _ _) rfl
                  clear hR hd
                  refine opGives_value ?_ hR'
                  subst hA
                  simp only [dsOf, List.take, List.map_cons, List.map_nil, Option.getD_some, putAll, Act.put, List.setIfInBounds_toArray, List.set_cons_zero, List.set_cons_succ]
                  go_simp
                · intro s w_ hb hd R hR
                  generalize hA : putAll _ 0 s _ = A
                  have e6 : s 6 = _ := hd 6 (by kernel_rfl)
                  have e7 : s 7 = _ := hd 7 (by kernel_rfl)
                  have hR' := hR (.pointer (some (⟨g0, i4, none⟩ : Addr))) _ (Below.refl _ _) rfl
                  clear hR hd
                  refine opGives_value ?_ hR'
                  subst hA
                  simp only [dsOf, List.take, List.map_cons, List.map_nil, Option.getD_some, putAll, Act.put, List.setIfInBounds_toArray, List.set_cons_zero, List.set_cons_succ]
                  go_simp
                · intro s w_ hb hd R hR
                  generalize hA : putAll _ 0 s _ = A
                  have e8 : s 8 = _ := hd 8 (by kernel_rfl)
                  have hcelt_ := pw_cell_below hb hcelt
                  have hR' := hR (.int .i64 y) _ (Below.refl _ _) rfl
                  clear hR hd
                  refine opGives_value ?_ hR'
                  subst hA
                  simp only [dsOf, List.take, List.map_cons, List.map_nil, Option.getD_some, putAll, Act.put, List.setIfInBounds_toArray, List.set_cons_zero, List.set_cons_succ]
                  go_simp
                · intro s w_ hb hd R hR
                  generalize hA : putAll _ 0 s _ = A
                  have e5 : s 5 = _ := hd 5 (by kernel_rfl)
                  have e9 : s 9 = _ := hd 9 (by kernel_rfl)
                  have hR' := hR (.agg #[.int .i64 x, .int .i64 y]) _ (Below.refl _ _) rfl
                  clear hR hd
                  refine opGives_value ?_ hR'
                  subst hA
                  simp only [dsOf, List.take, List.map_cons, List.map_nil, Option.getD_some, putAll, Act.put, List.setIfInBounds_toArray, List.set_cons_zero, List.set_cons_succ]
                  go_simp
                · intro s w_ hb hd R hR
                  generalize hA : putAll _ 0 s _ = A
                  have e10 : s 10 = _ := hd 10 (by kernel_rfl)
                  have hR' := hR (.slice (some ⟨w_.heap.size, 0, none⟩) 1 1) (w_.alloc (.cells #[.int .i64 x, .int .i64 y] 83)) (Below.alloc (Below.refl _ _) (Nat.le_refl _) _) ⟨_, rfl, by simp, by simp⟩
                  clear hR hd
                  refine opGives_value ?_ hR'
                  subst hA
                  simp only [dsOf, List.take, List.map_cons, List.map_nil, Option.getD_some, putAll, Act.put, List.setIfInBounds_toArray, List.set_cons_zero, List.set_cons_succ]
                  go_simp
              case rest =>
                intro s9 w9 hb hv
                have e0_ : s9 0 = _ := hv 0 (by decide)
                obtain ⟨b11, e11_, hc0_, hc1_⟩ : ∃ b, s9 11 = .slice (some ⟨b, 0, none⟩) 1 1 ∧ Go.World.cell? w9 ⟨b, 0, none⟩ = some (.int .i64 x) ∧ Go.World.cell? w9 ⟨b, 1, none⟩ = some (.int .i64 y) := hv 11 (by decide)
                clear hv
                simp only [dsOf, List.take, List.map_cons, List.map_nil, Option.getD_some, putAll, Act.put, List.setIfInBounds_toArray, List.set_cons_zero, List.set_cons_succ]
                have HO9 := Aside0.mk (OwnP.below HO4.out hb)
                have HT9 := Aside0.mk (HT4.out.below hb)
                have HB9 := Aside0.mk (HB4.out.trans (Below.mono hb HB4.out.size))
                have HG9 : Aside0 (g0 + 1 ≤ w9.heap.size) := ⟨HT9.out.lt g0 rfl⟩
                clear hb
                refine .inl (appendP_gives (g0 + 1) (.tmp 108) (.tmp 119) rfl u16 (tabOut (xs.take i4) L) x y b11 e0_ e11_ hc0_ hc1_ HO9.out HG9.out (by have h1 := HTL.out; have h2 := HTK.out; omega) ?_)
                intro v1 w7 ho hg
                have HON := Aside0.mk (by rw [HTN.out]; exact ho : OwnP (g0 + 1) w7 v1 (tabOut (xs.take (i4 + 1)) L))
                have HTW := Aside0.mk (HT9.out.grown hg (fun k hk e => by (have h8 : k = g0 := (by simpa [Value.ownBlock] using hk.symm)); rw [h8] at e; have h9 := HO9.out.base g0 e.symm; omega))
                have HBN := Aside0.mk (HB9.out.grown hg HB9.out.size (fun k hk => by have h1 := HO9.out.base k hk; have h2 := HGB.out; omega))
                clear ho hg
                simp only [List.drop, Act.put, List.setIfInBounds_toArray, List.set_cons_zero, List.set_cons_succ]
                refine .inl (opGives_value (v := v1) (w' := w7) (by go_simp) ?_)
                simp only [List.drop, Act.put, List.setIfInBounds_toArray, List.set_cons_zero, List.set_cons_succ]
                unfold tailList
                go_wp2
                go_roundw
                case rel => first | exact ⟨i4 + 1, by go_num, by omega, HON, HTW, HBN⟩ | ((repeat apply Exists.intro); exact ⟨⟨i4 + 1, by go_num, by omega, HON, HTW, HBN⟩, rfl⟩)
                case measure => simp [intOf]; omega
            · rw [if_neg hy0, List.append_nil] at HTN
              go_wp2
              go_roundw
              case rel => exact ⟨i4 + 1, by go_num, by omega, ⟨by rw [HTN.out]; exact HO4.out⟩, HT4, HB4⟩
              case measure => simp [intOf]; omega
          · have HOE : Aside0 (OwnP (g0 + 1) wr u16 (tabOut xs (allPv xs f n ys))) := ⟨by have h := HO4.out; rw [show i4 = xs.length by omega, List.take_length, HLE.out] at h; exact h⟩
            go_wp2
            go_ret2
            exact ⟨_, by rw [HA.out]; rfl, by rw [HA.out]; exact HOE.out.lower (by have h1 := HGB.out; have h2 := HB.out.size; omega), HB.out.trans (HB4.out.mono HB.out.size)⟩
  · have HA : Aside0 (ansPairingByFibres a xs b ys f = ([], q)) := ⟨by unfold ansPairingByFibres; rw [← hq, if_neg h0]⟩
    have hqb : (q != 0) = true := by simpa using h0
    rw [← hq] at HM
    clear hq h0
    go_enter Try.func44, Try.ntmps44
    go_wp2_with (first | (go_at_call 85; rw [← hw1]; clear hw1; refine HM.out.mono ?_; rintro e w3 ⟨rfl, hb⟩; have HB3 := Aside0.mk hb; clear hb))
    go_ret2
    exact ⟨_, by rw [HA.out]; rfl, by rw [HA.out]; exact OwnP.nil _ _, HB.out.trans (HB3.out.mono HB.out.size)⟩
end Go.Proofs.Ytcbkchnfjeegmaa.H

namespace Go.Proofs.Ytcbkchnfjeegmaa.H
open Go.RowKit Go.Proofs.YtcbkchnfjeegmaaW.PrintWords Go.Proofs.YtcbkchnfjeegmaaW.PrintLast Go.Proofs.YtcbkchnfjeegmaaW.PrintMore

theorem lenPairingByFibres (a : Int) (xs : List Int) (b : Int) (ys f : List Int) : (ansPairingByFibres a xs b ys f).1.length ≤ 1073741824 := by
  unfold ansPairingByFibres
  by_cases h : codeSimp a b xs ys [f] true = 0
  · rw [if_pos h]
    obtain ⟨n, m, rfl, rfl, hcn, -⟩ := codeSimp_zero' h
    have h1 := tab_len (allPv xs f ((n : Int).toNat) ys) xs
    have h2 := hcn.len
    show (tabOut xs _).length ≤ _
    omega
  · rw [if_neg h]; simp
end Go.Proofs.Ytcbkchnfjeegmaa.H
