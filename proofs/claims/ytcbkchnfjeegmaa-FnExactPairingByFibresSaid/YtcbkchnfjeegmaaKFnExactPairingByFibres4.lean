/- The code for maps; IsMap. PairingByVertex: slices.Contains, append of pairs, byVertex. byVertex alone. PairingByVertex of the program and of the reference. The image of a face, by the program and by the reference. Simplicial maps. The codes for simplicial maps. A slice of one list. -/
import Derived.Test.YtcbkchnfjeegmaaKFnExactPairingByFibres1
import Derived.Test.YtcbkchnfjeegmaaKFnExactPairingByFibres2
import Derived.Test.YtcbkchnfjeegmaaKFnExactPairingByFibres3

namespace Go.Proofs.Ytcbkchnfjeegmaa.H
open Go.RowKit Go.Proofs.YtcbkchnfjeegmaaW.PrintWords Go.Proofs.YtcbkchnfjeegmaaW.PrintLast Go.Proofs.YtcbkchnfjeegmaaW.PrintMore
set_option linter.unusedVariables false
set_option linter.unusedSimpArgs false

/-- a function value of nothing that answers b -/
def ThunkB (w : World) (fv : Value) (b : Bool) : Prop :=
  ∃ g first caps, fv = .func (.func g) first caps ∧ Enters g ∧ ∀ w1, Below w.heap.size w w1 → Calls Try.prog g (first ++ #[] ++ caps) w1 fun e w2 => e = .returned (.bool b) ∧ Below w1.heap.size w1 w2
theorem ThunkB.below {w w' : World} {fv : Value} {b : Bool} (h : ThunkB w fv b) (hb : Below w.heap.size w w') : ThunkB w' fv b := by
  obtain ⟨g, first, caps, rfl, hent, hp⟩ := h
  exact ⟨g, first, caps, rfl, hent, fun w1 h1 => hp w1 (hb.trans (h1.mono hb.size))⟩

theorem always (w : World) : Calls Try.prog 60 #[] w fun e w' => e = .returned (.bool true) ∧ Below w.heap.size w w' := by
  go_enter Try.func60, Try.ntmps60
  go_wp2
  go_ret
  exact ⟨rfl, Below.refl _ _⟩
theorem alwaysB (w : World) : ThunkB w (.func (.func 60) #[] #[]) true :=
  ⟨_, _, _, rfl, Enters.mk' Try.func60 rfl rfl, fun w1 _ => always w1⟩

set_option maxHeartbeats 1000000 in
theorem mapCode1 (w : World) (bk bl : Nat) (n m : Nat) (ku lu : Value) (hn : n ≤ 6) (hm : m ≤ 6) (h0 : w.cell? ⟨bk, 0, none⟩ = some (.int .i64 n)) (h1 : w.cell? ⟨bk, 1, none⟩ = some ku) (h2 : w.cell? ⟨bl, 0, none⟩ = some (.int .i64 m)) (h3 : w.cell? ⟨bl, 1, none⟩ = some lu) :
    PredS w (.func (.func 182) #[] #[.pointer (some ⟨bk, 0, none⟩), .pointer (some ⟨bl, 0, none⟩)]) (mapOk n m) (fun _ => True) := by
  refine ⟨_, _, _, rfl, Enters.mk' Try.func182 rfl rfl, fun w1 u xs hb hx _ => ?_⟩
  have c0 := pw_cell_below hb h0
  have c1 := pw_cell_below hb h1
  have c2 := pw_cell_below hb h2
  have c3 := pw_cell_below hb h3
  have HX := Aside0.mk hx
  clear hb h0 h1 h2 h3 hx
  show Calls _ _ #[_, _, _] _ _
  go_enter Try.func182, Try.ntmps182
  go_wp2_with (first | (go_at_call 183; refine (isMap n m hn hm _ _ _ xs _ HX.out).mono ?_; rintro e w' ⟨rfl, hb⟩))
  go_ret
  exact ⟨rfl, by (repeat (first | (with_reducible exact Below.refl _ _) | (with_reducible assumption) | (with_reducible refine below_step ?_ (by assumption)) | (with_reducible apply below_alloc) | (with_reducible apply below_drewN)))⟩

/-- the code for maps -/
def codeMap (a b : Int) (xs ys : List Int) (fs : List (List Int)) (r : Bool) : Int :=
  if cxOk a xs && cxOk b ys then (if fs.all (mapOk a.toNat b.toNat) && r then 0 else 2) else 1

set_option maxHeartbeats 2000000 in
theorem mapCode (a b : Int) (ku lu : Value) (xs ys : List Int) (fv lv : Value) (r : Bool) (fs : List (List Int)) (w : World) (hk : ReadI w ku xs) (hl : ReadI w lu ys) (hf : cxOk a xs = true → cxOk b ys = true → ThunkB w fv r) (hfv : ∃ g first caps, fv = .func (.func g) first caps) (hs : ReadS w lv fs) :
    Calls Try.prog 145 #[cx a ku, cx b lu, fv, lv] w fun e w' => e = .returned (.int .i64 (codeMap a b xs ys fs r)) ∧ Below w.heap.size w w' := by
  obtain ⟨w1, hw1⟩ : ∃ w1, w1 = (w.alloc (.cells #[.int .i64 a, ku] 28)).alloc (.cells #[.int .i64 b, lu] 28) := ⟨_, rfl⟩
  have hB : Below w.heap.size w w1 := by rw [hw1]; exact ((Below.refl _ w).alloc (Nat.le_refl _) _).alloc (by simp) _
  have c0 : w1.cell? ⟨w.heap.size, 0, none⟩ = some (.int .i64 a) := by rw [hw1]; simp
  have c1 : w1.cell? ⟨w.heap.size, 1, none⟩ = some ku := by rw [hw1]; simp
  have c2 : w1.cell? ⟨w.heap.size + 1, 0, none⟩ = some (.int .i64 b) := by rw [hw1]; simp
  have c3 : w1.cell? ⟨w.heap.size + 1, 1, none⟩ = some lu := by rw [hw1]; simp
  have HK := Aside0.mk (hk.below hB)
  have HL := Aside0.mk (hl.below hB)
  have HS := Aside0.mk (hs.below hB)
  have HB := Aside0.mk hB
  obtain ⟨A1, d1, rfl, -⟩ := id hk
  obtain ⟨A2, d2, rfl, -⟩ := id hl
  obtain ⟨A3, d3, rfl, -⟩ := id hs
  obtain ⟨g, first, caps, rfl⟩ := hfv
  have HF := Aside0.mk hf
  clear hk hl hs hf hB
  cases h1 : cxOk a xs with
  | false =>
    have HA : Aside0 (codeMap a b xs ys fs r = 1) := ⟨by unfold codeMap; rw [h1]; rfl⟩
    go_enter Try.func145, Try.ntmps145
    go_wp2_with (first | (rw [← hw1]; clear hw1; go_at_call 64; refine (isComplex _ _ xs _ HK.out).mono ?_; rintro e w2 ⟨rfl, hb⟩; rw [h1]))
    go_ret
    exact ⟨by rw [HA.out]; rfl, by have := HB.out; (repeat (first | (with_reducible exact Below.refl _ _) | (with_reducible assumption) | (with_reducible refine below_step ?_ (by assumption)) | (with_reducible apply below_alloc) | (with_reducible apply below_drewN)))⟩
  | true =>
    obtain ⟨n, rfl, hcn, -⟩ := cxOk_cx h1
    cases h2 : cxOk b ys with
    | false =>
      have HA : Aside0 (codeMap n b xs ys fs r = 1) := ⟨by unfold codeMap; rw [h1, h2]; rfl⟩
      go_enter Try.func145, Try.ntmps145
      go_wp2_with (first | (rw [← hw1]; clear hw1; go_at_call 64; refine (isComplex _ _ xs _ HK.out).mono ?_; rintro e w2 ⟨rfl, hb⟩; rw [h1]; have c2 := pw_cell_below hb c2; have c3 := pw_cell_below hb c3) | (go_at_call 64; refine (isComplex _ _ ys _ (HL.out.below ?hx)).mono ?_; (case hx => (repeat (first | (with_reducible exact Below.refl _ _) | (with_reducible assumption) | (with_reducible refine below_step ?_ (by assumption)) | (with_reducible apply below_alloc) | (with_reducible apply below_drewN)))); rintro e w2 ⟨rfl, hb⟩; rw [h2]))
      go_ret
      exact ⟨by rw [HA.out]; rfl, by have := HB.out; (repeat (first | (with_reducible exact Below.refl _ _) | (with_reducible assumption) | (with_reducible refine below_step ?_ (by assumption)) | (with_reducible apply below_alloc) | (with_reducible apply below_drewN)))⟩
    | true =>
      obtain ⟨m, rfl, hcm, -⟩ := cxOk_cx h2
      obtain ⟨g', first', caps', e3, hent, hp⟩ := HF.out h1 h2
      cases e3
      have HP := Aside0.mk hp
      have hn := hcn.hi
      have hm := hcm.hi
      clear hp HF hcn hcm
      unfold Enters at hent
      cases h3 : fs.all (mapOk n m) with
      | false =>
        have HA : Aside0 (codeMap n m xs ys fs r = 2) := ⟨by unfold codeMap; rw [h1, h2, Int.toNat_natCast, Int.toNat_natCast, h3]; rfl⟩
        go_enter Try.func145, Try.ntmps145
        go_wp2_with (first | (rw [← hw1]; clear hw1; go_at_call 64; refine (isComplex _ _ xs _ HK.out).mono ?_; rintro e w2 ⟨rfl, hb⟩; rw [h1]; have c0 := pw_cell_below hb c0; have c1 := pw_cell_below hb c1; have c2 := pw_cell_below hb c2; have c3 := pw_cell_below hb c3; have HB2 := Aside0.mk hb; clear hb) | (go_at_call 64; refine (isComplex _ _ ys _ (HL.out.below HB2.out)).mono ?_; rintro e w3 ⟨rfl, hb⟩; rw [h2]; have c0 := pw_cell_below hb c0; have c1 := pw_cell_below hb c1; have c2 := pw_cell_below hb c2; have c3 := pw_cell_below hb c3; have HB3 := Aside0.mk (HB2.out.trans (hb.mono HB2.out.size)); clear hb; have HP1 := Aside0.mk (mapCode1 _ _ _ n m _ _ hn hm c0 c1 c2 c3)) | (go_at_call 105; refine (areAllS _ _ _ _ _ _ (HS.out.below HB3.out) HP1.out (fun _ _ => trivial)).mono ?_; rintro e w4 ⟨rfl, hb4⟩; rw [h3]))
        go_ret
        exact ⟨by rw [HA.out]; rfl, by have := HB.out; have := HB3.out; (repeat (first | (with_reducible exact Below.refl _ _) | (with_reducible assumption) | (with_reducible refine below_step ?_ (by assumption)) | (with_reducible apply below_alloc) | (with_reducible apply below_drewN)))⟩
      | true =>
        cases r with
        | false =>
          have HA : Aside0 (codeMap n m xs ys fs false = 2) := ⟨by unfold codeMap; rw [h1, h2, Int.toNat_natCast, Int.toNat_natCast, h3]; rfl⟩
          go_enter Try.func145, Try.ntmps145
          go_wp2_with (first | (rw [← hw1]; clear hw1; go_at_call 64; refine (isComplex _ _ xs _ HK.out).mono ?_; rintro e w2 ⟨rfl, hb⟩; rw [h1]; have c0 := pw_cell_below hb c0; have c1 := pw_cell_below hb c1; have c2 := pw_cell_below hb c2; have c3 := pw_cell_below hb c3; have HB2 := Aside0.mk hb; clear hb) | (go_at_call 64; refine (isComplex _ _ ys _ (HL.out.below HB2.out)).mono ?_; rintro e w3 ⟨rfl, hb⟩; rw [h2]; have c0 := pw_cell_below hb c0; have c1 := pw_cell_below hb c1; have c2 := pw_cell_below hb c2; have c3 := pw_cell_below hb c3; have HB3 := Aside0.mk (HB2.out.trans (hb.mono HB2.out.size)); clear hb; have HP1 := Aside0.mk (mapCode1 _ _ _ n m _ _ hn hm c0 c1 c2 c3)) | (go_at_call 105; refine (areAllS _ _ _ _ _ _ (HS.out.below HB3.out) HP1.out (fun _ _ => trivial)).mono ?_; rintro e w4 ⟨rfl, hb4⟩; rw [h3]; have HB4 := Aside0.mk (HB.out.trans ((HB3.out.trans (hb4.mono HB3.out.size)).mono HB.out.size))) | (refine (HP.out _ HB4.out).mono ?_; rintro e w5 ⟨rfl, hb5⟩))
          go_ret
          exact ⟨by rw [HA.out]; rfl, by have := HB4.out; (repeat (first | (with_reducible exact Below.refl _ _) | (with_reducible assumption) | (with_reducible refine below_step ?_ (by assumption)) | (with_reducible apply below_alloc) | (with_reducible apply below_drewN)))⟩
        | true =>
          have HA : Aside0 (codeMap n m xs ys fs true = 0) := ⟨by unfold codeMap; rw [h1, h2, Int.toNat_natCast, Int.toNat_natCast, h3]; rfl⟩
          go_enter Try.func145, Try.ntmps145
          go_wp2_with (first | (rw [← hw1]; clear hw1; go_at_call 64; refine (isComplex _ _ xs _ HK.out).mono ?_; rintro e w2 ⟨rfl, hb⟩; rw [h1]; have c0 := pw_cell_below hb c0; have c1 := pw_cell_below hb c1; have c2 := pw_cell_below hb c2; have c3 := pw_cell_below hb c3; have HB2 := Aside0.mk hb; clear hb) | (go_at_call 64; refine (isComplex _ _ ys _ (HL.out.below HB2.out)).mono ?_; rintro e w3 ⟨rfl, hb⟩; rw [h2]; have c0 := pw_cell_below hb c0; have c1 := pw_cell_below hb c1; have c2 := pw_cell_below hb c2; have c3 := pw_cell_below hb c3; have HB3 := Aside0.mk (HB2.out.trans (hb.mono HB2.out.size)); clear hb; have HP1 := Aside0.mk (mapCode1 _ _ _ n m _ _ hn hm c0 c1 c2 c3)) | (go_at_call 105; refine (areAllS _ _ _ _ _ _ (HS.out.below HB3.out) HP1.out (fun _ _ => trivial)).mono ?_; rintro e w4 ⟨rfl, hb4⟩; rw [h3]; have HB4 := Aside0.mk (HB.out.trans ((HB3.out.trans (hb4.mono HB3.out.size)).mono HB.out.size))) | (refine (HP.out _ HB4.out).mono ?_; rintro e w5 ⟨rfl, hb5⟩))
          go_ret
          exact ⟨by rw [HA.out]; rfl, by have := HB4.out; (repeat (first | (with_reducible exact Below.refl _ _) | (with_reducible assumption) | (with_reducible refine below_step ?_ (by assumption)) | (with_reducible apply below_alloc) | (with_reducible apply below_drewN)))⟩
end Go.Proofs.Ytcbkchnfjeegmaa.H

namespace Go.Proofs.Ytcbkchnfjeegmaa.H
open Go.RowKit Go.Proofs.YtcbkchnfjeegmaaW.PrintWords Go.Proofs.YtcbkchnfjeegmaaW.PrintLast Go.Proofs.YtcbkchnfjeegmaaW.PrintMore
set_option linter.unusedVariables false
set_option linter.unusedSimpArgs false

theorem infoP : (Try.prog.info? 83).map (fun i => (i.zero, i.size, i.bytes)) = some (some (.agg #[.int .i64 0, .int .i64 0]), 2, 16) := by kernel_rfl
section
variable {P : Program} {ops : Array Oper} {rest : List Oper} {o : Oper} {a : Act} {Q : Exit → Act → World → Prop}
/-- append(v, Pair{x, y}) -/
theorem app_pair {w0 W : World} (base : Nat) (hgd : o.guard = none) (s x : Operand) (ho : o.op = .call { callee := .builtin .append, args := #[s, x], argTypes := #[43, 43] })
    (v : Value) (ps : List (Int × Int)) (p q : Int) (hs : a.eval s = v) (hx : a.eval x = .slice (some ⟨W.heap.size, 0, none⟩) 1 1)
    (HO : OwnP base W v ps) (HB : Below base w0 W) (hbase : base ≤ W.heap.size) (hl : ps.length < 1000000)
    (h : ∀ v1 w1, OwnP base w1 v1 (ps ++ [(p, q)]) → Below base w0 w1 → W.grownBy w1 v.ownBlock → (v1.ownBlock = v.ownBlock ∨ ∃ b, v1.ownBlock = some b ∧ W.heap.size ≤ b) → wpList Try.prog ops Q rest (a.put o.dst v1) w1) :
    wpList Try.prog ops Q (o :: rest) a (W.alloc (.cells #[.int .i64 p, .int .i64 q] 83)) := by
  refine print_append_cells base hgd s x 43 83 (.agg #[.int .i64 0, .int .i64 0]) 2 16 ho Try.underlying43 infoP rfl (by decide) (by decide) v ps.length ((flat ps).map (Value.int .i64)) [.int .i64 p, .int .i64 q] hs hx rfl (fun u hu => ?_) HO HB hbase (by omega) ?_
  · rcases List.mem_cons.1 hu with rfl | hu
    · rfl
    · rcases List.mem_cons.1 hu with rfl | hu
      · rfl
      · cases hu
  · intro v1 w1 h1 h2 h3 h4
    refine h v1 w1 ?_ h2 h3 h4
    unfold OwnP
    rw [List.length_append, List.length_singleton, flat_snoc, List.map_append]
    exact h1
end

set_option maxHeartbeats 1000000 in
theorem sliceIndex (v : Value) (xs : List Int) (x : Int) (w : World) (hr : ReadI w v xs) :
    Calls Try.prog 139 #[v, .int .i64 x] w fun e w' => (∃ r : Int, e = .returned (.int .i64 r) ∧ decide (0 ≤ r) = decide (x ∈ xs)) ∧ Below w.heap.size w w' := by
  have hlen := hr.len
  obtain ⟨A, c, rfl, hc, hr⟩ := hr
  have HR := Aside0.mk hr
  clear hr hc
  go_enter Try.func139, Try.ntmps139
  go_wp2
  go_loopw [8] (fun v wr => ∃ i : Nat, v = .int .i64 i ∧ i ≤ xs.length ∧ Aside0 (∀ j, j < i → x ≠ xs.getD j 0) ∧ wr = w) (fun v _ => xs.length - (intOf v).toNat)
  case atStart => exact ⟨0, rfl, Nat.zero_le _, ⟨fun j hj => absurd hj (Nat.not_lt_zero _)⟩, rfl⟩
  case round =>
    obtain ⟨i, rfl, hi, HN, rfl⟩ := hrel
    by_cases hlt : i < xs.length
    · obtain ⟨ad, y, rfl, hcell, HY⟩ := ReadI.get HR.out hlt
      by_cases hxy : x = y
      · have hb : (x == y) = true := by simpa using hxy
        have HM : Aside0 (x ∈ xs) := ⟨by rw [hxy]; exact mem_at hlt HY.out⟩
        clear hxy
        go_wp2
        go_ret
        exact ⟨⟨(i : Int), rfl, by rw [decide_eq_true HM.out]; exact decide_eq_true (by omega)⟩, Below.refl _ _⟩
      · have hb : (x == y) = false := by simpa using hxy
        have HX := Aside0.mk hxy
        clear hxy
        go_wp2
        go_roundw
        case rel => exact ⟨i + 1, by go_num, by omega, ⟨fun j hj => by
          rcases Nat.lt_succ_iff_lt_or_eq.1 hj with h | rfl
          · exact HN.out j h
          · rw [HY.out]; exact HX.out⟩, trivial⟩
        case measure => simp [intOf]; omega
    · have HM : Aside0 (x ∉ xs) := ⟨fun h => by
        obtain ⟨j, hj, e⟩ := List.getElem_of_mem h
        have := HN.out j (by omega)
        rw [List.getD_eq_getElem?_getD, List.getElem?_eq_getElem hj, Option.getD_some, e] at this
        exact this rfl⟩
      go_wp2
      go_ret
      exact ⟨⟨-1, rfl, by rw [decide_eq_false HM.out]; decide⟩, Below.refl _ _⟩
theorem sliceContains (v : Value) (xs : List Int) (x : Int) (w : World) (hr : ReadI w v xs) :
    Calls Try.prog 82 #[v, .int .i64 x] w fun e w' => e = .returned (.bool (decide (x ∈ xs))) ∧ Below w.heap.size w w' := by
  have HR := Aside0.mk hr
  obtain ⟨A, c, rfl, -⟩ := id hr
  clear hr
  go_enter Try.func82, Try.ntmps82
  go_wp2_with (first | (go_at_call 139; refine (sliceIndex _ xs x _ HR.out).mono ?_; rintro e w2 ⟨⟨r, rfl, he⟩, hb⟩; have HE := Aside0.mk he; clear he))
  go_ret
  exact ⟨by rw [← HE.out]; rfl, hb⟩
end Go.Proofs.Ytcbkchnfjeegmaa.H

namespace Go.Proofs.Ytcbkchnfjeegmaa.H
open Go.RowKit Go.Proofs.YtcbkchnfjeegmaaW.PrintWords Go.Proofs.YtcbkchnfjeegmaaW.PrintLast Go.Proofs.YtcbkchnfjeegmaaW.PrintMore
set_option linter.unusedVariables false
set_option linter.unusedSimpArgs false

/-- a face is paired upwards -/
def upAtV (xs : List Int) (v z : Nat) : Bool := !z.testBit v && decide (((z ||| 2 ^ v : Nat) : Int) ∈ xs)
/-- the pairs of the first k faces -/
def byTo (xs : List Int) (v k : Nat) : List (Int × Int) := (List.range k).filterMap fun i => if upAtV xs v (xs.getD i 0).toNat then some (xs.getD i 0, (((xs.getD i 0).toNat ||| 2 ^ v : Nat) : Int)) else none
theorem byTo_hit {xs : List Int} {v k z : Nat} (hy : xs.getD k 0 = (z : Int)) (h : upAtV xs v z = true) : byTo xs v (k + 1) = byTo xs v k ++ [((z : Int), ((z ||| 2 ^ v : Nat) : Int))] := by
  unfold byTo
  rw [List.range_succ, List.filterMap_append]
  simp only [List.filterMap_cons, List.filterMap_nil]
  rw [hy, Int.toNat_natCast, if_pos h]
theorem byTo_miss {xs : List Int} {v k z : Nat} (hy : xs.getD k 0 = (z : Int)) (h : upAtV xs v z = false) : byTo xs v (k + 1) = byTo xs v k := by
  unfold byTo
  rw [List.range_succ, List.filterMap_append]
  simp only [List.filterMap_cons, List.filterMap_nil]
  rw [hy, Int.toNat_natCast, if_neg (by rw [h]; decide), List.append_nil]
theorem byTo_len (xs : List Int) (v k : Nat) : (byTo xs v k).length ≤ k := by
  unfold byTo
  exact Nat.le_trans (List.length_filterMap_le _ _) (by simp)
/-- what PairingByVertex answers -/
def ansPairingByVertex (a : Int) (xs : List Int) (v : Int) : List (Int × Int) × Int :=
  if cxOk a xs then (if decide (0 ≤ v) && decide (v ≤ a - 1) then (byTo xs v.toNat xs.length, 0) else ([], 2)) else ([], 1)
theorem lenPairingByVertex (a : Int) (xs : List Int) (v : Int) : (ansPairingByVertex a xs v).1.length ≤ 1073741824 := by
  unfold ansPairingByVertex
  split
  · next h =>
    obtain ⟨n, -, hn, -⟩ := cxOk_cx h
    split
    · exact Nat.le_trans (byTo_len _ _ _) (by have := hn.len; omega)
    · simp
  · simp
theorem and_bit (z v : Nat) : z &&& 2 ^ v = if z.testBit v then 2 ^ v else 0 := by
  apply Nat.eq_of_testBit_eq
  intro i
  rw [Nat.testBit_and, Nat.testBit_two_pow]
  by_cases h : v = i
  · subst h
    cases hq : z.testBit v <;> simp
  · cases hq : z.testBit v <;> simp [h, Nat.testBit_two_pow]

set_option maxRecDepth 100000 in
set_option maxHeartbeats 2000000 in
theorem byVertex (u : Value) (xs : List Int) (v : Nat) (hv : v ≤ 5) (w : World) (hu : ReadI w u xs) (hx : ∀ x ∈ xs, 0 ≤ x ∧ x ≤ 63) (hl63 : xs.length ≤ 63) :
    Calls Try.prog 90 #[u, .int .i64 v] w fun e w' => ∃ r, e = .returned r ∧ OwnP w.heap.size w' r (byTo xs v xs.length) ∧ Below w.heap.size w w' := by
  have HU := Aside0.mk hu
  obtain ⟨A1, d1, rfl, hcc, hr⟩ := hu
  have HR := Aside0.mk hr
  have HX := Aside0.mk hx
  have hsh := pow_wrap v (by omega)
  have hpp : 2 ^ v < 64 := by have := Nat.pow_lt_pow_right (a := 2) (by decide) (show v < 6 by omega); omega
  clear hr hcc hx
  go_enter Try.func90, Try.ntmps90
  go_wp2
  go_loopw [5, 10] (fun s5 s10 wr => ∃ i : Nat, s10 = .int .i64 i ∧ i ≤ xs.length ∧ Aside0 (OwnP w.heap.size wr s5 (byTo xs v i)) ∧ Aside0 (Below w.heap.size w wr)) (fun _ s10 _ => xs.length - (intOf s10).toNat)
  case atStart => exact ⟨0, rfl, Nat.zero_le _, ⟨OwnP.nil _ _⟩, ⟨Below.refl _ _⟩⟩
  case round =>
    obtain ⟨i, rfl, hi, HO, HB⟩ := hrel
    have hll := byTo_len xs v i
    by_cases hlt : i < xs.length
    · obtain ⟨ad, y, rfl, hcell, HY⟩ := ReadI.get (Kd.C_below HR.out HB.out) hlt
      have hy := HX.out y (mem_at hlt HY.out)
      obtain ⟨z, rfl⟩ : ∃ z : Nat, y = z := ⟨y.toNat, by omega⟩
      have hbit := bit_of z v (by omega)
      have hor := or_i64 z (2 ^ v) (by omega) (by omega)
      have HUP : Aside0 (upAtV xs v z = (!z.testBit v && decide (((z ||| 2 ^ v : Nat) : Int) ∈ xs))) := ⟨rfl⟩
      have HH := Aside0.mk (fun h : upAtV xs v z = true => byTo_hit (k := i) HY.out h)
      have HM := Aside0.mk (fun h : upAtV xs v z = false => byTo_miss (k := i) HY.out h)
      obtain ⟨P, hP⟩ : ∃ P, P = 2 ^ v := ⟨_, rfl⟩
      rw [← hP] at hsh hor HUP HH hpp
      obtain ⟨g, hg⟩ : ∃ g, g = z ||| P := ⟨_, rfl⟩
      rw [← hg] at hor HUP HH
      clear hP hg hy
      cases htb : z.testBit v with
      | true =>
        rw [htb, if_pos rfl] at hbit
        have HT := Aside0.mk (HM.out (by rw [HUP.out, htb]; rfl))
        go_wp2
        go_roundw
        case rel => exact ⟨i + 1, by go_num, by omega, ⟨by rw [HT.out]; exact HO.out⟩, HB⟩
        case measure => simp [intOf]; omega
      | false =>
        rw [htb, if_neg (by decide)] at hbit
        cases hin : decide (((g : Nat) : Int) ∈ xs) with
        | false =>
          have HT := Aside0.mk (HM.out (by rw [HUP.out, htb, hin]; rfl))
          go_wp2_with (first | (go_at_call 82; refine (sliceContains _ xs _ _ (HU.out.below HB.out)).mono ?_; rintro e w2 ⟨rfl, hb⟩; rw [hin]))
          go_roundw
          case rel => exact ⟨i + 1, by go_num, by omega, ⟨by rw [HT.out]; exact OwnP.below HO.out hb⟩, ⟨HB.out.trans (hb.mono HB.out.size)⟩⟩
          case measure => simp [intOf]; omega
        | true =>
          have HT := Aside0.mk (HH.out (by rw [HUP.out, htb, hin]; rfl))
          go_wp2_with (first | (go_at_call 82; refine (sliceContains _ xs _ _ (HU.out.below HB.out)).mono ?_; rintro e w2 ⟨rfl, hb⟩; rw [hin]; have HO2 := Aside0.mk (OwnP.below HO.out hb); have HB2 := Aside0.mk (HB.out.trans (hb.mono HB.out.size)); clear hb) | (at_builtin; refine app_pair (w0 := w) w.heap.size rfl (.tmp 27) (.tmp 34) rfl _ (byTo xs v i) z g rfl rfl HO2.out HB2.out HB2.out.size (by omega) ?_; intro v1 w6 ho hb hg hat; have HO1 := Aside0.mk ho; have HB1 := Aside0.mk hb; clear ho hb hg hat))
          go_roundw
          case rel => exact ⟨i + 1, by go_num, by omega, ⟨by rw [HT.out]; exact HO1.out⟩, HB1⟩
          case measure => simp [intOf]; omega
    · have e : i = xs.length := by omega
      have HE := Aside0.mk e
      clear e
      go_wp2
      go_ret
      exact ⟨_, rfl, by rw [← HE.out]; exact HO.out, HB.out⟩

end Go.Proofs.Ytcbkchnfjeegmaa.H

namespace Go.Proofs.Ytcbkchnfjeegmaa.H
open Go.RowKit Go.Proofs.YtcbkchnfjeegmaaW.PrintWords Go.Proofs.YtcbkchnfjeegmaaW.PrintLast Go.Proofs.YtcbkchnfjeegmaaW.PrintMore
set_option linter.unusedVariables false
set_option linter.unusedSimpArgs false

/-- the image of the part of a face on the first k vertices -/
def imgTo (f : Nat) (p : List Int) (k : Nat) : Nat := (List.range k).foldl (fun o v => if f.testBit v then o ||| 2 ^ (p.getD v 0).toNat else o) 0
/-- the image of a face -/
def img (f : Nat) (p : List Int) : Nat := imgTo f p p.length
theorem imgTo_succ (f : Nat) (p : List Int) (k : Nat) : imgTo f p (k + 1) = if f.testBit k then imgTo f p k ||| 2 ^ (p.getD k 0).toNat else imgTo f p k := by
  unfold imgTo
  rw [List.range_succ, List.foldl_append]
  rfl
theorem imgTo_more (f : Nat) (p : List Int) (n : Nat) (hf : f < 2 ^ n) : ∀ d, imgTo f p (n + d) = imgTo f p n := by
  intro d
  induction d with
  | zero => rfl
  | succ d ih =>
    rw [← Nat.add_assoc, imgTo_succ, if_neg, ih]
    rw [Nat.testBit_lt_two_pow (Nat.lt_of_lt_of_le hf (Nat.pow_le_pow_right (by decide) (Nat.le_add_right n d)))]
    decide
/-- over a list of vertices -/
def imgV (p : List Int) (l : List Int) : Nat := l.foldl (fun o v => o ||| 2 ^ (p.getD v.toNat 0).toNat) 0
theorem imgV_snoc (p l : List Int) (v : Int) : imgV p (l ++ [v]) = imgV p l ||| 2 ^ (p.getD v.toNat 0).toNat := by
  unfold imgV; rw [List.foldl_append]; rfl
theorem imgV_vs (f : Nat) (p : List Int) : imgV p (vs f) = imgTo f p 6 := by
  unfold imgV vs imgTo
  rw [List.foldl_map, List.foldl_filter]
  rfl
theorem img_vs (f : Nat) (p : List Int) (hn : p.length ≤ 6) (hf : f < 2 ^ p.length) : imgV p (vs f) = img f p := by
  rw [imgV_vs]
  have := imgTo_more f p p.length hf (6 - p.length)
  rw [show p.length + (6 - p.length) = 6 by omega] at this
  exact this
theorem getD_bd {p : List Int} (hp : ∀ x ∈ p, 0 ≤ x ∧ x ≤ 5) (k : Nat) : (p.getD k 0).toNat ≤ 5 := by
  by_cases h : k < p.length
  · have := hp _ (mem_at (i := k) h rfl); omega
  · have : p.getD k 0 = 0 := by simp [List.getD_eq_getElem?_getD, Nat.not_lt.1 h]
    rw [this]; decide
theorem or_lt {a e : Nat} (ha : a < 64) (he : e ≤ 5) : a ||| 2 ^ e < 64 :=
  Nat.or_lt_two_pow (n := 6) ha (by have := pow_bd e he; omega)
theorem imgV_lt {p : List Int} (hp : ∀ x ∈ p, 0 ≤ x ∧ x ≤ 5) (l : List Int) : imgV p l < 64 := by
  have key : ∀ (l : List Int) (o : Nat), o < 64 → l.foldl (fun o v => o ||| 2 ^ (p.getD v.toNat 0).toNat) o < 64 := by
    intro l
    induction l with
    | nil => exact fun o h => h
    | cons v l ih => exact fun o h => ih _ (or_lt h (getD_bd hp _))
  exact key l 0 (by decide)
theorem imgTo_lt {f : Nat} {p : List Int} (hp : ∀ x ∈ p, 0 ≤ x ∧ x ≤ 5) (k : Nat) : imgTo f p k < 64 := by
  induction k with
  | zero => exact (by decide : (0 : Nat) < 64)
  | succ k ih =>
    rw [imgTo_succ]
    split
    · exact or_lt ih (getD_bd hp _)
    · exact ih
theorem vs_mem {f : Nat} {v : Int} (h : v ∈ vs f) : ∃ k : Nat, v = k ∧ k < 6 ∧ f.testBit k = true := by
  unfold vs at h
  rw [List.mem_map] at h
  obtain ⟨k, hk, rfl⟩ := h
  rw [List.mem_filter, List.mem_range] at hk
  exact ⟨k, rfl, hk.1, hk.2⟩
theorem vs_in {f n : Nat} {v : Int} (hf : f < 2 ^ n) (h : v ∈ vs f) : ∃ k : Nat, v = k ∧ k < n := by
  obtain ⟨k, rfl, _, ht⟩ := vs_mem h
  refine ⟨k, rfl, ?_⟩
  by_cases hk : k < n
  · exact hk
  · rw [Nat.testBit_lt_two_pow (Nat.lt_of_lt_of_le hf (Nat.pow_le_pow_right (by decide) (Nat.not_lt.1 hk)))] at ht
    cases ht
theorem vs_len6 (f : Nat) : (vs f).length ≤ 6 := by
  unfold vs
  rw [List.length_map]
  exact Nat.le_trans (List.length_filter_le _ _) (by simp)

set_option maxHeartbeats 1000000 in
theorem imageOf (f : Nat) (v : Value) (p : List Int) (w : World) (hr : ReadI w v p) (hn : p.length ≤ 6) (hf : f < 2 ^ p.length) (hp : ∀ x ∈ p, 0 ≤ x ∧ x ≤ 5) :
    Calls Try.prog 150 #[.int .i64 f, v] w fun e w' => e = .returned (.int .i64 (img f p : Nat)) ∧ Below w.heap.size w w' := by
  have hf63 : f ≤ 63 := by have := (pw6 hn).2; omega
  have HI : Aside0 (imgV p (vs f) = img f p) := ⟨img_vs f p hn hf⟩
  have HL := Aside0.mk (fun l => imgV_lt hp l)
  have HF := Aside0.mk hf
  have HP := Aside0.mk hp
  have hl6 := vs_len6 f
  obtain ⟨A, c, rfl, hc, hr⟩ := hr
  have HR := Aside0.mk hr
  clear hr hf hp
  go_enter Try.func150, Try.ntmps150
  go_wp2_with (first | (go_at_call 165; refine (vertices f hf63 _).mono ?_; rintro e w1 ⟨u, rfl, ho, hb⟩; obtain ⟨A1, c1, rfl, -, hr1⟩ := ho.read; have HR1 := Aside0.mk hr1; have HB := Aside0.mk hb; clear ho hb hr1))
  go_loopw [5, 11] (fun o i wr => ∃ k : Nat, i = .int .i64 k ∧ k ≤ (vs f).length ∧ o = .int .i64 (imgV p ((vs f).take k) : Nat) ∧ Below w1.heap.size w1 wr) (fun _ i _ => (vs f).length - (intOf i).toNat)
  case atStart => exact ⟨0, rfl, Nat.zero_le _, rfl, Below.refl _ _⟩
  case round =>
    obtain ⟨k, rfl, hk, rfl, hb⟩ := hrel
    by_cases hlt : k < (vs f).length
    · obtain ⟨ad1, x, rfl, hcell1, HX⟩ := ReadI.get (Kd.C_below HR1.out hb) hlt
      obtain ⟨q, rfl, hq⟩ := vs_in HF.out (mem_at hlt HX.out)
      obtain ⟨ad, y, rfl, hcell, HY⟩ := ReadI.get (Kd.C_below HR.out (HB.out.trans (hb.mono HB.out.size))) (i := q) (by omega)
      have hy := HP.out _ (mem_at hq HY.out)
      obtain ⟨e, rfl⟩ : ∃ e : Nat, y = e := ⟨y.toNat, by omega⟩
      have HT := Aside0.mk (take_get hlt HX.out)
      have hsh := pow_wrap e (by omega)
      have hpb := pow_bd e (by omega)
      obtain ⟨o, ho⟩ : ∃ o, o = imgV p ((vs f).take k) := ⟨_, rfl⟩
      have hol := HL.out ((vs f).take k)
      rw [← ho] at hol ⊢
      have hor := or_i64 o (2 ^ e) (by omega) (by omega)
      obtain ⟨z, hz⟩ : ∃ z, z = o ||| 2 ^ e := ⟨_, rfl⟩
      rw [← hz] at hor
      obtain ⟨pp, hpp⟩ : ∃ pp : Nat, pp = 2 ^ e := ⟨_, rfl⟩
      rw [← hpp] at hsh hpb hor hz
      have HO := Aside0.mk ho
      have HZ := Aside0.mk hz
      have HPP := Aside0.mk hpp
      have HB2 := Aside0.mk hb
      clear ho hz hpp hb
      go_wp2
      go_roundw
      case rel =>
        refine ⟨k + 1, by go_num, by omega, ?_, HB2.out⟩
        rw [HT.out, imgV_snoc, ← HO.out, Int.toNat_natCast, HY.out, Int.toNat_natCast, ← HPP.out, ← HZ.out]
      case measure => simp [intOf]; omega
    · have e : k = (vs f).length := by omega
      have HE := Aside0.mk e
      have HB2 := Aside0.mk (HB.out.trans (hb.mono HB.out.size))
      clear e hb
      go_wp2
      go_ret
      exact ⟨by have := HI.out; rw [HE.out, List.take_length, this]; rfl, HB2.out⟩

set_option maxHeartbeats 1000000 in
theorem specMoved (f : Nat) (hf : f ≤ 63) (v : Value) (p : List Int) (w : World) (hr : ReadI w v p) (hn : p.length ≤ 6) (hp : ∀ x ∈ p, 0 ≤ x ∧ x ≤ 5) :
    Calls Try.prog 129 #[.int .i64 f, v] w fun e w' => e = .returned (.int .i64 (img f p : Nat)) ∧ Below w.heap.size w w' := by
  have HL := Aside0.mk (fun k => imgTo_lt (f := f) hp k)
  have HP := Aside0.mk hp
  obtain ⟨A, c, rfl, hc, hr⟩ := hr
  have HR := Aside0.mk hr
  clear hr hp
  go_enter Try.func129, Try.ntmps129
  go_wp2
  go_loopw [5, 6] (fun o i wr => ∃ k : Nat, i = .int .i64 k ∧ k ≤ p.length ∧ o = .int .i64 (imgTo f p k : Nat) ∧ Below w.heap.size w wr) (fun _ i _ => p.length - (intOf i).toNat)
  case atStart => exact ⟨0, rfl, Nat.zero_le _, rfl, Below.refl _ _⟩
  case round =>
    obtain ⟨k, rfl, hk, rfl, hb⟩ := hrel
    by_cases hlt : k < p.length
    · obtain ⟨ad, y, rfl, hcell, HY⟩ := ReadI.get (Kd.C_below HR.out hb) hlt
      have hy := HP.out _ (mem_at hlt HY.out)
      obtain ⟨e, rfl⟩ : ∃ e : Nat, y = e := ⟨y.toNat, by omega⟩
      have HS := Aside0.mk (imgTo_succ f p k)
      have hbit := bit_of f k (by omega)
      obtain ⟨o, ho⟩ : ∃ o, o = imgTo f p k := ⟨_, rfl⟩
      have hol := HL.out k
      rw [← ho] at hol ⊢
      have HO := Aside0.mk ho
      have HB2 := Aside0.mk hb
      clear ho hb
      cases ht : f.testBit k with
      | true =>
        rw [ht, if_pos rfl] at hbit
        have HT := Aside0.mk ht
        clear ht
        have hsh := pow_wrap e (by omega)
        have hpb := pow_bd e (by omega)
        have hor := or_i64 o (2 ^ e) (by omega) (by omega)
        obtain ⟨z, hz⟩ : ∃ z, z = o ||| 2 ^ e := ⟨_, rfl⟩
        rw [← hz] at hor
        obtain ⟨pp, hpp⟩ : ∃ pp : Nat, pp = 2 ^ e := ⟨_, rfl⟩
        rw [← hpp] at hsh hpb hor hz
        have HZ := Aside0.mk hz
        have HPP := Aside0.mk hpp
        clear hz hpp
        go_wp2
        go_roundw
        case rel =>
          refine ⟨k + 1, by go_num, by omega, ?_, HB2.out⟩
          rw [HS.out, HT.out, if_pos rfl, ← HO.out, HY.out, Int.toNat_natCast, ← HPP.out, ← HZ.out]
        case measure => simp [intOf]; omega
      | false =>
        rw [ht, if_neg (by decide)] at hbit
        have HT := Aside0.mk ht
        clear ht
        go_wp2
        go_roundw
        case rel =>
          refine ⟨k + 1, by go_num, by omega, ?_, HB2.out⟩
          rw [HS.out, HT.out, if_neg (by decide), ← HO.out]
        case measure => simp [intOf]; omega
    · have e : k = p.length := by omega
      have HE := Aside0.mk e
      clear e
      go_wp2
      go_ret
      exact ⟨by rw [HE.out]; rfl, hb⟩
end Go.Proofs.Ytcbkchnfjeegmaa.H

namespace Go.Proofs.Ytcbkchnfjeegmaa.H
open Go.RowKit Go.Proofs.YtcbkchnfjeegmaaW.PrintWords Go.Proofs.YtcbkchnfjeegmaaW.PrintLast Go.Proofs.YtcbkchnfjeegmaaW.PrintMore
set_option linter.unusedVariables false
set_option linter.unusedSimpArgs false

/-- the image of a face is one -/
def simpAt (ys p : List Int) (f : Int) : Bool := decide (((img f.toNat p : Nat) : Int) ∈ ys)
def simpOk (xs ys p : List Int) : Bool := xs.all (simpAt ys p)
/-- what is known of a map -/
structure Mp (n m : Nat) (p : List Int) : Prop where
  len : p.length = n
  bd : ∀ x ∈ p, 0 ≤ x ∧ x ≤ (m : Int) - 1
theorem mapOk_mp {n m : Nat} {p : List Int} (h : mapOk n m p = true) : Mp n m p := by
  unfold mapOk at h
  rw [Bool.and_eq_true, decide_eq_true_eq, List.all_eq_true] at h
  refine ⟨h.1, fun x hx => ?_⟩
  have := h.2 x hx
  unfold inMap at this
  simpa using this
theorem Mp.bd5 {n m : Nat} {p : List Int} (h : Mp n m p) (hm : m ≤ 6) : ∀ x ∈ p, 0 ≤ x ∧ x ≤ 5 := fun x hx => by have := h.bd x hx; omega
theorem Cx.lt {n : Nat} {l : List Int} (h : Cx n l) {x : Int} (hx : x ∈ l) : ∃ f : Nat, x = f ∧ 1 ≤ f ∧ f < 2 ^ n := by
  have := h.bd x hx
  exact ⟨x.toNat, by omega, by omega, by omega⟩

set_option maxHeartbeats 2000000 in
theorem isSimplicial1 (w : World) (bl bp : Nat) (n m : Nat) (lu v : Value) (ys p : List Int) (hn : n ≤ 6) (hl : ReadI w lu ys) (hv : ReadI w v p) (hc : Cx m ys) (hp : Mp n m p) (h0 : w.cell? ⟨bl, 0, none⟩ = some (.int .i64 m)) (h1 : w.cell? ⟨bl, 1, none⟩ = some lu) (h2 : w.cell? ⟨bp, 0, none⟩ = some v) :
    PredI w (.func (.func 184) #[] #[.pointer (some ⟨bl, 0, none⟩), .pointer (some ⟨bp, 0, none⟩)]) (simpAt ys p) (fun f => 0 ≤ f ∧ f < ((2 ^ n : Nat) : Int)) := by
  refine ⟨_, _, _, rfl, Enters.mk' Try.func184 rfl rfl, fun w1 x hb hx => ?_⟩
  obtain ⟨f, rfl⟩ : ∃ f : Nat, x = f := ⟨x.toNat, by omega⟩
  have hf : f < 2 ^ p.length := by rw [hp.len]; omega
  have c0 := pw_cell_below hb h0
  have c1 := pw_cell_below hb h1
  have c2 := pw_cell_below hb h2
  have HL := Aside0.mk (hl.below hb)
  have HV := Aside0.mk (hv.below hb)
  obtain ⟨A1, d1, rfl, -⟩ := id hl
  obtain ⟨A2, d2, rfl, -⟩ := id hv
  have hlen : p.length ≤ 6 := by rw [hp.len]; exact hn
  have HI : Aside0 (∀ x : Ext w1, Calls Try.prog 150 #[.int .i64 f, .slice A2 p.length d2] x.1 fun e w' => e = .returned (.int .i64 (img f p : Nat)) ∧ Below x.1.heap.size x.1 w') := ⟨fun x => imageOf f _ p x.1 (HV.out.below x.2) hlen hf (hp.bd5 hc.hi)⟩
  have HH : Aside0 (∀ x : Ext w1, Calls Try.prog 119 #[cx m (.slice A1 ys.length d1), .int .i64 (img f p : Nat)] x.1 fun e w' => e = .returned (.bool (simpAt ys p f)) ∧ Below x.1.heap.size x.1 w') := ⟨fun x => has m _ ys _ x.1 (HL.out.below x.2) hc.asc (by have := hc.len; omega)⟩
  have x0 : ∀ x : Ext w1, x.1.cell? ⟨bl, 0, none⟩ = some (.int .i64 m) := fun x => Ext.cell c0 x
  have x1 : ∀ x : Ext w1, x.1.cell? ⟨bl, 1, none⟩ = some (.slice A1 ys.length d1) := fun x => Ext.cell c1 x
  have x2 : ∀ x : Ext w1, x.1.cell? ⟨bp, 0, none⟩ = some (.slice A2 p.length d2) := fun x => Ext.cell c2 x
  clear hb h0 h1 h2 hx hl hv hc hp c0 c1 c2 hf hlen HL HV
  generalize simpAt ys p f = r at *
  generalize img f p = g at *
  show Calls _ _ #[_, _, _] _ _
  go_enter Try.func184, Try.ntmps184
  go_wp2
  refine wp_region_ext (by kernel_rfl) (by kernel_rfl) ?_
  repeat (go_big_quiet_step ((first | (go_at_call 150; exact Calls.ext_of (HI.out _)) | (go_at_call 119; exact Calls.ext_of (HH.out _)))))
  refine wpQuiet_nil ?_
  rintro _ ⟨x, rfl⟩
  have hbx := x.2
  go_wp2
  go_ret
  exact ⟨rfl, by (repeat (first | (with_reducible exact Below.refl _ _) | (with_reducible assumption) | (with_reducible refine below_step ?_ (by assumption)) | (with_reducible apply below_alloc) | (with_reducible apply below_drewN)))⟩

set_option maxHeartbeats 1000000 in
theorem isSimplicial (n m : Nat) (ku lu v : Value) (xs ys p : List Int) (w : World) (hk : ReadI w ku xs) (hl : ReadI w lu ys) (hv : ReadI w v p) (hck : Cx n xs) (hcl : Cx m ys) (hp : Mp n m p) :
    Calls Try.prog 147 #[cx n ku, cx m lu, v] w fun e w' => e = .returned (.bool (simpOk xs ys p)) ∧ Below w.heap.size w w' := by
  obtain ⟨w0, hw0⟩ : ∃ w0, w0 = (w.alloc (.cells #[.int .i64 n, ku] 28)).alloc (.cells #[.int .i64 m, lu] 28) := ⟨_, rfl⟩
  obtain ⟨w1, hw1⟩ : ∃ w1, w1 = w0.alloc (.cells #[v] 22) := ⟨_, rfl⟩
  have hs0 : w0.heap.size = w.heap.size + 1 + 1 := by rw [hw0]; simp
  have hB0 : Below w.heap.size w w0 := by rw [hw0]; exact ((Below.refl _ w).alloc (Nat.le_refl _) _).alloc (by simp) _
  have hB01 : Below w0.heap.size w0 w1 := by rw [hw1]; exact Below.alloc (Below.refl _ _) (Nat.le_refl _) _
  have hB : Below w.heap.size w w1 := hB0.trans (hB01.mono hB0.size)
  have c1 : w1.cell? ⟨w.heap.size, 1, none⟩ = some ku := pw_cell_below hB01 (by rw [hw0]; simp)
  have c2 : w1.cell? ⟨w.heap.size + 1, 0, none⟩ = some (.int .i64 m) := pw_cell_below hB01 (by rw [hw0]; simp)
  have c3 : w1.cell? ⟨w.heap.size + 1, 1, none⟩ = some lu := pw_cell_below hB01 (by rw [hw0]; simp)
  have c4 : w1.cell? ⟨w.heap.size + 1 + 1, 0, none⟩ = some v := by rw [hw1, ← hs0]; simp
  have HK := Aside0.mk (hk.below hB)
  have HP := Aside0.mk (isSimplicial1 w1 (w.heap.size + 1) (w.heap.size + 1 + 1) n m lu v ys p hck.hi (hl.below hB) (hv.below hB) hcl hp c2 c3 c4)
  have HD : Aside0 (∀ x ∈ xs, 0 ≤ x ∧ x < ((2 ^ n : Nat) : Int)) := ⟨fun x hx => by have := hck.bd x hx; omega⟩
  have HB := Aside0.mk hB
  obtain ⟨A1, d1, rfl, -⟩ := id hk
  obtain ⟨A2, d2, rfl, -⟩ := id hl
  obtain ⟨A3, d3, rfl, -⟩ := id hv
  clear hk hl hv hB hck hcl hp c2 c3 c4 hB0 hB01 hs0
  subst hw0
  go_enter Try.func147, Try.ntmps147
  go_wp2_with (first | (rw [← hw1]; clear hw1; go_at_call 117; refine (areAll _ _ _ _ _ _ HK.out HP.out HD.out).mono ?_; rintro e w2 ⟨rfl, hb⟩))
  go_ret
  exact ⟨rfl, by have := HB.out; (repeat (first | (with_reducible exact Below.refl _ _) | (with_reducible assumption) | (with_reducible refine below_step ?_ (by assumption)) | (with_reducible apply below_alloc) | (with_reducible apply below_drewN)))⟩

set_option maxHeartbeats 2000000 in
theorem specSimplicial (n m : Nat) (ku lu v : Value) (xs ys p : List Int) (w : World) (hk : ReadI w ku xs) (hl : ReadI w lu ys) (hv : ReadI w v p) (hck : Cx n xs) (hcl : Cx m ys) (hp : Mp n m p) :
    Calls Try.prog 144 #[cx n ku, cx m lu, v] w fun e w' => e = .returned (.bool (simpOk xs ys p)) ∧ Below w.heap.size w w' := by
  obtain ⟨w1, hw1⟩ : ∃ w1, w1 = (w.alloc (.cells #[.int .i64 n, ku] 28)).alloc (.cells #[.int .i64 m, lu] 28) := ⟨_, rfl⟩
  have hB : Below w.heap.size w w1 := by rw [hw1]; exact ((Below.refl _ w).alloc (Nat.le_refl _) _).alloc (by simp) _
  have c0 : w1.cell? ⟨w.heap.size, 0, none⟩ = some (.int .i64 n) := by rw [hw1]; simp
  have c1 : w1.cell? ⟨w.heap.size, 1, none⟩ = some ku := by rw [hw1]; simp
  have c2 : w1.cell? ⟨w.heap.size + 1, 0, none⟩ = some (.int .i64 m) := by rw [hw1]; simp
  have c3 : w1.cell? ⟨w.heap.size + 1, 1, none⟩ = some lu := by rw [hw1]; simp
  have HL := Aside0.mk (hl.below hB)
  have HV := Aside0.mk (hv.below hB)
  have HB := Aside0.mk hB
  have hk1 := hk.below hB
  obtain ⟨A1, d1, rfl, -⟩ := id hl
  obtain ⟨A2, d2, rfl, -⟩ := id hv
  obtain ⟨A, c, rfl, hc, hr⟩ := hk1
  have HR := Aside0.mk hr
  have hlen := hr.2.1
  have HCK := Aside0.mk hck
  have HCL := Aside0.mk hcl
  have HMP := Aside0.mk hp
  clear hk hl hv hB hck hcl hp hr
  go_enter Try.func144, Try.ntmps144
  go_wp2
  rw [← hw1]
  clear hw1
  go_loopw [7] (fun v wr => ∃ i : Nat, v = .int .i64 i ∧ i ≤ xs.length ∧ Aside0 (∀ k, k < i → simpAt ys p (xs.getD k 0) = true) ∧ Below w1.heap.size w1 wr) (fun v _ => xs.length - (intOf v).toNat)
  case atStart => exact ⟨0, rfl, Nat.zero_le _, ⟨fun j hj => absurd hj (Nat.not_lt_zero _)⟩, Below.refl _ _⟩
  case round =>
    obtain ⟨i, rfl, hi, HU, hb⟩ := hrel
    have c0 := pw_cell_below hb c0
    have c1 := pw_cell_below hb c1
    have c2 := pw_cell_below hb c2
    have c3 := pw_cell_below hb c3
    have HBr := Aside0.mk hb
    by_cases hlt : i < xs.length
    · obtain ⟨ad, y, rfl, hcell, HY⟩ := ReadI.get (Kd.C_below HR.out hb) hlt
      obtain ⟨f, rfl, hf1, hf2⟩ := HCK.out.nat (mem_at hlt HY.out)
      clear hb
      have x1 : ∀ x : Ext wr, x.1.cell? ⟨w.heap.size, 1, none⟩ = some (.slice (some ad) xs.length c) := fun x => Ext.cell c1 x
      have x2 : ∀ x : Ext wr, x.1.cell? ⟨w.heap.size + 1, 0, none⟩ = some (.int .i64 m) := fun x => Ext.cell c2 x
      have x3 : ∀ x : Ext wr, x.1.cell? ⟨w.heap.size + 1, 1, none⟩ = some (.slice A1 ys.length d1) := fun x => Ext.cell c3 x
      have x4 : ∀ x : Ext wr, x.1.cell? (ad.add i) = some (.int .i64 f) := fun x => Ext.cell hcell x
      clear hcell
      have hj1 : (0 : Int) ≤ (i : Int) := by omega
      have hj2 : (i : Int) < (xs.length : Int) := by omega
      have HI : Aside0 (∀ x : Ext wr, Calls Try.prog 129 #[.int .i64 f, .slice A2 p.length d2] x.1 fun e w' => e = .returned (.int .i64 (img f p : Nat)) ∧ Below x.1.heap.size x.1 w') := ⟨fun x => specMoved f hf2 _ p x.1 (HV.out.below (HBr.out.trans (x.2.mono HBr.out.size))) (by rw [HMP.out.len]; exact HCK.out.hi) (HMP.out.bd5 HCL.out.hi)⟩
      have HH : Aside0 (∀ x : Ext wr, Calls Try.prog 100 #[cx m (.slice A1 ys.length d1), .int .i64 (img f p : Nat)] x.1 fun e w' => e = .returned (.bool (simpAt ys p f)) ∧ Below x.1.heap.size x.1 w') := ⟨fun x => specHas m _ ys _ x.1 (HL.out.below (HBr.out.trans (x.2.mono HBr.out.size)))⟩
      have HS : Aside0 (simpAt ys p (xs.getD i 0) = simpAt ys p f) := ⟨by rw [HY.out]⟩
      have HALL : Aside0 (simpAt ys p (f : Int) = false → simpOk xs ys p = false) := ⟨fun h => all_false hlt HY.out h⟩
      generalize simpAt ys p (f : Int) = r at *
      generalize img f p = g at *
      cases r with
      | false =>
        go_wp2
        refine wp_region_ext (by kernel_rfl) (by kernel_rfl) ?_
        repeat (go_big_quiet_step ((first | (go_at_call 129; exact Calls.ext_of (HI.out _)) | (go_at_call 100; exact Calls.ext_of (HH.out _)))))
        refine wpQuiet_nil ?_
        rintro _ ⟨x, rfl⟩
        have hbx := x.2
        go_wp2
        go_ret
        exact ⟨by rw [HALL.out (by trivial)]; rfl, by have := HB.out; have := HBr.out; (repeat (first | (with_reducible exact Below.refl _ _) | (with_reducible assumption) | (with_reducible refine below_step ?_ (by assumption)) | (with_reducible apply below_alloc) | (with_reducible apply below_drewN)))⟩
      | true =>
        go_wp2
        refine wp_region_ext (by kernel_rfl) (by kernel_rfl) ?_
        repeat (go_big_quiet_step ((first | (go_at_call 129; exact Calls.ext_of (HI.out _)) | (go_at_call 100; exact Calls.ext_of (HH.out _)))))
        refine wpQuiet_nil ?_
        rintro _ ⟨x, rfl⟩
        have hbx := x.2
        go_wp2
        go_roundw
        case rel =>
          refine ⟨i + 1, by go_num, by omega, ⟨fun k hk => ?_⟩, by have := HBr.out; (repeat (first | (with_reducible exact Below.refl _ _) | (with_reducible assumption) | (with_reducible refine below_step ?_ (by assumption)) | (with_reducible apply below_alloc) | (with_reducible apply below_drewN)))⟩
          rcases Nat.lt_succ_iff_lt_or_eq.1 hk with h | rfl
          · exact HU.out k h
          · exact HS.out
        case measure => simp [intOf]; omega
    · have HE : Aside0 (simpOk xs ys p = true) := ⟨all_true (fun k hk => HU.out k (by omega))⟩
      clear hb
      go_wp2
      go_ret
      exact ⟨by rw [HE.out]; rfl, by have := HB.out; have := HBr.out; (repeat (first | (with_reducible exact Below.refl _ _) | (with_reducible assumption) | (with_reducible refine below_step ?_ (by assumption)) | (with_reducible apply below_alloc) | (with_reducible apply below_drewN)))⟩
end Go.Proofs.Ytcbkchnfjeegmaa.H

namespace Go.Proofs.Ytcbkchnfjeegmaa.H
open Go.RowKit Go.Proofs.YtcbkchnfjeegmaaW.PrintWords Go.Proofs.YtcbkchnfjeegmaaW.PrintLast Go.Proofs.YtcbkchnfjeegmaaW.PrintMore
set_option linter.unusedVariables false
set_option linter.unusedSimpArgs false

/-- the code for simplicial maps -/
def codeSimp (a b : Int) (xs ys : List Int) (fs : List (List Int)) (r : Bool) : Int :=
  if cxOk a xs && cxOk b ys then (if fs.all (mapOk a.toNat b.toNat) && r then (if fs.all (simpOk xs ys) then 0 else 5) else 2) else 1
theorem codeSimp_map {a b : Int} {xs ys : List Int} {fs : List (List Int)} {r : Bool} : codeMap a b xs ys fs r ≠ 0 → codeSimp a b xs ys fs r = codeMap a b xs ys fs r := by
  unfold codeSimp codeMap
  split
  · split
    · intro h; exact absurd rfl h
    · intro _; rfl
  · intro _; rfl
theorem codeMap_zero {a b : Int} {xs ys : List Int} {fs : List (List Int)} {r : Bool} (h : codeMap a b xs ys fs r = 0) : ∃ n m : Nat, a = n ∧ b = m ∧ Cx n xs ∧ Cx m ys ∧ (∀ f ∈ fs, Mp n m f) ∧ r = true ∧ codeSimp a b xs ys fs r = if fs.all (simpOk xs ys) then 0 else 5 := by
  unfold codeMap at h
  unfold codeSimp
  cases h1 : (cxOk a xs && cxOk b ys) with
  | false => rw [h1] at h; simp at h
  | true =>
    rw [h1] at h
    have hx := h1
    rw [Bool.and_eq_true] at hx
    obtain ⟨n, rfl, hcn, -⟩ := cxOk_cx hx.1
    obtain ⟨m, rfl, hcm, -⟩ := cxOk_cx hx.2
    cases h2 : (fs.all (mapOk (n : Int).toNat (m : Int).toNat) && r) with
    | false => rw [h2] at h; simp at h
    | true =>
      have h3 := h2
      rw [Bool.and_eq_true, List.all_eq_true] at h3
      exact ⟨n, m, rfl, rfl, hcn, hcm, fun f hf => mapOk_mp (h3.1 f hf), h3.2, rfl⟩

set_option maxHeartbeats 1000000 in
theorem simplicialCode1 (w : World) (bk bl : Nat) (n m : Nat) (ku lu : Value) (xs ys : List Int) (hk : ReadI w ku xs) (hl : ReadI w lu ys) (hn : Cx n xs) (hm : Cx m ys) (h0 : w.cell? ⟨bk, 0, none⟩ = some (.int .i64 n)) (h1 : w.cell? ⟨bk, 1, none⟩ = some ku) (h2 : w.cell? ⟨bl, 0, none⟩ = some (.int .i64 m)) (h3 : w.cell? ⟨bl, 1, none⟩ = some lu) :
    PredS w (.func (.func 146) #[] #[.pointer (some ⟨bk, 0, none⟩), .pointer (some ⟨bl, 0, none⟩)]) (simpOk xs ys) (Mp n m) := by
  refine ⟨_, _, _, rfl, Enters.mk' Try.func146 rfl rfl, fun w1 u f hb hx hp => ?_⟩
  have c0 := pw_cell_below hb h0
  have c1 := pw_cell_below hb h1
  have c2 := pw_cell_below hb h2
  have c3 := pw_cell_below hb h3
  have HC := Aside0.mk (isSimplicial n m ku lu u xs ys f w1 (hk.below hb) (hl.below hb) hx hn hm hp)
  obtain ⟨A1, d1, rfl, -⟩ := id hk
  obtain ⟨A2, d2, rfl, -⟩ := id hl
  clear hb h0 h1 h2 h3 hx hk hl hn hm hp
  show Calls _ _ #[_, _, _] _ _
  go_enter Try.func146, Try.ntmps146
  go_wp2_with (first | (go_at_call 147; refine HC.out.mono ?_; rintro e w' ⟨rfl, hb⟩))
  go_ret
  exact ⟨rfl, by (repeat (first | (with_reducible exact Below.refl _ _) | (with_reducible assumption) | (with_reducible refine below_step ?_ (by assumption)) | (with_reducible apply below_alloc) | (with_reducible apply below_drewN)))⟩

set_option maxHeartbeats 2000000 in
theorem simplicialCode (a b : Int) (ku lu : Value) (xs ys : List Int) (fv lv : Value) (r : Bool) (fs : List (List Int)) (w : World) (hk : ReadI w ku xs) (hl : ReadI w lu ys) (hf : cxOk a xs = true → cxOk b ys = true → ThunkB w fv r) (hfv : ∃ g first caps, fv = .func (.func g) first caps) (hs : ReadS w lv fs) :
    Calls Try.prog 88 #[cx a ku, cx b lu, fv, lv] w fun e w' => e = .returned (.int .i64 (codeSimp a b xs ys fs r)) ∧ Below w.heap.size w w' := by
  obtain ⟨w1, hw1⟩ : ∃ w1, w1 = (w.alloc (.cells #[.int .i64 a, ku] 28)).alloc (.cells #[.int .i64 b, lu] 28) := ⟨_, rfl⟩
  have hB : Below w.heap.size w w1 := by rw [hw1]; exact ((Below.refl _ w).alloc (Nat.le_refl _) _).alloc (by simp) _
  have c0 : w1.cell? ⟨w.heap.size, 0, none⟩ = some (.int .i64 a) := by rw [hw1]; simp
  have c1 : w1.cell? ⟨w.heap.size, 1, none⟩ = some ku := by rw [hw1]; simp
  have c2 : w1.cell? ⟨w.heap.size + 1, 0, none⟩ = some (.int .i64 b) := by rw [hw1]; simp
  have c3 : w1.cell? ⟨w.heap.size + 1, 1, none⟩ = some lu := by rw [hw1]; simp
  have HK := Aside0.mk (hk.below hB)
  have HL := Aside0.mk (hl.below hB)
  have HS := Aside0.mk (hs.below hB)
  have HB := Aside0.mk hB
  have HM := Aside0.mk (mapCode a b _ _ xs ys fv lv r fs w1 HK.out HL.out (fun x y => (hf x y).below hB) hfv HS.out)
  obtain ⟨A1, d1, rfl, -⟩ := id hk
  obtain ⟨A2, d2, rfl, -⟩ := id hl
  obtain ⟨A3, d3, rfl, -⟩ := id hs
  obtain ⟨g, first, caps, rfl⟩ := hfv
  clear hk hl hs hf hB
  by_cases h0 : codeMap a b xs ys fs r = 0
  · obtain ⟨n, m, rfl, rfl, hcn, hcm, hmp, hr, hcs⟩ := codeMap_zero h0
    have HN := Aside0.mk hcn
    have HM2 := Aside0.mk hcm
    have HP := Aside0.mk hmp
    have HA := Aside0.mk hcs
    clear hcn hcm hmp hcs hr
    cases h3 : fs.all (simpOk xs ys) with
    | false =>
      rw [h3] at HA
      go_enter Try.func88, Try.ntmps88
      go_wp2_with (first | (rw [← hw1]; clear hw1; go_at_call 145; refine HM.out.mono ?_; rintro e w2 ⟨rfl, hb⟩; rw [h0]; have c0 := pw_cell_below hb c0; have c1 := pw_cell_below hb c1; have c2 := pw_cell_below hb c2; have c3 := pw_cell_below hb c3; have HB2 := Aside0.mk hb; clear hb; have HP1 := Aside0.mk (simplicialCode1 _ _ _ n m _ _ xs ys (HK.out.below HB2.out) (HL.out.below HB2.out) HN.out HM2.out c0 c1 c2 c3)) | (go_at_call 105; refine (areAllS _ _ _ _ _ _ (HS.out.below HB2.out) HP1.out HP.out).mono ?_; rintro e w3 ⟨rfl, hb3⟩; rw [h3]))
      go_ret
      exact ⟨by rw [HA.out]; rfl, by have := HB.out; have := HB2.out; (repeat (first | (with_reducible exact Below.refl _ _) | (with_reducible assumption) | (with_reducible refine below_step ?_ (by assumption)) | (with_reducible apply below_alloc) | (with_reducible apply below_drewN)))⟩
    | true =>
      rw [h3] at HA
      go_enter Try.func88, Try.ntmps88
      go_wp2_with (first | (rw [← hw1]; clear hw1; go_at_call 145; refine HM.out.mono ?_; rintro e w2 ⟨rfl, hb⟩; rw [h0]; have c0 := pw_cell_below hb c0; have c1 := pw_cell_below hb c1; have c2 := pw_cell_below hb c2; have c3 := pw_cell_below hb c3; have HB2 := Aside0.mk hb; clear hb; have HP1 := Aside0.mk (simplicialCode1 _ _ _ n m _ _ xs ys (HK.out.below HB2.out) (HL.out.below HB2.out) HN.out HM2.out c0 c1 c2 c3)) | (go_at_call 105; refine (areAllS _ _ _ _ _ _ (HS.out.below HB2.out) HP1.out HP.out).mono ?_; rintro e w3 ⟨rfl, hb3⟩; rw [h3]))
      go_ret
      exact ⟨by rw [HA.out]; rfl, by have := HB.out; have := HB2.out; (repeat (first | (with_reducible exact Below.refl _ _) | (with_reducible assumption) | (with_reducible refine below_step ?_ (by assumption)) | (with_reducible apply below_alloc) | (with_reducible apply below_drewN)))⟩
  · have HA := Aside0.mk (codeSimp_map h0)
    obtain ⟨q, hq⟩ : ∃ q, q = codeMap a b xs ys fs r := ⟨_, rfl⟩
    rw [← hq] at h0 HA
    have hqb : (q != 0) = true := by simpa using h0
    have HQ := Aside0.mk hq
    clear hq h0
    go_enter Try.func88, Try.ntmps88
    go_wp2_with (first | (rw [← hw1]; clear hw1; go_at_call 145; refine HM.out.mono ?_; rintro e w2 ⟨rfl, hb⟩; rw [← HQ.out]))
    go_ret
    exact ⟨by rw [HA.out]; rfl, by have := HB.out; (repeat (first | (with_reducible exact Below.refl _ _) | (with_reducible assumption) | (with_reducible refine below_step ?_ (by assumption)) | (with_reducible apply below_alloc) | (with_reducible apply below_drewN)))⟩

set_option maxHeartbeats 1000000 in
theorem specCode (a : Int) (ku : Value) (xs : List Int) (b : Int) (lu : Value) (ys : List Int) (v : Value) (f : List Int) (w : World) (hk : ReadI w ku xs) (hl : ReadI w lu ys) (hv : ReadI w v f) :
    Calls Try.prog 85 #[cx a ku, cx b lu, v] w fun e w' => e = .returned (.int .i64 (codeSimp a b xs ys [f] true)) ∧ Below w.heap.size w w' := by
  obtain ⟨w1, hw1⟩ : ∃ w1, w1 = (w.alloc (.cells #[.int .i64 a, ku] 28)).alloc (.cells #[.int .i64 b, lu] 28) := ⟨_, rfl⟩
  have hB : Below w.heap.size w w1 := by rw [hw1]; exact ((Below.refl _ w).alloc (Nat.le_refl _) _).alloc (by simp) _
  have c0 : w1.cell? ⟨w.heap.size, 0, none⟩ = some (.int .i64 a) := by rw [hw1]; simp
  have c1 : w1.cell? ⟨w.heap.size, 1, none⟩ = some ku := by rw [hw1]; simp
  have c2 : w1.cell? ⟨w.heap.size + 1, 0, none⟩ = some (.int .i64 b) := by rw [hw1]; simp
  have c3 : w1.cell? ⟨w.heap.size + 1, 1, none⟩ = some lu := by rw [hw1]; simp
  have HK := Aside0.mk (hk.below hB)
  have HL := Aside0.mk (hl.below hB)
  have HV := Aside0.mk (hv.below hB)
  have HB := Aside0.mk hB
  obtain ⟨A1, d1, rfl, -⟩ := id hk
  obtain ⟨A2, d2, rfl, -⟩ := id hl
  obtain ⟨A3, d3, rfl, -⟩ := id hv
  clear hk hl hv hB
  cases h1 : cxOk a xs with
  | false =>
    have HA : Aside0 (codeSimp a b xs ys [f] true = 1) := ⟨by unfold codeSimp; rw [h1]; rfl⟩
    go_enter Try.func85, Try.ntmps85
    go_wp2_with (first | (rw [← hw1]; clear hw1; go_at_call 56; refine (specIs _ _ xs _ HK.out).mono ?_; rintro e w2 ⟨rfl, hb⟩; rw [h1]))
    go_ret
    exact ⟨by rw [HA.out]; rfl, by have := HB.out; (repeat (first | (with_reducible exact Below.refl _ _) | (with_reducible assumption) | (with_reducible refine below_step ?_ (by assumption)) | (with_reducible apply below_alloc) | (with_reducible apply below_drewN)))⟩
  | true =>
    obtain ⟨n, rfl, hcn, -⟩ := cxOk_cx h1
    cases h2 : cxOk b ys with
    | false =>
      have HA : Aside0 (codeSimp n b xs ys [f] true = 1) := ⟨by unfold codeSimp; rw [h1, h2]; rfl⟩
      go_enter Try.func85, Try.ntmps85
      go_wp2_with (first | (rw [← hw1]; clear hw1; go_at_call 56; refine (specIs _ _ xs _ HK.out).mono ?_; rintro e w2 ⟨rfl, hb⟩; rw [h1]; have c2 := pw_cell_below hb c2; have c3 := pw_cell_below hb c3) | (go_at_call 56; refine (specIs _ _ ys _ (HL.out.below ?hx)).mono ?_; (case hx => (repeat (first | (with_reducible exact Below.refl _ _) | (with_reducible assumption) | (with_reducible refine below_step ?_ (by assumption)) | (with_reducible apply below_alloc) | (with_reducible apply below_drewN)))); rintro e w2 ⟨rfl, hb⟩; rw [h2]))
      go_ret
      exact ⟨by rw [HA.out]; rfl, by have := HB.out; (repeat (first | (with_reducible exact Below.refl _ _) | (with_reducible assumption) | (with_reducible refine below_step ?_ (by assumption)) | (with_reducible apply below_alloc) | (with_reducible apply below_drewN)))⟩
    | true =>
      obtain ⟨m, rfl, hcm, -⟩ := cxOk_cx h2
      have hn := hcn.hi
      have hm := hcm.hi
      cases h3 : mapOk n m f with
      | false =>
        have HA : Aside0 (codeSimp n m xs ys [f] true = 2) := ⟨by unfold codeSimp; simp [h1, h2, h3]⟩
        clear hcn hcm
        go_enter Try.func85, Try.ntmps85
        go_wp2_with (first | (rw [← hw1]; clear hw1; go_at_call 56; refine (specIs _ _ xs _ HK.out).mono ?_; rintro e w2 ⟨rfl, hb⟩; rw [h1]; have c0 := pw_cell_below hb c0; have c1 := pw_cell_below hb c1; have c2 := pw_cell_below hb c2; have c3 := pw_cell_below hb c3; have HB2 := Aside0.mk hb; clear hb) | (go_at_call 56; refine (specIs _ _ ys _ (HL.out.below HB2.out)).mono ?_; rintro e w3 ⟨rfl, hb⟩; rw [h2]; have c0 := pw_cell_below hb c0; have c1 := pw_cell_below hb c1; have c2 := pw_cell_below hb c2; have c3 := pw_cell_below hb c3; have HB3 := Aside0.mk (HB2.out.trans (hb.mono HB2.out.size)); clear hb) | (go_at_call 143; refine (specMap n m hn hm _ _ _ f _ (HV.out.below HB3.out)).mono ?_; rintro e w4 ⟨rfl, hb4⟩; rw [h3]))
        go_ret
        exact ⟨by rw [HA.out]; rfl, by have := HB.out; have := HB3.out; (repeat (first | (with_reducible exact Below.refl _ _) | (with_reducible assumption) | (with_reducible refine below_step ?_ (by assumption)) | (with_reducible apply below_alloc) | (with_reducible apply below_drewN)))⟩
      | true =>
        have HN := Aside0.mk hcn
        have HM2 := Aside0.mk hcm
        have HP := Aside0.mk (mapOk_mp h3)
        clear hcn hcm
        cases h4 : simpOk xs ys f with
        | false =>
          have HA : Aside0 (codeSimp n m xs ys [f] true = 5) := ⟨by unfold codeSimp; simp [h1, h2, h3, h4]⟩
          go_enter Try.func85, Try.ntmps85
          go_wp2_with (first | (rw [← hw1]; clear hw1; go_at_call 56; refine (specIs _ _ xs _ HK.out).mono ?_; rintro e w2 ⟨rfl, hb⟩; rw [h1]; have c0 := pw_cell_below hb c0; have c1 := pw_cell_below hb c1; have c2 := pw_cell_below hb c2; have c3 := pw_cell_below hb c3; have HB2 := Aside0.mk hb; clear hb) | (go_at_call 56; refine (specIs _ _ ys _ (HL.out.below HB2.out)).mono ?_; rintro e w3 ⟨rfl, hb⟩; rw [h2]; have c0 := pw_cell_below hb c0; have c1 := pw_cell_below hb c1; have c2 := pw_cell_below hb c2; have c3 := pw_cell_below hb c3; have HB3 := Aside0.mk (HB2.out.trans (hb.mono HB2.out.size)); clear hb) | (go_at_call 143; refine (specMap n m hn hm _ _ _ f _ (HV.out.below HB3.out)).mono ?_; rintro e w4 ⟨rfl, hb⟩; rw [h3]; have c0 := pw_cell_below hb c0; have c1 := pw_cell_below hb c1; have c2 := pw_cell_below hb c2; have c3 := pw_cell_below hb c3; have HB4 := Aside0.mk (HB3.out.trans (hb.mono HB3.out.size)); clear hb) | (go_at_call 144; refine (specSimplicial n m _ _ _ xs ys f _ (HK.out.below HB4.out) (HL.out.below HB4.out) (HV.out.below HB4.out) HN.out HM2.out HP.out).mono ?_; rintro e w5 ⟨rfl, hb5⟩; rw [h4]))
          go_ret
          exact ⟨by rw [HA.out]; rfl, by have := HB.out; have := HB4.out; (repeat (first | (with_reducible exact Below.refl _ _) | (with_reducible assumption) | (with_reducible refine below_step ?_ (by assumption)) | (with_reducible apply below_alloc) | (with_reducible apply below_drewN)))⟩
        | true =>
          have HA : Aside0 (codeSimp n m xs ys [f] true = 0) := ⟨by unfold codeSimp; simp [h1, h2, h3, h4]⟩
          go_enter Try.func85, Try.ntmps85
          go_wp2_with (first | (rw [← hw1]; clear hw1; go_at_call 56; refine (specIs _ _ xs _ HK.out).mono ?_; rintro e w2 ⟨rfl, hb⟩; rw [h1]; have c0 := pw_cell_below hb c0; have c1 := pw_cell_below hb c1; have c2 := pw_cell_below hb c2; have c3 := pw_cell_below hb c3; have HB2 := Aside0.mk hb; clear hb) | (go_at_call 56; refine (specIs _ _ ys _ (HL.out.below HB2.out)).mono ?_; rintro e w3 ⟨rfl, hb⟩; rw [h2]; have c0 := pw_cell_below hb c0; have c1 := pw_cell_below hb c1; have c2 := pw_cell_below hb c2; have c3 := pw_cell_below hb c3; have HB3 := Aside0.mk (HB2.out.trans (hb.mono HB2.out.size)); clear hb) | (go_at_call 143; refine (specMap n m hn hm _ _ _ f _ (HV.out.below HB3.out)).mono ?_; rintro e w4 ⟨rfl, hb⟩; rw [h3]; have c0 := pw_cell_below hb c0; have c1 := pw_cell_below hb c1; have c2 := pw_cell_below hb c2; have c3 := pw_cell_below hb c3; have HB4 := Aside0.mk (HB3.out.trans (hb.mono HB3.out.size)); clear hb) | (go_at_call 144; refine (specSimplicial n m _ _ _ xs ys f _ (HK.out.below HB4.out) (HL.out.below HB4.out) (HV.out.below HB4.out) HN.out HM2.out HP.out).mono ?_; rintro e w5 ⟨rfl, hb5⟩; rw [h4]))
          go_ret
          exact ⟨by rw [HA.out]; rfl, by have := HB.out; have := HB4.out; (repeat (first | (with_reducible exact Below.refl _ _) | (with_reducible assumption) | (with_reducible refine below_step ?_ (by assumption)) | (with_reducible apply below_alloc) | (with_reducible apply below_drewN)))⟩
end Go.Proofs.Ytcbkchnfjeegmaa.H

namespace Go.Proofs.Ytcbkchnfjeegmaa.H
open Go.RowKit Go.Proofs.YtcbkchnfjeegmaaW.PrintWords Go.Proofs.YtcbkchnfjeegmaaW.PrintLast Go.Proofs.YtcbkchnfjeegmaaW.PrintMore
set_option linter.unusedVariables false
set_option linter.unusedSimpArgs false

theorem ReadS.one' {W : World} {u : Value} {p : List Int} (h : ReadI W u p) : ReadS (W.alloc (.cells #[u] 22)) (.slice (some ⟨W.heap.size, 0, none⟩) 1 1) [p] := by
  refine ⟨_, 1, rfl, by simp, fun i xs hi => ?_⟩
  cases i with
  | zero =>
    simp at hi
    subst hi
    exact ⟨_, u, rfl, by rw [add_mk]; exact blk_cell (blk_new W _) 0, h.below (Below.alloc (Below.refl _ _) (Nat.le_refl _) _)⟩
  | succ i => simp at hi
end Go.Proofs.Ytcbkchnfjeegmaa.H
