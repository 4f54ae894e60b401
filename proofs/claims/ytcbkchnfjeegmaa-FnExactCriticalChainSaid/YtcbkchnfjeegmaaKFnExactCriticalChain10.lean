/- Flows of the program. A chain with a face turned: the reference's l06Put. A chain with a face turned: the walk of l06Put. -/
import Derived.Deep.AppendLies
import Derived.Test.YtcbkchnfjeegmaaKFnExactCriticalChain1
import Derived.Test.YtcbkchnfjeegmaaKFnExactCriticalChain2
import Derived.Test.YtcbkchnfjeegmaaKFnExactCriticalChain3
import Derived.Test.YtcbkchnfjeegmaaKFnExactCriticalChain4
import Derived.Test.YtcbkchnfjeegmaaKFnExactCriticalChain5
import Derived.Test.YtcbkchnfjeegmaaKFnExactCriticalChain6
import Derived.Test.YtcbkchnfjeegmaaKFnExactCriticalChain7
import Derived.Test.YtcbkchnfjeegmaaKFnExactCriticalChain8
import Derived.Test.YtcbkchnfjeegmaaKFnExactCriticalChain9

namespace Go.Proofs.Ytcbkchnfjeegmaa.H
open Go.RowKit Go.Proofs.YtcbkchnfjeegmaaW.PrintWords Go.Proofs.YtcbkchnfjeegmaaW.PrintLast Go.Proofs.YtcbkchnfjeegmaaW.PrintMore
set_option linter.unusedVariables false
set_option linter.unusedSimpArgs false

theorem pushB_snoc (p : Int × Int) (m : Nat) : ∀ l : List (Int × Int), pushB (l ++ [p]) m = pushB l m ^^^ (if m.testBit p.1.toNat then 2 ^ p.2.toNat else 0)
  | [] => by rw [List.nil_append, pushB_cons]; simp [pushB]
  | q :: r => by rw [List.cons_append, pushB_cons, pushB_cons, pushB_snoc p m r, Nat.xor_assoc]
theorem take_pair {ps : List (Int × Int)} {i : Nat} {x y : Int} (h : ps[i]? = some (x, y)) : ps.take (i + 1) = ps.take i ++ [(x, y)] := by
  have hlt := (List.getElem?_eq_some_iff.1 h)
  rw [List.take_succ_eq_append_getElem hlt.1, hlt.2]
theorem e64 : (2 : Nat) ^ 64 = 18446744073709551616 := by decide
theorem pushB_ltU {ps : List (Int × Int)} (hd : PsDom ps) (m : Nat) : pushB ps m < 18446744073709551616 := by rw [← e64]; exact pushB_lt hd m
theorem bndB_ltU (m : Nat) : bndB (listI m) < 18446744073709551616 := by rw [← e64]; exact bndB_lt2 m
theorem xor_ltU {a b : Nat} (h : a < 18446744073709551616) (k : b < 18446744073709551616) : a ^^^ b < 18446744073709551616 := by rw [← e64] at h k ⊢; exact Nat.xor_lt_two_pow h k
theorem flowB_ltU {ps : List (Int × Int)} (hd : PsDom ps) {m : Nat} (hm : m < 18446744073709551616) : flowB ps m < 18446744073709551616 := by rw [← e64] at hm ⊢; exact flowB_lt hd hm
theorem PsDom.take {ps : List (Int × Int)} (h : PsDom ps) (i : Nat) : PsDom (ps.take i) := fun p hp => h p (List.mem_of_mem_take hp)

set_option maxRecDepth 100000 in
set_option maxHeartbeats 2000000 in
theorem push (v : Value) (ps : List (Int × Int)) (m : Nat) (w : World) (hv : ReadP w v ps) (hd : PsDom ps) (hm : m < 18446744073709551616) :
    Calls Try.prog 127 #[v, .int .u64 m] w fun e w' => e = .returned (.int .u64 (pushB ps m : Nat)) ∧ Below w.heap.size w w' := by
  have HV := Aside0.mk hv
  have HD := Aside0.mk hd
  obtain ⟨A2, d2, rfl, hl2, -⟩ := id hv
  clear hv hd
  go_enter Try.func127, Try.ntmps127
  go_wp2
  go_loopw [5, 10] (fun s5 s10 wr => ∃ i : Nat, s10 = .int .i64 i ∧ i ≤ ps.length ∧ s5 = .int .u64 (pushB (ps.take i) m : Nat) ∧ Aside0 (Below w.heap.size w wr)) (fun _ s10 _ => ps.length - (intOf s10).toNat)
  case atStart => exact ⟨0, rfl, Nat.zero_le _, rfl, ⟨Below.refl _ _⟩⟩
  case round =>
    obtain ⟨i, rfl, hi, rfl, HB⟩ := hrel
    by_cases hlt : i < ps.length
    · obtain ⟨gb, x, y, rfl, hxy, hc0, hc1⟩ := ReadP.get (HV.out.below HB.out) hlt
      have hxd := HD.out (x, y) (List.mem_of_getElem? hxy)
      simp only at hxd
      obtain ⟨xn, rfl⟩ : ∃ xn : Nat, x = xn := ⟨x.toNat, by omega⟩
      obtain ⟨yn, rfl⟩ : ∃ yn : Nat, y = yn := ⟨y.toNat, by omega⟩
      have hiI : (i : Int) < (ps.length : Int) := by omega
      have hsh := powu yn (by omega)
      have hmny : min yn 64 = yn := by omega
      have hmnx : min xn 64 = xn := by omega
      have hpp : 2 ^ yn < 18446744073709551616 := Nat.pow_lt_pow_right (a := 2) (by decide) (show yn < 64 by omega)
      have hbit := shr_bit m xn hm
      have HT : Aside0 (pushB (ps.take (i + 1)) m = pushB (ps.take i) m ^^^ (if m.testBit xn then 2 ^ yn else 0)) := ⟨by rw [take_pair hxy, pushB_snoc]; rfl⟩
      have hS : pushB (ps.take i) m < 18446744073709551616 := pushB_ltU (HD.out.take i) m
      obtain ⟨S, hSe⟩ : ∃ S, S = pushB (ps.take i) m := ⟨_, rfl⟩
      rw [← hSe] at hS HT ⊢
      obtain ⟨P, hP⟩ : ∃ P, P = 2 ^ yn := ⟨_, rfl⟩
      rw [← hP] at hsh hpp HT
      have hxor := xor_u64 S P hS hpp
      have HB2 : ∀ o, Aside0 (Below w.heap.size w (wr.alloc o)) := fun o => ⟨HB.out.alloc HB.out.size o⟩
      clear hSe hP hxy hxd
      cases hb : m.testBit xn with
      | true =>
        rw [hb, if_pos rfl] at hbit HT
        go_wp2
        go_roundw
        case rel => exact ⟨i + 1, by go_num, by omega, by rw [HT.out], HB2 _⟩
        case measure => simp [intOf]; omega
      | false =>
        rw [hb, if_neg (by decide)] at hbit HT
        go_wp2
        go_roundw
        case rel => exact ⟨i + 1, by go_num, by omega, by rw [HT.out, Nat.xor_zero], HB2 _⟩
        case measure => simp [intOf]; omega
    · have e : i = ps.length := by omega
      have HE := Aside0.mk e
      clear e
      go_wp2
      go_ret
      exact ⟨by rw [HE.out, List.take_length]; rfl, HB.out⟩

theorem boundaryW (m : Nat) (hm : m < 18446744073709551616) (hp : ∀ x ∈ listI m, 1 ≤ x ∧ x ≤ 63) (w : World) :
    Calls Try.prog 54 #[.int .u64 m] w fun e w' => e = .returned (.int .u64 (bndB (listI m) : Nat)) ∧ Below w.heap.size w w' := boundary m (listI m) rfl hm hp w

set_option maxRecDepth 100000 in
set_option maxHeartbeats 2000000 in
theorem flow (v : Value) (ps : List (Int × Int)) (m : Nat) (w : World) (hv : ReadP w v ps) (hd : PsDom ps) (hm : m < 18446744073709551616) (h0 : m.testBit 0 = false) :
    Calls Try.prog 71 #[v, .int .u64 m] w fun e w' => e = .returned (.int .u64 (flowB ps m : Nat)) ∧ Below w.heap.size w w' := by
  have hp := pushB_ltU hd m
  have hb := bndB_ltU m
  have hb2 := bndB_ltU (pushB ps m)
  have hp2 := pushB_ltU hd (bndB (listI m))
  have HP1 := Aside0.mk (fun W (h : Below w.heap.size w W) => push v ps m W (hv.below h) hd hm)
  have HP2 := Aside0.mk (fun W (h : Below w.heap.size w W) => push v ps (bndB (listI m)) W (hv.below h) hd hb)
  have HB1 := Aside0.mk (boundaryW m hm (listI_pos h0))
  have HB2 := Aside0.mk (boundaryW (pushB ps m) hp (listI_pos (pushB_zero hd m)))
  have HF : Aside0 (flowB ps m = (m ^^^ bndB (listI (pushB ps m))) ^^^ pushB ps (bndB (listI m))) := ⟨rfl⟩
  obtain ⟨A2, d2, rfl, hl2, -⟩ := id hv
  obtain ⟨P1, hP1⟩ : ∃ P, P = pushB ps m := ⟨_, rfl⟩
  rw [← hP1] at HP1 HB2 HF hb2
  obtain ⟨B1, hB1⟩ : ∃ P, P = bndB (listI m) := ⟨_, rfl⟩
  rw [← hB1] at HB1 HP2 HF hp2
  obtain ⟨B2, hB2⟩ : ∃ P, P = bndB (listI P1) := ⟨_, rfl⟩
  rw [← hB2] at HB2 HF hb2
  obtain ⟨P2, hP2⟩ : ∃ P, P = pushB ps B1 := ⟨_, rfl⟩
  rw [← hP2] at HP2 HF hp2
  have hx1 := xor_u64 m B2 hm hb2
  have hx1l := xor_ltU hm hb2
  obtain ⟨X1, hX1⟩ : ∃ P, P = m ^^^ B2 := ⟨_, rfl⟩
  rw [← hX1] at hx1 hx1l HF
  have hx2 := xor_u64 X1 P2 hx1l hp2
  clear hv hd hm h0 hp hb hP1 hB1 hB2 hP2 hX1 hx1l hp2 hb2
  go_enter Try.func71, Try.ntmps71
  go_wp2_with (first | (go_at_call 127; refine Aside0.out ?_))
  refine Aside0.mk ?_
  with_reducible refine (HP1.out _ (Below.refl _ _)).mono ?_
  rintro e w2 ⟨rfl, hb⟩
  have HW2 := Aside0.mk hb
  clear hb
  go_wp2_with (first | (go_at_call 54; refine Aside0.out ?_))
  refine Aside0.mk ?_
  with_reducible refine (HB2.out _).mono ?_
  rintro e w3 ⟨rfl, hb⟩
  have HW3 := Aside0.mk (HW2.out.trans (hb.mono HW2.out.size))
  clear hb
  go_wp2_with (first | (go_at_call 54; refine Aside0.out ?_))
  refine Aside0.mk ?_
  with_reducible refine (HB1.out _).mono ?_
  rintro e w4 ⟨rfl, hb⟩
  have HW4 := Aside0.mk (HW3.out.trans (hb.mono HW3.out.size))
  clear hb
  go_wp2_with (first | (go_at_call 127; refine Aside0.out ?_))
  refine Aside0.mk ?_
  with_reducible refine (HP2.out _ HW4.out).mono ?_
  rintro e w5 ⟨rfl, hb⟩
  have HW5 := Aside0.mk (HW4.out.trans (hb.mono HW4.out.size))
  clear hb
  go_wp2
  go_ret
  exact ⟨by rw [HF.out]; rfl, HW5.out⟩

set_option maxRecDepth 100000 in
set_option maxHeartbeats 2000000 in
theorem acyclicCode (a : Int) (ku : Value) (xs : List Int) (v : Value) (ps : List (Int × Int)) (r : Bool) (w : World) (hk : ReadI w ku xs) (hv : ReadP w v ps) :
    Calls Try.prog 70 #[cx a ku, v, .bool r] w fun e w' => e = .returned (.int .i64 (if cxOk a xs then (if r && pOk xs ps then (if acyB ps then 0 else 5) else 2) else 1)) ∧ Below w.heap.size w w' := by
  obtain ⟨w1, hw1⟩ : ∃ w1, w1 = w.alloc (.cells #[.int .i64 a, ku] 28) := ⟨_, rfl⟩
  have hB : Below w.heap.size w w1 := by rw [hw1]; exact Below.alloc (Below.refl _ _) (Nat.le_refl _) _
  have c0 : w1.cell? ⟨w.heap.size, 0, none⟩ = some (.int .i64 a) := by rw [hw1]; simp
  have c1 : w1.cell? ⟨w.heap.size, 1, none⟩ = some ku := by rw [hw1]; simp
  have HB := Aside0.mk hB
  have HM := Aside0.mk (pairingCode a ku xs v ps r w1 (hk.below hB) (hv.below hB))
  have HS := Aside0.mk (fun (n : Nat) (hd : PsDom ps) W (h : Below w1.heap.size w1 W) => isAcyclic n ku xs v ps W ((hk.below hB).below h) (ReadP.below (hv.below hB) h) hd)
  obtain ⟨A1, d1, rfl, -⟩ := id hk
  obtain ⟨A2, d2, rfl, -⟩ := id hv
  clear hk hv hB
  cases hx : cxOk a xs with
  | false =>
    rw [hx] at HM
    clear hx
    go_enter Try.func70, Try.ntmps70
    go_wp2_with (first | (go_at_call 81; rw [← hw1]; clear hw1; refine HM.out.mono ?_; rintro e w2 ⟨rfl, hb⟩; have HB2 := Aside0.mk hb; clear hb))
    go_ret
    exact ⟨rfl, HB.out.trans (HB2.out.mono HB.out.size)⟩
  | true =>
    rw [hx] at HM
    obtain ⟨n, rfl, hc, -⟩ := cxOk_cx hx
    cases hp : (r && pOk xs ps) with
    | false =>
      rw [hp] at HM
      clear hp hx hc
      go_enter Try.func70, Try.ntmps70
      go_wp2_with (first | (go_at_call 81; rw [← hw1]; clear hw1; refine HM.out.mono ?_; rintro e w2 ⟨rfl, hb⟩; have HB2 := Aside0.mk hb; clear hb))
      go_ret
      exact ⟨rfl, HB.out.trans (HB2.out.mono HB.out.size)⟩
    | true =>
      rw [hp] at HM
      have hp2 : pOk xs ps = true := by rw [Bool.and_eq_true] at hp; exact hp.2
      have HS2 := Aside0.mk (HS.out n (pOk_dom hc hp2))
      obtain ⟨q, hq⟩ : ∃ q, q = acyB ps := ⟨_, rfl⟩
      rw [← hq] at HS2 ⊢
      clear hp hp2 hx hc HS hq
      cases q with
      | true =>
        go_enter Try.func70, Try.ntmps70
        go_wp2_with (first | (go_at_call 81; rw [← hw1]; clear hw1; refine HM.out.mono ?_; rintro e w2 ⟨rfl, hb⟩; have HB2 := Aside0.mk hb; replace c0 := pw_cell_below hb c0; replace c1 := pw_cell_below hb c1; clear hb) | (go_at_call 66; refine (HS2.out _ HB2.out).mono ?_; rintro e w3 ⟨rfl, hb⟩; have HB3 := Aside0.mk (HB2.out.trans (hb.mono HB2.out.size)); clear hb))
        go_ret
        exact ⟨rfl, HB.out.trans (HB3.out.mono HB.out.size)⟩
      | false =>
        go_enter Try.func70, Try.ntmps70
        go_wp2_with (first | (go_at_call 81; rw [← hw1]; clear hw1; refine HM.out.mono ?_; rintro e w2 ⟨rfl, hb⟩; have HB2 := Aside0.mk hb; replace c0 := pw_cell_below hb c0; replace c1 := pw_cell_below hb c1; clear hb) | (go_at_call 66; refine (HS2.out _ HB2.out).mono ?_; rintro e w3 ⟨rfl, hb⟩; have HB3 := Aside0.mk (HB2.out.trans (hb.mono HB2.out.size)); clear hb))
        go_ret
        exact ⟨rfl, HB.out.trans (HB3.out.mono HB.out.size)⟩
end Go.Proofs.Ytcbkchnfjeegmaa.H

namespace Go.Proofs.Ytcbkchnfjeegmaa.H
open Go.RowKit Go.Proofs.YtcbkchnfjeegmaaW.PrintWords Go.Proofs.YtcbkchnfjeegmaaW.PrintLast Go.Proofs.YtcbkchnfjeegmaaW.PrintMore
set_option linter.unusedVariables false
set_option linter.unusedSimpArgs false

set_option maxRecDepth 100000 in
set_option maxHeartbeats 1000000 in
theorem specOwnC (v : Value) (xs : List Int) (w : World) (hv : ReadI w v xs) (hl : xs.length ≤ 1000000) :
    Calls Try.prog 130 #[v] w fun e w' => ∃ u, e = .returned u ∧ OwnI w.heap.size w' u xs ∧ Below w.heap.size w w' := by
  obtain ⟨A, c, rfl, hc, hr⟩ := id hv
  obtain ⟨w1, hw1⟩ : ∃ w1, w1 = w.alloc (.cells #[] 2) := ⟨_, rfl⟩
  have hB : Below w.heap.size w w1 := by rw [hw1]; exact Below.alloc (Below.refl _ _) (Nat.le_refl _) _
  have hs1 : w.heap.size ≤ w1.heap.size := hB.size
  have HO := Aside0.mk (show OwnI w.heap.size w1 (.slice (some ⟨w.heap.size, 0, none⟩) 0 0) [] by rw [hw1]; exact OwnI.empty w (Nat.le_refl _))
  have HB := Aside0.mk hB
  have HR := Aside0.mk (Kd.C_below hr hB)
  clear hr hv hB
  go_enter Try.func130, Try.ntmps130
  go_wp2_with (first | ((with_reducible refine gate_builtin (b := .append) (xs := #[.tmp 3, .tmp 4]) rfl ?_); rw [← hw1]; clear hw1; refine Kd.R_append_row (Value.int .i64) (0 : Int) (w0 := w) w.heap.size rfl (.tmp 3) (.tmp 4) 22 2 (.int .i64 0) 8 rfl Try.underlying22 info64 rfl (by decide) _ [] xs A xs.length c (fun _ => True) rfl rfl (fun _ _ => trivial) HO.out HR.out HB.out hs1 (by simp; omega) ?_; intro v1 w2 ho hb hg hat; have HO2 := Aside0.mk ho; have HB2 := Aside0.mk hb; clear ho hb hg hat))
  go_ret
  exact ⟨_, rfl, HO2.out, HB2.out⟩

/-- xs[k:] -/
theorem ReadI.from_ {w : World} {A : Option Addr} {n c : Nat} {xs : List Int} (h : ReadI w (.slice A n c) xs) {k : Nat} (hk : k ≤ xs.length) :
    ∃ A' c', (∀ W : World, (Instr.slice 22 (.slice A n c) (some (.int .i64 (k : Int))) none none).run Try.prog W = .ok (.slice A' (xs.length - k) c') W) ∧ ReadI w (.slice A' (xs.length - k) c') (xs.drop k) ∧ (A ≠ none → A' ≠ none) := by
  obtain ⟨A0, c0, e, hc, hr⟩ := h
  cases e
  obtain ⟨i, hi, hs⟩ := Option.map_eq_some_iff.1 (show (Try.prog.info? 2).map (·.size) = some 1 by kernel_rfl)
  have h2 : (k : Int) ≤ (xs.length : Int) := by omega
  have hrun : ∀ W : World, (Instr.slice 22 (.slice A xs.length c) (some (.int .i64 (k : Int))) none none).run Try.prog W = .ok (.slice (if c = k then A else A.map (·.add k)) (xs.length - k) (c - k)) W := fun W => by
    have h3 : ¬ xs.length < k := by omega
    by_cases hck : c = k
    · simp [Instr.slice, Instr.sliceBounds, Instr.sliceBound, asIntOf, run_underlying Try.underlying22, sizeOf, typeInfo, hi, hs, go_sem, h2, h3, hck]
    · simp [Instr.slice, Instr.sliceBounds, Instr.sliceBound, asIntOf, run_underlying Try.underlying22, sizeOf, typeInfo, hi, hs, go_sem, h2, h3, hck]
  have hne : A ≠ none → (if c = k then A else A.map (·.add k)) ≠ none := fun hA => by
    split
    · exact hA
    · cases A with
      | none => exact absurd rfl hA
      | some a => simp
  refine ⟨_, _, hrun, ⟨_, _, by rw [List.length_drop], by rw [List.length_drop]; omega, Kd.C_of_reads (d := (0 : Int)) (h1 := fun _ => rfl) ⟨rfl, by rw [List.length_drop]; have := hr.2.1; omega, fun hp => ?_⟩⟩, hne⟩
  rw [List.length_drop] at hp
  obtain ⟨ad, e, -⟩ := ReadI.at_ hr (i := k) (by omega)
  refine ⟨ad.add k, by rw [if_neg (by omega), e]; rfl, fun j hj => ?_⟩
  rw [List.length_drop] at hj
  obtain ⟨ad', e', hcell⟩ := ReadI.at_ hr (i := k + j) (by omega)
  rw [e] at e'
  cases e'
  have ha : (ad.add k).add j = ad.add (k + j) := Go.Proofs.YtcbkchnfjeegmaaW.PrintWords.add_add ad k j
  rw [ha, hcell]
  simp [List.getD_eq_getElem?_getD]
/-- xs[:k] -/
theorem ReadI.to_ {w : World} {A : Option Addr} {n c : Nat} {xs : List Int} (h : ReadI w (.slice A n c) xs) {k : Nat} (hk : k ≤ xs.length) :
    (∀ W : World, (Instr.slice 22 (.slice A n c) none (some (.int .i64 (k : Int))) none).run Try.prog W = .ok (.slice A k c) W) ∧ ReadI w (.slice A k c) (xs.take k) := by
  obtain ⟨A0, c0, e, hc, hr⟩ := h
  cases e
  obtain ⟨i, hi, hs⟩ := Option.map_eq_some_iff.1 (show (Try.prog.info? 2).map (·.size) = some 1 by kernel_rfl)
  have h2 : (k : Int) ≤ (c : Int) := by omega
  have hl : (xs.take k).length = k := by rw [List.length_take]; omega
  refine ⟨fun W => ?_, ⟨A, c, by rw [hl], by rw [hl]; omega, Kd.C_of_reads (d := (0 : Int)) (h1 := fun _ => rfl) ⟨rfl, by rw [hl]; have := hr.2.1; omega, fun hp => ?_⟩⟩⟩
  · have h3 : ¬ c < k := by omega
    by_cases hc0 : c = 0
    · obtain rfl : k = 0 := by omega
      simp [Instr.slice, Instr.sliceBounds, Instr.sliceBound, asIntOf, run_underlying Try.underlying22, sizeOf, typeInfo, hi, hs, go_sem, h2, h3, hc0]
    · simp [Instr.slice, Instr.sliceBounds, Instr.sliceBound, asIntOf, run_underlying Try.underlying22, sizeOf, typeInfo, hi, hs, go_sem, h2, h3, hc0]
  · rw [hl] at hp ⊢
    obtain ⟨ad, e, -⟩ := ReadI.at_ hr (i := 0) (by omega)
    refine ⟨ad, e, fun j hj => ?_⟩
    obtain ⟨ad', e', hcell⟩ := ReadI.at_ hr (i := j) (by omega)
    rw [e] at e'
    cases e'
    rw [hcell]
    simp [List.getD_eq_getElem?_getD, List.getElem?_take, hj]
/-- a slice expression, its run told -/
theorem slice_exec {P : Program} {o : Oper} {ev : Operand → Value} {W : World} {t e : TypeId} {s : Operand} {lo hi : Option Operand} {u : Value} (ht : P.underlying t = some (.slice e)) (ho : o.op = .slice t s lo hi none) (hr : (Instr.slice t (ev s) (lo.map ev) (hi.map ev) none).run P W = .ok u W) : (execOp ev o).run P W = .ok (.value u) W := by
  have hel : P.elem t = e := by simp [Program.elem, ht]
  have h1 := run_sliceAt_slice (P := P) (w := W) t (ev s) (lo.map ev) (hi.map ev) none (by rw [hel]; exact ht)
  simp [execOp, ho, h1, hr]
section
variable {P : Program} {ops : Array Oper} {rest : List Oper} {o : Oper} {a : Act} {Q : Exit → Act → World → Prop}
theorem slice_told {W : World} {t e : TypeId} {s : Operand} {lo hi : Option Operand} {u : Value} (ht : P.underlying t = some (.slice e)) (hgd : o.guard = none) (ho : o.op = .slice t s lo hi none) (hr : ∀ W : World, (Instr.slice t (a.eval s) (lo.map a.eval) (hi.map a.eval) none).run P W = .ok u W) (h : wpList P ops Q rest (a.put o.dst u) W) : wpList P ops Q (o :: rest) a W :=
  Kd.event_run hgd (slice_exec ht ho (hr W)) h
end
end Go.Proofs.Ytcbkchnfjeegmaa.H

namespace Go.Proofs.Ytcbkchnfjeegmaa.H
open Go.RowKit Go.Proofs.YtcbkchnfjeegmaaW.PrintWords Go.Proofs.YtcbkchnfjeegmaaW.PrintLast Go.Proofs.YtcbkchnfjeegmaaW.PrintMore
set_option linter.unusedVariables false
set_option linter.unusedSimpArgs false

set_option maxRecDepth 100000 in
/-- append(v, ys...) as one operation -/
theorem appendRow_gives {o : Oper} {ev : Operand → Value} {W : World} (base : Nat) (s x : Operand) (ho : o.op = .call { callee := .builtin .append, args := #[s, x], argTypes := #[22, 22] })
    (v : Value) (xs ys : List Int) (ad : Addr) (n c : Nat) (hs : ev s = v) (hx : ev x = .slice (some ad) n c) (hn : n = ys.length) (hr : ReadI W (.slice (some ad) n c) ys)
    (HO : OwnI base W v xs) (hbase : base ≤ W.heap.size) (hl : xs.length + ys.length < 1000000) {R : Value → World → Prop}
    (h : ∀ v1 w1, OwnI base w1 v1 (xs ++ ys) → W.grownBy w1 v.ownBlock → R v1 w1) : opGives Try.prog o ev W R := by
  obtain ⟨i64, hi, hii⟩ := Option.map_eq_some_iff.1 info64
  simp only [Prod.mk.injEq] at hii
  obtain ⟨hi0, hi1, hi2⟩ := hii
  obtain ⟨A0, c0, e0, -, hr⟩ := hr
  cases e0
  have hO := Kd.own_of_R HO
  obtain ⟨v', w', hrun, h2, h3, -⟩ := run_append_own_at (P := Try.prog) W base 22 o.type 2 _ (.int .i64 0) 1 8 Try.underlying22 hi hi0 hi1 hi2 rfl (by decide) v xs.length (xs.map (Value.int .i64)) hO ad ys.length c (ys.map (Value.int .i64)) (by rw [List.length_map, Nat.mul_one])
    (fun j u hj => by
      rw [List.getElem?_map] at hj
      obtain ⟨y, hy, rfl⟩ := Option.map_eq_some_iff.1 hj
      have hjl := (List.getElem?_eq_some_iff.1 hy).1
      obtain ⟨ad', e', hcell⟩ := ReadI.at_ hr hjl
      cases e'
      rw [hcell, List.getD_eq_getElem?_getD, hy]; rfl) (fun u hu => by
      obtain ⟨y, -, rfl⟩ := List.mem_map.1 hu
      rfl) (by simp only [maxLen]; omega) (by omega) hbase
  refine opGives_value (w' := w') (v := v') ?_ (h v' w' (OwnI.of_row (b := base) (by rw [List.length_append, List.map_append]; exact h2) (Nat.le_refl _)) h3)
  unfold execOp
  simp only [ho, resolve, invoke, builtin, Sem.run_bind, Sem.run_pure, Result.andThen_ok, List.map_toArray, List.map_cons, List.map_nil, hs, hx, hn, hrun]

/-- one number, as a list of the call's own -/
theorem OwnI.single {b : Nat} (W : World) (x : Int) (hb : b ≤ W.heap.size) : OwnI b (W.alloc (.cells #[.int .i64 x] 2)) (.slice (some ⟨W.heap.size, 0, none⟩) 1 1) [x] := by
  have h := own_lit W b 2 .i64 [x] hb (by simp)
  exact OwnI.of_row (b := b) h (Nat.le_refl _)

theorem drop_ne {l : List Int} (hl : l.Pairwise (· < ·)) {k : Nat} {y f : Int} (h : k < l.length) (hy : l.getD k 0 = y) (hf : f ≤ y) (hn : y ≠ f) : ∀ z ∈ l.drop k, f < z := by
  intro z hz
  rw [List.drop_eq_getElem_cons h, List.mem_cons] at hz
  have e : l[k] = y := by rw [List.getD_eq_getElem?_getD, List.getElem?_eq_getElem h] at hy; simpa using hy
  rcases hz with hz | hz
  · omega
  · obtain ⟨j, hj, rfl⟩ := List.getElem_of_mem hz
    rw [List.length_drop] at hj
    rw [List.getElem_drop]
    have := List.pairwise_iff_getElem.1 hl k (k + 1 + j) h (by omega) (by omega)
    omega

set_option maxRecDepth 100000 in
set_option maxHeartbeats 4000000 in
theorem specPut (v : Value) (m f : Nat) (w : World) (hv : ReadI w v (listI m)) (hf : f < 64) :
    Calls Try.prog 173 #[v, .int .i64 (f : Nat)] w fun e w' => ∃ u, e = .returned u ∧ OwnI w.heap.size w' u (listI (m ^^^ 2 ^ f)) ∧ Below w.heap.size w w' := by
  have HV := Aside0.mk hv
  have hll := listI_len m
  obtain ⟨A1, d1, rfl, -, hr⟩ := id hv
  have HR := Aside0.mk hr
  have hmx : Try.prog.follows .mixedOrders = true := by kernel_rfl
  clear hv hr
  go_enter Try.func173, Try.ntmps173
  go_wp2
  go_loopw [5] (fun s5 wr => ∃ k : Nat, s5 = .int .i64 k ∧ k ≤ (listI m).length ∧ Aside0 (∀ z ∈ (listI m).drop k, (f : Int) ≤ z) ∧ Aside0 (Below w.heap.size w wr)) (fun s5 _ => (intOf s5).toNat)
  case atStart => exact ⟨_, rfl, Nat.le_refl _, ⟨fun z hz => by rw [List.drop_length] at hz; cases hz⟩, ⟨Below.refl _ _⟩⟩
  case round =>
    obtain ⟨k, rfl, hk, HD, HBr⟩ := hrel
    have hend : (k = 0 ∨ (listI m).getD (k - 1) 0 < (f : Int)) → Aside0 (∀ z ∈ (listI m).take k, z < (f : Int)) := fun h => ⟨fun z hz => by
      rcases h with h | h
      · rw [h] at hz; cases hz
      · obtain ⟨j, hj, rfl⟩ := List.getElem_of_mem hz
        rw [List.length_take] at hj
        rw [List.getElem_take]
        by_cases he : j = k - 1
        · rw [List.getD_eq_getElem?_getD, List.getElem?_eq_getElem (by omega)] at h
          simpa [he] using h
        · have hp := List.pairwise_iff_getElem.1 (listI_asc m) j (k - 1) (by omega) (by omega) (by omega)
          rw [List.getD_eq_getElem?_getD, List.getElem?_eq_getElem (by omega)] at h
          simp at h
          omega⟩
    have HEND := Aside0.mk hend
    clear hend
    have HRR := Aside0.mk (HV.out.below HBr.out)
    have HRR0 := Aside0.mk (fun W (h : Below w.heap.size w W) => (ReadI.to_ (HV.out.below h) hk).2)
    by_cases hk0 : 0 < k
    · obtain ⟨ad, y0, rfl, hcell0, HY0⟩ := ReadI.get (Kd.C_below HR.out HBr.out) (i := k - 1) (by omega)
      have h1i : (0 : Int) ≤ (k : Int) - 1 := by omega
      have h2i : (k : Int) - 1 < ((listI m).length : Int) := by omega
      have h3i : ((k : Int) - 1).toNat = k - 1 := by omega
      by_cases hge : (f : Int) ≤ y0
      · have HDN : Aside0 (∀ z ∈ (listI m).drop (k - 1), (f : Int) ≤ z) := ⟨fun z hz => by
          rw [List.drop_eq_getElem_cons (by omega), List.mem_cons] at hz
          rcases hz with h | h
          · have h9 := HY0.out
            rw [List.getD_eq_getElem?_getD, List.getElem?_eq_getElem (by omega)] at h9
            simp at h9
            omega
          · rw [show k - 1 + 1 = k by omega] at h; exact HD.out z h⟩
        go_wp2
        go_roundw
        case rel => exact ⟨k - 1, by go_num, by omega, HDN, HBr⟩
        case measure => simp [intOf]; omega
      · have HTK := HEND.out (.inr (by rw [HY0.out]; omega))
        by_cases hlt : k < (listI m).length
        · obtain ⟨ad2, y, e2, hcell, HY⟩ := ReadI.get (Kd.C_below HR.out HBr.out) hlt
          cases e2
          have hyf := HD.out y (by rw [List.drop_eq_getElem_cons hlt]; have := HY.out; rw [List.getD_eq_getElem?_getD, List.getElem?_eq_getElem hlt] at this; simp at this; rw [this]; simp)
          have hltI : (k : Int) < ((listI m).length : Int) := by omega
          cases hq : (y == (f : Int)) with
          | true =>
            have hkf : (listI m)[k]? = some (f : Int) := by rw [List.getElem?_eq_getElem hlt]; have := HY.out; rw [List.getD_eq_getElem?_getD, List.getElem?_eq_getElem hlt] at this; simp at this; rw [this, eq_of_beq hq]
            obtain ⟨Af, cf, hslf, hrf, hnf⟩ := HRR.out.from_ (k := k + 1) (by omega)
            obtain ⟨adf, rfl⟩ : ∃ adf, Af = some adf := by
              cases Af with
              | none => exact absurd rfl (hnf (by simp))
              | some a => exact ⟨a, rfl⟩
            obtain ⟨hslt, hrt⟩ := HRR.out.to_ hk
            have HSL := Aside0.mk hslt
            have HSF := Aside0.mk hslf
            have HTK1 := Aside0.mk hrt
            have HRF := Aside0.mk hrf
            have HTL : Aside0 (((listI m).take k).length ≤ 1000000) := ⟨by rw [List.length_take]; omega⟩
            have HRESO := Aside0.mk (turn_out hf hkf)
            clear hrf hrt hslf hslt hnf hkf
            go_wp2
            refine wp_region_tail 8 (fun i => match i with | 0 => fun v _ => v = .slice (some ad) (listI m).length d1 | 1 => fun v _ => v = .int .i64 (k : Nat) | 2 => fun v _ => v = .slice (some ad) k d1 | 3 => fun v W => OwnI w.heap.size W v ((listI m).take k) | 4 => fun v _ => v = .slice (some ad) (listI m).length d1 | 5 => fun v _ => v = .int .i64 (k : Nat) | 6 => fun v _ => v = .int .i64 ((k : Nat) + 1) | 7 => fun v _ => v = .slice (some adf) ((listI m).length - (k + 1)) cf | _ => fun _ _ => True)
              [0, 0, 3, 7, 0, 0, 32, 112, 255, 511] hmx (by kernel_rfl) ?st ?steps ?rest
            case st =>
              intro i v w1_ w2_ hb
              match i with
              | 0 | 1 | 2 | 4 | 5 | 6 | 7 => exact id
              | 3 => exact fun h => OwnI.below h hb
              | n + 8 => exact id
            case steps =>
              refine ⟨?_, ?_, ?_, ?_, ?_, ?_, ?_, ?_, trivial⟩
              · intro s w_ hb hd R hR
                generalize hA : putAll _ 0 s _ = A
                have hR' := hR (.slice (some ad) (listI m).length d1) _ (Below.refl _ _) rfl
                clear hR hd
                refine opGives_value ?_ hR'
                subst hA
                simp only [dsOf, List.take, List.map_cons, List.map_nil, Option.getD_some, putAll, Act.put, List.setIfInBounds_toArray, List.set_cons_zero, List.set_cons_succ]
                go_simp
              · intro s w_ hb hd R hR
                generalize hA : putAll _ 0 s _ = A
                have hR' := hR (.int .i64 (k : Nat)) _ (Below.refl _ _) rfl
                clear hR hd
                refine opGives_value ?_ hR'
                subst hA
                simp only [dsOf, List.take, List.map_cons, List.map_nil, Option.getD_some, putAll, Act.put, List.setIfInBounds_toArray, List.set_cons_zero, List.set_cons_succ]
                go_simp
              · intro s w_ hb hd R hR
                generalize hA : putAll _ 0 s _ = A
                have e0 : s 0 = _ := hd 0 (by kernel_rfl)
                have e1 : s 1 = _ := hd 1 (by kernel_rfl)
                have hR' := hR (.slice (some ad) k d1) _ (Below.refl _ _) rfl
                clear hR hd
                refine opGives_value (slice_exec Try.underlying22 rfl ?_) hR'
                subst hA
                simp only [dsOf, List.take, List.map_cons, List.map_nil, Option.getD_some, putAll, Act.put, List.setIfInBounds_toArray, List.set_cons_zero, List.set_cons_succ]
                show (Instr.slice 22 (s 0) none (some (s 1)) none).run Try.prog w_ = _
                rw [e0, e1]
                exact HSL.out w_
              · intro s w_ hb hd R hR
                generalize hA : putAll _ 0 s _ = A
                have e2 : s 2 = _ := hd 2 (by kernel_rfl)
                refine opGives_call (f := 130) (args := #[.slice (some ad) k d1]) ?_ ?_
                · subst hA
                  clear hR hd
                  simp only [dsOf, List.take, List.map_cons, List.map_nil, Option.getD_some, putAll, Act.put, List.setIfInBounds_toArray, List.set_cons_zero, List.set_cons_succ]
                  go_simp
                clear hA A hd
                refine (specOwnC _ ((listI m).take k) _ (ReadI.below HTK1.out hb) HTL.out).mono ?_
                rintro e w3_ ⟨u, rfl, ho, hb3⟩
                exact ⟨_, rfl, hR _ _ hb3 (OwnI.lower ho (HBr.out.trans (hb.mono HBr.out.size)).size)⟩
              · intro s w_ hb hd R hR
                generalize hA : putAll _ 0 s _ = A
                have hR' := hR (.slice (some ad) (listI m).length d1) _ (Below.refl _ _) rfl
                clear hR hd
                refine opGives_value ?_ hR'
                subst hA
                simp only [dsOf, List.take, List.map_cons, List.map_nil, Option.getD_some, putAll, Act.put, List.setIfInBounds_toArray, List.set_cons_zero, List.set_cons_succ]
                go_simp
              · intro s w_ hb hd R hR
                generalize hA : putAll _ 0 s _ = A
                have hR' := hR (.int .i64 (k : Nat)) _ (Below.refl _ _) rfl
                clear hR hd
                refine opGives_value ?_ hR'
                subst hA
                simp only [dsOf, List.take, List.map_cons, List.map_nil, Option.getD_some, putAll, Act.put, List.setIfInBounds_toArray, List.set_cons_zero, List.set_cons_succ]
                go_simp
              · intro s w_ hb hd R hR
                generalize hA : putAll _ 0 s _ = A
                have e5 : s 5 = _ := hd 5 (by kernel_rfl)
                have hw1 : IntKind.i64.wrap ((k : Int) + 1) = (k : Int) + 1 := IntWalk.i64_in _ (by omega)
                have hR' := hR (.int .i64 ((k : Nat) + 1)) _ (Below.refl _ _) rfl
                clear hR hd
                refine opGives_value ?_ hR'
                subst hA
                simp only [dsOf, List.take, List.map_cons, List.map_nil, Option.getD_some, putAll, Act.put, List.setIfInBounds_toArray, List.set_cons_zero, List.set_cons_succ]
                go_simp
              · intro s w_ hb hd R hR
                generalize hA : putAll _ 0 s _ = A
                have e4 : s 4 = _ := hd 4 (by kernel_rfl)
                have e6 : s 6 = _ := hd 6 (by kernel_rfl)
                have hR' := hR (.slice (some adf) ((listI m).length - (k + 1)) cf) _ (Below.refl _ _) rfl
                clear hR hd
                refine opGives_value (slice_exec Try.underlying22 rfl ?_) hR'
                subst hA
                simp only [dsOf, List.take, List.map_cons, List.map_nil, Option.getD_some, putAll, Act.put, List.setIfInBounds_toArray, List.set_cons_zero, List.set_cons_succ]
                show (Instr.slice 22 (s 4) (some (s 6)) none none).run Try.prog w_ = _
                rw [e4, e6]
                exact HSF.out w_
            case rest =>
              intro s9 w9 hb hv
              have o3_ : OwnI w.heap.size w9 (s9 3) ((listI m).take k) := hv 3 (by decide)
              obtain ⟨A3_, d3_, e3_, -⟩ := o3_.read
              rw [e3_] at o3_
              have e7_ : s9 7 = _ := hv 7 (by decide)
              clear hv
              simp only [dsOf, List.take, List.map_cons, List.map_nil, Option.getD_some, putAll, Act.put, List.setIfInBounds_toArray, List.set_cons_zero, List.set_cons_succ]
              have h9 := Below.size hb
              refine .inl (appendRow_gives w.heap.size (.tmp 37) (.tmp 41) rfl (.slice A3_ ((listI m).take k).length d3_) ((listI m).take k) ((listI m).drop (k + 1)) adf _ cf e3_ e7_ (by rw [List.length_drop]) (HRF.out.below hb) o3_ (by have := HBr.out.size; omega) (by have := HTL.out; rw [List.length_drop]; have := hll; rw [List.length_take]; omega) ?_)
              intro v1 w10 ho10 hg10
              simp only [List.drop, Act.put, List.setIfInBounds_toArray, List.set_cons_zero, List.set_cons_succ]
              refine .inl (opGives_value (v := v1) (w' := w10) (by go_simp) ?_)
              simp only [List.drop, Act.put, List.setIfInBounds_toArray, List.set_cons_zero, List.set_cons_succ]
              unfold tailList
              have HO10 := Aside0.mk ho10
              have HB10 := Aside0.mk ((HBr.out.trans (hb.mono HBr.out.size)).grown hg10 (by have := HBr.out.size; omega) (fun j hj => OwnI.base o3_ j hj))
              clear ho10 hg10 hb o3_ e3_ e7_
              go_wp2
              go_ret
              exact ⟨_, rfl, by rw [← HRESO.out]; exact HO10.out, HB10.out⟩
          | false =>
            have HGT : Aside0 (∀ z ∈ (listI m).drop k, (f : Int) < z) := ⟨drop_ne (listI_asc m) hlt HY.out hyf (by simpa using hq)⟩
            obtain ⟨Af, cf, hslf, hrf, -⟩ := HRR.out.from_ hk
            obtain ⟨hslt, hrt⟩ := HRR.out.to_ hk
            have HRT := Aside0.mk hrt
            have HTL : Aside0 (((listI m).take k).length ≤ 1000000) := ⟨by rw [List.length_take]; omega⟩
            have HLD : Aside0 (((listI m).drop k).length = (listI m).length - k) := ⟨List.length_drop⟩
            have HSG := Aside0.mk (OwnI.single (b := w.heap.size) wr (f : Nat) HBr.out.size)
            have HBA : Aside0 (Below w.heap.size w (wr.alloc (.cells #[.int .i64 (f : Nat)] 2))) := ⟨HBr.out.alloc HBr.out.size _⟩
            have HRF : Aside0 (Kd.C (Kd.int .i64) (wr.alloc (.cells #[.int .i64 (f : Nat)] 2)) Af ((listI m).length - k) ((listI m).drop k)) := ⟨by
              have h9 := hrf.below (Below.alloc (Below.refl _ _) (Nat.le_refl _) (.cells #[.int .i64 (f : Nat)] 2))
              obtain ⟨A9, c9, e9, -, hr9⟩ := h9
              rw [List.length_drop] at e9 hr9
              cases e9
              exact hr9⟩
            have HRESI := Aside0.mk (turn_in hf (HTK.out) (HGT.out))
            clear hrf hrt
            go_wp2_with (first | ((with_reducible refine gate_dst (N := 47) rfl ?_); refine slice_told (u := .slice Af ((listI m).length - k) cf) Try.underlying22 rfl rfl hslf ?_) | ((with_reducible refine gate_dst (N := 51) rfl ?_); refine slice_told (u := .slice _ k d1) Try.underlying22 rfl rfl hslt ?_) | ((with_reducible refine gate_builtin (b := .append) (xs := #[.tmp 44, .tmp 47]) rfl ?_); refine Kd.R_append_row (Value.int .i64) (0 : Int) (w0 := w) w.heap.size rfl (.tmp 44) (.tmp 47) 22 2 (.int .i64 0) 8 rfl Try.underlying22 info64 rfl (by decide) (.slice (some ⟨wr.heap.size, 0, none⟩) 1 1) [(f : Int)] ((listI m).drop k) Af ((listI m).length - k) cf (fun _ => True) rfl rfl (fun _ _ => trivial) HSG.out HRF.out HBA.out HBA.out.size (by simp; omega) ?_; intro v6 w6 ho6 hb6 hg6 hat6; replace ho6 : OwnI w.heap.size w6 v6 ([(f : Int)] ++ (listI m).drop k) := ho6; obtain ⟨A6, c6, rfl, -⟩ := ho6.read; generalize hn6 : List.length ([(f : Int)] ++ (listI m).drop k) = n6 at ho6 ⊢; have HN6 := Aside0.mk hn6; clear hn6; have HO6 := Aside0.mk ho6; have HB6 := Aside0.mk hb6; have HRT6 := Aside0.mk (HRR0.out w6 hb6); clear ho6 hb6 hg6 hat6) | (go_at_call 130; refine (specOwnC _ ((listI m).take k) _ HRT6.out HTL.out).mono ?_; rintro e w7 ⟨u7, rfl, ho, hb⟩; obtain ⟨A7, c7, rfl, -⟩ := ho.read; generalize hn7 : List.length ((listI m).take k) = n7 at ho ⊢; clear hn7; have HO7 := Aside0.mk (ho.lower HB6.out.size); have HB7 := Aside0.mk (HB6.out.trans (hb.mono HB6.out.size)); obtain ⟨A8, c8, e8, -, hr8⟩ := (HO6.out.below hb).read; injection e8 with e81 e82 e83; rw [← e81, ← e82] at hr8; have HR8 := Aside0.mk hr8; clear ho hb hr8 e81 e82 e83) | ((with_reducible refine gate_builtin (b := .append) (xs := #[.tmp 52, .tmp 53]) rfl ?_); refine Kd.R_append_row (Value.int .i64) (0 : Int) (w0 := w) w.heap.size rfl (.tmp 52) (.tmp 53) 22 2 (.int .i64 0) 8 rfl Try.underlying22 info64 rfl (by decide) (.slice A7 n7 c7) ((listI m).take k) ([(f : Int)] ++ (listI m).drop k) A6 n6 c6 (fun _ => True) rfl rfl (fun _ _ => trivial) HO7.out HR8.out HB7.out HB7.out.size (by have h1 := HTL.out; have h2 := HLD.out; have h3 := HN6.out; rw [List.length_append, h2] at h3; simp only [List.length_cons, List.length_nil] at h3; omega) ?_; intro v9 w9 ho9 hb9 hg9 hat9; have HO9 := Aside0.mk (show OwnI w.heap.size w9 v9 ((listI m).take k ++ ([(f : Int)] ++ (listI m).drop k)) from ho9); have HB9 := Aside0.mk hb9; clear ho9 hb9 hg9 hat9))
            go_ret
            exact ⟨_, rfl, by rw [← HRESI.out]; simpa using HO9.out, HB9.out⟩
        · have hltI : ¬ (k : Int) < ((listI m).length : Int) := by omega
          have HGT : Aside0 (∀ z ∈ (listI m).drop k, (f : Int) < z) := ⟨fun z hz => by rw [List.drop_eq_nil_of_le (by omega)] at hz; cases hz⟩
          obtain ⟨Af, cf, hslf, hrf, -⟩ := HRR.out.from_ hk
          obtain ⟨hslt, hrt⟩ := HRR.out.to_ hk
          have HRT := Aside0.mk hrt
          have HTL : Aside0 (((listI m).take k).length ≤ 1000000) := ⟨by rw [List.length_take]; omega⟩
          have HLD : Aside0 (((listI m).drop k).length = (listI m).length - k) := ⟨List.length_drop⟩
          have HSG := Aside0.mk (OwnI.single (b := w.heap.size) wr (f : Nat) HBr.out.size)
          have HBA : Aside0 (Below w.heap.size w (wr.alloc (.cells #[.int .i64 (f : Nat)] 2))) := ⟨HBr.out.alloc HBr.out.size _⟩
          have HRF : Aside0 (Kd.C (Kd.int .i64) (wr.alloc (.cells #[.int .i64 (f : Nat)] 2)) Af ((listI m).length - k) ((listI m).drop k)) := ⟨by
            have h9 := hrf.below (Below.alloc (Below.refl _ _) (Nat.le_refl _) (.cells #[.int .i64 (f : Nat)] 2))
            obtain ⟨A9, c9, e9, -, hr9⟩ := h9
            rw [List.length_drop] at e9 hr9
            cases e9
            exact hr9⟩
          have HRESI := Aside0.mk (turn_in hf (HTK.out) (HGT.out))
          clear hrf hrt
          go_wp2_with (first | ((with_reducible refine gate_dst (N := 47) rfl ?_); refine slice_told (u := .slice Af ((listI m).length - k) cf) Try.underlying22 rfl rfl hslf ?_) | ((with_reducible refine gate_dst (N := 51) rfl ?_); refine slice_told (u := .slice _ k d1) Try.underlying22 rfl rfl hslt ?_) | ((with_reducible refine gate_builtin (b := .append) (xs := #[.tmp 44, .tmp 47]) rfl ?_); refine Kd.R_append_row (Value.int .i64) (0 : Int) (w0 := w) w.heap.size rfl (.tmp 44) (.tmp 47) 22 2 (.int .i64 0) 8 rfl Try.underlying22 info64 rfl (by decide) (.slice (some ⟨wr.heap.size, 0, none⟩) 1 1) [(f : Int)] ((listI m).drop k) Af ((listI m).length - k) cf (fun _ => True) rfl rfl (fun _ _ => trivial) HSG.out HRF.out HBA.out HBA.out.size (by simp; omega) ?_; intro v6 w6 ho6 hb6 hg6 hat6; replace ho6 : OwnI w.heap.size w6 v6 ([(f : Int)] ++ (listI m).drop k) := ho6; obtain ⟨A6, c6, rfl, -⟩ := ho6.read; generalize hn6 : List.length ([(f : Int)] ++ (listI m).drop k) = n6 at ho6 ⊢; have HN6 := Aside0.mk hn6; clear hn6; have HO6 := Aside0.mk ho6; have HB6 := Aside0.mk hb6; have HRT6 := Aside0.mk (HRR0.out w6 hb6); clear ho6 hb6 hg6 hat6) | (go_at_call 130; refine (specOwnC _ ((listI m).take k) _ HRT6.out HTL.out).mono ?_; rintro e w7 ⟨u7, rfl, ho, hb⟩; obtain ⟨A7, c7, rfl, -⟩ := ho.read; generalize hn7 : List.length ((listI m).take k) = n7 at ho ⊢; clear hn7; have HO7 := Aside0.mk (ho.lower HB6.out.size); have HB7 := Aside0.mk (HB6.out.trans (hb.mono HB6.out.size)); obtain ⟨A8, c8, e8, -, hr8⟩ := (HO6.out.below hb).read; injection e8 with e81 e82 e83; rw [← e81, ← e82] at hr8; have HR8 := Aside0.mk hr8; clear ho hb hr8 e81 e82 e83) | ((with_reducible refine gate_builtin (b := .append) (xs := #[.tmp 52, .tmp 53]) rfl ?_); refine Kd.R_append_row (Value.int .i64) (0 : Int) (w0 := w) w.heap.size rfl (.tmp 52) (.tmp 53) 22 2 (.int .i64 0) 8 rfl Try.underlying22 info64 rfl (by decide) (.slice A7 n7 c7) ((listI m).take k) ([(f : Int)] ++ (listI m).drop k) A6 n6 c6 (fun _ => True) rfl rfl (fun _ _ => trivial) HO7.out HR8.out HB7.out HB7.out.size (by have h1 := HTL.out; have h2 := HLD.out; have h3 := HN6.out; rw [List.length_append, h2] at h3; simp only [List.length_cons, List.length_nil] at h3; omega) ?_; intro v9 w9 ho9 hb9 hg9 hat9; have HO9 := Aside0.mk (show OwnI w.heap.size w9 v9 ((listI m).take k ++ ([(f : Int)] ++ (listI m).drop k)) from ho9); have HB9 := Aside0.mk hb9; clear ho9 hb9 hg9 hat9))
          go_ret
          exact ⟨_, rfl, by rw [← HRESI.out]; simpa using HO9.out, HB9.out⟩
    · have HTK := HEND.out (.inl (by omega))
      by_cases hlt : k < (listI m).length
      · obtain ⟨ad2, y, e2, hcell, HY⟩ := ReadI.get (Kd.C_below HR.out HBr.out) hlt
        cases e2
        have hyf := HD.out y (by rw [List.drop_eq_getElem_cons hlt]; have := HY.out; rw [List.getD_eq_getElem?_getD, List.getElem?_eq_getElem hlt] at this; simp at this; rw [this]; simp)
        have hltI : (k : Int) < ((listI m).length : Int) := by omega
        cases hq : (y == (f : Int)) with
        | true =>
          have hkf : (listI m)[k]? = some (f : Int) := by rw [List.getElem?_eq_getElem hlt]; have := HY.out; rw [List.getD_eq_getElem?_getD, List.getElem?_eq_getElem hlt] at this; simp at this; rw [this, eq_of_beq hq]
          obtain ⟨Af, cf, hslf, hrf, hnf⟩ := HRR.out.from_ (k := k + 1) (by omega)
          obtain ⟨adf, rfl⟩ : ∃ adf, Af = some adf := by
            cases Af with
            | none => exact absurd rfl (hnf (by simp))
            | some a => exact ⟨a, rfl⟩
          obtain ⟨hslt, hrt⟩ := HRR.out.to_ hk
          have HSL := Aside0.mk hslt
          have HSF := Aside0.mk hslf
          have HTK1 := Aside0.mk hrt
          have HRF := Aside0.mk hrf
          have HTL : Aside0 (((listI m).take k).length ≤ 1000000) := ⟨by rw [List.length_take]; omega⟩
          have HRESO := Aside0.mk (turn_out hf hkf)
          clear hrf hrt hslf hslt hnf hkf
          go_wp2
          refine wp_region_tail 8 (fun i => match i with | 0 => fun v _ => v = .slice (some ad2) (listI m).length d1 | 1 => fun v _ => v = .int .i64 (k : Nat) | 2 => fun v _ => v = .slice (some ad2) k d1 | 3 => fun v W => OwnI w.heap.size W v ((listI m).take k) | 4 => fun v _ => v = .slice (some ad2) (listI m).length d1 | 5 => fun v _ => v = .int .i64 (k : Nat) | 6 => fun v _ => v = .int .i64 ((k : Nat) + 1) | 7 => fun v _ => v = .slice (some adf) ((listI m).length - (k + 1)) cf | _ => fun _ _ => True)
            [0, 0, 3, 7, 0, 0, 32, 112, 255, 511] hmx (by kernel_rfl) ?st ?steps ?rest
          case st =>
            intro i v w1_ w2_ hb
            match i with
            | 0 | 1 | 2 | 4 | 5 | 6 | 7 => exact id
            | 3 => exact fun h => OwnI.below h hb
            | n + 8 => exact id
          case steps =>
            refine ⟨?_, ?_, ?_, ?_, ?_, ?_, ?_, ?_, trivial⟩
            · intro s w_ hb hd R hR
              generalize hA : putAll _ 0 s _ = A
              have hR' := hR (.slice (some ad2) (listI m).length d1) _ (Below.refl _ _) rfl
              clear hR hd
              refine opGives_value ?_ hR'
              subst hA
              simp only [dsOf, List.take, List.map_cons, List.map_nil, Option.getD_some, putAll, Act.put, List.setIfInBounds_toArray, List.set_cons_zero, List.set_cons_succ]
              go_simp
            · intro s w_ hb hd R hR
              generalize hA : putAll _ 0 s _ = A
              have hR' := hR (.int .i64 (k : Nat)) _ (Below.refl _ _) rfl
              clear hR hd
              refine opGives_value ?_ hR'
              subst hA
              simp only [dsOf, List.take, List.map_cons, List.map_nil, Option.getD_some, putAll, Act.put, List.setIfInBounds_toArray, List.set_cons_zero, List.set_cons_succ]
              go_simp
            · intro s w_ hb hd R hR
              generalize hA : putAll _ 0 s _ = A
              have e0 : s 0 = _ := hd 0 (by kernel_rfl)
              have e1 : s 1 = _ := hd 1 (by kernel_rfl)
              have hR' := hR (.slice (some ad2) k d1) _ (Below.refl _ _) rfl
              clear hR hd
              refine opGives_value (slice_exec Try.underlying22 rfl ?_) hR'
              subst hA
              simp only [dsOf, List.take, List.map_cons, List.map_nil, Option.getD_some, putAll, Act.put, List.setIfInBounds_toArray, List.set_cons_zero, List.set_cons_succ]
              show (Instr.slice 22 (s 0) none (some (s 1)) none).run Try.prog w_ = _
              rw [e0, e1]
              exact HSL.out w_
            · intro s w_ hb hd R hR
              generalize hA : putAll _ 0 s _ = A
              have e2 : s 2 = _ := hd 2 (by kernel_rfl)
              refine opGives_call (f := 130) (args := #[.slice (some ad2) k d1]) ?_ ?_
              · subst hA
                clear hR hd
                simp only [dsOf, List.take, List.map_cons, List.map_nil, Option.getD_some, putAll, Act.put, List.setIfInBounds_toArray, List.set_cons_zero, List.set_cons_succ]
                go_simp
              clear hA A hd
              refine (specOwnC _ ((listI m).take k) _ (ReadI.below HTK1.out hb) HTL.out).mono ?_
              rintro e w3_ ⟨u, rfl, ho, hb3⟩
              exact ⟨_, rfl, hR _ _ hb3 (OwnI.lower ho (HBr.out.trans (hb.mono HBr.out.size)).size)⟩
            · intro s w_ hb hd R hR
              generalize hA : putAll _ 0 s _ = A
              have hR' := hR (.slice (some ad2) (listI m).length d1) _ (Below.refl _ _) rfl
              clear hR hd
              refine opGives_value ?_ hR'
              subst hA
              simp only [dsOf, List.take, List.map_cons, List.map_nil, Option.getD_some, putAll, Act.put, List.setIfInBounds_toArray, List.set_cons_zero, List.set_cons_succ]
              go_simp
            · intro s w_ hb hd R hR
              generalize hA : putAll _ 0 s _ = A
              have hR' := hR (.int .i64 (k : Nat)) _ (Below.refl _ _) rfl
              clear hR hd
              refine opGives_value ?_ hR'
              subst hA
              simp only [dsOf, List.take, List.map_cons, List.map_nil, Option.getD_some, putAll, Act.put, List.setIfInBounds_toArray, List.set_cons_zero, List.set_cons_succ]
              go_simp
            · intro s w_ hb hd R hR
              generalize hA : putAll _ 0 s _ = A
              have e5 : s 5 = _ := hd 5 (by kernel_rfl)
              have hw1 : IntKind.i64.wrap ((k : Int) + 1) = (k : Int) + 1 := IntWalk.i64_in _ (by omega)
              have hR' := hR (.int .i64 ((k : Nat) + 1)) _ (Below.refl _ _) rfl
              clear hR hd
              refine opGives_value ?_ hR'
              subst hA
              simp only [dsOf, List.take, List.map_cons, List.map_nil, Option.getD_some, putAll, Act.put, List.setIfInBounds_toArray, List.set_cons_zero, List.set_cons_succ]
              go_simp
            · intro s w_ hb hd R hR
              generalize hA : putAll _ 0 s _ = A
              have e4 : s 4 = _ := hd 4 (by kernel_rfl)
              have e6 : s 6 = _ := hd 6 (by kernel_rfl)
              have hR' := hR (.slice (some adf) ((listI m).length - (k + 1)) cf) _ (Below.refl _ _) rfl
              clear hR hd
              refine opGives_value (slice_exec Try.underlying22 rfl ?_) hR'
              subst hA
              simp only [dsOf, List.take, List.map_cons, List.map_nil, Option.getD_some, putAll, Act.put, List.setIfInBounds_toArray, List.set_cons_zero, List.set_cons_succ]
              show (Instr.slice 22 (s 4) (some (s 6)) none none).run Try.prog w_ = _
              rw [e4, e6]
              exact HSF.out w_
          case rest =>
            intro s9 w9 hb hv
            have o3_ : OwnI w.heap.size w9 (s9 3) ((listI m).take k) := hv 3 (by decide)
            obtain ⟨A3_, d3_, e3_, -⟩ := o3_.read
            rw [e3_] at o3_
            have e7_ : s9 7 = _ := hv 7 (by decide)
            clear hv
            simp only [dsOf, List.take, List.map_cons, List.map_nil, Option.getD_some, putAll, Act.put, List.setIfInBounds_toArray, List.set_cons_zero, List.set_cons_succ]
            have h9 := Below.size hb
            refine .inl (appendRow_gives w.heap.size (.tmp 37) (.tmp 41) rfl (.slice A3_ ((listI m).take k).length d3_) ((listI m).take k) ((listI m).drop (k + 1)) adf _ cf e3_ e7_ (by rw [List.length_drop]) (HRF.out.below hb) o3_ (by have := HBr.out.size; omega) (by have := HTL.out; rw [List.length_drop]; have := hll; rw [List.length_take]; omega) ?_)
            intro v1 w10 ho10 hg10
            simp only [List.drop, Act.put, List.setIfInBounds_toArray, List.set_cons_zero, List.set_cons_succ]
            refine .inl (opGives_value (v := v1) (w' := w10) (by go_simp) ?_)
            simp only [List.drop, Act.put, List.setIfInBounds_toArray, List.set_cons_zero, List.set_cons_succ]
            unfold tailList
            have HO10 := Aside0.mk ho10
            have HB10 := Aside0.mk ((HBr.out.trans (hb.mono HBr.out.size)).grown hg10 (by have := HBr.out.size; omega) (fun j hj => OwnI.base o3_ j hj))
            clear ho10 hg10 hb o3_ e3_ e7_
            go_wp2
            go_ret
            exact ⟨_, rfl, by rw [← HRESO.out]; exact HO10.out, HB10.out⟩
        | false =>
          have HGT : Aside0 (∀ z ∈ (listI m).drop k, (f : Int) < z) := ⟨drop_ne (listI_asc m) hlt HY.out hyf (by simpa using hq)⟩
          obtain ⟨Af, cf, hslf, hrf, -⟩ := HRR.out.from_ hk
          obtain ⟨hslt, hrt⟩ := HRR.out.to_ hk
          have HRT := Aside0.mk hrt
          have HTL : Aside0 (((listI m).take k).length ≤ 1000000) := ⟨by rw [List.length_take]; omega⟩
          have HLD : Aside0 (((listI m).drop k).length = (listI m).length - k) := ⟨List.length_drop⟩
          have HSG := Aside0.mk (OwnI.single (b := w.heap.size) wr (f : Nat) HBr.out.size)
          have HBA : Aside0 (Below w.heap.size w (wr.alloc (.cells #[.int .i64 (f : Nat)] 2))) := ⟨HBr.out.alloc HBr.out.size _⟩
          have HRF : Aside0 (Kd.C (Kd.int .i64) (wr.alloc (.cells #[.int .i64 (f : Nat)] 2)) Af ((listI m).length - k) ((listI m).drop k)) := ⟨by
            have h9 := hrf.below (Below.alloc (Below.refl _ _) (Nat.le_refl _) (.cells #[.int .i64 (f : Nat)] 2))
            obtain ⟨A9, c9, e9, -, hr9⟩ := h9
            rw [List.length_drop] at e9 hr9
            cases e9
            exact hr9⟩
          have HRESI := Aside0.mk (turn_in hf (HTK.out) (HGT.out))
          clear hrf hrt
          go_wp2_with (first | ((with_reducible refine gate_dst (N := 47) rfl ?_); refine slice_told (u := .slice Af ((listI m).length - k) cf) Try.underlying22 rfl rfl hslf ?_) | ((with_reducible refine gate_dst (N := 51) rfl ?_); refine slice_told (u := .slice _ k d1) Try.underlying22 rfl rfl hslt ?_) | ((with_reducible refine gate_builtin (b := .append) (xs := #[.tmp 44, .tmp 47]) rfl ?_); refine Kd.R_append_row (Value.int .i64) (0 : Int) (w0 := w) w.heap.size rfl (.tmp 44) (.tmp 47) 22 2 (.int .i64 0) 8 rfl Try.underlying22 info64 rfl (by decide) (.slice (some ⟨wr.heap.size, 0, none⟩) 1 1) [(f : Int)] ((listI m).drop k) Af ((listI m).length - k) cf (fun _ => True) rfl rfl (fun _ _ => trivial) HSG.out HRF.out HBA.out HBA.out.size (by simp; omega) ?_; intro v6 w6 ho6 hb6 hg6 hat6; replace ho6 : OwnI w.heap.size w6 v6 ([(f : Int)] ++ (listI m).drop k) := ho6; obtain ⟨A6, c6, rfl, -⟩ := ho6.read; generalize hn6 : List.length ([(f : Int)] ++ (listI m).drop k) = n6 at ho6 ⊢; have HN6 := Aside0.mk hn6; clear hn6; have HO6 := Aside0.mk ho6; have HB6 := Aside0.mk hb6; have HRT6 := Aside0.mk (HRR0.out w6 hb6); clear ho6 hb6 hg6 hat6) | (go_at_call 130; refine (specOwnC _ ((listI m).take k) _ HRT6.out HTL.out).mono ?_; rintro e w7 ⟨u7, rfl, ho, hb⟩; obtain ⟨A7, c7, rfl, -⟩ := ho.read; generalize hn7 : List.length ((listI m).take k) = n7 at ho ⊢; clear hn7; have HO7 := Aside0.mk (ho.lower HB6.out.size); have HB7 := Aside0.mk (HB6.out.trans (hb.mono HB6.out.size)); obtain ⟨A8, c8, e8, -, hr8⟩ := (HO6.out.below hb).read; injection e8 with e81 e82 e83; rw [← e81, ← e82] at hr8; have HR8 := Aside0.mk hr8; clear ho hb hr8 e81 e82 e83) | ((with_reducible refine gate_builtin (b := .append) (xs := #[.tmp 52, .tmp 53]) rfl ?_); refine Kd.R_append_row (Value.int .i64) (0 : Int) (w0 := w) w.heap.size rfl (.tmp 52) (.tmp 53) 22 2 (.int .i64 0) 8 rfl Try.underlying22 info64 rfl (by decide) (.slice A7 n7 c7) ((listI m).take k) ([(f : Int)] ++ (listI m).drop k) A6 n6 c6 (fun _ => True) rfl rfl (fun _ _ => trivial) HO7.out HR8.out HB7.out HB7.out.size (by have h1 := HTL.out; have h2 := HLD.out; have h3 := HN6.out; rw [List.length_append, h2] at h3; simp only [List.length_cons, List.length_nil] at h3; omega) ?_; intro v9 w9 ho9 hb9 hg9 hat9; have HO9 := Aside0.mk (show OwnI w.heap.size w9 v9 ((listI m).take k ++ ([(f : Int)] ++ (listI m).drop k)) from ho9); have HB9 := Aside0.mk hb9; clear ho9 hb9 hg9 hat9))
          go_ret
          exact ⟨_, rfl, by rw [← HRESI.out]; simpa using HO9.out, HB9.out⟩
      · have hltI : ¬ (k : Int) < ((listI m).length : Int) := by omega
        have HGT : Aside0 (∀ z ∈ (listI m).drop k, (f : Int) < z) := ⟨fun z hz => by rw [List.drop_eq_nil_of_le (by omega)] at hz; cases hz⟩
        obtain ⟨Af, cf, hslf, hrf, -⟩ := HRR.out.from_ hk
        obtain ⟨hslt, hrt⟩ := HRR.out.to_ hk
        have HRT := Aside0.mk hrt
        have HTL : Aside0 (((listI m).take k).length ≤ 1000000) := ⟨by rw [List.length_take]; omega⟩
        have HLD : Aside0 (((listI m).drop k).length = (listI m).length - k) := ⟨List.length_drop⟩
        have HSG := Aside0.mk (OwnI.single (b := w.heap.size) wr (f : Nat) HBr.out.size)
        have HBA : Aside0 (Below w.heap.size w (wr.alloc (.cells #[.int .i64 (f : Nat)] 2))) := ⟨HBr.out.alloc HBr.out.size _⟩
        have HRF : Aside0 (Kd.C (Kd.int .i64) (wr.alloc (.cells #[.int .i64 (f : Nat)] 2)) Af ((listI m).length - k) ((listI m).drop k)) := ⟨by
          have h9 := hrf.below (Below.alloc (Below.refl _ _) (Nat.le_refl _) (.cells #[.int .i64 (f : Nat)] 2))
          obtain ⟨A9, c9, e9, -, hr9⟩ := h9
          rw [List.length_drop] at e9 hr9
          cases e9
          exact hr9⟩
        have HRESI := Aside0.mk (turn_in hf (HTK.out) (HGT.out))
        clear hrf hrt
        go_wp2_with (first | ((with_reducible refine gate_dst (N := 47) rfl ?_); refine slice_told (u := .slice Af ((listI m).length - k) cf) Try.underlying22 rfl rfl hslf ?_) | ((with_reducible refine gate_dst (N := 51) rfl ?_); refine slice_told (u := .slice _ k d1) Try.underlying22 rfl rfl hslt ?_) | ((with_reducible refine gate_builtin (b := .append) (xs := #[.tmp 44, .tmp 47]) rfl ?_); refine Kd.R_append_row (Value.int .i64) (0 : Int) (w0 := w) w.heap.size rfl (.tmp 44) (.tmp 47) 22 2 (.int .i64 0) 8 rfl Try.underlying22 info64 rfl (by decide) (.slice (some ⟨wr.heap.size, 0, none⟩) 1 1) [(f : Int)] ((listI m).drop k) Af ((listI m).length - k) cf (fun _ => True) rfl rfl (fun _ _ => trivial) HSG.out HRF.out HBA.out HBA.out.size (by simp; omega) ?_; intro v6 w6 ho6 hb6 hg6 hat6; replace ho6 : OwnI w.heap.size w6 v6 ([(f : Int)] ++ (listI m).drop k) := ho6; obtain ⟨A6, c6, rfl, -⟩ := ho6.read; generalize hn6 : List.length ([(f : Int)] ++ (listI m).drop k) = n6 at ho6 ⊢; have HN6 := Aside0.mk hn6; clear hn6; have HO6 := Aside0.mk ho6; have HB6 := Aside0.mk hb6; have HRT6 := Aside0.mk (HRR0.out w6 hb6); clear ho6 hb6 hg6 hat6) | (go_at_call 130; refine (specOwnC _ ((listI m).take k) _ HRT6.out HTL.out).mono ?_; rintro e w7 ⟨u7, rfl, ho, hb⟩; obtain ⟨A7, c7, rfl, -⟩ := ho.read; generalize hn7 : List.length ((listI m).take k) = n7 at ho ⊢; clear hn7; have HO7 := Aside0.mk (ho.lower HB6.out.size); have HB7 := Aside0.mk (HB6.out.trans (hb.mono HB6.out.size)); obtain ⟨A8, c8, e8, -, hr8⟩ := (HO6.out.below hb).read; injection e8 with e81 e82 e83; rw [← e81, ← e82] at hr8; have HR8 := Aside0.mk hr8; clear ho hb hr8 e81 e82 e83) | ((with_reducible refine gate_builtin (b := .append) (xs := #[.tmp 52, .tmp 53]) rfl ?_); refine Kd.R_append_row (Value.int .i64) (0 : Int) (w0 := w) w.heap.size rfl (.tmp 52) (.tmp 53) 22 2 (.int .i64 0) 8 rfl Try.underlying22 info64 rfl (by decide) (.slice A7 n7 c7) ((listI m).take k) ([(f : Int)] ++ (listI m).drop k) A6 n6 c6 (fun _ => True) rfl rfl (fun _ _ => trivial) HO7.out HR8.out HB7.out HB7.out.size (by have h1 := HTL.out; have h2 := HLD.out; have h3 := HN6.out; rw [List.length_append, h2] at h3; simp only [List.length_cons, List.length_nil] at h3; omega) ?_; intro v9 w9 ho9 hb9 hg9 hat9; have HO9 := Aside0.mk (show OwnI w.heap.size w9 v9 ((listI m).take k ++ ([(f : Int)] ++ (listI m).drop k)) from ho9); have HB9 := Aside0.mk hb9; clear ho9 hb9 hg9 hat9))
        go_ret
        exact ⟨_, rfl, by rw [← HRESI.out]; simpa using HO9.out, HB9.out⟩
end Go.Proofs.Ytcbkchnfjeegmaa.H
