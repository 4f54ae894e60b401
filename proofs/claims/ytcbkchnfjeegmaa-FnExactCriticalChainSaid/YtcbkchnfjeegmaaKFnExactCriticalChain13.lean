/- EndOfFlow of the program and of the reference. Critical faces of the program and of the reference. CriticalChain of the program and of the reference. Marks over complexes. -/
import Derived.WalkSpells
import Derived.Test.YtcbkchnfjeegmaaKFnExactCriticalChain1
import Derived.Test.YtcbkchnfjeegmaaKFnExactCriticalChain2
import Derived.Test.YtcbkchnfjeegmaaKFnExactCriticalChain3
import Derived.Test.YtcbkchnfjeegmaaKFnExactCriticalChain4
import Derived.Test.YtcbkchnfjeegmaaKFnExactCriticalChain5
import Derived.Test.YtcbkchnfjeegmaaKFnExactCriticalChain6
import Derived.Test.YtcbkchnfjeegmaaKFnExactCriticalChain7
import Derived.Test.YtcbkchnfjeegmaaKFnExactCriticalChain8
import Derived.Test.YtcbkchnfjeegmaaKFnExactCriticalChain9
import Derived.Test.YtcbkchnfjeegmaaKFnExactCriticalChain10
import Derived.Test.YtcbkchnfjeegmaaKFnExactCriticalChain11
import Derived.Test.YtcbkchnfjeegmaaKFnExactCriticalChain12

namespace Go.Proofs.Ytcbkchnfjeegmaa.H
open Go.RowKit Go.Proofs.YtcbkchnfjeegmaaW.PrintWords Go.Proofs.YtcbkchnfjeegmaaW.PrintLast Go.Proofs.YtcbkchnfjeegmaaW.PrintMore
set_option linter.unusedVariables false
set_option linter.unusedSimpArgs false

theorem listI_inj {a b : Nat} (ha : a < 18446744073709551616) (hb : b < 18446744073709551616) : listI a = listI b ↔ a = b := by
  refine ⟨fun h => ?_, fun h => by rw [h]⟩
  have h1 := bits_listI (m := a) (by rw [e64]; exact ha)
  have h2 := bits_listI (m := b) (by rw [e64]; exact hb)
  rw [← h1, ← h2, h]

set_option maxRecDepth 100000 in
set_option maxHeartbeats 2000000 in
theorem specSame (v : Value) (l : List Int) (u : Value) (ys : List Int) (w : World) (hv : ReadI w v l) (hu : ReadI w u ys) :
    Calls Try.prog 128 #[v, u] w fun e w' => e = .returned (.bool (decide (l = ys))) ∧ Below w.heap.size w w' := by
  have hll := hv.len
  have hyl := hu.len
  obtain ⟨A1, d1, rfl, hc1, hr1⟩ := id hv
  obtain ⟨A2, d2, rfl, hc2, hr2⟩ := id hu
  have HR1 := Aside0.mk hr1
  have HR2 := Aside0.mk hr2
  clear hv hu hc1 hr1 hc2 hr2
  by_cases hlen : l.length = ys.length
  · have HL := Aside0.mk hlen
    have hle : ((l.length : Int) != (ys.length : Int)) = false := by simp [hlen]
    clear hlen
    go_enter Try.func128, Try.ntmps128
    go_wp2
    go_loopw [5] (fun s5 wr => ∃ i : Nat, s5 = .int .i64 i ∧ i ≤ l.length ∧ Aside0 (∀ j, j < i → l[j]? = ys[j]?) ∧ Aside0 (Below w.heap.size w wr)) (fun s5 _ => l.length - (intOf s5).toNat)
    case atStart => exact ⟨0, rfl, Nat.zero_le _, ⟨fun j hj => absurd hj (Nat.not_lt_zero _)⟩, ⟨Below.refl _ _⟩⟩
    case round =>
      obtain ⟨i, rfl, hi, HJ, HBi⟩ := hrel
      by_cases hlt : i < l.length
      · have hlt2 : i < ys.length := by have := HL.out; omega
        obtain ⟨ad, y, rfl, hcell, HYi⟩ := ReadI.get (Kd.C_below HR1.out HBi.out) hlt
        obtain ⟨ad2, z, rfl, hcell2, HZi⟩ := ReadI.get (Kd.C_below HR2.out HBi.out) hlt2
        by_cases hyz : y = z
        · subst hyz
          go_wp2
          go_quiet (fail)
          go_wp2
          go_roundw
          case rel => exact ⟨i + 1, by go_num, by omega, ⟨fun j hj => by
            rcases Nat.lt_succ_iff_lt_or_eq.1 hj with h | rfl
            · exact HJ.out j h
            · have h1 := HYi.out
              have h2 := HZi.out
              rw [List.getD_eq_getElem?_getD, List.getElem?_eq_getElem hlt] at h1
              rw [List.getD_eq_getElem?_getD, List.getElem?_eq_getElem hlt2] at h2
              rw [List.getElem?_eq_getElem hlt, List.getElem?_eq_getElem hlt2]
              exact congrArg some (h1.trans h2.symm)⟩, ⟨below_drewN HBi.out _⟩⟩
          case measure => simp [intOf]; omega
        · have hne : (y != z) = true := by simpa using hyz
          have HF : Aside0 (decide (l = ys) = false) := ⟨decide_eq_false (fun e => hyz (by have h1 := HYi.out; rw [e, HZi.out] at h1; exact h1.symm))⟩
          clear hyz
          go_wp2
          go_quiet (fail)
          go_wp2
          go_ret
          exact ⟨by rw [HF.out]; rfl, below_drewN HBi.out _⟩
      · have HF : Aside0 (decide (l = ys) = true) := ⟨decide_eq_true (List.ext_getElem? (fun j => by
          by_cases h : j < i
          · exact HJ.out j h
          · have := HL.out
            rw [List.getElem?_eq_none (by omega), List.getElem?_eq_none (by omega)]))⟩
        go_wp2
        go_ret
        exact ⟨by rw [HF.out]; rfl, HBi.out⟩
  · have HF : Aside0 (decide (l = ys) = false) := ⟨decide_eq_false (fun e => hlen (by rw [e]))⟩
    have hle : ((l.length : Int) != (ys.length : Int)) = true := by simp; omega
    clear hlen
    go_enter Try.func128, Try.ntmps128
    go_wp2
    go_ret
    exact ⟨by rw [HF.out]; rfl, Below.refl _ _⟩

set_option maxRecDepth 100000 in
set_option maxHeartbeats 2000000 in
theorem specEnd (v : Value) (ps : List (Int × Int)) (u : Value) (m : Nat) (w : World) (hv : ReadP w v ps) (hu : ReadI w u (listI m)) (h : AcyP ps) (hm : m < 18446744073709551616) (h0 : m.testBit 0 = false) :
    Calls Try.prog 73 #[v, u] w fun e w' => ∃ r, e = .returned r ∧ OwnI w.heap.size w' r (listI (endB ps m)) ∧ Below w.heap.size w w' := by
  have HFL := Aside0.mk (fun j u W (hb : Below w.heap.size w W) (hu : ReadI W u (listI (flowN ps j m))) => specFlow6 v ps u (flowN ps j m) W (hv.below hb) hu h.1 h.2.1 (flowN_lt h.1 hm j) (flowN_zero h.1 h0 j))
  have HA := Aside0.mk h
  have HM := Aside0.mk hm
  have HU := Aside0.mk hu
  have HEQ := Aside0.mk (fun j => (listI_inj (flowN_lt h.1 hm (j + 1)) (flowN_lt h.1 hm j)))
  have HEND := Aside0.mk (flow_end h hm)
  obtain ⟨A1, d1, rfl, -⟩ := id hv
  clear hv hu h hm h0
  go_enter Try.func73, Try.ntmps73
  go_wp2
  go_loopg [1, 5] 130 (fun k s1 s5 wr => ∃ j, j + k = 130 ∧ Aside0 (ReadI wr s1 (listI (flowN ps j m))) ∧ Aside0 (Below w.heap.size w wr))
  case atStart => exact ⟨0, by omega, HU, ⟨Below.refl _ _⟩⟩
  case round =>
    obtain ⟨j, hj, HR, HBr⟩ := hrel
    obtain ⟨A2, d2, rfl, -⟩ := id HR.out
    obtain ⟨b, hb⟩ : ∃ b, b = decide (listI (flowN ps (j + 1) m) = listI (flowN ps j m)) := ⟨_, rfl⟩
    have HBD := Aside0.mk hb
    clear hb
    cases b with
    | true =>
      have HE : Aside0 (flowN ps (j + 1) m = endB ps m) := ⟨by
        have h1 := (HEQ.out j).1 (of_decide_eq_true HBD.out.symm)
        rw [h1]; exact (end_at (by omega) h1).symm⟩
      go_wp2_with (first | (go_at_call 68; refine (HFL.out j _ _ HBr.out HR.out).mono ?_; rintro e w3 ⟨r, rfl, ho, hb⟩; obtain ⟨A3, d3, rfl, -⟩ := ho.read; have HO3 := Aside0.mk ho; have HR3 := Aside0.mk (HR.out.below hb); have HB3 := Aside0.mk (HBr.out.trans (hb.mono HBr.out.size)); clear ho hb) | (go_at_call 128; refine (specSame _ _ _ _ _ HO3.out.read HR3.out).mono ?_; rintro e w4 ⟨rfl, hb⟩; rw [show flowB ps (flowN ps j m) = flowN ps (j + 1) m from rfl, ← HBD.out]; have HO4 := Aside0.mk ((HO3.out.below hb).lower HBr.out.size); have HB4 := Aside0.mk (HB3.out.trans (hb.mono HB3.out.size)); clear hb))
      go_ret
      exact ⟨_, rfl, by rw [← HE.out]; exact HO4.out, HB4.out⟩
    | false =>
      have hj1 : 1 ≤ gk := by
        rcases Nat.eq_zero_or_pos gk with h | h
        · exfalso
          obtain rfl : j = 130 := by omega
          exact of_decide_eq_false HBD.out.symm (by rw [HEND.out])
        · exact h
      go_wp2_with (first | (go_at_call 68; refine (HFL.out j _ _ HBr.out HR.out).mono ?_; rintro e w3 ⟨r, rfl, ho, hb⟩; obtain ⟨A3, d3, rfl, -⟩ := ho.read; have HO3 := Aside0.mk ho; have HR3 := Aside0.mk (HR.out.below hb); have HB3 := Aside0.mk (HBr.out.trans (hb.mono HBr.out.size)); clear ho hb) | (go_at_call 128; refine (specSame _ _ _ _ _ HO3.out.read HR3.out).mono ?_; rintro e w4 ⟨rfl, hb⟩; rw [show flowB ps (flowN ps j m) = flowN ps (j + 1) m from rfl, ← HBD.out]; have HO4 := Aside0.mk ((HO3.out.below hb).lower HBr.out.size); have HB4 := Aside0.mk (HB3.out.trans (hb.mono HB3.out.size)); clear hb))
      go_roundg (gk - 1)
      case measure => omega
      case rel => exact ⟨j + 1, by omega, ⟨HO4.out.read⟩, HB4⟩

set_option maxRecDepth 100000 in
set_option maxHeartbeats 2000000 in
theorem ends (v : Value) (ps : List (Int × Int)) (m : Nat) (w : World) (hv : ReadP w v ps) (h : AcyP ps) (hm : m < 18446744073709551616) (h0 : m.testBit 0 = false) :
    Calls Try.prog 74 #[v, .int .u64 m] w fun e w' => ∃ r, e = .returned r ∧ OwnI w.heap.size w' r (listI (endB ps m)) ∧ Below w.heap.size w w' := by
  have HFL := Aside0.mk (fun j W (hb : Below w.heap.size w W) => flow v ps (flowN ps j m) W (hv.below hb) h.1 (flowN_lt h.1 hm j) (flowN_zero h.1 h0 j))
  have HCL := Aside0.mk (fun j W => chainList (flowN ps j m) (flowN_lt h.1 hm j) (flowN_zero h.1 h0 j) W)
  have HLT := Aside0.mk (fun j => flowN_lt h.1 hm j)
  have HEND := Aside0.mk (flow_end h hm)
  obtain ⟨A1, d1, rfl, -⟩ := id hv
  clear hv h hm h0
  go_enter Try.func74, Try.ntmps74
  go_wp2_with (first | (go_at_call 71; refine (HFL.out 0 _ (Below.refl _ _)).mono ?_; rintro e w3 ⟨rfl, hb⟩; have HB3 := Aside0.mk hb; clear hb))
  go_loopg [1, 5] 130 (fun k s1 s5 wr => ∃ j x y, j + k = 130 ∧ s1 = .int .u64 (x : Nat) ∧ s5 = .int .u64 (y : Nat) ∧ Aside0 (x = flowN ps j m) ∧ Aside0 (y = flowN ps (j + 1) m) ∧ Aside0 (Below w.heap.size w wr))
  case atStart => exact ⟨0, _, _, by omega, rfl, rfl, ⟨rfl⟩, ⟨rfl⟩, HB3⟩
  case round =>
    obtain ⟨j, x, y, hj, rfl, rfl, HX, HY, HBr⟩ := hrel
    by_cases hxy : y = x
    · have HE : Aside0 (x = endB ps m) := ⟨by
        have h1 := hxy
        rw [HX.out, HY.out] at h1
        rw [HX.out]; exact (end_at (by omega) h1).symm⟩
      have HC := Aside0.mk (HCL.out j)
      rw [← HX.out] at HC
      have hq : (((y : Nat) : Int) != ((x : Nat) : Int)) = false := by simp [hxy]
      clear hxy
      go_wp2_with (first | (go_at_call 55; refine (HC.out _).mono ?_; rintro e w6 ⟨r, rfl, ho, hb⟩; have HO6 := Aside0.mk (ho.lower HBr.out.size); have HB6 := Aside0.mk (HBr.out.trans (hb.mono HBr.out.size)); clear ho hb))
      go_ret
      exact ⟨_, rfl, by rw [← HE.out]; exact HO6.out, HB6.out⟩
    · have hj1 : 1 ≤ gk := by
        rcases Nat.eq_zero_or_pos gk with h | h
        · exfalso
          obtain rfl : j = 130 := by omega
          exact hxy (by rw [HX.out, HY.out]; exact HEND.out)
        · exact h
      have HF := Aside0.mk (HFL.out (j + 1))
      rw [← HY.out] at HF
      have hq : (((y : Nat) : Int) != ((x : Nat) : Int)) = true := by simp; omega
      clear hxy
      go_wp2_with (first | (go_at_call 71; refine (HF.out _ HBr.out).mono ?_; rintro e w3 ⟨rfl, hb⟩; have HB4 := Aside0.mk (HBr.out.trans (hb.mono HBr.out.size)); clear hb))
      go_roundg (gk - 1)
      case measure => omega
      case rel => exact ⟨j + 1, _, _, by omega, rfl, rfl, HY, ⟨by rw [HY.out]; rfl⟩, HB4⟩
end Go.Proofs.Ytcbkchnfjeegmaa.H

namespace Go.Proofs.Ytcbkchnfjeegmaa.H
open Go.RowKit Go.Proofs.YtcbkchnfjeegmaaW.PrintWords Go.Proofs.YtcbkchnfjeegmaaW.PrintLast Go.Proofs.YtcbkchnfjeegmaaW.PrintMore
set_option linter.unusedVariables false
set_option linter.unusedSimpArgs false

set_option maxRecDepth 100000 in
set_option maxHeartbeats 1000000 in
theorem cloneI (v : Value) (xs : List Int) (w : World) (hv : ReadI w v xs) (hl : xs.length ≤ 1000000) :
    Calls Try.prog 111 #[v] w fun e w' => ∃ u, e = .returned u ∧ OwnI w.heap.size w' u xs ∧ Below w.heap.size w w' := by
  obtain ⟨A, c, rfl, hc, hr⟩ := id hv
  cases A with
  | none =>
    have hx : xs = [] := by
      cases xs with
      | nil => rfl
      | cons a r =>
        obtain ⟨ad, e, -⟩ := hr.2.2 (by simp)
        cases e
    subst hx
    have hnil : ∀ W : World, (binOp .eql 22 (.slice none 0 c) (.slice none 0 0)).run Try.prog W = .ok (.bool true) W := fun W => Lib.run_eql_slice_nil W 22 2 none 0 c 0 0 Try.underlying22
    clear hr hv
    go_enter Try.func111, Try.ntmps111
    go_wp2
    go_ret
    exact ⟨_, rfl, OwnI.nil _ _, Below.refl _ _⟩
  | some ad =>
    have hnil : ∀ W : World, (binOp .eql 22 (.slice (some ad) xs.length c) (.slice none 0 0)).run Try.prog W = .ok (.bool false) W := fun W => Lib.run_eql_slice_nil W 22 2 (some ad) xs.length c 0 0 Try.underlying22
    obtain ⟨w1, hw1⟩ : ∃ w1, w1 = w.alloc (.cells #[] 2) := ⟨_, rfl⟩
    have hB : Below w.heap.size w w1 := by rw [hw1]; exact Below.alloc (Below.refl _ _) (Nat.le_refl _) _
    have hs1 : w.heap.size ≤ w1.heap.size := hB.size
    have HO := Aside0.mk (show OwnI w.heap.size w1 (.slice (some ⟨w.heap.size, 0, none⟩) 0 0) [] by rw [hw1]; exact OwnI.empty w (Nat.le_refl _))
    have HB := Aside0.mk hB
    have HR := Aside0.mk (Kd.C_below hr hB)
    clear hr hv hB
    go_enter Try.func111, Try.ntmps111
    go_wp2_with (first | ((with_reducible refine gate_builtin (b := .append) (xs := #[.tmp 5, .tmp 6]) rfl ?_); rw [← hw1]; clear hw1; refine Kd.R_append_row (Value.int .i64) (0 : Int) (w0 := w) w.heap.size rfl (.tmp 5) (.tmp 6) 22 2 (.int .i64 0) 8 rfl Try.underlying22 info64 rfl (by decide) _ [] xs (some ad) xs.length c (fun _ => True) rfl rfl (fun _ _ => trivial) HO.out HR.out HB.out hs1 (by simp; omega) ?_; intro v1 w2 ho hb hg hat; have HO2 := Aside0.mk ho; have HB2 := Aside0.mk hb; clear ho hb hg hat))
    go_ret
    exact ⟨_, rfl, HO2.out, HB2.out⟩

set_option maxHeartbeats 1000000 in
theorem sliceIndex (v : Value) (xs : List Int) (x : Int) (w : World) (hr : ReadI w v xs) :
    Calls Try.prog 139 #[v, .int .i64 x] w fun e w' => (∃ r : Int, e = .returned (.int .i64 r) ∧ decide (0 ≤ r) = decide (x ∈ xs)) ∧ Below w.heap.size w w' := by
  have hlen := hr.len
  obtain ⟨A, c, rfl, hc, hr⟩ := hr
  have HR := Aside0.mk hr
  clear hr hc
  go_enter Try.func139, Try.ntmps139
  go_wp2
  go_loopw [8] (fun v wr => ∃ i : Nat, v = .int .i64 i ∧ i ≤ xs.length ∧ Aside0 (∀ j, j < i → x ≠ xs.getD j 0) ∧ wr = w) (fun v _ => xs.length - (intOf v).toNat)
  case atStart => exact ⟨0, rfl, Nat.zero_le _, ⟨fun j hj => absurd hj (Nat.not_lt_zero _)⟩, rfl⟩
  case round =>
    obtain ⟨i, rfl, hi, HN, rfl⟩ := hrel
    by_cases hlt : i < xs.length
    · obtain ⟨ad, y, rfl, hcell, HY⟩ := ReadI.get HR.out hlt
      by_cases hxy : x = y
      · have hb : (x == y) = true := by simpa using hxy
        have HM : Aside0 (x ∈ xs) := ⟨by rw [hxy]; exact mem_at hlt HY.out⟩
        clear hxy
        go_wp2
        go_ret
        exact ⟨⟨(i : Int), rfl, by rw [decide_eq_true HM.out]; exact decide_eq_true (by omega)⟩, Below.refl _ _⟩
      · have hb : (x == y) = false := by simpa using hxy
        have HX := Aside0.mk hxy
        clear hxy
        go_wp2
        go_roundw
        case rel => exact ⟨i + 1, by go_num, by omega, ⟨fun j hj => by
          rcases Nat.lt_succ_iff_lt_or_eq.1 hj with h | rfl
          · exact HN.out j h
          · rw [HY.out]; exact HX.out⟩, trivial⟩
        case measure => simp [intOf]; omega
    · have HM : Aside0 (x ∉ xs) := ⟨fun h => by
        obtain ⟨j, hj, e⟩ := List.getElem_of_mem h
        have := HN.out j (by omega)
        rw [List.getD_eq_getElem?_getD, List.getElem?_eq_getElem hj, Option.getD_some, e] at this
        exact this rfl⟩
      go_wp2
      go_ret
      exact ⟨⟨-1, rfl, by rw [decide_eq_false HM.out]; decide⟩, Below.refl _ _⟩
theorem sliceContains (v : Value) (xs : List Int) (x : Int) (w : World) (hr : ReadI w v xs) :
    Calls Try.prog 82 #[v, .int .i64 x] w fun e w' => e = .returned (.bool (decide (x ∈ xs))) ∧ Below w.heap.size w w' := by
  have HR := Aside0.mk hr
  obtain ⟨A, c, rfl, -⟩ := id hr
  clear hr
  go_enter Try.func82, Try.ntmps82
  go_wp2_with (first | (go_at_call 139; refine (sliceIndex _ xs x _ HR.out).mono ?_; rintro e w2 ⟨⟨r, rfl, he⟩, hb⟩; have HE := Aside0.mk he; clear he))
  go_ret
  exact ⟨by rw [← HE.out]; rfl, hb⟩

/-- a face lies in a pair -/
def inPair (f : Int) (p : Int × Int) : Bool := p.1 == f || p.2 == f
/-- the critical faces -/
def critL (xs : List Int) (ps : List (Int × Int)) : List Int := xs.filter fun f => !(ps.any (inPair f))

set_option maxRecDepth 100000 in
set_option maxHeartbeats 1000000 in
theorem crit11 (w : World) (b : Nat) (f : Int) (h0 : w.cell? ⟨b, 0, none⟩ = some (.int .i64 f)) :
    PredP w (.func (.func 142) #[] #[.pointer (some ⟨b, 0, none⟩)]) (inPair f) (fun _ => True) := by
  refine ⟨_, _, _, rfl, Enters.mk' Try.func142 rfl rfl, fun w1 x y hb _ => ?_⟩
  obtain ⟨w2, hw2⟩ : ∃ w2, w2 = w1.alloc (.cells #[.int .i64 x, .int .i64 y] 83) := ⟨_, rfl⟩
  have hB2 : Below w1.heap.size w1 w2 := by rw [hw2]; exact Below.alloc (Below.refl _ _) (Nat.le_refl _) _
  have ca := pw_cell_below hB2 (pw_cell_below hb h0)
  have c0 : w2.cell? ⟨w1.heap.size, 0, none⟩ = some (.int .i64 x) := by rw [hw2]; simp
  have c1 : w2.cell? ⟨w1.heap.size, 1, none⟩ = some (.int .i64 y) := by rw [hw2]; simp
  have HB := Aside0.mk hB2
  clear hb h0 hB2
  subst hw2
  show Calls _ _ #[_, _] _ _
  cases hq : (x == f) with
  | true =>
    have HI : Aside0 (inPair f (x, y) = true) := ⟨by unfold inPair; simp only; rw [hq]; rfl⟩
    go_enter Try.func142, Try.ntmps142
    go_wp2
    go_ret
    exact ⟨by rw [HI.out]; rfl, HB.out⟩
  | false =>
    have HI : Aside0 (inPair f (x, y) = (y == f)) := ⟨by unfold inPair; simp only; rw [hq]; rfl⟩
    go_enter Try.func142, Try.ntmps142
    go_wp2
    go_ret
    exact ⟨by rw [HI.out]; rfl, HB.out⟩

set_option maxRecDepth 100000 in
set_option maxHeartbeats 1000000 in
theorem crit1 (w : World) (b : Nat) (v : Value) (ps : List (Int × Int)) (h0 : w.cell? ⟨b, 0, none⟩ = some v) (hv : ReadP w v ps) :
    PredI w (.func (.func 140) #[] #[.pointer (some ⟨b, 0, none⟩)]) (fun f => ps.any (inPair f)) (fun _ => True) := by
  refine ⟨_, _, _, rfl, Enters.mk' Try.func140 rfl rfl, fun w1 x hb _ => ?_⟩
  obtain ⟨w2, hw2⟩ : ∃ w2, w2 = w1.alloc (.cells #[.int .i64 x] 2) := ⟨_, rfl⟩
  have hB2 : Below w1.heap.size w1 w2 := by rw [hw2]; exact Below.alloc (Below.refl _ _) (Nat.le_refl _) _
  have ca := pw_cell_below hB2 (pw_cell_below hb h0)
  have c0 : w2.cell? ⟨w1.heap.size, 0, none⟩ = some (.int .i64 x) := by rw [hw2]; simp
  have HB := Aside0.mk hB2
  have HC := Aside0.mk (containsFuncP v ps _ (inPair x) (fun _ => True) w2 (hv.below (hb.trans (hB2.mono hb.size))) (crit11 w2 w1.heap.size x c0) (fun _ _ => trivial))
  obtain ⟨A2, d2, rfl, -⟩ := id hv
  clear hb h0 hB2 hv
  subst hw2
  show Calls _ _ #[_, _] _ _
  go_enter Try.func140, Try.ntmps140
  go_wp2_with (first | (go_at_call 141; refine HC.out.mono ?_; rintro e w3 ⟨rfl, hb⟩; have HB3 := Aside0.mk hb; clear hb))
  go_ret
  exact ⟨rfl, HB.out.trans (HB3.out.mono HB.out.size)⟩

set_option maxRecDepth 100000 in
set_option maxHeartbeats 2000000 in
theorem critical (a : Int) (ku : Value) (xs : List Int) (v : Value) (ps : List (Int × Int)) (w : World) (hk : ReadI w ku xs) (hv : ReadP w v ps) (hl : xs.length ≤ 1000000) :
    Calls Try.prog 83 #[cx a ku, v] w fun e w' => ∃ u, e = .returned u ∧ OwnI w.heap.size w' u (critL xs ps) ∧ Below w.heap.size w w' := by
  obtain ⟨wb, hwb⟩ : ∃ wb, wb = w.alloc (.cells #[.int .i64 a, ku] 28) := ⟨_, rfl⟩
  obtain ⟨w1, hw1⟩ : ∃ w1, w1 = wb.alloc (.cells #[v] 43) := ⟨_, rfl⟩
  have hsb : wb.heap.size = w.heap.size + 1 := by rw [hwb]; simp
  have hBb : Below w.heap.size w wb := by rw [hwb]; exact Below.alloc (Below.refl _ _) (Nat.le_refl _) _
  have hB1 : Below wb.heap.size wb w1 := by rw [hw1]; exact Below.alloc (Below.refl _ _) (Nat.le_refl _) _
  have hB : Below w.heap.size w w1 := hBb.trans (hB1.mono hBb.size)
  have c0 : w1.cell? ⟨w.heap.size, 0, none⟩ = some (.int .i64 a) := pw_cell_below hB1 (by rw [hwb]; simp)
  have c1 : w1.cell? ⟨w.heap.size, 1, none⟩ = some ku := pw_cell_below hB1 (by rw [hwb]; simp)
  have cv : w1.cell? ⟨w.heap.size + 1, 0, none⟩ = some v := by rw [← hsb, hw1]; simp
  have HB := Aside0.mk hB
  have HCL := Aside0.mk (cloneI ku xs w1 (hk.below hB) hl)
  have HP := Aside0.mk (crit1 w1 (w.heap.size + 1) v ps cv (hv.below hB))
  have HL := Aside0.mk hl
  obtain ⟨A1, d1, rfl, -⟩ := id hk
  obtain ⟨A2, d2, rfl, -⟩ := id hv
  subst hwb
  clear hk hv hB hBb hB1 hsb hl cv
  go_enter Try.func83, Try.ntmps83
  go_wp2_with (first | (go_at_call 111; rw [← hw1]; clear hw1; refine HCL.out.mono ?_; rintro e w2 ⟨u, rfl, ho, hb⟩; have HO := Aside0.mk ho; have HB2 := Aside0.mk hb; obtain ⟨A3, d3, rfl, -⟩ := ho.read; clear ho hb) | (go_at_call 110; refine (deleteFunc w1 _ _ xs _ (fun f => ps.any (inPair f)) _ HB2.out HO.out HP.out (fun _ _ => trivial) HL.out).mono ?_; rintro e w3 ⟨u, rfl, ho, hb⟩; have HO3 := Aside0.mk (ho.lower HB.out.size); have HB3 := Aside0.mk hb; obtain ⟨A4, d4, rfl, -⟩ := ho.read; clear ho hb))
  go_ret
  exact ⟨_, rfl, HO3.out, HB.out.trans (HB3.out.mono HB.out.size)⟩

def freeTo (f : Int) (ps : List (Int × Int)) (j : Nat) : Bool := (ps.take j).all fun p => !(inPair f p)
theorem freeTo_next {f : Int} {ps : List (Int × Int)} {j : Nat} {x y : Int} (h : ps[j]? = some (x, y)) : freeTo f ps (j + 1) = (freeTo f ps j && (x != f && y != f)) := by
  unfold freeTo
  rw [take_pair h, List.all_append]
  congr 1
  simp [inPair, bne]
theorem freeTo_all (f : Int) (ps : List (Int × Int)) : freeTo f ps ps.length = !(ps.any (inPair f)) := by
  unfold freeTo
  rw [List.take_length, List.all_eq_not_any_not]
  simp
theorem critL_hit {xs : List Int} {ps : List (Int × Int)} {i : Nat} {f : Int} (h : i < xs.length) (hf : xs.getD i 0 = f) (b : Bool) (hb : b = !(ps.any (inPair f))) : critL (xs.take (i + 1)) ps = critL (xs.take i) ps ++ (if b then [f] else []) := by
  unfold critL
  rw [take_get h hf, List.filter_append]
  cases h2 : ps.any (inPair f) <;> rw [h2] at hb <;> subst hb <;> rw [List.filter_cons, h2] <;> rfl

set_option maxRecDepth 100000 in
set_option maxHeartbeats 4000000 in
theorem specCritL (a : Int) (ku : Value) (xs : List Int) (v : Value) (ps : List (Int × Int)) (w : World) (hk : ReadI w ku xs) (hv : ReadP w v ps) (hl : xs.length ≤ 1000000) :
    Calls Try.prog 136 #[cx a ku, v] w fun e w' => ∃ u, e = .returned u ∧ OwnI w.heap.size w' u (critL xs ps) ∧ Below w.heap.size w w' := by
  obtain ⟨w1, hw1⟩ : ∃ w1, w1 = w.alloc (.cells #[.int .i64 a, ku] 28) := ⟨_, rfl⟩
  have hB : Below w.heap.size w w1 := by rw [hw1]; exact Below.alloc (Below.refl _ _) (Nat.le_refl _) _
  have c0 : w1.cell? ⟨w.heap.size, 0, none⟩ = some (.int .i64 a) := by rw [hw1]; simp
  have c1 : w1.cell? ⟨w.heap.size, 1, none⟩ = some ku := by rw [hw1]; simp
  have HB0 := Aside0.mk hB
  have C1 := Aside0.mk (fun W (h : Below w1.heap.size w1 W) => pw_cell_below h c1)
  have HK := Aside0.mk (fun W (h : Below w1.heap.size w1 W) => (hk.below hB).below h)
  have HV := Aside0.mk (fun W (h : Below w1.heap.size w1 W) => (hv.below hB).below h)
  have hs1 : w1.heap.size = w.heap.size + 1 := by rw [hw1]; simp
  have HE := Aside0.mk (show OwnI w1.heap.size (w1.alloc (.cells #[] 2)) (.slice (some ⟨w.heap.size + 1, 0, none⟩) 0 0) [] by rw [← hs1]; exact OwnI.empty w1 (Nat.le_refl w1.heap.size))
  have HL := Aside0.mk hl
  have hlk := hk.len
  obtain ⟨A1, d1, rfl, -⟩ := id hk
  obtain ⟨A2, d2, rfl, hl2, -⟩ := id hv
  clear hk hv hB c0 c1 hl hs1
  go_enter Try.func136, Try.ntmps136
  go_wp2
  rw [← hw1]
  clear hw1
  go_loopw [5, 6] (fun s5 s6 wr => ∃ i : Nat, s6 = .int .i64 i ∧ i ≤ xs.length ∧ Aside0 (OwnI w1.heap.size wr s5 (critL (xs.take i) ps)) ∧ Aside0 (Below w1.heap.size w1 wr)) (fun _ s6 _ => xs.length - (intOf s6).toNat)
  case atStart => exact ⟨0, rfl, Nat.zero_le _, ⟨by rw [List.take_zero]; exact HE.out⟩, ⟨Below.alloc (Below.refl _ _) (Nat.le_refl _) _⟩⟩
  case round =>
    obtain ⟨i, rfl, hi, HO, HB⟩ := hrel
    have c1 := C1.out _ HB.out
    by_cases hlt : i < xs.length
    · obtain ⟨A_, c_, e_, -, hcc⟩ := HK.out _ HB.out
      cases e_
      obtain ⟨ad, f, e1, hcell, HF⟩ := ReadI.get hcc hlt
      cases e1
      have HCELL := Aside0.mk (fun W (h : Below wr.heap.size wr W) => (pw_cell_below h hcell))
      have hiI : (i : Int) < (xs.length : Int) := by omega
      clear hcc hcell
      go_wp2
      go_loopw [7, 8] (fun s7 s8 wx => ∃ (j : Nat) (b : Bool), s7 = .bool b ∧ s8 = .int .i64 j ∧ j ≤ ps.length ∧ Aside0 (b = freeTo f ps j) ∧ Aside0 (Below wr.heap.size wr wx)) (fun _ s8 _ => ps.length - (intOf s8).toNat)
      case atStart => exact ⟨0, true, rfl, rfl, Nat.zero_le _, ⟨rfl⟩, ⟨Below.refl _ _⟩⟩
      case round =>
        obtain ⟨j, b, rfl, rfl, hj, HBj, HBx⟩ := hrel
        have c1x := pw_cell_below HBx.out c1
        have hcell := HCELL.out _ HBx.out
        by_cases hjt : j < ps.length
        · obtain ⟨g, x, y, e2, hxy, hc0, hc1⟩ := ReadP.get (HV.out _ (HB.out.trans (HBx.out.mono HB.out.size))) hjt
          cases e2
          have hjI : (j : Int) < (ps.length : Int) := by omega
          have HN := Aside0.mk (freeTo_next (f := f) hxy)
          rw [← HBj.out] at HN
          clear hxy
          cases b with
          | false =>
            go_wp2
            go_quiet (fail)
            go_wp2
            go_roundw
            case rel => exact ⟨j + 1, false, by go_num, by go_num, by omega, ⟨HN.out.symm⟩, ⟨below_drewN HBx.out _⟩⟩
            case measure => simp [intOf]; omega
          | true =>
            cases hxf : (x != f) with
            | false =>
              rw [hxf] at HN
              go_wp2
              go_quiet (fail)
              go_wp2
              go_roundw
              case rel => exact ⟨j + 1, false, by go_num, by go_num, by omega, ⟨HN.out.symm⟩, ⟨below_drewN HBx.out _⟩⟩
              case measure => simp [intOf]; omega
            | true =>
              rw [hxf] at HN
              go_wp2
              go_quiet (fail)
              go_wp2
              go_roundw
              case rel => exact ⟨j + 1, y != f, by go_num, by go_num, by omega, ⟨HN.out.symm⟩, ⟨below_drewN HBx.out _⟩⟩
              case measure => simp [intOf]; omega
        · have HX : Aside0 (critL (xs.take (i + 1)) ps = critL (xs.take i) ps ++ (if b then [f] else [])) := ⟨critL_hit hlt HF.out b (by
            have h1 := HBj.out
            rw [show j = ps.length by omega, freeTo_all] at h1
            exact h1)⟩
          have HOX := Aside0.mk (HO.out.below HBx.out)
          have HWX := Aside0.mk (HB.out.trans (HBx.out.mono HB.out.size))
          have HLC : Aside0 ((critL (xs.take i) ps).length < 1000000) := ⟨by
            have h1 := List.length_filter_le (fun f => !(ps.any (inPair f))) (xs.take i)
            have h2 := HL.out
            unfold critL
            simp only [List.length_take] at h1
            omega⟩
          cases b with
          | false =>
            go_wp2
            go_roundw
            case rel => exact ⟨i + 1, by go_num, by omega, ⟨by rw [HX.out]; simpa using HOX.out⟩, HWX⟩
            case measure => simp [intOf]; omega
          | true =>
            go_wp2_with (first | ((with_reducible refine gate_builtin (b := .append) (xs := #[.tmp 51, .tmp 57]) rfl ?_); refine app_own (w0 := w1) w1.heap.size rfl (.tmp 51) (.tmp 57) rfl u5 _ f rfl rfl HOX.out HWX.out HWX.out.size (Nat.lt_trans HLC.out (by decide)) ?_; intro v6 w6 ho6 hb6 hg6 hat6; have HO6 := Aside0.mk ho6; have HB6 := Aside0.mk hb6; clear ho6 hb6 hg6 hat6))
            go_roundw
            case rel => exact ⟨i + 1, by go_num, by omega, ⟨by rw [HX.out]; exact HO6.out⟩, HB6⟩
            case measure => simp [intOf]; omega
    · have e : i = xs.length := by omega
      have HE := Aside0.mk e
      clear e
      go_wp2
      go_ret
      refine ⟨_, rfl, ?_, HB0.out.trans (HB.out.mono HB0.out.size)⟩
      have := HO.out
      rw [HE.out, List.take_length] at this
      exact this.lower HB0.out.size
end Go.Proofs.Ytcbkchnfjeegmaa.H

namespace Go.Proofs.Ytcbkchnfjeegmaa.H
open Go.RowKit Go.Proofs.YtcbkchnfjeegmaaW.PrintWords Go.Proofs.YtcbkchnfjeegmaaW.PrintLast Go.Proofs.YtcbkchnfjeegmaaW.PrintMore
set_option linter.unusedVariables false
set_option linter.unusedSimpArgs false

/-- is a face critical -/
def critB (xs : List Int) (ps : List (Int × Int)) (b : Int) : Bool := decide (b ∈ critL xs ps)

set_option maxRecDepth 100000 in
set_option maxHeartbeats 2000000 in
theorem specCrit6 (a : Int) (ku : Value) (xs : List Int) (v : Value) (ps : List (Int × Int)) (b : Int) (w : World) (hk : ReadI w ku xs) (hv : ReadP w v ps) (hl : xs.length ≤ 1000000) :
    Calls Try.prog 79 #[cx a ku, v, .int .i64 b] w fun e w' => e = .returned (.bool (critB xs ps b)) ∧ Below w.heap.size w w' := by
  obtain ⟨w1, hw1⟩ : ∃ w1, w1 = w.alloc (.cells #[.int .i64 a, ku] 28) := ⟨_, rfl⟩
  have hB : Below w.heap.size w w1 := by rw [hw1]; exact Below.alloc (Below.refl _ _) (Nat.le_refl _) _
  have HB := Aside0.mk hB
  have HC := Aside0.mk (specCritL a ku xs v ps w1 (hk.below hB) (hv.below hB) hl)
  have HLN : Aside0 ((critL xs ps).length ≤ xs.length) := ⟨List.length_filter_le _ _⟩
  obtain ⟨A1, d1, rfl, -⟩ := id hk
  obtain ⟨A2, d2, rfl, -⟩ := id hv
  have hl9 : (critL xs ps).length ≤ 1000000 := Nat.le_trans HLN.out hl
  clear hk hv hB
  go_enter Try.func79, Try.ntmps79
  go_wp2_with (first | (go_at_call 136; rw [← hw1]; clear hw1; refine HC.out.mono ?_; rintro e w2 ⟨u, rfl, ho, hb⟩; obtain ⟨A3, d3, rfl, -⟩ := ho.read; have HO := Aside0.mk ho; have HB2 := Aside0.mk hb; clear ho hb))
  go_loopw [8] (fun s8 wr => ∃ i : Nat, s8 = .int .i64 i ∧ i ≤ (critL xs ps).length ∧ Aside0 (∀ j, j < i → (critL xs ps).getD j 0 ≠ b) ∧ Aside0 (Below w2.heap.size w2 wr)) (fun s8 _ => (critL xs ps).length - (intOf s8).toNat)
  case atStart => exact ⟨0, rfl, Nat.zero_le _, ⟨fun j hj => absurd hj (Nat.not_lt_zero _)⟩, ⟨Below.refl _ _⟩⟩
  case round =>
    obtain ⟨i, rfl, hi, HN, HBi⟩ := hrel
    by_cases hlt : i < (critL xs ps).length
    · obtain ⟨A_, c_, e_, -, hcc⟩ := (HO.out.below HBi.out).read
      cases e_
      obtain ⟨ad, y, e1, hcell, HY⟩ := ReadI.get hcc hlt
      cases e1
      clear hcc
      cases hq : (y == b) with
      | true =>
        have HF : Aside0 (critB xs ps b = true) := ⟨decide_eq_true (by rw [← eq_of_beq hq]; exact mem_at hlt HY.out)⟩
        go_wp2
        go_ret
        exact ⟨by rw [HF.out]; rfl, HB.out.trans ((HB2.out.trans (HBi.out.mono HB2.out.size)).mono HB.out.size)⟩
      | false =>
        have HX : Aside0 (y ≠ b) := ⟨by simpa using hq⟩
        go_wp2
        go_roundw
        case rel => exact ⟨i + 1, by go_num, by omega, ⟨fun j hj => by
          rcases Nat.lt_succ_iff_lt_or_eq.1 hj with h | rfl
          · exact HN.out j h
          · rw [HY.out]; exact HX.out⟩, HBi⟩
        case measure => simp [intOf]; omega
    · have HF : Aside0 (critB xs ps b = false) := ⟨decide_eq_false (fun h => by
        obtain ⟨j, hj, e⟩ := List.getElem_of_mem h
        have := HN.out j (by omega)
        rw [List.getD_eq_getElem?_getD, List.getElem?_eq_getElem hj, Option.getD_some, e] at this
        exact this rfl)⟩
      go_wp2
      go_ret
      exact ⟨by rw [HF.out]; rfl, HB.out.trans ((HB2.out.trans (HBi.out.mono HB2.out.size)).mono HB.out.size)⟩

/-- the code of a critical face -/
def codeCrit (a : Int) (xs : List Int) (ps : List (Int × Int)) (b : Int) : Int := if cxOk a xs then (if pOk xs ps then (if critB xs ps b then (if acyB ps then 0 else 5) else 2) else 2) else 1
/-- what CriticalChain answers -/
def ansCriticalChain (a : Int) (xs : List Int) (ps : List (Int × Int)) (b : Int) : List Int × Int := if codeCrit a xs ps b = 0 then (listI (endB ps (bitsI [b])), 0) else ([], codeCrit a xs ps b)
theorem lenCriticalChain (a : Int) (xs : List Int) (ps : List (Int × Int)) (b : Int) : (ansCriticalChain a xs ps b).1.length ≤ 1073741824 := by
  unfold ansCriticalChain
  split
  · exact Nat.le_trans (listI_len _) (by decide)
  · simp
theorem crit_mem {xs : List Int} {ps : List (Int × Int)} {b : Int} (h : critB xs ps b = true) : b ∈ xs := (List.mem_filter.1 (of_decide_eq_true h)).1

set_option maxRecDepth 100000 in
set_option maxHeartbeats 2000000 in
theorem specCriticalChain (a : Int) (ku : Value) (xs : List Int) (v : Value) (ps : List (Int × Int)) (b : Int) (w : World) (hk : ReadI w ku xs) (hv : ReadP w v ps) :
    Calls Try.prog 40 #[cx a ku, v, .int .i64 b] w fun e w' => ∃ r, e = .returned (.tuple #[r, .int .i64 (ansCriticalChain a xs ps b).2]) ∧ OwnI w.heap.size w' r (ansCriticalChain a xs ps b).1 ∧ Below w.heap.size w w' := by
  obtain ⟨w1, hw1⟩ : ∃ w1, w1 = w.alloc (.cells #[.int .i64 a, ku] 28) := ⟨_, rfl⟩
  have hB : Below w.heap.size w w1 := by rw [hw1]; exact Below.alloc (Below.refl _ _) (Nat.le_refl _) _
  have c0 : w1.cell? ⟨w.heap.size, 0, none⟩ = some (.int .i64 a) := by rw [hw1]; simp
  have c1 : w1.cell? ⟨w.heap.size, 1, none⟩ = some ku := by rw [hw1]; simp
  have HB := Aside0.mk hB
  have HM := Aside0.mk (specCode2 a ku xs v ps w1 (hk.below hB) (hv.below hB))
  have HKW := Aside0.mk (fun W (h : Below w1.heap.size w1 W) => (hk.below hB).below h)
  have HVW := Aside0.mk (fun W (h : Below w1.heap.size w1 W) => (hv.below hB).below h)
  obtain ⟨A1, d1, rfl, -⟩ := id hk
  obtain ⟨A2, d2, rfl, -⟩ := id hv
  clear hk hv hB
  cases hx : cxOk a xs with
  | false =>
    have HA : Aside0 (ansCriticalChain a xs ps b = ([], 1)) := ⟨by unfold ansCriticalChain codeCrit; rw [hx]; rfl⟩
    rw [hx] at HM
    clear hx
    go_enter Try.func40, Try.ntmps40
    go_wp2_with (first | (go_at_call 78; rw [← hw1]; clear hw1; refine HM.out.mono ?_; rintro e w2 ⟨rfl, hb⟩; have HB2 := Aside0.mk hb; clear hb))
    go_ret2
    exact ⟨_, by rw [HA.out]; rfl, by rw [HA.out]; exact OwnI.nil _ _, HB.out.trans (HB2.out.mono HB.out.size)⟩
  | true =>
    rw [hx] at HM
    obtain ⟨n, rfl, hc, -⟩ := cxOk_cx hx
    cases hp : pOk xs ps with
    | false =>
      have HA : Aside0 (ansCriticalChain n xs ps b = ([], 2)) := ⟨by unfold ansCriticalChain codeCrit; rw [hx, hp]; rfl⟩
      rw [hp] at HM
      clear hx hp hc
      go_enter Try.func40, Try.ntmps40
      go_wp2_with (first | (go_at_call 78; rw [← hw1]; clear hw1; refine HM.out.mono ?_; rintro e w2 ⟨rfl, hb⟩; have HB2 := Aside0.mk hb; clear hb))
      go_ret2
      exact ⟨_, by rw [HA.out]; rfl, by rw [HA.out]; exact OwnI.nil _ _, HB.out.trans (HB2.out.mono HB.out.size)⟩
    | true =>
      rw [hp] at HM
      have hd := pOk_dom hc hp
      have HCR := Aside0.mk (fun W (h : Below w1.heap.size w1 W) => specCrit6 n _ xs _ ps b W (HKW.out W h) (HVW.out W h) (Nat.le_trans hc.len (by decide)))
      have HSA := Aside0.mk (fun W (h : Below w1.heap.size w1 W) => specAcyclic _ ps W (HVW.out W h) hd)
      obtain ⟨q, hq⟩ : ∃ q, q = critB xs ps b := ⟨_, rfl⟩
      rw [← hq] at HCR
      cases q with
      | false =>
        have HA : Aside0 (ansCriticalChain n xs ps b = ([], 2)) := ⟨by unfold ansCriticalChain codeCrit; rw [hx, hp, ← hq]; rfl⟩
        clear hx hp hc hq hd
        go_enter Try.func40, Try.ntmps40
        go_wp2_with (first | (go_at_call 78; rw [← hw1]; clear hw1; refine HM.out.mono ?_; rintro e w2 ⟨rfl, hb⟩; replace c0 := pw_cell_below hb c0; replace c1 := pw_cell_below hb c1; have HB2 := Aside0.mk hb; clear hb) | (go_at_call 79; refine (HCR.out _ HB2.out).mono ?_; rintro e w3 ⟨rfl, hb⟩; have HB3 := Aside0.mk (HB2.out.trans (hb.mono HB2.out.size)); clear hb))
        go_ret2
        exact ⟨_, by rw [HA.out]; rfl, by rw [HA.out]; exact OwnI.nil _ _, HB.out.trans (HB3.out.mono HB.out.size)⟩
      | true =>
        obtain ⟨r, hr⟩ : ∃ r, r = acyB ps := ⟨_, rfl⟩
        rw [← hr] at HSA
        have hm := crit_mem hq.symm
        have hbd0 : ∀ x ∈ [b], 0 ≤ x ∧ x ≤ 63 := fun x hxb => by have h1 := hc.nat (x := x) (by simp at hxb; rw [hxb]; exact hm); obtain ⟨f, h2, h3, h4⟩ := h1; omega
        have hbd1 : ∀ x ∈ [b], 1 ≤ x ∧ x ≤ 63 := fun x hxb => by have h1 := hc.nat (x := x) (by simp at hxb; rw [hxb]; exact hm); obtain ⟨f, h2, h3, h4⟩ := h1; omega
        have hbits : listI (bitsI [b]) = [b] := list_bits (by simp) hbd0
        cases r with
        | false =>
          have HA : Aside0 (ansCriticalChain n xs ps b = ([], 5)) := ⟨by unfold ansCriticalChain codeCrit; rw [hx, hp, ← hq, ← hr]; rfl⟩
          clear hx hp hc hq hd hr hm hbd0 hbd1 hbits
          go_enter Try.func40, Try.ntmps40
          go_wp2_with (first | (go_at_call 78; rw [← hw1]; clear hw1; refine HM.out.mono ?_; rintro e w2 ⟨rfl, hb⟩; replace c0 := pw_cell_below hb c0; replace c1 := pw_cell_below hb c1; have HB2 := Aside0.mk hb; clear hb) | (go_at_call 79; refine (HCR.out _ HB2.out).mono ?_; rintro e w3 ⟨rfl, hb⟩; have HB3 := Aside0.mk (HB2.out.trans (hb.mono HB2.out.size)); clear hb) | (go_at_call 80; refine (HSA.out _ HB3.out).mono ?_; rintro e w4 ⟨rfl, hb⟩; have HB4 := Aside0.mk (HB3.out.trans (hb.mono HB3.out.size)); clear hb))
          go_ret2
          exact ⟨_, by rw [HA.out]; rfl, by rw [HA.out]; exact OwnI.nil _ _, HB.out.trans (HB4.out.mono HB.out.size)⟩
        | true =>
          have HA : Aside0 (ansCriticalChain n xs ps b = (listI (endB ps (bitsI [b])), 0)) := ⟨by unfold ansCriticalChain codeCrit; rw [hx, hp, ← hq, ← hr]; rfl⟩
          have hap := acyP_of hc hp hr.symm
          have HF := Aside0.mk (fun u W (h : Below w1.heap.size w1 W) (hu : ReadI W u [b]) => specEnd (.slice A2 ps.length d2) ps u (bitsI [b]) W (HVW.out W h) (by rw [hbits]; exact hu) hap (bitsI_lt hbd0) (bitsI_zero (by simp) hbd1))
          clear hx hp hc hq hd hr hm hbd0 hbd1 hbits hap
          go_enter Try.func40, Try.ntmps40
          go_wp2_with (first | (go_at_call 78; rw [← hw1]; clear hw1; refine HM.out.mono ?_; rintro e w2 ⟨rfl, hb⟩; replace c0 := pw_cell_below hb c0; replace c1 := pw_cell_below hb c1; have HB2 := Aside0.mk hb; clear hb) | (go_at_call 79; refine (HCR.out _ HB2.out).mono ?_; rintro e w3 ⟨rfl, hb⟩; have HB3 := Aside0.mk (HB2.out.trans (hb.mono HB2.out.size)); clear hb) | (go_at_call 80; refine (HSA.out _ HB3.out).mono ?_; rintro e w4 ⟨rfl, hb⟩; have HB4 := Aside0.mk (HB3.out.trans (hb.mono HB3.out.size)); clear hb) | (go_at_call 73; refine (HF.out _ _ (HB4.out.trans ((Below.alloc (Below.refl _ _) (Nat.le_refl _) _).mono HB4.out.size)) (OwnI.single w4 b (Nat.le_refl w4.heap.size)).read).mono ?_; rintro e w5 ⟨r, rfl, ho, hb⟩; have hsz : w4.heap.size ≤ (w4.alloc (.cells #[.int .i64 b] 2)).heap.size := (by simp); have HO5 := Aside0.mk (ho.lower (Nat.le_trans HB.out.size (Nat.le_trans HB4.out.size hsz))); have HB5 := Aside0.mk (HB4.out.trans (((Below.alloc (Below.refl _ _) (Nat.le_refl _) _).trans (hb.mono hsz)).mono HB4.out.size)); clear ho hb hsz))
          go_ret2
          exact ⟨_, by rw [HA.out]; rfl, by rw [HA.out]; exact HO5.out, HB.out.trans (HB5.out.mono HB.out.size)⟩

set_option maxRecDepth 100000 in
set_option maxHeartbeats 4000000 in
theorem implCriticalChain (a : Int) (ku : Value) (xs : List Int) (v : Value) (ps : List (Int × Int)) (b : Int) (w : World) (hk : ReadI w ku xs) (hv : ReadP w v ps) :
    Calls Try.prog 41 #[cx a ku, v, .int .i64 b] w fun e w' => ∃ r, e = .returned (.tuple #[r, .int .i64 (ansCriticalChain a xs ps b).2]) ∧ OwnI w.heap.size w' r (ansCriticalChain a xs ps b).1 ∧ Below w.heap.size w w' := by
  obtain ⟨w1, hw1⟩ : ∃ w1, w1 = w.alloc (.cells #[.int .i64 a, ku] 28) := ⟨_, rfl⟩
  have hB : Below w.heap.size w w1 := by rw [hw1]; exact Below.alloc (Below.refl _ _) (Nat.le_refl _) _
  have c0 : w1.cell? ⟨w.heap.size, 0, none⟩ = some (.int .i64 a) := by rw [hw1]; simp
  have c1 : w1.cell? ⟨w.heap.size, 1, none⟩ = some ku := by rw [hw1]; simp
  have HB := Aside0.mk hB
  have HM := Aside0.mk (pairingCode a ku xs v ps true w1 (hk.below hB) (hv.below hB))
  rw [Bool.true_and] at HM
  have HKW := Aside0.mk (fun W (h : Below w1.heap.size w1 W) => (hk.below hB).below h)
  have HVW := Aside0.mk (fun W (h : Below w1.heap.size w1 W) => (hv.below hB).below h)
  obtain ⟨A1, d1, rfl, -⟩ := id hk
  obtain ⟨A2, d2, rfl, -⟩ := id hv
  have hmx : Try.prog.follows .mixedOrders = true := by kernel_rfl
  clear hk hv hB
  cases hx : cxOk a xs with
  | false =>
    have HA : Aside0 (ansCriticalChain a xs ps b = ([], 1)) := ⟨by unfold ansCriticalChain codeCrit; rw [hx]; rfl⟩
    rw [hx] at HM
    clear hx
    go_enter Try.func41, Try.ntmps41
    go_wp2_with (first | (go_at_call 81; rw [← hw1]; clear hw1; refine HM.out.mono ?_; rintro e w2 ⟨rfl, hb⟩; have HB2 := Aside0.mk hb; clear hb))
    go_ret2
    exact ⟨_, by rw [HA.out]; rfl, by rw [HA.out]; exact OwnI.nil _ _, HB.out.trans (HB2.out.mono HB.out.size)⟩
  | true =>
    rw [hx] at HM
    obtain ⟨n, rfl, hc, -⟩ := cxOk_cx hx
    cases hp : pOk xs ps with
    | false =>
      have HA : Aside0 (ansCriticalChain n xs ps b = ([], 2)) := ⟨by unfold ansCriticalChain codeCrit; rw [hx, hp]; rfl⟩
      rw [hp] at HM
      clear hx hp hc
      go_enter Try.func41, Try.ntmps41
      go_wp2_with (first | (go_at_call 81; rw [← hw1]; clear hw1; refine HM.out.mono ?_; rintro e w2 ⟨rfl, hb⟩; have HB2 := Aside0.mk hb; clear hb))
      go_ret2
      exact ⟨_, by rw [HA.out]; rfl, by rw [HA.out]; exact OwnI.nil _ _, HB.out.trans (HB2.out.mono HB.out.size)⟩
    | true =>
      rw [hp] at HM
      have HCR := Aside0.mk (fun W (h : Below w1.heap.size w1 W) => critical n _ xs _ ps W (HKW.out W h) (HVW.out W h) (Nat.le_trans hc.len (by decide)))
      have HLC : Aside0 (True) := ⟨trivial⟩
      obtain ⟨q, hq⟩ : ∃ q, q = critB xs ps b := ⟨_, rfl⟩
      have HQ : Aside0 (q = decide (b ∈ critL xs ps)) := ⟨hq⟩
      have HAC := Aside0.mk (fun W (h : Below w1.heap.size w1 W) => acyclicCode n _ xs _ ps q W (HKW.out W h) (HVW.out W h))
      obtain ⟨z, hz⟩ : ∃ z, z = codeCrit n xs ps b := ⟨_, rfl⟩
      have hzq : (if cxOk n xs then (if q && pOk xs ps then (if acyB ps then 0 else 5) else 2) else 1) = z := by rw [hz, hq]; unfold codeCrit; rw [hx, hp]; cases critB xs ps b <;> rfl
      rw [hzq] at HAC
      by_cases h0 : z = 0
      · have hqt : critB xs ps b = true := by
          cases hh : critB xs ps b with
          | true => rfl
          | false => exfalso; rw [h0] at hz; unfold codeCrit at hz; rw [hx, hp, hh] at hz; exact absurd hz (by simp)
        have hra : acyB ps = true := by
          cases hh : acyB ps with
          | true => rfl
          | false => exfalso; rw [h0] at hz; unfold codeCrit at hz; rw [hx, hp, hqt, hh] at hz; exact absurd hz (by simp)
        have hm := crit_mem hqt
        have hbd0 : ∀ x ∈ [b], 0 ≤ x ∧ x ≤ 63 := fun x hxb => by have h1 := hc.nat (x := x) (by simp at hxb; rw [hxb]; exact hm); obtain ⟨f, h2, h3, h4⟩ := h1; omega
        have hbd1 : ∀ x ∈ [b], 1 ≤ x ∧ x ≤ 63 := fun x hxb => by have h1 := hc.nat (x := x) (by simp at hxb; rw [hxb]; exact hm); obtain ⟨f, h2, h3, h4⟩ := h1; omega
        have hap := acyP_of hc hp hra
        have HA : Aside0 (ansCriticalChain n xs ps b = (listI (endB ps (bitsI [b])), 0)) := ⟨by unfold ansCriticalChain; rw [← hz, if_pos h0]⟩
        have HF := Aside0.mk (fun W (h : Below w1.heap.size w1 W) => ends (.slice A2 ps.length d2) ps (bitsI [b]) W (HVW.out W h) hap (bitsI_lt hbd0) (bitsI_zero (by simp) hbd1))
        have HCH := Aside0.mk (fun u W (hu : ReadI W u [b]) => chainOf u [b] W hu hbd0)
        clear hx hp hc hq hz hzq hqt hra hm hbd0 hbd1 hap
        subst h0
        go_enter Try.func41, Try.ntmps41
        go_wp2_with (first | (go_at_call 81; rw [← hw1]; clear hw1; refine HM.out.mono ?_; rintro e w2 ⟨rfl, hb⟩; replace c0 := pw_cell_below hb c0; replace c1 := pw_cell_below hb c1; have HB2 := Aside0.mk hb; clear hb))
        refine wp_region_g Bl (fun w => (Below.refl _ w).drew) (fun _ _ _ => Bl.trans) (fun i => match i with | 0 => fun v _ => v = cx n (.slice A1 xs.length d1) | 1 => fun v _ => v = .slice A2 ps.length d2 | 2 => fun v _ => v = cx n (.slice A1 xs.length d1) | 3 => fun v _ => v = .slice A2 ps.length d2 | 4 => fun v W => OwnI w.heap.size W v (critL xs ps) | 5 => fun v _ => v = .int .i64 b | 6 => fun v _ => v = .bool q | 7 => fun v _ => v = .int .i64 0 | 8 => fun v _ => v = .int .i64 0 | _ => fun _ _ => True)
          [0, 0, 0, 0, 12, 0, 60, 127, 255] hmx (by kernel_rfl) ?st ?steps ?rest
        case st =>
          intro i v w1_ w2_ hb
          match i with
          | 0 | 1 | 2 | 3 | 5 | 6 | 7 | 8 => exact id
          | 4 => exact fun h => OwnI.below h hb
          | n + 9 => exact id
        case steps =>
          refine ⟨?_, ?_, ?_, ?_, ?_, ?_, ?_, ?_, ?_, trivial⟩
          · intro s w_ hb hd hq R hR
            generalize hA : putAll _ 0 s _ = A
            clear hq
            have c0_ := pw_cell_below hb c0
            have c1_ := pw_cell_below hb c1
            have hR' := hR (cx n (.slice A1 xs.length d1)) _ (Below.refl _ _) rfl
            clear hR hd
            refine opGives_value ?_ hR'
            subst hA
            simp only [dsOf, List.map_cons, List.map_nil, Option.getD_some, putAll, Act.put, List.setIfInBounds_toArray, List.set_cons_zero, List.set_cons_succ]
            go_simp
          · intro s w_ hb hd hq R hR
            generalize hA : putAll _ 0 s _ = A
            clear hq
            have hR' := hR (.slice A2 ps.length d2) _ (Below.refl _ _) rfl
            clear hR hd
            refine opGives_value ?_ hR'
            subst hA
            simp only [dsOf, List.map_cons, List.map_nil, Option.getD_some, putAll, Act.put, List.setIfInBounds_toArray, List.set_cons_zero, List.set_cons_succ]
            go_simp
          · intro s w_ hb hd hq R hR
            generalize hA : putAll _ 0 s _ = A
            clear hq
            have c0_ := pw_cell_below hb c0
            have c1_ := pw_cell_below hb c1
            have hR' := hR (cx n (.slice A1 xs.length d1)) _ (Below.refl _ _) rfl
            clear hR hd
            refine opGives_value ?_ hR'
            subst hA
            simp only [dsOf, List.map_cons, List.map_nil, Option.getD_some, putAll, Act.put, List.setIfInBounds_toArray, List.set_cons_zero, List.set_cons_succ]
            go_simp
          · intro s w_ hb hd hq R hR
            generalize hA : putAll _ 0 s _ = A
            clear hq
            have hR' := hR (.slice A2 ps.length d2) _ (Below.refl _ _) rfl
            clear hR hd
            refine opGives_value ?_ hR'
            subst hA
            simp only [dsOf, List.map_cons, List.map_nil, Option.getD_some, putAll, Act.put, List.setIfInBounds_toArray, List.set_cons_zero, List.set_cons_succ]
            go_simp
          · intro s w_ hb hd hq R hR
            generalize hA : putAll _ 0 s _ = A
            have e2 : s 2 = _ := hd 2 (by kernel_rfl)
            have e3 : s 3 = _ := hd 3 (by kernel_rfl)
            clear hq
            refine opGives_call (f := 83) (args := #[cx n (.slice A1 xs.length d1), .slice A2 ps.length d2]) ?_ ?_
            · subst hA
              clear hR hd
              simp only [dsOf, List.map_cons, List.map_nil, Option.getD_some, putAll, Act.put, List.setIfInBounds_toArray, List.set_cons_zero, List.set_cons_succ]
              go_simp
            clear hA A hd
            refine (HCR.out _ (Below.trans HB2.out (Below.mono hb (Below.size HB2.out)))).mono ?_
            rintro e w3_ ⟨u, rfl, ho, hb3⟩
            exact ⟨_, rfl, hR _ _ hb3 (OwnI.lower ho (Nat.le_trans HB.out.size (Nat.le_trans (Below.size HB2.out) (Below.size hb))))⟩
          · intro s w_ hb hd hq R hR
            generalize hA : putAll _ 0 s _ = A
            clear hq
            have hR' := hR (.int .i64 b) _ (Below.refl _ _) rfl
            clear hR hd
            refine opGives_value ?_ hR'
            subst hA
            simp only [dsOf, List.map_cons, List.map_nil, Option.getD_some, putAll, Act.put, List.setIfInBounds_toArray, List.set_cons_zero, List.set_cons_succ]
            go_simp
          · intro s w_ hb hd hq R hR
            generalize hA : putAll _ 0 s _ = A
            have o4_ : OwnI w.heap.size w_ (s 4) (critL xs ps) := hd 4 (by kernel_rfl)
            obtain ⟨A4_, d4_, e4, -⟩ := o4_.read
            rw [e4] at o4_
            have e5 : s 5 = _ := hd 5 (by kernel_rfl)
            clear hq
            refine opGives_call (f := 82) (args := #[.slice A4_ (critL xs ps).length d4_, .int .i64 b]) ?_ ?_
            · subst hA
              clear hR hd
              simp only [dsOf, List.map_cons, List.map_nil, Option.getD_some, putAll, Act.put, List.setIfInBounds_toArray, List.set_cons_zero, List.set_cons_succ]
              go_simp
            clear hA A hd
            refine (sliceContains _ (critL xs ps) b _ o4_.read).mono ?_
            rintro e w3_ ⟨rfl, hb3⟩
            exact ⟨_, rfl, hR _ _ hb3 (by rw [← HQ.out]; exact rfl)⟩
          · intro s w_ hb hd hq R hR
            generalize hA : putAll _ 0 s _ = A
            have e0 : s 0 = _ := hd 0 (by kernel_rfl)
            have e1 : s 1 = _ := hd 1 (by kernel_rfl)
            have e6 : s 6 = _ := hd 6 (by kernel_rfl)
            clear hq
            refine opGives_call (f := 70) (args := #[cx n (.slice A1 xs.length d1), .slice A2 ps.length d2, .bool q]) ?_ ?_
            · subst hA
              clear hR hd
              simp only [dsOf, List.map_cons, List.map_nil, Option.getD_some, putAll, Act.put, List.setIfInBounds_toArray, List.set_cons_zero, List.set_cons_succ]
              go_simp
            clear hA A hd
            refine (HAC.out _ (Below.trans HB2.out (Below.mono hb (Below.size HB2.out)))).mono ?_
            rintro e w3_ ⟨rfl, hb3⟩
            exact ⟨_, rfl, hR _ _ hb3 rfl⟩
          · intro s w_ hb hd hq R hR
            generalize hA : putAll _ 0 s _ = A
            have e7 : s 7 = _ := hd 7 (by kernel_rfl)
            clear hq
            have hR' := hR (.int .i64 0) _ (Below.refl _ _) rfl
            clear hR hd
            refine opGives_value ?_ hR'
            subst hA
            simp only [dsOf, List.map_cons, List.map_nil, Option.getD_some, putAll, Act.put, List.setIfInBounds_toArray, List.set_cons_zero, List.set_cons_succ]
            go_simp
        case rest =>
          intro s9 w9 hb hv
          have e8_ : s9 8 = _ := hv 8 (by decide)
          simp only [dsOf, List.map_cons, List.map_nil, Option.getD_some, putAll, Act.put, List.setIfInBounds_toArray, List.set_cons_zero, List.set_cons_succ]
          rw [e8_]
          clear hv e8_
          have HB3 := Aside0.mk (HB2.out.trans (Below.mono hb (Below.size HB2.out)))
          clear hb
          go_wp2_with (first | (go_at_call 53; refine (HCH.out _ _ (OwnI.single _ b (Nat.le_refl _)).read).mono ?_; rintro e w4 ⟨rfl, hb⟩; have hsz : w9.heap.size ≤ (w9.alloc (.cells #[.int .i64 b] 2)).heap.size := (by simp); have HB4 := Aside0.mk (HB3.out.trans (((Below.alloc (Below.refl _ _) (Nat.le_refl _) _).trans (hb.mono hsz)).mono HB3.out.size)); clear hb hsz) | (go_at_call 74; refine (HF.out _ HB4.out).mono ?_; rintro e w5 ⟨r, rfl, ho, hb⟩; have HO5 := Aside0.mk (ho.lower (Nat.le_trans HB.out.size HB4.out.size)); have HB5 := Aside0.mk (HB4.out.trans (hb.mono HB4.out.size)); clear ho hb))
          go_ret2
          exact ⟨_, by rw [HA.out]; rfl, by rw [HA.out]; exact HO5.out, HB.out.trans (HB5.out.mono HB.out.size)⟩
      · have HA : Aside0 (ansCriticalChain n xs ps b = ([], z)) := ⟨by unfold ansCriticalChain; rw [← hz, if_neg h0]⟩
        have hqb : (z != 0) = true := by simpa using h0
        clear hx hp hc hq hz hzq h0
        go_enter Try.func41, Try.ntmps41
        go_wp2_with (first | (go_at_call 81; rw [← hw1]; clear hw1; refine HM.out.mono ?_; rintro e w2 ⟨rfl, hb⟩; replace c0 := pw_cell_below hb c0; replace c1 := pw_cell_below hb c1; have HB2 := Aside0.mk hb; clear hb))
        refine wp_region_g Bl (fun w => (Below.refl _ w).drew) (fun _ _ _ => Bl.trans) (fun i => match i with | 0 => fun v _ => v = cx n (.slice A1 xs.length d1) | 1 => fun v _ => v = .slice A2 ps.length d2 | 2 => fun v _ => v = cx n (.slice A1 xs.length d1) | 3 => fun v _ => v = .slice A2 ps.length d2 | 4 => fun v W => OwnI w.heap.size W v (critL xs ps) | 5 => fun v _ => v = .int .i64 b | 6 => fun v _ => v = .bool q | 7 => fun v _ => v = .int .i64 z | 8 => fun v _ => v = .int .i64 z | _ => fun _ _ => True)
          [0, 0, 0, 0, 12, 0, 60, 127, 255] hmx (by kernel_rfl) ?st ?steps ?rest
        case st =>
          intro i v w1_ w2_ hb
          match i with
          | 0 | 1 | 2 | 3 | 5 | 6 | 7 | 8 => exact id
          | 4 => exact fun h => OwnI.below h hb
          | n + 9 => exact id
        case steps =>
          refine ⟨?_, ?_, ?_, ?_, ?_, ?_, ?_, ?_, ?_, trivial⟩
          · intro s w_ hb hd hq R hR
            generalize hA : putAll _ 0 s _ = A
            clear hq
            have c0_ := pw_cell_below hb c0
            have c1_ := pw_cell_below hb c1
            have hR' := hR (cx n (.slice A1 xs.length d1)) _ (Below.refl _ _) rfl
            clear hR hd
            refine opGives_value ?_ hR'
            subst hA
            simp only [dsOf, List.map_cons, List.map_nil, Option.getD_some, putAll, Act.put, List.setIfInBounds_toArray, List.set_cons_zero, List.set_cons_succ]
            go_simp
          · intro s w_ hb hd hq R hR
            generalize hA : putAll _ 0 s _ = A
            clear hq
            have hR' := hR (.slice A2 ps.length d2) _ (Below.refl _ _) rfl
            clear hR hd
            refine opGives_value ?_ hR'
            subst hA
            simp only [dsOf, List.map_cons, List.map_nil, Option.getD_some, putAll, Act.put, List.setIfInBounds_toArray, List.set_cons_zero, List.set_cons_succ]
            go_simp
          · intro s w_ hb hd hq R hR
            generalize hA : putAll _ 0 s _ = A
            clear hq
            have c0_ := pw_cell_below hb c0
            have c1_ := pw_cell_below hb c1
            have hR' := hR (cx n (.slice A1 xs.length d1)) _ (Below.refl _ _) rfl
            clear hR hd
            refine opGives_value ?_ hR'
            subst hA
            simp only [dsOf, List.map_cons, List.map_nil, Option.getD_some, putAll, Act.put, List.setIfInBounds_toArray, List.set_cons_zero, List.set_cons_succ]
            go_simp
          · intro s w_ hb hd hq R hR
            generalize hA : putAll _ 0 s _ = A
            clear hq
            have hR' := hR (.slice A2 ps.length d2) _ (Below.refl _ _) rfl
            clear hR hd
            refine opGives_value ?_ hR'
            subst hA
            simp only [dsOf, List.map_cons, List.map_nil, Option.getD_some, putAll, Act.put, List.setIfInBounds_toArray, List.set_cons_zero, List.set_cons_succ]
            go_simp
          · intro s w_ hb hd hq R hR
            generalize hA : putAll _ 0 s _ = A
            have e2 : s 2 = _ := hd 2 (by kernel_rfl)
            have e3 : s 3 = _ := hd 3 (by kernel_rfl)
            clear hq
            refine opGives_call (f := 83) (args := #[cx n (.slice A1 xs.length d1), .slice A2 ps.length d2]) ?_ ?_
            · subst hA
              clear hR hd
              simp only [dsOf, List.map_cons, List.map_nil, Option.getD_some, putAll, Act.put, List.setIfInBounds_toArray, List.set_cons_zero, List.set_cons_succ]
              go_simp
            clear hA A hd
            refine (HCR.out _ (Below.trans HB2.out (Below.mono hb (Below.size HB2.out)))).mono ?_
            rintro e w3_ ⟨u, rfl, ho, hb3⟩
            exact ⟨_, rfl, hR _ _ hb3 (OwnI.lower ho (Nat.le_trans HB.out.size (Nat.le_trans (Below.size HB2.out) (Below.size hb))))⟩
          · intro s w_ hb hd hq R hR
            generalize hA : putAll _ 0 s _ = A
            clear hq
            have hR' := hR (.int .i64 b) _ (Below.refl _ _) rfl
            clear hR hd
            refine opGives_value ?_ hR'
            subst hA
            simp only [dsOf, List.map_cons, List.map_nil, Option.getD_some, putAll, Act.put, List.setIfInBounds_toArray, List.set_cons_zero, List.set_cons_succ]
            go_simp
          · intro s w_ hb hd hq R hR
            generalize hA : putAll _ 0 s _ = A
            have o4_ : OwnI w.heap.size w_ (s 4) (critL xs ps) := hd 4 (by kernel_rfl)
            obtain ⟨A4_, d4_, e4, -⟩ := o4_.read
            rw [e4] at o4_
            have e5 : s 5 = _ := hd 5 (by kernel_rfl)
            clear hq
            refine opGives_call (f := 82) (args := #[.slice A4_ (critL xs ps).length d4_, .int .i64 b]) ?_ ?_
            · subst hA
              clear hR hd
              simp only [dsOf, List.map_cons, List.map_nil, Option.getD_some, putAll, Act.put, List.setIfInBounds_toArray, List.set_cons_zero, List.set_cons_succ]
              go_simp
            clear hA A hd
            refine (sliceContains _ (critL xs ps) b _ o4_.read).mono ?_
            rintro e w3_ ⟨rfl, hb3⟩
            exact ⟨_, rfl, hR _ _ hb3 (by rw [← HQ.out]; exact rfl)⟩
          · intro s w_ hb hd hq R hR
            generalize hA : putAll _ 0 s _ = A
            have e0 : s 0 = _ := hd 0 (by kernel_rfl)
            have e1 : s 1 = _ := hd 1 (by kernel_rfl)
            have e6 : s 6 = _ := hd 6 (by kernel_rfl)
            clear hq
            refine opGives_call (f := 70) (args := #[cx n (.slice A1 xs.length d1), .slice A2 ps.length d2, .bool q]) ?_ ?_
            · subst hA
              clear hR hd
              simp only [dsOf, List.map_cons, List.map_nil, Option.getD_some, putAll, Act.put, List.setIfInBounds_toArray, List.set_cons_zero, List.set_cons_succ]
              go_simp
            clear hA A hd
            refine (HAC.out _ (Below.trans HB2.out (Below.mono hb (Below.size HB2.out)))).mono ?_
            rintro e w3_ ⟨rfl, hb3⟩
            exact ⟨_, rfl, hR _ _ hb3 rfl⟩
          · intro s w_ hb hd hq R hR
            generalize hA : putAll _ 0 s _ = A
            have e7 : s 7 = _ := hd 7 (by kernel_rfl)
            clear hq
            have hR' := hR (.int .i64 z) _ (Below.refl _ _) rfl
            clear hR hd
            refine opGives_value ?_ hR'
            subst hA
            simp only [dsOf, List.map_cons, List.map_nil, Option.getD_some, putAll, Act.put, List.setIfInBounds_toArray, List.set_cons_zero, List.set_cons_succ]
            go_simp
        case rest =>
          intro s9 w9 hb hv
          have e8_ : s9 8 = _ := hv 8 (by decide)
          simp only [dsOf, List.map_cons, List.map_nil, Option.getD_some, putAll, Act.put, List.setIfInBounds_toArray, List.set_cons_zero, List.set_cons_succ]
          rw [e8_]
          clear hv e8_
          have HB3 := Aside0.mk (HB2.out.trans (Below.mono hb (Below.size HB2.out)))
          clear hb
          go_wp2
          go_ret2
          exact ⟨_, by rw [HA.out]; rfl, by rw [HA.out]; exact OwnI.nil _ _, HB.out.trans (HB3.out.mono HB.out.size)⟩
end Go.Proofs.Ytcbkchnfjeegmaa.H

namespace Go.Proofs.Ytcbkchnfjeegmaa.H
open Go.RowKit Go.Proofs.YtcbkchnfjeegmaaW.PrintWords Go.Proofs.YtcbkchnfjeegmaaW.PrintLast Go.Proofs.YtcbkchnfjeegmaaW.PrintMore
set_option linter.unusedVariables false
set_option linter.unusedSimpArgs false

theorem grown_alloc {w w' : World} {o : Obj} {r : Option Nat} (h : (w.alloc o).grownBy w' r) : w.grownBy w' r :=
  ⟨h.os, h.tape, h.output, Nat.le_trans (by simp) h.size, fun k hk hne => (h.block k (by simp; omega) hne).trans ((World.grownBy_alloc w o none).block k hk (by simp))⟩

set_option maxRecDepth 100000 in
set_option maxHeartbeats 1000000 in
theorem markComplex (b : Nat) (a : Int) (v : Value) (xs : List Int) (k : Nat) (w : World) (ho : OwnI b w v xs) (hk : k ≤ 1073741824) (hl : xs.length ≤ 1073741824) (hbw : b ≤ w.heap.size) :
    Calls Try.prog 20 #[.agg #[.int .i64 a, v], .int .i64 k] w fun e w' => e = .returned (.int .i64 ((k : Int) + xs.length)) ∧ OwnI b w' v (marks k xs.length) ∧ w.grownBy w' v.ownBlock ∧ Below b w w' := by
  have hba : Below w.heap.size w (w.alloc (.cells #[.int .i64 a, v] 28)) := Below.alloc (Below.refl _ _) (Nat.le_refl _) _
  have HO := Aside0.mk (OwnI.below ho hba)
  have HB := Aside0.mk (hba.mono hbw)
  obtain ⟨A, c, rfl, -⟩ := ho.read
  clear ho hba
  go_enter Try.func20, Try.ntmps20
  go_wp2_with (first | (go_at_call 21; refine (markInt64S b _ xs k _ HO.out hk hl).mono ?_; rintro e w2 ⟨rfl, ho, hg, hb⟩; have HO2 := Aside0.mk ho; have HG2 := Aside0.mk hg; have HB2 := Aside0.mk hb; clear ho hg hb))
  go_ret
  exact ⟨rfl, HO2.out, grown_alloc HG2.out, HB.out.trans HB2.out⟩

end Go.Proofs.Ytcbkchnfjeegmaa.H
