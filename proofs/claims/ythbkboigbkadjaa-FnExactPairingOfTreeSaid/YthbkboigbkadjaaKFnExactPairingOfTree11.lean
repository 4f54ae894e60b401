/- Pairs of a complex, of the reference. Pairings, of the reference. A pair put into a row of pairs: l02With of the reference. Pairings of trees: the plain law. -/
import Derived.Deep.DeepMust
import Derived.Test.YthbkboigbkadjaaKFnExactPairingOfTree1
import Derived.Test.YthbkboigbkadjaaKFnExactPairingOfTree2
import Derived.Test.YthbkboigbkadjaaKFnExactPairingOfTree3
import Derived.Test.YthbkboigbkadjaaKFnExactPairingOfTree4
import Derived.Test.YthbkboigbkadjaaKFnExactPairingOfTree5
import Derived.Test.YthbkboigbkadjaaKFnExactPairingOfTree6
import Derived.Test.YthbkboigbkadjaaKFnExactPairingOfTree7
import Derived.Test.YthbkboigbkadjaaKFnExactPairingOfTree8
import Derived.Test.YthbkboigbkadjaaKFnExactPairingOfTree9
import Derived.Test.YthbkboigbkadjaaKFnExactPairingOfTree10

namespace Go.Proofs.Ythbkboigbkadjaa.H
open Go.RowKit Go.Proofs.YthbkboigbkadjaaW.PrintWords Go.Proofs.YthbkboigbkadjaaW.PrintLast Go.Proofs.YthbkboigbkadjaaW.PrintMore
set_option linter.unusedVariables false
set_option linter.unusedSimpArgs false

def pairAt (xs : List Int) (x y : Int) : Bool := decide (x ∈ xs) && (decide (y ∈ xs) && (decide (x.toNat &&& y.toNat = x.toNat) && (ones y.toNat == ones x.toNat + 1)))
def lessP (x y x' y' : Int) : Bool := decide (x < x') || ((x == x') && decide (y < y'))
set_option maxRecDepth 100000 in
set_option maxHeartbeats 4000000 in
theorem specPair (n : Nat) (ku : Value) (xs : List Int) (x y : Int) (w : World) (hk : ReadI w ku xs) (hc : Cx n xs) :
    Calls Try.prog 163 #[cx n ku, .agg #[.int .i64 x, .int .i64 y]] w fun e w' => e = .returned (.bool (pairAt xs x y)) ∧ Below w.heap.size w w' := by
  obtain ⟨w1, hw1⟩ : ∃ w1, w1 = (w.alloc (.cells #[.int .i64 n, ku] 28)).alloc (.cells #[.int .i64 x, .int .i64 y] 70) := ⟨_, rfl⟩
  have hB : Below w.heap.size w w1 := by rw [hw1]; exact ((Below.refl _ w).alloc (Nat.le_refl _) _).alloc (by simp) _
  have c0 : w1.cell? ⟨w.heap.size, 0, none⟩ = some (.int .i64 n) := by rw [hw1]; simp
  have c1 : w1.cell? ⟨w.heap.size, 1, none⟩ = some ku := by rw [hw1]; simp
  have c2 : w1.cell? ⟨w.heap.size + 1, 0, none⟩ = some (.int .i64 x) := by rw [hw1]; simp
  have c3 : w1.cell? ⟨w.heap.size + 1, 1, none⟩ = some (.int .i64 y) := by rw [hw1]; simp
  have HB := Aside0.mk hB
  have HK := Aside0.mk (hk.below hB)
  have HC := Aside0.mk hc
  obtain ⟨A1, d1, rfl, -⟩ := id hk
  have x0 : ∀ z : Ext w1, z.1.cell? ⟨w.heap.size, 0, none⟩ = some (.int .i64 n) := fun z => Ext.cell c0 z
  have x1 : ∀ z : Ext w1, z.1.cell? ⟨w.heap.size, 1, none⟩ = some (.slice A1 xs.length d1) := fun z => Ext.cell c1 z
  have x2 : ∀ z : Ext w1, z.1.cell? ⟨w.heap.size + 1, 0, none⟩ = some (.int .i64 x) := fun z => Ext.cell c2 z
  have x3 : ∀ z : Ext w1, z.1.cell? ⟨w.heap.size + 1, 1, none⟩ = some (.int .i64 y) := fun z => Ext.cell c3 z
  obtain ⟨b1, hb1⟩ : ∃ b, b = decide (x ∈ xs) := ⟨_, rfl⟩
  obtain ⟨b2, hb2⟩ : ∃ b, b = decide (y ∈ xs) := ⟨_, rfl⟩
  have HHX : Aside0 (∀ z : Ext w1, Calls Try.prog 57 #[cx n (.slice A1 xs.length d1), .int .i64 x] z.1 fun e w' => e = .returned (.bool b1) ∧ Below z.1.heap.size z.1 w') := ⟨fun z => by rw [hb1]; exact specHas n _ xs x z.1 (HK.out.below z.2)⟩
  have HHY : Aside0 (∀ z : Ext w1, Calls Try.prog 57 #[cx n (.slice A1 xs.length d1), .int .i64 y] z.1 fun e w' => e = .returned (.bool b2) ∧ Below z.1.heap.size z.1 w') := ⟨fun z => by rw [hb2]; exact specHas n _ xs y z.1 (HK.out.below z.2)⟩
  clear hk hB hc c0 c1 c2 c3
  cases b1 with
  | false =>
    have HA : Aside0 (pairAt xs x y = false) := ⟨by unfold pairAt; rw [← hb1]; rfl⟩
    clear hb1 hb2
    go_enter Try.func163, Try.ntmps163
    go_wp2
    rw [← hw1]
    clear hw1
    refine wp_region_ext (by kernel_rfl) (by kernel_rfl) ?_
    repeat (go_big_quiet_step ((first | (go_at_call 57; with_reducible exact Calls.ext_of (HHX.out _)) | (go_at_call 57; with_reducible exact Calls.ext_of (HHY.out _)))))
    refine wpQuiet_nil ?_
    rintro _ ⟨z, rfl⟩
    have hbz := z.2
    go_wp2
    go_ret
    exact ⟨by rw [HA.out]; rfl, HB.out.trans (hbz.mono HB.out.size)⟩
  | true =>
    cases b2 with
    | false =>
      have HA : Aside0 (pairAt xs x y = false) := ⟨by unfold pairAt; rw [← hb1, ← hb2]; rfl⟩
      clear hb1 hb2
      go_enter Try.func163, Try.ntmps163
      go_wp2
      rw [← hw1]
      clear hw1
      refine wp_region_ext (by kernel_rfl) (by kernel_rfl) ?_
      repeat (go_big_quiet_step ((first | (go_at_call 57; with_reducible exact Calls.ext_of (HHX.out _)) | (go_at_call 57; with_reducible exact Calls.ext_of (HHY.out _)))))
      refine wpQuiet_nil ?_
      rintro _ ⟨z, rfl⟩
      have hbz := z.2
      go_wp2
      go_ret
      exact ⟨by rw [HA.out]; rfl, HB.out.trans (hbz.mono HB.out.size)⟩
    | true =>
      obtain ⟨zx, rfl, hx1, hx2⟩ := HC.out.nat (of_decide_eq_true hb1.symm)
      obtain ⟨zy, rfl, hy1, hy2⟩ := HC.out.nat (of_decide_eq_true hb2.symm)
      obtain ⟨I0, hI0⟩ : ∃ b, b = decide (zx &&& zy = zx) := ⟨_, rfl⟩
      obtain ⟨sx, hsx⟩ : ∃ s, s = ones zx := ⟨_, rfl⟩
      obtain ⟨sy, hsy⟩ : ∃ s, s = ones zy := ⟨_, rfl⟩
      have hle := ones_le zx (by omega)
      rw [← hsx] at hle
      have HA : Aside0 (pairAt xs zx zy = (I0 && ((sy : Int) == (sx : Int) + 1))) := ⟨by unfold pairAt; rw [← hb1, ← hb2, Int.toNat_natCast, Int.toNat_natCast, ← hI0, ← hsx, ← hsy, Bool.true_and, Bool.true_and]; congr 1; rw [Bool.eq_iff_iff, beq_iff_eq, beq_iff_eq]; omega⟩
      have hand := and_i64 zx zy (by omega) (by omega)
      have hin : (((zx &&& zy : Nat) : Int) == (zx : Int)) = I0 := by rw [hI0, Bool.eq_iff_iff, beq_iff_eq, decide_eq_true_eq]; omega
      have HSX : Aside0 (∀ z : Ext w1, Calls Try.prog 126 #[.int .i64 (zx : Nat)] z.1 fun e w' => e = .returned (.int .i64 (sx : Nat)) ∧ Below z.1.heap.size z.1 w') := ⟨fun z => by rw [hsx]; exact specOnes zx (by omega) z.1⟩
      have HSY : Aside0 (∀ z : Ext w1, Calls Try.prog 126 #[.int .i64 (zy : Nat)] z.1 fun e w' => e = .returned (.int .i64 (sy : Nat)) ∧ Below z.1.heap.size z.1 w') := ⟨fun z => by rw [hsy]; exact specOnes zy (by omega) z.1⟩
      clear hb1 hb2 hI0 hsx hsy hx1 hx2 hy1 hy2
      cases I0 with
      | false =>
        rw [Bool.false_and] at HA
        go_enter Try.func163, Try.ntmps163
        go_wp2
        rw [← hw1]
        clear hw1
        refine wp_region_ext (by kernel_rfl) (by kernel_rfl) ?_
        repeat (go_big_quiet_step ((first | (go_at_call 57; with_reducible exact Calls.ext_of (HHX.out _)) | (go_at_call 57; with_reducible exact Calls.ext_of (HHY.out _)))))
        refine wpQuiet_nil ?_
        rintro _ ⟨z, rfl⟩
        have hbz := z.2
        go_wp2
        go_ret
        exact ⟨by rw [HA.out]; rfl, HB.out.trans (hbz.mono HB.out.size)⟩
      | true =>
        rw [Bool.true_and] at HA
        have hsw : IntKind.i64.wrap ((sx : Int) + 1) = (sx : Int) + 1 := IntWalk.i64_in _ (by omega)
        go_enter Try.func163, Try.ntmps163
        go_wp2
        rw [← hw1]
        clear hw1
        refine wp_region_ext (by kernel_rfl) (by kernel_rfl) ?_
        repeat (go_big_quiet_step ((first | (go_at_call 57; with_reducible exact Calls.ext_of (HHX.out _)) | (go_at_call 57; with_reducible exact Calls.ext_of (HHY.out _)) | (go_at_call 126; with_reducible exact Calls.ext_of (HSY.out _)) | (go_at_call 126; with_reducible exact Calls.ext_of (HSX.out _)))))
        refine wpQuiet_nil ?_
        rintro _ ⟨z, rfl⟩
        have hbz := z.2
        go_wp2
        go_ret
        exact ⟨by rw [HA.out]; rfl, HB.out.trans (hbz.mono HB.out.size)⟩
set_option maxRecDepth 100000 in
set_option maxHeartbeats 4000000 in
theorem specLess (x y x' y' : Int) (w : World) : Calls Try.prog 118 #[.agg #[.int .i64 x, .int .i64 y], .agg #[.int .i64 x', .int .i64 y']] w fun e w' => e = .returned (.bool (lessP x y x' y')) ∧ Below w.heap.size w w' := by
  obtain ⟨w1, hw1⟩ : ∃ w1, w1 = (w.alloc (.cells #[.int .i64 x, .int .i64 y] 70)).alloc (.cells #[.int .i64 x', .int .i64 y'] 70) := ⟨_, rfl⟩
  have hB : Below w.heap.size w w1 := by rw [hw1]; exact ((Below.refl _ w).alloc (Nat.le_refl _) _).alloc (by simp) _
  have c0 : w1.cell? ⟨w.heap.size, 0, none⟩ = some (.int .i64 x) := by rw [hw1]; simp
  have c1 : w1.cell? ⟨w.heap.size, 1, none⟩ = some (.int .i64 y) := by rw [hw1]; simp
  have c2 : w1.cell? ⟨w.heap.size + 1, 0, none⟩ = some (.int .i64 x') := by rw [hw1]; simp
  have c3 : w1.cell? ⟨w.heap.size + 1, 1, none⟩ = some (.int .i64 y') := by rw [hw1]; simp
  have HB := Aside0.mk hB
  clear hB
  have HL : Aside0 (lessP x y x' y' = (decide (x < x') || ((x == x') && decide (y < y')))) := ⟨rfl⟩
  cases h1 : decide (x < x') with
  | true =>
    rw [h1, Bool.true_or] at HL
    go_enter Try.func118, Try.ntmps118
    go_wp2
    rw [← hw1]
    clear hw1
    go_wp2
    go_ret
    exact ⟨by rw [HL.out]; rfl, HB.out⟩
  | false =>
    rw [h1, Bool.false_or] at HL
    cases h2 : (x == x') with
    | false =>
      rw [h2, Bool.false_and] at HL
      go_enter Try.func118, Try.ntmps118
      go_wp2
      rw [← hw1]
      clear hw1
      go_wp2
      go_ret
      exact ⟨by rw [HL.out]; rfl, HB.out⟩
    | true =>
      rw [h2, Bool.true_and] at HL
      go_enter Try.func118, Try.ntmps118
      go_wp2
      rw [← hw1]
      clear hw1
      go_wp2
      go_ret
      exact ⟨by rw [HL.out]; rfl, HB.out⟩

end Go.Proofs.Ythbkboigbkadjaa.H

namespace Go.Proofs.Ythbkboigbkadjaa.H
open Go.RowKit Go.Proofs.YthbkboigbkadjaaW.PrintWords Go.Proofs.YthbkboigbkadjaaW.PrintLast Go.Proofs.YthbkboigbkadjaaW.PrintMore
set_option linter.unusedVariables false
set_option linter.unusedSimpArgs false

def shares (p q : Int × Int) : Bool := (p.1 == q.1) || ((p.1 == q.2) || ((p.2 == q.1) || (p.2 == q.2)))
/-- pair i is a pair of the complex, behind the one ahead, and shares no face with those ahead -/
def pOkAt (xs : List Int) (ps : List (Int × Int)) (i : Nat) : Bool :=
  pairAt xs (ps.getD i (0, 0)).1 (ps.getD i (0, 0)).2 && ((decide (i = 0) || lessP (ps.getD (i - 1) (0, 0)).1 (ps.getD (i - 1) (0, 0)).2 (ps.getD i (0, 0)).1 (ps.getD i (0, 0)).2) && (List.range i).all fun j => !shares (ps.getD i (0, 0)) (ps.getD j (0, 0)))
def pOk (xs : List Int) (ps : List (Int × Int)) : Bool := (List.range ps.length).all (pOkAt xs ps)
theorem pOk_false {xs : List Int} {ps : List (Int × Int)} {i : Nat} (hi : i < ps.length) (h : pOkAt xs ps i = false) : pOk xs ps = false := List.all_eq_false.2 ⟨i, List.mem_range.2 hi, by rw [h]; decide⟩
theorem pOk_true {xs : List Int} {ps : List (Int × Int)} (h : ∀ i, i < ps.length → pOkAt xs ps i = true) : pOk xs ps = true := List.all_eq_true.2 (fun i hi => h i (List.mem_range.1 hi))
theorem pOkAt_share {xs : List Int} {ps : List (Int × Int)} {i j : Nat} (hj : j < i) (h : shares (ps.getD i (0, 0)) (ps.getD j (0, 0)) = true) : pOkAt xs ps i = false := by
  unfold pOkAt
  have : ((List.range i).all fun j => !shares (ps.getD i (0, 0)) (ps.getD j (0, 0))) = false := List.all_eq_false.2 ⟨j, List.mem_range.2 hj, by rw [h]; decide⟩
  rw [this, Bool.and_false, Bool.and_false]
theorem pOkAt_pair {xs : List Int} {ps : List (Int × Int)} {i : Nat} {x y : Int} (e : ps[i]? = some (x, y)) (h : pairAt xs x y = false) : pOkAt xs ps i = false := by
  unfold pOkAt
  rw [show ps.getD i (0, 0) = (x, y) by rw [List.getD_eq_getElem?_getD, e]; rfl, h, Bool.false_and]
theorem pOkAt_less {xs : List Int} {ps : List (Int × Int)} {i : Nat} {x y x' y' : Int} (hi : i ≠ 0) (e : ps[i]? = some (x, y)) (e' : ps[i - 1]? = some (x', y')) (h : lessP x' y' x y = false) : pOkAt xs ps i = false := by
  unfold pOkAt
  rw [show ps.getD i (0, 0) = (x, y) by rw [List.getD_eq_getElem?_getD, e]; rfl, show ps.getD (i - 1) (0, 0) = (x', y') by rw [List.getD_eq_getElem?_getD, e']; rfl, h, decide_eq_false hi, Bool.or_false, Bool.false_and, Bool.and_false]
theorem pOkAt_all {xs : List Int} {ps : List (Int × Int)} {i : Nat} (h1 : pairAt xs (ps.getD i (0, 0)).1 (ps.getD i (0, 0)).2 = true) (h2 : (decide (i = 0) || lessP (ps.getD (i - 1) (0, 0)).1 (ps.getD (i - 1) (0, 0)).2 (ps.getD i (0, 0)).1 (ps.getD i (0, 0)).2) = true) (h3 : ∀ j, j < i → shares (ps.getD i (0, 0)) (ps.getD j (0, 0)) = false) : pOkAt xs ps i = true := by
  unfold pOkAt
  rw [h1, h2, Bool.true_and, Bool.true_and]
  exact List.all_eq_true.2 (fun j hj => by rw [h3 j (List.mem_range.1 hj)]; rfl)

set_option maxRecDepth 100000 in
set_option maxHeartbeats 8000000 in
theorem specIs2 (n : Nat) (ku : Value) (xs : List Int) (v : Value) (ps : List (Int × Int)) (w : World) (hk : ReadI w ku xs) (hv : ReadP w v ps) (hc : Cx n xs) :
    Calls Try.prog 119 #[cx n ku, v] w fun e w' => e = .returned (.bool (pOk xs ps)) ∧ Below w.heap.size w w' := by
  obtain ⟨w1, hw1⟩ : ∃ w1, w1 = w.alloc (.cells #[.int .i64 n, ku] 28) := ⟨_, rfl⟩
  have hB : Below w.heap.size w w1 := by rw [hw1]; exact Below.alloc (Below.refl _ _) (Nat.le_refl _) _
  have c0 : w1.cell? ⟨w.heap.size, 0, none⟩ = some (.int .i64 n) := by rw [hw1]; simp
  have c1 : w1.cell? ⟨w.heap.size, 1, none⟩ = some ku := by rw [hw1]; simp
  have HB := Aside0.mk hB
  have HK := Aside0.mk (hk.below hB)
  have HV := Aside0.mk (hv.below hB)
  have HC := Aside0.mk hc
  obtain ⟨A1, d1, rfl, -⟩ := id hk
  obtain ⟨A2, d2, rfl, hl9, -⟩ := id hv
  clear hk hv hB hc
  go_enter Try.func119, Try.ntmps119
  go_wp2
  rw [← hw1]
  clear hw1
  go_loopw [5] (fun s5 wr => ∃ i : Nat, s5 = .int .i64 i ∧ i ≤ ps.length ∧ Aside0 (∀ t, t < i → pOkAt xs ps t = true) ∧ Aside0 (Below w1.heap.size w1 wr)) (fun s5 _ => ps.length - (intOf s5).toNat)
  case atStart => exact ⟨0, rfl, Nat.zero_le _, ⟨fun t h => absurd h (Nat.not_lt_zero _)⟩, ⟨Below.refl _ _⟩⟩
  case round =>
    obtain ⟨i, rfl, hi, HI, HBr⟩ := hrel
    have c0 := pw_cell_below HBr.out c0
    have c1 := pw_cell_below HBr.out c1
    by_cases hlt : i < ps.length
    · obtain ⟨g, x, y, rfl, hxy, hc0, hc1⟩ := ReadP.get (HV.out.below HBr.out) hlt
      have HXY := Aside0.mk hxy
      have b0 : ∀ z : Ext wr, z.1.cell? ⟨w.heap.size, 0, none⟩ = some (.int .i64 n) := fun z => Ext.cell c0 z
      have b1 : ∀ z : Ext wr, z.1.cell? ⟨w.heap.size, 1, none⟩ = some (.slice A1 xs.length d1) := fun z => Ext.cell c1 z
      have b2 : ∀ z : Ext wr, z.1.cell? ⟨g, i * 2, none⟩ = some (.int .i64 x) := fun z => Ext.cell hc0 z
      have b3 : ∀ z : Ext wr, z.1.cell? ⟨g, i * 2 + 1, none⟩ = some (.int .i64 y) := fun z => Ext.cell hc1 z
      have hiI : (i : Int) < (ps.length : Int) := by omega
      obtain ⟨P0, hP0⟩ : ∃ P0, P0 = pairAt xs x y := ⟨_, rfl⟩
      have HPA : Aside0 (∀ z : Ext wr, Calls Try.prog 163 #[cx n (.slice A1 xs.length d1), .agg #[.int .i64 x, .int .i64 y]] z.1 fun e w' => e = .returned (.bool P0) ∧ Below z.1.heap.size z.1 w') := ⟨fun z => by rw [hP0]; exact specPair n _ xs x y z.1 ((HK.out.below HBr.out).below z.2) HC.out⟩
      cases P0 with
      | false =>
        have HA : Aside0 (pOk xs ps = false) := ⟨pOk_false hlt (pOkAt_pair hxy hP0.symm)⟩
        clear hP0 hxy hlt hc0 hc1
        go_wp2
        refine wp_region_ext (by kernel_rfl) (by kernel_rfl) ?_
        repeat (go_big_quiet_step (first | (go_at_call 163; with_reducible exact Calls.ext_of (HPA.out _))))
        refine wpQuiet_nil ?_
        rintro _ ⟨z, rfl⟩
        have hbz := z.2
        go_wp2
        go_ret
        exact ⟨by rw [HA.out]; rfl, HB.out.trans ((HBr.out.trans (hbz.mono HBr.out.size)).mono HB.out.size)⟩
      | true =>
        have HPT : Aside0 (pairAt xs (ps.getD i (0, 0)).1 (ps.getD i (0, 0)).2 = true) := ⟨by rw [List.getD_eq_getElem?_getD, hxy]; exact hP0.symm⟩
        clear hP0
        by_cases h0 : i = 0
        · have HLT : Aside0 ((decide (i = 0) || lessP (ps.getD (i - 1) (0, 0)).1 (ps.getD (i - 1) (0, 0)).2 (ps.getD i (0, 0)).1 (ps.getD i (0, 0)).2) = true) := ⟨by rw [decide_eq_true h0, Bool.true_or]⟩
          have h0' : decide (0 < i) = false := decide_eq_false (by omega)
          clear h0 hxy hc0 hc1
          go_wp2
          refine wp_region_ext (by kernel_rfl) (by kernel_rfl) ?_
          repeat (go_big_quiet_step (first | (go_at_call 163; with_reducible exact Calls.ext_of (HPA.out _))))
          refine wpQuiet_nil ?_
          rintro _ ⟨z, rfl⟩
          have hbz := z.2
          have HBz := Aside0.mk (HBr.out.trans (hbz.mono HBr.out.size))
          clear hbz
          go_wp2
          go_loopw [6] (fun s6 wj => ∃ j : Nat, s6 = .int .i64 j ∧ j ≤ i ∧ Aside0 (∀ t, t < j → shares (ps.getD i (0, 0)) (ps.getD t (0, 0)) = false) ∧ Aside0 (Below w1.heap.size w1 wj)) (fun s6 _ => i - (intOf s6).toNat)
          case atStart => exact ⟨0, rfl, Nat.zero_le _, ⟨fun t h => absurd h (Nat.not_lt_zero _)⟩, HBz⟩
          case round =>
            obtain ⟨j, rfl, hj, HS, HBj⟩ := hrel
            by_cases hji : j < i
            · obtain ⟨g1, x1, y1, e1, hxy1, hc0, hc1⟩ := ReadP.get (HV.out.below HBj.out) hlt
              rw [HXY.out] at hxy1
              cases hxy1
              cases e1
              obtain ⟨g2, x2, y2, e2, hxy2, hd0, hd1⟩ := ReadP.get (HV.out.below HBj.out) (i := j) (by omega)
              cases e2
              have a0 : ∀ z : Ext wr, z.1.cell? ⟨g, i * 2, none⟩ = some (.int .i64 x) := fun z => Ext.cell hc0 z
              have a1 : ∀ z : Ext wr, z.1.cell? ⟨g, i * 2 + 1, none⟩ = some (.int .i64 y) := fun z => Ext.cell hc1 z
              have a2 : ∀ z : Ext wr, z.1.cell? ⟨g, j * 2, none⟩ = some (.int .i64 x2) := fun z => Ext.cell hd0 z
              have a3 : ∀ z : Ext wr, z.1.cell? ⟨g, j * 2 + 1, none⟩ = some (.int .i64 y2) := fun z => Ext.cell hd1 z
              have hiI : (i : Int) < (ps.length : Int) := by omega
              have hjI : (j : Int) < (ps.length : Int) := by omega
              have HSH : Aside0 (shares (ps.getD i (0, 0)) (ps.getD j (0, 0)) = ((x == x2) || ((x == y2) || ((y == x2) || (y == y2))))) := ⟨by rw [List.getD_eq_getElem?_getD, List.getD_eq_getElem?_getD, HXY.out, hxy2]; rfl⟩
              clear hc0 hc1 hd0 hd1 hxy2
              cases q0 : (x == x2) with
              | true =>
                have HA : Aside0 (pOk xs ps = false) := ⟨pOk_false hlt (pOkAt_share hji (by rw [HSH.out, q0]; rfl))⟩
                clear hlt
                go_wp2
                refine wp_region_ext (by kernel_rfl) (by kernel_rfl) ?_
                repeat (go_big_quiet_step (fail))
                refine wpQuiet_nil ?_
                rintro _ ⟨z, rfl⟩
                have hbz := z.2
                go_wp2
                go_ret
                exact ⟨by rw [HA.out]; rfl, HB.out.trans ((HBj.out.trans (hbz.mono HBj.out.size)).mono HB.out.size)⟩
              | false =>
                cases q1 : (x == y2) with
                | true =>
                  have HA : Aside0 (pOk xs ps = false) := ⟨pOk_false hlt (pOkAt_share hji (by rw [HSH.out, q0, q1]; rfl))⟩
                  clear hlt
                  go_wp2
                  refine wp_region_ext (by kernel_rfl) (by kernel_rfl) ?_
                  repeat (go_big_quiet_step (fail))
                  refine wpQuiet_nil ?_
                  rintro _ ⟨z, rfl⟩
                  have hbz := z.2
                  go_wp2
                  go_ret
                  exact ⟨by rw [HA.out]; rfl, HB.out.trans ((HBj.out.trans (hbz.mono HBj.out.size)).mono HB.out.size)⟩
                | false =>
                  cases q2 : (y == x2) with
                  | true =>
                    have HA : Aside0 (pOk xs ps = false) := ⟨pOk_false hlt (pOkAt_share hji (by rw [HSH.out, q0, q1, q2]; rfl))⟩
                    clear hlt
                    go_wp2
                    refine wp_region_ext (by kernel_rfl) (by kernel_rfl) ?_
                    repeat (go_big_quiet_step (fail))
                    refine wpQuiet_nil ?_
                    rintro _ ⟨z, rfl⟩
                    have hbz := z.2
                    go_wp2
                    go_ret
                    exact ⟨by rw [HA.out]; rfl, HB.out.trans ((HBj.out.trans (hbz.mono HBj.out.size)).mono HB.out.size)⟩
                  | false =>
                    cases q3 : (y == y2) with
                    | true =>
                      have HA : Aside0 (pOk xs ps = false) := ⟨pOk_false hlt (pOkAt_share hji (by rw [HSH.out, q0, q1, q2, q3]; rfl))⟩
                      clear hlt
                      go_wp2
                      refine wp_region_ext (by kernel_rfl) (by kernel_rfl) ?_
                      repeat (go_big_quiet_step (fail))
                      refine wpQuiet_nil ?_
                      rintro _ ⟨z, rfl⟩
                      have hbz := z.2
                      go_wp2
                      go_ret
                      exact ⟨by rw [HA.out]; rfl, HB.out.trans ((HBj.out.trans (hbz.mono HBj.out.size)).mono HB.out.size)⟩
                    | false =>
                      have HS2 : Aside0 (∀ t, t < j + 1 → shares (ps.getD i (0, 0)) (ps.getD t (0, 0)) = false) := ⟨fun t ht => by
                        rcases Nat.lt_succ_iff_lt_or_eq.1 ht with h | h
                        · exact HS.out t h
                        · rw [h, HSH.out, q0, q1, q2, q3]; rfl⟩
                      go_wp2
                      refine wp_region_ext (by kernel_rfl) (by kernel_rfl) ?_
                      repeat (go_big_quiet_step (fail))
                      refine wpQuiet_nil ?_
                      rintro _ ⟨z, rfl⟩
                      have hbz := z.2
                      have HBn := Aside0.mk (HBj.out.trans (hbz.mono HBj.out.size))
                      clear hbz
                      go_wp2
                      go_roundw
                      case rel => exact ⟨j + 1, by go_num, by omega, HS2, HBn⟩
                      case measure => simp [intOf]; omega
            · have e : j = i := by omega
              have HI2 : Aside0 (∀ t, t < i + 1 → pOkAt xs ps t = true) := ⟨fun t ht => by
                rcases Nat.lt_succ_iff_lt_or_eq.1 ht with h | h
                · exact HI.out t h
                · rw [h]; exact pOkAt_all HPT.out HLT.out (fun u hu => HS.out u (by omega))⟩
              clear e
              go_wp2
              go_roundw
              case rel => exact ⟨i + 1, by go_num, by omega, HI2, HBj⟩
              case measure => simp [intOf]; omega
        · have h0' : decide (0 < i) = true := decide_eq_true (by omega)
          have h1i : (0 : Int) ≤ (i : Int) - 1 := by omega
          have h2i : (i : Int) - 1 < ps.length := by omega
          have h3i : ((i : Int) - 1).toNat = i - 1 := by omega
          obtain ⟨g2, x', y', e2, hxy', hd0, hd1⟩ := ReadP.get (HV.out.below HBr.out) (i := i - 1) (by omega)
          cases e2
          have b4 : ∀ z : Ext wr, z.1.cell? ⟨g, (i - 1) * 2, none⟩ = some (.int .i64 x') := fun z => Ext.cell hd0 z
          have b5 : ∀ z : Ext wr, z.1.cell? ⟨g, (i - 1) * 2 + 1, none⟩ = some (.int .i64 y') := fun z => Ext.cell hd1 z
          obtain ⟨L0, hL0⟩ : ∃ L0, L0 = lessP x' y' x y := ⟨_, rfl⟩
          have HLE : Aside0 (∀ z : Ext wr, Calls Try.prog 118 #[.agg #[.int .i64 x', .int .i64 y'], .agg #[.int .i64 x, .int .i64 y]] z.1 fun e w' => e = .returned (.bool L0) ∧ Below z.1.heap.size z.1 w') := ⟨fun z => by rw [hL0]; exact specLess x' y' x y z.1⟩
          cases L0 with
          | false =>
            have HA : Aside0 (pOk xs ps = false) := ⟨pOk_false hlt (pOkAt_less h0 hxy hxy' hL0.symm)⟩
            clear hL0 h0 hxy hxy' hlt hc0 hc1 hd0 hd1
            go_wp2
            refine wp_region_ext (by kernel_rfl) (by kernel_rfl) ?_
            repeat (go_big_quiet_step (first | (go_at_call 163; with_reducible exact Calls.ext_of (HPA.out _)) | (go_at_call 118; with_reducible exact Calls.ext_of (HLE.out _))))
            refine wpQuiet_nil ?_
            rintro _ ⟨z, rfl⟩
            have hbz := z.2
            go_wp2
            go_ret
            exact ⟨by rw [HA.out]; rfl, HB.out.trans ((HBr.out.trans (hbz.mono HBr.out.size)).mono HB.out.size)⟩
          | true =>
            have HLT : Aside0 ((decide (i = 0) || lessP (ps.getD (i - 1) (0, 0)).1 (ps.getD (i - 1) (0, 0)).2 (ps.getD i (0, 0)).1 (ps.getD i (0, 0)).2) = true) := ⟨by rw [List.getD_eq_getElem?_getD, hxy', List.getD_eq_getElem?_getD, hxy]; show (_ || lessP x' y' x y) = true; rw [← hL0, Bool.or_true]⟩
            clear hL0 h0 hxy hxy' hc0 hc1 hd0 hd1
            go_wp2
            refine wp_region_ext (by kernel_rfl) (by kernel_rfl) ?_
            repeat (go_big_quiet_step (first | (go_at_call 163; with_reducible exact Calls.ext_of (HPA.out _)) | (go_at_call 118; with_reducible exact Calls.ext_of (HLE.out _))))
            refine wpQuiet_nil ?_
            rintro _ ⟨z, rfl⟩
            have hbz := z.2
            have HBz := Aside0.mk (HBr.out.trans (hbz.mono HBr.out.size))
            clear hbz
            go_wp2
            go_loopw [6] (fun s6 wj => ∃ j : Nat, s6 = .int .i64 j ∧ j ≤ i ∧ Aside0 (∀ t, t < j → shares (ps.getD i (0, 0)) (ps.getD t (0, 0)) = false) ∧ Aside0 (Below w1.heap.size w1 wj)) (fun s6 _ => i - (intOf s6).toNat)
            case atStart => exact ⟨0, rfl, Nat.zero_le _, ⟨fun t h => absurd h (Nat.not_lt_zero _)⟩, HBz⟩
            case round =>
              obtain ⟨j, rfl, hj, HS, HBj⟩ := hrel
              by_cases hji : j < i
              · obtain ⟨g1, x1, y1, e1, hxy1, hc0, hc1⟩ := ReadP.get (HV.out.below HBj.out) hlt
                rw [HXY.out] at hxy1
                cases hxy1
                cases e1
                obtain ⟨g2, x2, y2, e2, hxy2, hd0, hd1⟩ := ReadP.get (HV.out.below HBj.out) (i := j) (by omega)
                cases e2
                have a0 : ∀ z : Ext wr, z.1.cell? ⟨g, i * 2, none⟩ = some (.int .i64 x) := fun z => Ext.cell hc0 z
                have a1 : ∀ z : Ext wr, z.1.cell? ⟨g, i * 2 + 1, none⟩ = some (.int .i64 y) := fun z => Ext.cell hc1 z
                have a2 : ∀ z : Ext wr, z.1.cell? ⟨g, j * 2, none⟩ = some (.int .i64 x2) := fun z => Ext.cell hd0 z
                have a3 : ∀ z : Ext wr, z.1.cell? ⟨g, j * 2 + 1, none⟩ = some (.int .i64 y2) := fun z => Ext.cell hd1 z
                have hiI : (i : Int) < (ps.length : Int) := by omega
                have hjI : (j : Int) < (ps.length : Int) := by omega
                have HSH : Aside0 (shares (ps.getD i (0, 0)) (ps.getD j (0, 0)) = ((x == x2) || ((x == y2) || ((y == x2) || (y == y2))))) := ⟨by rw [List.getD_eq_getElem?_getD, List.getD_eq_getElem?_getD, HXY.out, hxy2]; rfl⟩
                clear hc0 hc1 hd0 hd1 hxy2
                cases q0 : (x == x2) with
                | true =>
                  have HA : Aside0 (pOk xs ps = false) := ⟨pOk_false hlt (pOkAt_share hji (by rw [HSH.out, q0]; rfl))⟩
                  clear hlt
                  go_wp2
                  refine wp_region_ext (by kernel_rfl) (by kernel_rfl) ?_
                  repeat (go_big_quiet_step (fail))
                  refine wpQuiet_nil ?_
                  rintro _ ⟨z, rfl⟩
                  have hbz := z.2
                  go_wp2
                  go_ret
                  exact ⟨by rw [HA.out]; rfl, HB.out.trans ((HBj.out.trans (hbz.mono HBj.out.size)).mono HB.out.size)⟩
                | false =>
                  cases q1 : (x == y2) with
                  | true =>
                    have HA : Aside0 (pOk xs ps = false) := ⟨pOk_false hlt (pOkAt_share hji (by rw [HSH.out, q0, q1]; rfl))⟩
                    clear hlt
                    go_wp2
                    refine wp_region_ext (by kernel_rfl) (by kernel_rfl) ?_
                    repeat (go_big_quiet_step (fail))
                    refine wpQuiet_nil ?_
                    rintro _ ⟨z, rfl⟩
                    have hbz := z.2
                    go_wp2
                    go_ret
                    exact ⟨by rw [HA.out]; rfl, HB.out.trans ((HBj.out.trans (hbz.mono HBj.out.size)).mono HB.out.size)⟩
                  | false =>
                    cases q2 : (y == x2) with
                    | true =>
                      have HA : Aside0 (pOk xs ps = false) := ⟨pOk_false hlt (pOkAt_share hji (by rw [HSH.out, q0, q1, q2]; rfl))⟩
                      clear hlt
                      go_wp2
                      refine wp_region_ext (by kernel_rfl) (by kernel_rfl) ?_
                      repeat (go_big_quiet_step (fail))
                      refine wpQuiet_nil ?_
                      rintro _ ⟨z, rfl⟩
                      have hbz := z.2
                      go_wp2
                      go_ret
                      exact ⟨by rw [HA.out]; rfl, HB.out.trans ((HBj.out.trans (hbz.mono HBj.out.size)).mono HB.out.size)⟩
                    | false =>
                      cases q3 : (y == y2) with
                      | true =>
                        have HA : Aside0 (pOk xs ps = false) := ⟨pOk_false hlt (pOkAt_share hji (by rw [HSH.out, q0, q1, q2, q3]; rfl))⟩
                        clear hlt
                        go_wp2
                        refine wp_region_ext (by kernel_rfl) (by kernel_rfl) ?_
                        repeat (go_big_quiet_step (fail))
                        refine wpQuiet_nil ?_
                        rintro _ ⟨z, rfl⟩
                        have hbz := z.2
                        go_wp2
                        go_ret
                        exact ⟨by rw [HA.out]; rfl, HB.out.trans ((HBj.out.trans (hbz.mono HBj.out.size)).mono HB.out.size)⟩
                      | false =>
                        have HS2 : Aside0 (∀ t, t < j + 1 → shares (ps.getD i (0, 0)) (ps.getD t (0, 0)) = false) := ⟨fun t ht => by
                          rcases Nat.lt_succ_iff_lt_or_eq.1 ht with h | h
                          · exact HS.out t h
                          · rw [h, HSH.out, q0, q1, q2, q3]; rfl⟩
                        go_wp2
                        refine wp_region_ext (by kernel_rfl) (by kernel_rfl) ?_
                        repeat (go_big_quiet_step (fail))
                        refine wpQuiet_nil ?_
                        rintro _ ⟨z, rfl⟩
                        have hbz := z.2
                        have HBn := Aside0.mk (HBj.out.trans (hbz.mono HBj.out.size))
                        clear hbz
                        go_wp2
                        go_roundw
                        case rel => exact ⟨j + 1, by go_num, by omega, HS2, HBn⟩
                        case measure => simp [intOf]; omega
              · have e : j = i := by omega
                have HI2 : Aside0 (∀ t, t < i + 1 → pOkAt xs ps t = true) := ⟨fun t ht => by
                  rcases Nat.lt_succ_iff_lt_or_eq.1 ht with h | h
                  · exact HI.out t h
                  · rw [h]; exact pOkAt_all HPT.out HLT.out (fun u hu => HS.out u (by omega))⟩
                clear e
                go_wp2
                go_roundw
                case rel => exact ⟨i + 1, by go_num, by omega, HI2, HBj⟩
                case measure => simp [intOf]; omega
    · have HA : Aside0 (pOk xs ps = true) := ⟨pOk_true (fun t ht => HI.out t (by omega))⟩
      go_wp2
      go_ret
      exact ⟨by rw [HA.out]; rfl, HB.out.trans (HBr.out.mono HB.out.size)⟩
end Go.Proofs.Ythbkboigbkadjaa.H

namespace Go.Proofs.Ythbkboigbkadjaa.H
open Go.RowKit Go.Proofs.YthbkboigbkadjaaW.PrintWords Go.Proofs.YthbkboigbkadjaaW.PrintLast Go.Proofs.YthbkboigbkadjaaW.PrintMore
set_option linter.unusedVariables false
set_option linter.unusedSimpArgs false

/-- where a pair is put in, below k -/
def insK (acc : List (Int × Int)) (p : Int × Int) : Nat → Nat
  | 0 => 0
  | k + 1 => if lessP p.1 p.2 (acc.getD k (0, 0)).1 (acc.getD k (0, 0)).2 then insK acc p k else k + 1
def insAt (acc : List (Int × Int)) (p : Int × Int) : Nat := insK acc p acc.length
theorem insK_le (acc : List (Int × Int)) (p : Int × Int) : ∀ k, insK acc p k ≤ k
  | 0 => Nat.le_refl _
  | k + 1 => by
    unfold insK
    split
    · exact Nat.le_trans (insK_le acc p k) (Nat.le_succ _)
    · exact Nat.le_refl _
theorem insK_down {acc : List (Int × Int)} {p q x y : Int} {k : Nat} (e : acc[k]? = some (x, y)) (h : lessP p q x y = true) : insK acc (p, q) (k + 1) = insK acc (p, q) k := by
  have : acc.getD k (0, 0) = (x, y) := by rw [List.getD_eq_getElem?_getD, e]; rfl
  conv => lhs; unfold insK
  rw [this]; exact if_pos h
theorem insK_stop {acc : List (Int × Int)} {p q x y : Int} {k : Nat} (e : acc[k]? = some (x, y)) (h : lessP p q x y = false) : insK acc (p, q) (k + 1) = k + 1 := by
  have : acc.getD k (0, 0) = (x, y) := by rw [List.getD_eq_getElem?_getD, e]; rfl
  conv => lhs; unfold insK
  rw [this]; exact if_neg (by rw [h]; decide)

set_option maxRecDepth 100000 in
set_option maxHeartbeats 4000000 in
theorem specWith (n : Nat) (ku : Value) (xs : List Int) (v : Value) (acc : List (Int × Int)) (p q : Int) (w : World) (hk0 : ReadI w ku xs) (hc : Cx n xs) (hv : ReadP w v acc) (hq : ReadQ w v acc) (hl : acc.length ≤ 100000) :
    Calls Try.prog 58 #[cx n ku, v, .agg #[.int .i64 p, .int .i64 q]] w fun e w' => ∃ u, e = .returned (.tuple #[u, .bool (pOk xs (putP acc (insAt acc (p, q)) (p, q)))]) ∧ OwnP w.heap.size w' u (putP acc (insAt acc (p, q)) (p, q)) ∧ Below w.heap.size w w' := by
  obtain ⟨w1, hw1⟩ : ∃ w1, w1 = (w.alloc (.cells #[.int .i64 n, ku] 28)).alloc (.cells #[.int .i64 p, .int .i64 q] 70) := ⟨_, rfl⟩
  have hB : Below w.heap.size w w1 := by rw [hw1]; exact ((Below.refl _ w).alloc (Nat.le_refl _) _).alloc (by simp) _
  have c0 : w1.cell? ⟨w.heap.size, 0, none⟩ = some (.int .i64 n) := by rw [hw1]; simp
  have c1 : w1.cell? ⟨w.heap.size, 1, none⟩ = some ku := by rw [hw1]; simp
  have c2 : w1.cell? ⟨w.heap.size + 1, 0, none⟩ = some (.int .i64 p) := by rw [hw1]; simp
  have c3 : w1.cell? ⟨w.heap.size + 1, 1, none⟩ = some (.int .i64 q) := by rw [hw1]; simp
  have HB := Aside0.mk hB
  have HK := Aside0.mk (hk0.below hB)
  have HC := Aside0.mk hc
  have HP := Aside0.mk (hv.below hB)
  have HQ0 := hq.below hB
  obtain ⟨A1, d1, rfl, -⟩ := id hk0
  obtain ⟨A2, d2, rfl, -⟩ := id hq
  have HQ := Aside0.mk HQ0
  have hmx : Try.prog.follows .mixedOrders = true := by kernel_rfl
  have c0w := c0
  have c1w := c1
  clear hk0 hc hv hq hB HQ0
  go_enter Try.func58, Try.ntmps58
  go_wp2
  rw [← hw1]
  clear hw1
  go_loopw [8] (fun s8 wr => ∃ k : Nat, s8 = .int .i64 k ∧ k ≤ acc.length ∧ Aside0 (insK acc (p, q) k = insAt acc (p, q)) ∧ Aside0 (Below w1.heap.size w1 wr)) (fun s8 _ => (intOf s8).toNat)
  case atStart => exact ⟨_, rfl, Nat.le_refl _, ⟨rfl⟩, ⟨Below.refl _ _⟩⟩
  case round =>
    obtain ⟨k, rfl, hk, HK0, HBr⟩ := hrel
    have c2 := pw_cell_below HBr.out c2
    have c3 := pw_cell_below HBr.out c3
    by_cases hk0 : 0 < k
    · obtain ⟨g, x, y, rfl, hxy, hc0, hc1⟩ := ReadP.get (HP.out.below HBr.out) (i := k - 1) (by omega)
      have h1i : (0 : Int) ≤ (k : Int) - 1 := by omega
      have h2i : (k : Int) - 1 < (acc.length : Int) := by omega
      have h3i : ((k : Int) - 1).toNat = k - 1 := by omega
      have hk0I : (0 : Int) < (k : Int) := by omega
      have hwk : IntKind.i64.wrap ((k : Int) - 1) = (k : Int) - 1 := IntWalk.i64_in _ (by omega)
      have b0 : ∀ z : Ext wr, z.1.cell? ⟨g, (k - 1) * 2, none⟩ = some (.int .i64 x) := fun z => Ext.cell hc0 z
      have b1 : ∀ z : Ext wr, z.1.cell? ⟨g, (k - 1) * 2 + 1, none⟩ = some (.int .i64 y) := fun z => Ext.cell hc1 z
      have b2 : ∀ z : Ext wr, z.1.cell? ⟨w.heap.size + 1, 0, none⟩ = some (.int .i64 p) := fun z => Ext.cell c2 z
      have b3 : ∀ z : Ext wr, z.1.cell? ⟨w.heap.size + 1, 1, none⟩ = some (.int .i64 q) := fun z => Ext.cell c3 z
      have HLE : Aside0 (∀ z : Ext wr, Calls Try.prog 118 #[.agg #[.int .i64 p, .int .i64 q], .agg #[.int .i64 x, .int .i64 y]] z.1 fun e w' => e = .returned (.bool (lessP p q x y)) ∧ Below z.1.heap.size z.1 w') := ⟨fun z => specLess p q x y z.1⟩
      have HDN := Aside0.mk (fun h => insK_down (acc := acc) (p := p) (q := q) hxy h)
      have HST := Aside0.mk (fun h => insK_stop (acc := acc) (p := p) (q := q) hxy h)
      rw [show k - 1 + 1 = k by omega] at HDN HST
      clear hc0 hc1 hxy
      generalize lessP p q x y = r at *
      cases r with
      | true =>
        go_wp2
        refine wp_region_ext (by kernel_rfl) (by kernel_rfl) ?_
        repeat (go_big_quiet_step (first | (go_at_call 118; with_reducible exact Calls.ext_of (HLE.out _))))
        refine wpQuiet_nil ?_
        rintro _ ⟨z, rfl⟩
        have HBn := Aside0.mk (HBr.out.trans (z.2.mono HBr.out.size))
        go_wp2
        go_roundw
        case rel => exact ⟨k - 1, by go_num, by omega, ⟨(HDN.out (by trivial)).symm.trans HK0.out⟩, HBn⟩
        case measure => simp [intOf]; omega
      | false =>
        have HIS := HST.out (by trivial)
        go_wp2
        refine wp_region_ext (by kernel_rfl) (by kernel_rfl) ?_
        repeat (go_big_quiet_step (first | (go_at_call 118; with_reducible exact Calls.ext_of (HLE.out _))))
        refine wpQuiet_nil ?_
        rintro _ ⟨z, rfl⟩
        have HBn := Aside0.mk (HBr.out.trans (z.2.mono HBr.out.size))
        have hbz := z.2
        obtain ⟨wz, hwz⟩ : ∃ wz, wz = z.1 := ⟨_, rfl⟩
        rw [← hwz] at HBn hbz ⊢
        clear b0 b1 b2 b3 HLE hwz
        replace c2 := pw_cell_below hbz c2
        replace c3 := pw_cell_below hbz c3
        clear hbz HBr
        have HBr := HBn
        have HIN : Aside0 (insAt acc (p, q) = k) := ⟨HK0.out.symm.trans HIS⟩
        obtain ⟨Af, cf, hslf, hrf⟩ := (HQ.out.below HBr.out).from_ hk
        have HSF := Aside0.mk hslf
        have HRF := Aside0.mk hrf
        have HRT := Aside0.mk (fun W (h : Below w1.heap.size w1 W) => ReadQ.to_ (HQ.out.below h) hk)
        have HSLT := Aside0.mk ((ReadQ.to_ (HQ.out.below HBr.out) hk).1)
        have HBz := HBr.out.size
        clear hslf hrf HIS
        go_wp2
        refine wp_region_tail 5 (fun i => match i with | 0 => fun v _ => v = .agg #[.int .i64 p, .int .i64 q] | 1 => fun v W => OwnP w1.heap.size W v [(p, q)] | 2 => fun v _ => v = .slice (some ⟨g, 0, none⟩) acc.length d2 | 3 => fun v _ => v = .int .i64 (k : Nat) | 4 => fun v _ => v = .slice Af (acc.length - k) cf | _ => fun _ _ => True)
          [0, 1, 0, 0, 12, 31, 63] hmx (by kernel_rfl) ?st ?steps ?rest
        case st =>
          intro i v w1_ w2_ hb
          match i with
          | 0 | 2 | 3 | 4 => exact id
          | 1 => exact fun h => OwnP.below h hb
          | n + 5 => exact id
        case steps =>
          refine ⟨?_, ?_, ?_, ?_, ?_, trivial⟩
          · intro s w_ hb hd R hR
            generalize hA : putAll _ 0 s _ = A
            have c2 := pw_cell_below hb c2
            have c3 := pw_cell_below hb c3
            have hR' := hR (.agg #[.int .i64 p, .int .i64 q]) _ (Below.refl _ _) rfl
            clear hR hd
            refine opGives_value ?_ hR'
            subst hA
            simp only [dsOf, List.take, List.map_cons, List.map_nil, Option.getD_some, putAll, Act.put, List.setIfInBounds_toArray, List.set_cons_zero, List.set_cons_succ]
            go_simp
          · intro s w_ hb hd R hR
            generalize hA : putAll _ 0 s _ = A
            have e0 : s 0 = _ := hd 0 (by kernel_rfl)
            have hR' := hR (.slice (some ⟨w_.heap.size, 0, none⟩) 1 1) (w_.alloc (.cells #[.int .i64 p, .int .i64 q] 70)) (Below.alloc (Below.refl _ _) (Nat.le_refl _) _) (OwnP.single w_ p q (Nat.le_trans HBr.out.size hb.size))
            clear hR hd
            refine opGives_value ?_ hR'
            subst hA
            simp only [dsOf, List.take, List.map_cons, List.map_nil, Option.getD_some, putAll, Act.put, List.setIfInBounds_toArray, List.set_cons_zero, List.set_cons_succ]
            go_simp
          · intro s w_ hb hd R hR
            generalize hA : putAll _ 0 s _ = A
            have hR' := hR (.slice (some ⟨g, 0, none⟩) acc.length d2) _ (Below.refl _ _) rfl
            clear hR hd
            refine opGives_value ?_ hR'
            subst hA
            simp only [dsOf, List.take, List.map_cons, List.map_nil, Option.getD_some, putAll, Act.put, List.setIfInBounds_toArray, List.set_cons_zero, List.set_cons_succ]
            go_simp
          · intro s w_ hb hd R hR
            generalize hA : putAll _ 0 s _ = A
            have hR' := hR (.int .i64 (k : Nat)) _ (Below.refl _ _) rfl
            clear hR hd
            refine opGives_value ?_ hR'
            subst hA
            simp only [dsOf, List.take, List.map_cons, List.map_nil, Option.getD_some, putAll, Act.put, List.setIfInBounds_toArray, List.set_cons_zero, List.set_cons_succ]
            go_simp
          · intro s w_ hb hd R hR
            generalize hA : putAll _ 0 s _ = A
            have e2 : s 2 = _ := hd 2 (by kernel_rfl)
            have e3 : s 3 = _ := hd 3 (by kernel_rfl)
            have hR' := hR (.slice Af (acc.length - k) cf) _ (Below.refl _ _) rfl
            clear hR hd
            refine opGives_value (slice_execQ Try.underlying38 rfl ?_) hR'
            subst hA
            simp only [dsOf, List.take, List.map_cons, List.map_nil, Option.getD_some, putAll, Act.put, List.setIfInBounds_toArray, List.set_cons_zero, List.set_cons_succ]
            show (Instr.slice 38 (s 2) (some (s 3)) none none).run Try.prog w_ = _
            rw [e2, e3]
            exact HSF.out w_
        case rest =>
          intro s9 w9 hb hv
          have o1_ : OwnP w1.heap.size w9 (s9 1) [(p, q)] := hv 1 (by decide)
          have e4_ : s9 4 = _ := hv 4 (by decide)
          clear hv
          simp only [dsOf, List.take, List.map_cons, List.map_nil, Option.getD_some, putAll, Act.put, List.setIfInBounds_toArray, List.set_cons_zero, List.set_cons_succ]
          have h9 := Below.size hb
          refine .inl (appP_gives w1.heap.size (.tmp 27) (.tmp 30) rfl (s9 1) [(p, q)] (acc.drop k) Af (acc.length - k) cf rfl e4_ o1_ (HRF.out.below hb) (by omega) (by rw [List.length_drop]; simp; omega) ?_)
          intro v1 w10 ho10 hg10
          simp only [List.drop, Act.put, List.setIfInBounds_toArray, List.set_cons_zero, List.set_cons_succ]
          refine .inl (opGives_value (v := v1) (w' := w10) (by go_simp) ?_)
          simp only [List.drop, Act.put, List.setIfInBounds_toArray, List.set_cons_zero, List.set_cons_succ]
          unfold tailList
          have HO10 := Aside0.mk (show OwnP w1.heap.size w10 v1 ([(p, q)] ++ acc.drop k) from ho10)
          have HB10 := Aside0.mk ((HBr.out.trans (hb.mono HBr.out.size)).grown hg10 (by omega) (fun j hj => OwnP.base o1_ j hj))
          have hLn : ([(p, q)] ++ acc.drop k).length = acc.length - k + 1 := by rw [List.length_append, List.length_drop]; simp; omega
          have c0 := pw_cell_below HB10.out c0w
          have c1 := pw_cell_below HB10.out c1w
          have hz10 := HB10.out.size
          clear ho10 hg10 hb o1_ e4_ h9
          obtain ⟨A10, c10, rfl, -⟩ := id HO10.out.readQ
          rw [hLn] at HO10 ⊢
          have HE := Aside0.mk (OwnP.empty (b := w1.heap.size) w10 hz10)
          have HBE : Aside0 (Below w10.heap.size w10 (w10.alloc (.cells #[] 70))) := ⟨Below.alloc (Below.refl _ _) (Nat.le_refl _) _⟩
          have hba : Below w10.heap.size w10 (w10.alloc (.cells #[] 70)) := HBE.out
          have m0 := pw_cell_below hba c0
          have m1 := pw_cell_below hba c1
          clear hba
          go_wp2_with (first | ((with_reducible refine gate_dst (N := 35) rfl ?_); refine slice_toldQ (u := .slice (some ⟨g, 0, none⟩) k d2) Try.underlying38 rfl rfl HSLT.out ?_) | ((with_reducible refine gate_builtin (b := .append) (xs := #[.tmp 32, .tmp 35]) rfl ?_); refine appP_list w1.heap.size rfl (.tmp 32) (.tmp 35) rfl (.slice (some ⟨w10.heap.size, 0, none⟩) 0 0) [] (acc.take k) (some ⟨g, 0, none⟩) k d2 rfl rfl HE.out (HRT.out _ (HB10.out.trans (HBE.out.mono hz10))).2 (Nat.le_trans hz10 HBE.out.size) (by rw [List.length_take]; simp; omega) ?_; intro v6 w6 ho6 hg6; have HO6 := Aside0.mk (show OwnP w1.heap.size w6 v6 (acc.take k) from ho6); have hb6 : Below w10.heap.size w10 w6 := (HBE.out.grown hg6 HBE.out.size (fun j hj => by have e2 : w10.heap.size = j := Option.some.inj hj; omega)); have HB6 := Aside0.mk (HB10.out.trans (hb6.mono hz10)); have HO6b := Aside0.mk (OwnP.below HO10.out hb6); replace m0 := pw_cell_below hb6 c0; replace m1 := pw_cell_below hb6 c1; have hz6 := hb6.size; clear ho6 hg6 hb6; obtain ⟨A6, c6, rfl, -⟩ := id HO6.out.readQ; generalize hn6 : List.length (acc.take k) = n6 at HO6 ⊢; clear hn6) | ((with_reducible refine gate_builtin (b := .append) (xs := #[.tmp 36, .tmp 37]) rfl ?_); refine appP_list w1.heap.size rfl (.tmp 36) (.tmp 37) rfl _ (acc.take k) ([(p, q)] ++ acc.drop k) A10 (acc.length - k + 1) c10 rfl rfl HO6.out HO6b.out.readQ (Nat.le_trans hz10 hz6) (by rw [List.length_take, hLn]; omega) ?_; intro v7 w7 ho7 hg7; have HO7 := Aside0.mk (show OwnP w1.heap.size w7 v7 (putP acc k (p, q)) from ho7); have hb7 := HB6.out.grown hg7 (Nat.le_trans hz10 hz6) (fun j hj => OwnP.base HO6.out j hj); have HB7 := Aside0.mk hb7; replace m0 := pw_cell_below hb7 c0w; replace m1 := pw_cell_below hb7 c1w; clear ho7 hg7 hb7; obtain ⟨A7, c7, rfl, -⟩ := id HO7.out.readQ; generalize hn7 : List.length (putP acc k (p, q)) = n7 at HO7 ⊢; clear hn7) | (go_at_call 119; go_must (refine Calls.mono (specIs2 n _ xs _ (putP acc k (p, q)) _ (HK.out.below HB7.out) HO7.out.read HC.out) ?_; rintro e w8 ⟨rfl, hb⟩; have HO8 := Aside0.mk (OwnP.below HO7.out hb); have HB8 := Aside0.mk (HB7.out.trans (hb.mono HB7.out.size)); clear hb)))
          go_ret2
          exact ⟨_, by rw [HIN.out]; rfl, by rw [HIN.out]; exact OwnP.lower HO8.out HB.out.size, HB.out.trans (HB8.out.mono HB.out.size)⟩
    · have hk0I : ¬ (0 : Int) < (k : Int) := by omega
      have e0 : k = 0 := by omega
      have HIS : insK acc (p, q) k = k := by rw [e0]; rfl
      clear e0
      go_wp2
      refine wp_region_ext (by kernel_rfl) (by kernel_rfl) ?_
      repeat (go_big_quiet_step (fail))
      refine wpQuiet_nil ?_
      rintro _ ⟨z, rfl⟩
      have HBn := Aside0.mk (HBr.out.trans (z.2.mono HBr.out.size))
      have hbz := z.2
      obtain ⟨wz, hwz⟩ : ∃ wz, wz = z.1 := ⟨_, rfl⟩
      rw [← hwz] at HBn hbz ⊢
      clear hwz
      replace c2 := pw_cell_below hbz c2
      replace c3 := pw_cell_below hbz c3
      clear hbz HBr
      have HBr := HBn
      have HIN : Aside0 (insAt acc (p, q) = k) := ⟨HK0.out.symm.trans HIS⟩
      obtain ⟨Af, cf, hslf, hrf⟩ := (HQ.out.below HBr.out).from_ hk
      have HSF := Aside0.mk hslf
      have HRF := Aside0.mk hrf
      have HRT := Aside0.mk (fun W (h : Below w1.heap.size w1 W) => ReadQ.to_ (HQ.out.below h) hk)
      have HSLT := Aside0.mk ((ReadQ.to_ (HQ.out.below HBr.out) hk).1)
      have HBz := HBr.out.size
      clear hslf hrf HIS
      go_wp2
      refine wp_region_tail 5 (fun i => match i with | 0 => fun v _ => v = .agg #[.int .i64 p, .int .i64 q] | 1 => fun v W => OwnP w1.heap.size W v [(p, q)] | 2 => fun v _ => v = .slice A2 acc.length d2 | 3 => fun v _ => v = .int .i64 (k : Nat) | 4 => fun v _ => v = .slice Af (acc.length - k) cf | _ => fun _ _ => True)
        [0, 1, 0, 0, 12, 31, 63] hmx (by kernel_rfl) ?st ?steps ?rest
      case st =>
        intro i v w1_ w2_ hb
        match i with
        | 0 | 2 | 3 | 4 => exact id
        | 1 => exact fun h => OwnP.below h hb
        | n + 5 => exact id
      case steps =>
        refine ⟨?_, ?_, ?_, ?_, ?_, trivial⟩
        · intro s w_ hb hd R hR
          generalize hA : putAll _ 0 s _ = A
          have c2 := pw_cell_below hb c2
          have c3 := pw_cell_below hb c3
          have hR' := hR (.agg #[.int .i64 p, .int .i64 q]) _ (Below.refl _ _) rfl
          clear hR hd
          refine opGives_value ?_ hR'
          subst hA
          simp only [dsOf, List.take, List.map_cons, List.map_nil, Option.getD_some, putAll, Act.put, List.setIfInBounds_toArray, List.set_cons_zero, List.set_cons_succ]
          go_simp
        · intro s w_ hb hd R hR
          generalize hA : putAll _ 0 s _ = A
          have e0 : s 0 = _ := hd 0 (by kernel_rfl)
          have hR' := hR (.slice (some ⟨w_.heap.size, 0, none⟩) 1 1) (w_.alloc (.cells #[.int .i64 p, .int .i64 q] 70)) (Below.alloc (Below.refl _ _) (Nat.le_refl _) _) (OwnP.single w_ p q (Nat.le_trans HBr.out.size hb.size))
          clear hR hd
          refine opGives_value ?_ hR'
          subst hA
          simp only [dsOf, List.take, List.map_cons, List.map_nil, Option.getD_some, putAll, Act.put, List.setIfInBounds_toArray, List.set_cons_zero, List.set_cons_succ]
          go_simp
        · intro s w_ hb hd R hR
          generalize hA : putAll _ 0 s _ = A
          have hR' := hR (.slice A2 acc.length d2) _ (Below.refl _ _) rfl
          clear hR hd
          refine opGives_value ?_ hR'
          subst hA
          simp only [dsOf, List.take, List.map_cons, List.map_nil, Option.getD_some, putAll, Act.put, List.setIfInBounds_toArray, List.set_cons_zero, List.set_cons_succ]
          go_simp
        · intro s w_ hb hd R hR
          generalize hA : putAll _ 0 s _ = A
          have hR' := hR (.int .i64 (k : Nat)) _ (Below.refl _ _) rfl
          clear hR hd
          refine opGives_value ?_ hR'
          subst hA
          simp only [dsOf, List.take, List.map_cons, List.map_nil, Option.getD_some, putAll, Act.put, List.setIfInBounds_toArray, List.set_cons_zero, List.set_cons_succ]
          go_simp
        · intro s w_ hb hd R hR
          generalize hA : putAll _ 0 s _ = A
          have e2 : s 2 = _ := hd 2 (by kernel_rfl)
          have e3 : s 3 = _ := hd 3 (by kernel_rfl)
          have hR' := hR (.slice Af (acc.length - k) cf) _ (Below.refl _ _) rfl
          clear hR hd
          refine opGives_value (slice_execQ Try.underlying38 rfl ?_) hR'
          subst hA
          simp only [dsOf, List.take, List.map_cons, List.map_nil, Option.getD_some, putAll, Act.put, List.setIfInBounds_toArray, List.set_cons_zero, List.set_cons_succ]
          show (Instr.slice 38 (s 2) (some (s 3)) none none).run Try.prog w_ = _
          rw [e2, e3]
          exact HSF.out w_
      case rest =>
        intro s9 w9 hb hv
        have o1_ : OwnP w1.heap.size w9 (s9 1) [(p, q)] := hv 1 (by decide)
        have e4_ : s9 4 = _ := hv 4 (by decide)
        clear hv
        simp only [dsOf, List.take, List.map_cons, List.map_nil, Option.getD_some, putAll, Act.put, List.setIfInBounds_toArray, List.set_cons_zero, List.set_cons_succ]
        have h9 := Below.size hb
        refine .inl (appP_gives w1.heap.size (.tmp 27) (.tmp 30) rfl (s9 1) [(p, q)] (acc.drop k) Af (acc.length - k) cf rfl e4_ o1_ (HRF.out.below hb) (by omega) (by rw [List.length_drop]; simp; omega) ?_)
        intro v1 w10 ho10 hg10
        simp only [List.drop, Act.put, List.setIfInBounds_toArray, List.set_cons_zero, List.set_cons_succ]
        refine .inl (opGives_value (v := v1) (w' := w10) (by go_simp) ?_)
        simp only [List.drop, Act.put, List.setIfInBounds_toArray, List.set_cons_zero, List.set_cons_succ]
        unfold tailList
        have HO10 := Aside0.mk (show OwnP w1.heap.size w10 v1 ([(p, q)] ++ acc.drop k) from ho10)
        have HB10 := Aside0.mk ((HBr.out.trans (hb.mono HBr.out.size)).grown hg10 (by omega) (fun j hj => OwnP.base o1_ j hj))
        have hLn : ([(p, q)] ++ acc.drop k).length = acc.length - k + 1 := by rw [List.length_append, List.length_drop]; simp; omega
        have c0 := pw_cell_below HB10.out c0w
        have c1 := pw_cell_below HB10.out c1w
        have hz10 := HB10.out.size
        clear ho10 hg10 hb o1_ e4_ h9
        obtain ⟨A10, c10, rfl, -⟩ := id HO10.out.readQ
        rw [hLn] at HO10 ⊢
        have HE := Aside0.mk (OwnP.empty (b := w1.heap.size) w10 hz10)
        have HBE : Aside0 (Below w10.heap.size w10 (w10.alloc (.cells #[] 70))) := ⟨Below.alloc (Below.refl _ _) (Nat.le_refl _) _⟩
        have hba : Below w10.heap.size w10 (w10.alloc (.cells #[] 70)) := HBE.out
        have m0 := pw_cell_below hba c0
        have m1 := pw_cell_below hba c1
        clear hba
        go_wp2_with (first | ((with_reducible refine gate_dst (N := 35) rfl ?_); refine slice_toldQ (u := .slice A2 k d2) Try.underlying38 rfl rfl HSLT.out ?_) | ((with_reducible refine gate_builtin (b := .append) (xs := #[.tmp 32, .tmp 35]) rfl ?_); refine appP_list w1.heap.size rfl (.tmp 32) (.tmp 35) rfl (.slice (some ⟨w10.heap.size, 0, none⟩) 0 0) [] (acc.take k) A2 k d2 rfl rfl HE.out (HRT.out _ (HB10.out.trans (HBE.out.mono hz10))).2 (Nat.le_trans hz10 HBE.out.size) (by rw [List.length_take]; simp; omega) ?_; intro v6 w6 ho6 hg6; have HO6 := Aside0.mk (show OwnP w1.heap.size w6 v6 (acc.take k) from ho6); have hb6 : Below w10.heap.size w10 w6 := (HBE.out.grown hg6 HBE.out.size (fun j hj => by have e2 : w10.heap.size = j := Option.some.inj hj; omega)); have HB6 := Aside0.mk (HB10.out.trans (hb6.mono hz10)); have HO6b := Aside0.mk (OwnP.below HO10.out hb6); replace m0 := pw_cell_below hb6 c0; replace m1 := pw_cell_below hb6 c1; have hz6 := hb6.size; clear ho6 hg6 hb6; obtain ⟨A6, c6, rfl, -⟩ := id HO6.out.readQ; generalize hn6 : List.length (acc.take k) = n6 at HO6 ⊢; clear hn6) | ((with_reducible refine gate_builtin (b := .append) (xs := #[.tmp 36, .tmp 37]) rfl ?_); refine appP_list w1.heap.size rfl (.tmp 36) (.tmp 37) rfl _ (acc.take k) ([(p, q)] ++ acc.drop k) A10 (acc.length - k + 1) c10 rfl rfl HO6.out HO6b.out.readQ (Nat.le_trans hz10 hz6) (by rw [List.length_take, hLn]; omega) ?_; intro v7 w7 ho7 hg7; have HO7 := Aside0.mk (show OwnP w1.heap.size w7 v7 (putP acc k (p, q)) from ho7); have hb7 := HB6.out.grown hg7 (Nat.le_trans hz10 hz6) (fun j hj => OwnP.base HO6.out j hj); have HB7 := Aside0.mk hb7; replace m0 := pw_cell_below hb7 c0w; replace m1 := pw_cell_below hb7 c1w; clear ho7 hg7 hb7; obtain ⟨A7, c7, rfl, -⟩ := id HO7.out.readQ; generalize hn7 : List.length (putP acc k (p, q)) = n7 at HO7 ⊢; clear hn7) | (go_at_call 119; go_must (refine Calls.mono (specIs2 n _ xs _ (putP acc k (p, q)) _ (HK.out.below HB7.out) HO7.out.read HC.out) ?_; rintro e w8 ⟨rfl, hb⟩; have HO8 := Aside0.mk (OwnP.below HO7.out hb); have HB8 := Aside0.mk (HB7.out.trans (hb.mono HB7.out.size)); clear hb)))
        go_ret2
        exact ⟨_, by rw [HIN.out]; rfl, by rw [HIN.out]; exact OwnP.lower HO8.out HB.out.size, HB.out.trans (HB8.out.mono HB.out.size)⟩
end Go.Proofs.Ythbkboigbkadjaa.H

namespace Go.Proofs.Ythbkboigbkadjaa.H
open Go.RowKit Go.Proofs.YthbkboigbkadjaaW.PrintWords Go.Proofs.YthbkboigbkadjaaW.PrintLast Go.Proofs.YthbkboigbkadjaaW.PrintMore
set_option linter.unusedVariables false
set_option linter.unusedSimpArgs false

/-- the vertex that is asked last -/
def lastQ (n : Nat) (t : List Int) (b : Nat) : Nat := qN t (plc t b (n - 1))
def potB (n : Nat) (xs t : List Int) (b : Nat) : Bool := b.testBit (lastQ n t b) && decide (((b ^^^ 2 ^ lastQ n t b : Nat) : Int) ∈ xs)
def potL (n : Nat) (xs t ys : List Int) : List (Int × Int) := ys.flatMap fun x => if potB n xs t x.toNat then [(((x.toNat ^^^ 2 ^ lastQ n t x.toNat : Nat) : Int), (x.toNat : Int))] else []
theorem potL_hit {n : Nat} {xs t ys : List Int} {i b : Nat} (hi : i < ys.length) (hy : ys.getD i 0 = (b : Int)) (h : potB n xs t b = true) : potL n xs t (ys.take (i + 1)) = potL n xs t (ys.take i) ++ [(((b ^^^ 2 ^ lastQ n t b : Nat) : Int), (b : Int))] := by
  unfold potL
  rw [take_get hi hy, List.flatMap_append, List.flatMap_singleton]
  simp only [Int.toNat_natCast]
  rw [if_pos h]
theorem potL_miss {n : Nat} {xs t ys : List Int} {i b : Nat} (hi : i < ys.length) (hy : ys.getD i 0 = (b : Int)) (h : potB n xs t b = false) : potL n xs t (ys.take (i + 1)) = potL n xs t (ys.take i) := by
  unfold potL
  rw [take_get hi hy, List.flatMap_append, List.flatMap_singleton]
  simp only [Int.toNat_natCast]
  rw [if_neg (by rw [h]; decide), List.append_nil]
theorem potL_len (n : Nat) (xs t : List Int) : ∀ ys : List Int, (potL n xs t ys).length ≤ ys.length
  | [] => by simp [potL]
  | y :: r => by
    have ih := potL_len n xs t r
    unfold potL at ih ⊢
    rw [List.flatMap_cons, List.length_append, List.length_cons]
    refine Nat.le_trans (Nat.add_le_add (show _ ≤ 1 from ?_) ih) (by omega)
    split <;> simp
/-- what PairingOfTree answers -/
def ansPairingOfTree (a : Int) (xs t : List Int) : List (Int × Int) × Int := if cxOk a xs then (if treeOk a.toNat t then (sortL (potL a.toNat xs t xs), 0) else ([], 2)) else ([], 1)
theorem sortL_len (ps : List (Int × Int)) : (sortL ps).length = ps.length := List.length_mergeSort _
theorem lenPairingOfTree (a : Int) (xs t : List Int) : (ansPairingOfTree a xs t).1.length ≤ 1073741824 := by
  unfold ansPairingOfTree
  split
  · next h =>
    obtain ⟨n, rfl, hc⟩ := cxOk_nat h
    split
    · have h1 := potL_len n xs t xs
      have h2 := hc.len
      show (sortL (potL n xs t xs)).length ≤ _
      rw [sortL_len]; omega
    · simp
  · simp
theorem sortL_nil : sortL [] = [] := by unfold sortL; simp
theorem insK_spec (acc : List (Int × Int)) (p : Int × Int) : ∀ k, (∀ j, insK acc p k ≤ j → j < k → lessP p.1 p.2 (acc.getD j (0, 0)).1 (acc.getD j (0, 0)).2 = true) ∧ (0 < insK acc p k → lessP p.1 p.2 (acc.getD (insK acc p k - 1) (0, 0)).1 (acc.getD (insK acc p k - 1) (0, 0)).2 = false)
  | 0 => ⟨fun j _ h => absurd h (Nat.not_lt_zero _), fun h => absurd h (by simp [insK])⟩
  | k + 1 => by
    have ih := insK_spec acc p k
    cases hq : lessP p.1 p.2 (acc.getD k (0, 0)).1 (acc.getD k (0, 0)).2 with
    | true =>
      have e : insK acc p (k + 1) = insK acc p k := by conv => lhs; unfold insK
                                                       rw [if_pos hq]
      rw [e]
      refine ⟨fun j h1 h2 => ?_, ih.2⟩
      rcases Nat.lt_succ_iff_lt_or_eq.1 h2 with h | rfl
      · exact ih.1 j h1 h
      · exact hq
    | false =>
      have e : insK acc p (k + 1) = k + 1 := by conv => lhs; unfold insK
                                                rw [if_neg (by rw [hq]; decide)]
      rw [e]
      exact ⟨fun j h1 h2 => by omega, fun _ => hq⟩
theorem less_leP {p q : Int × Int} : lessP p.1 p.2 q.1 q.2 = true → leP p q := fun h => by
  unfold lessP at h
  rw [Bool.or_eq_true, decide_eq_true_eq, Bool.and_eq_true, beq_iff_eq, decide_eq_true_eq] at h
  unfold leP; omega
theorem nless_leP {p q : Int × Int} : lessP p.1 p.2 q.1 q.2 = false → leP q p := fun h => by
  unfold lessP at h
  rw [Bool.or_eq_false_iff, decide_eq_false_iff_not, Bool.and_eq_false_iff, beq_eq_false_iff_ne, decide_eq_false_iff_not] at h
  unfold leP; omega
/-- what is put in behind a sorted row -/
theorem put_in {ps acc : List (Int × Int)} (p : Int × Int) (he : acc = sortL ps) : putP acc (insAt acc p) p = sortL (ps ++ [p]) := by
  have hs := insK_spec acc p acc.length
  refine put_sort he (insK_le _ _ _) (fun j hj hkj => ?_) (fun hlt h0 => ?_)
  · have := hs.1 j hkj hj
    rw [List.getD_eq_getElem?_getD, List.getElem?_eq_getElem hj, Option.getD_some] at this
    exact less_leP this
  · have := hs.2 h0
    rw [show insK acc p acc.length = insAt acc p from rfl, List.getD_eq_getElem?_getD, List.getElem?_eq_getElem hlt, Option.getD_some] at this
    exact nless_leP this
theorem last_q {n : Nat} {t : List Int} (hn1 : 1 ≤ n) (hn : n ≤ 6) (ht : treeOk n t = true) (b : Nat) : (wayL t b n).getD (n - 1) 0 = (lastQ n t b : Int) ∧ lastQ n t b < n := by
  have hpl := plc_in hn t b (n - 1) (by omega)
  have hq := tree_in ht (p := plc t b (n - 1)) hpl.1 hpl.2.1
  refine ⟨?_, hq.2.2.2⟩
  unfold wayL
  rw [List.getD_eq_getElem?_getD, List.getElem?_map, List.getElem?_range (by omega)]
  exact hq.2.2.1
theorem and_bitP (z v : Nat) : z &&& 2 ^ v = if z.testBit v then 2 ^ v else 0 := by
  apply Nat.eq_of_testBit_eq
  intro i
  rw [Nat.testBit_and, Nat.testBit_two_pow]
  by_cases h : v = i
  · subst h
    cases hq : z.testBit v <;> simp
  · cases hq : z.testBit v <;> simp [h, Nat.testBit_two_pow]
end Go.Proofs.Ythbkboigbkadjaa.H
