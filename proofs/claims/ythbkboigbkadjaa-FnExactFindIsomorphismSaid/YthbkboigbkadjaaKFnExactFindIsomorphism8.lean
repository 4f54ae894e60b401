/- Isomorphisms of the program: all of them, one behind the other; CountAutomorphisms. Isomorphisms of the reference: the whole search; CountAutomorphisms. FindIsomorphism of the program and of the reference. FindIsomorphism of the reference. Marks over complexes. What the arguments of the laws read as. -/
import Derived.Deep.DeepMust
import Derived.WalkKit
import Derived.ProofKit
import Derived.OpenShut
import Derived.ShutString
import Derived.ChangeOld
import Derived.Lib.SmallJoins
import Derived.Test.YthbkboigbkadjaaKFnExactFindIsomorphism1
import Derived.Test.YthbkboigbkadjaaKFnExactFindIsomorphism2
import Derived.Test.YthbkboigbkadjaaKFnExactFindIsomorphism3
import Derived.Test.YthbkboigbkadjaaKFnExactFindIsomorphism4
import Derived.Test.YthbkboigbkadjaaKFnExactFindIsomorphism5
import Derived.Test.YthbkboigbkadjaaKFnExactFindIsomorphism6
import Derived.Test.YthbkboigbkadjaaKFnExactFindIsomorphism7

namespace Go.Proofs.Ythbkboigbkadjaa.H
open Go.RowKit Go.Proofs.YthbkboigbkadjaaW.PrintWords Go.Proofs.YthbkboigbkadjaaW.PrintLast Go.Proofs.YthbkboigbkadjaaW.PrintMore
set_option linter.unusedVariables false
set_option linter.unusedSimpArgs false

/-- the order carries one complex over to the other -/
def okI (xs ys p : List Int) : Bool := decide (sortN (imgL xs p) = ys)
abbrev capsI (bk bl bd bg : Nat) : Array Value := #[.pointer (some ⟨bk, 0, none⟩), .pointer (some ⟨bl, 0, none⟩), .pointer (some ⟨bd, 0, none⟩), .pointer (some ⟨bg, 0, none⟩)]
set_option maxHeartbeats 1000000 in
theorem isoGrow {σ : Type} (B : Nat) (St : σ → World → Prop) (stp : σ → List Int → Bool × σ) (bo bk bl bd bg n : Nat) (ku lu : Value) (xs ys : List Int) (fv : Value) (hdo : DoL B St stp bo fv) (hSt : ∀ s w w', St s w → Below w.heap.size w w' → St s w')
    (hbk : bk ≠ bo) (hbl : bl ≠ bo) (hbd : bd ≠ bo) (hbg : bg ≠ bo) (hbo : bo < B) (hx : cxOk n xs = true) (hc : Cx n xs) :
    ∀ (k : Nat) (v : Value) (l : List Int) (s : σ) (w : World), l.length + k = n → Pre n l → OwnI B w v l → St s w → B ≤ w.heap.size → RdK bo w ku xs → RdK bo w lu ys →
      w.cell? ⟨bk, 0, none⟩ = some (.int .i64 n) → w.cell? ⟨bk, 1, none⟩ = some ku → w.cell? ⟨bl, 1, none⟩ = some lu → w.cell? ⟨bd, 0, none⟩ = some fv → w.cell? ⟨bg, 0, none⟩ = some (.func (.func 108) #[] (capsI bk bl bd bg)) →
      Calls Try.prog 108 #[v, .int .i64 (seenTo l : Nat), .pointer (some ⟨bk, 0, none⟩), .pointer (some ⟨bl, 0, none⟩), .pointer (some ⟨bd, 0, none⟩), .pointer (some ⟨bg, 0, none⟩)] w fun e w' => e = .returned (.bool (walkD (okI xs ys) stp (exts n k l) s).1) ∧ St (walkD (okI xs ys) stp (exts n k l) s).2 w' ∧ w.grownBy w' (some bo)
  | 0, v, l, s, w, hl, hp, hv, hs, hB, hk, hly, k0, k1, l1, d0, g0 => by
    refine Calls.mono (isoLeaf B St stp bo bk bl bd bg n ku lu xs ys fv hdo hSt v l (seenTo l : Nat) s w hx hc (ord_of hc.hi (by omega) hp) hk.read hly.read hv hs k0 k1 l1 d0) ?_
    rintro e w' ⟨s', rfl, rfl, h1, h2⟩
    exact ⟨rfl, h1, h2⟩
  | k + 1, v, l, s, w, hl, hp, hv, hs, hB, hk, hly, k0, k1, l1, d0, g0 =>
    isoStep B St stp bo bk bl bd bg n k (okI xs ys) hSt hbk hbl hbd hbg hbo hc.hi v l s w (by omega) hp hv hs hB k0 g0 (fun iv v' s' w' hiv hm hg ho hs' =>
      isoGrow B St stp bo bk bl bd bg n ku lu xs ys fv hdo hSt hbk hbl hbd hbg hbo hx hc k v' (l ++ [(iv : Int)]) s' w' (by rw [List.length_append, List.length_singleton]; omega) (hp.snoc hiv hm) ho hs' (Nat.le_trans hB hg.size) (hk.go hg) (hly.go hg)
        (grown_cell hg k0 hbk) (grown_cell hg k1 hbk) (grown_cell hg l1 hbl) (grown_cell hg d0 hbd) (grown_cell hg g0 hbg))

section
variable {P : Program} {ops : Array Oper} {rest : List Oper} {o : Oper} {a : Act} {Q : Exit → Act → World → Prop}
/-- a function value goes into the cell made last -/
theorem store_new {W : World} {u : Value} {t5 : TypeId} (hgd : o.guard = none) {t : TypeId} {p : Tmp} {v : Operand} (ho : o.op = .store t (.tmp p) v) (hN : o.dst = none) {fn : Fn} {f1 f2 : Array Value} (hs : ∀ W', (sizeOf t).run P W' = .ok 1 W') {k : Nat} (hk : k = W.heap.size)
    (hp : a.eval (.tmp p) = .pointer (some ⟨k, 0, none⟩)) (hv : a.eval v = .func fn f1 f2)
    (h : ∀ w', Below W.heap.size W w' → w'.cell? ⟨k, 0, none⟩ = some (.func fn f1 f2) → wpList P ops Q rest a w') : wpList P ops Q (o :: rest) a (W.alloc (.cells #[u] t5)) := by
  subst hk
  have hc : (W.alloc (.cells #[u] t5)).cell? ⟨W.heap.size, 0, none⟩ = some u := new_cell _ _ _ 0 _ rfl
  have hf : (W.alloc (.cells #[u] t5)).frozen? ⟨W.heap.size, 0, none⟩ = false := by
    refine frozen_of_row _ _ _ #[u] t5 ?_
    show (W.heap.push _)[W.heap.size]? = _
    rw [Array.getElem?_push_size]
  refine store_event (w1 := (W.alloc (.cells #[u] t5)).setCell ⟨W.heap.size, 0, none⟩ (.func fn f1 f2)) hgd ho hN ?_ (fun w' e => h w' ?_ ?_)
  · generalize hE : a.eval = ρ at hp hv ⊢
    simp only [execOp, ho, hp, hv]
    simp [go_sem, hs, run_store P _ _ _ _ (show (Value.func fn f1 f2).oneCell' = true from rfl), hc, hf]
  · rw [e]
    exact Below.setCell (Below.alloc (Below.refl _ _) (Nat.le_refl _) _) (Nat.le_refl _) _
  · rw [e]; exact World.cell?_setCell_same (v := Value.func fn f1 f2) (h := hc)
end

set_option maxRecDepth 100000 in
set_option maxHeartbeats 2000000 in
theorem isomorphisms {σ : Type} (B : Nat) (St : σ → World → Prop) (stp : σ → List Int → Bool × σ) (bo n : Nat) (ku lu : Value) (xs ys : List Int) (fv : Value) (s : σ) (w : World) (hx : cxOk n xs = true) (hc : Cx n xs) (hdo : DoL B St stp bo fv) (hSt : ∀ s w w', St s w → Below w.heap.size w w' → St s w')
    (hbo : bo < B) (hBw : B ≤ w.heap.size) (hk : RdK bo w ku xs) (hl : RdK bo w lu ys) (hs : St s w) :
    Calls Try.prog 51 #[cx n ku, cx n lu, fv] w fun e w' => e = .returned (.bool (walkD (okI xs ys) stp (exts n n []) s).1) ∧ St (walkD (okI xs ys) stp (exts n n []) s).2 w' ∧ w.grownBy w' (some bo) := by
  obtain ⟨w2, hw2⟩ : ∃ w2, w2 = (w.alloc (.cells #[.int .i64 n, ku] 28)).alloc (.cells #[.int .i64 n, lu] 28) := ⟨_, rfl⟩
  obtain ⟨w3, hw3⟩ : ∃ w3, w3 = w2.alloc (.cells #[fv] 62) := ⟨_, rfl⟩
  have hs2 : w2.heap.size = w.heap.size + 1 + 1 := by rw [hw2]; simp
  have hB2 : Below w.heap.size w w2 := by rw [hw2]; exact ((Below.refl _ w).alloc (Nat.le_refl _) _).alloc (by simp) _
  have hB3 : Below w2.heap.size w2 w3 := by rw [hw3]; exact Below.alloc (Below.refl _ _) (Nat.le_refl _) _
  have hB : Below w.heap.size w w3 := hB2.trans (hB3.mono hB2.size)
  have hs3 : w.heap.size + 1 + 1 + 1 = w3.heap.size := by rw [hw3]; simp; omega
  have k0 : w3.cell? ⟨w.heap.size, 0, none⟩ = some (.int .i64 n) := pw_cell_below hB3 (by rw [hw2]; simp)
  have k1 : w3.cell? ⟨w.heap.size, 1, none⟩ = some ku := pw_cell_below hB3 (by rw [hw2]; simp)
  have l1 : w3.cell? ⟨w.heap.size + 1, 1, none⟩ = some lu := pw_cell_below hB3 (by rw [hw2]; simp)
  have d0 : w3.cell? ⟨w.heap.size + 1 + 1, 0, none⟩ = some fv := by rw [hw3, ← hs2]; exact new_cell _ _ _ 0 _ rfl
  subst hw2
  have HW := Aside0.mk hw3
  have HB := Aside0.mk hB
  have HS3 := Aside0.mk hs3
  have HG := Aside0.mk (fun w5 (hb : Below w3.heap.size w3 w5) g0 => isoGrow B St stp bo w.heap.size (w.heap.size + 1) (w.heap.size + 1 + 1) (w.heap.size + 1 + 1 + 1) n ku lu xs ys fv hdo hSt (by omega) (by omega) (by omega) (by omega) hbo hx hc n (.slice none 0 0) [] s w5 (by simp) (Pre.nil n) (OwnI.nil _ _) (hSt _ _ _ hs (hB.trans (hb.mono hB.size))) (by have := hb.size; omega) (hk.below (hB.trans (hb.mono hB.size))) (hl.below (hB.trans (hb.mono hB.size)))
    (pw_cell_below hb k0) (pw_cell_below hb k1) (pw_cell_below hb l1) (pw_cell_below hb d0) g0)
  obtain ⟨A1, d1, rfl, -⟩ := id hk.read
  obtain ⟨A2, d2, rfl, -⟩ := id hl.read
  obtain ⟨g, first, caps, rfl, hent, -⟩ := id hdo
  clear hk hl hs hSt hdo hx hc hB hB2 hB3 hs2 k0 k1 l1 d0 hs3 hw3 hent
  go_enter Try.func51, Try.ntmps51
  go_wp2_with (first | ((with_reducible refine gate_store (p := 7) rfl ?_); go_must (refine store_new rfl rfl rfl (fun _ => rfl) (k := w.heap.size + 1 + 1 + 1) (by rw [HS3.out, HW.out]) rfl rfl ?_); rw [← HW.out]; intro w5 hb5 g0; have HB5 := Aside0.mk hb5; have HR := Aside0.mk (HG.out w5 hb5 g0); clear hb5) | (go_at_call 108; go_must (refine Calls.mono HR.out ?_; rintro e w6 ⟨rfl, h1, h2⟩; have H1 := Aside0.mk h1; have H2 := Aside0.mk h2; clear h1 h2)))
  go_ret
  exact ⟨rfl, H1.out, grown_trans (grown_below (HB.out.trans (HB5.out.mono HB.out.size)) _) H2.out⟩

/-! counting -/
def StC (bo : Nat) (s : Nat) (w : World) : Prop := w.heap[bo]? = some (.cells #[.int .i64 (wrap64 (s : Int))] 2)
theorem StC.below {bo : Nat} (s : Nat) (w w' : World) (h : StC bo s w) (hb : Below w.heap.size w w') : StC bo s w' := by
  unfold StC at h ⊢
  rw [hb.block bo (blk_lt h)]; exact h
set_option maxRecDepth 100000 in
set_option maxHeartbeats 1000000 in
theorem countDo2 (B bo : Nat) : DoL B (StC bo) stpC bo (.func (.func 52) #[] #[.pointer (some ⟨bo, 0, none⟩)]) := by
  refine ⟨_, _, _, rfl, Enters.mk' Try.func52 rfl rfl, fun w s v l hl6 h ho => ?_⟩
  unfold StC at h
  have H := Aside0.mk h
  have c0 : w.cell? ⟨bo, 0, none⟩ = some (.int .i64 (wrap64 (s : Int))) := blk_cell h 0
  have f0 : w.frozen? ⟨bo, 0, none⟩ = false := blk_frozen h 0
  have HW : Aside0 (wrap64 (wrap64 (s : Int) + 1) = wrap64 ((s + 1 : Nat) : Int)) := ⟨by unfold wrap64; omega⟩
  generalize wrap64 (s : Int) = z at *
  clear h ho
  show Calls _ _ #[_, _] _ _
  go_enter Try.func52, Try.ntmps52
  go_wp2
  go_ret
  refine ⟨rfl, ?_, set_grown' _ _ _ _⟩
  unfold StC
  show _ = some (Obj.cells #[.int .i64 (wrap64 ((s + 1 : Nat) : Int))] _)
  rw [← HW.out]
  exact blk_put H.out 0 _ rfl
/-- the automorphisms -/
def autos (n : Nat) (xs : List Int) : List (List Int) := (exts n n []).filter (okI xs xs)
set_option maxRecDepth 1000000 in
theorem exts_len : ∀ n, n < 7 → (exts n n []).length ≤ 720 := by decide +kernel
theorem autos_len {n : Nat} (hn : n ≤ 6) (xs : List Int) : (autos n xs).length ≤ 720 := Nat.le_trans (List.length_filter_le _ _) (exts_len n (by omega))
/-- what CountAutomorphisms answers -/
def ansCountAutomorphisms (a : Int) (xs : List Int) : Int × Int := if cxOk a xs then (((autos a.toNat xs).length : Int), 0) else (0, 1)

set_option maxRecDepth 100000 in
set_option maxHeartbeats 2000000 in
theorem implCountAutomorphisms (a : Int) (ku : Value) (xs : List Int) (w : World) (hk : ReadI w ku xs) :
    Calls Try.prog 12 #[cx a ku] w fun e w' => e = .returned (.tuple #[.int .i64 (ansCountAutomorphisms a xs).1, .int .i64 (ansCountAutomorphisms a xs).2]) ∧ Below w.heap.size w w' := by
  obtain ⟨w1, hw1⟩ : ∃ w1, w1 = w.alloc (.cells #[.int .i64 a, ku] 28) := ⟨_, rfl⟩
  have hB : Below w.heap.size w w1 := by rw [hw1]; exact Below.alloc (Below.refl _ _) (Nat.le_refl _) _
  have c0 : w1.cell? ⟨w.heap.size, 0, none⟩ = some (.int .i64 a) := by rw [hw1]; simp
  have c1 : w1.cell? ⟨w.heap.size, 1, none⟩ = some ku := by rw [hw1]; simp
  have HB := Aside0.mk hB
  have HK := Aside0.mk (hk.below hB)
  have HM := Aside0.mk (complexCode3 a ku xs _ true w1 HK.out (fun _ => alwaysB w1) ⟨_, _, _, rfl⟩)
  obtain ⟨A1, d1, rfl, -⟩ := id hk
  clear hk hB
  cases hx : cxOk a xs with
  | false =>
    have HA : Aside0 (ansCountAutomorphisms a xs = (0, 1)) := ⟨by unfold ansCountAutomorphisms; rw [hx]; rfl⟩
    rw [hx] at HM
    clear hx
    go_enter Try.func12, Try.ntmps12
    go_wp2_with (first | (go_at_call 49; rw [← hw1]; clear hw1; refine HM.out.mono ?_; rintro e w2 ⟨rfl, hb⟩; have HB2 := Aside0.mk hb; clear hb))
    go_ret2
    exact ⟨by rw [HA.out]; rfl, HB.out.trans (HB2.out.mono HB.out.size)⟩
  | true =>
    obtain ⟨n, rfl, hc, -⟩ := cxOk_cx hx
    have HA : Aside0 (ansCountAutomorphisms (n : Int) xs = (((autos n xs).length : Int), 0)) := ⟨by unfold ansCountAutomorphisms; rw [hx]; rfl⟩
    rw [hx] at HM
    have HX := Aside0.mk hx
    have HC := Aside0.mk hc
    have HWK := Aside0.mk (walk_count (okI xs xs) (exts n n []) 0)
    have hal := autos_len hc.hi xs
    have HCN : Aside0 (wrap64 ((0 + ((exts n n []).filter (okI xs xs)).length : Nat) : Int) = ((autos n xs).length : Int)) := ⟨by
      show wrap64 ((0 + (autos n xs).length : Nat) : Int) = _
      unfold wrap64; omega⟩
    clear hx hc hal
    go_enter Try.func12, Try.ntmps12
    go_wp2_with (first | (go_at_call 49; rw [← hw1]; clear hw1; refine HM.out.mono ?_; rintro e w2 ⟨rfl, hb⟩; have HB2 := Aside0.mk hb; have HW4 : Aside0 (w2.heap.size < (w2.alloc (.cells #[.int .i64 0] 2)).heap.size) := ⟨(by simp)⟩; replace c0 := pw_cell_below hb c0; replace c1 := pw_cell_below hb c1; clear hb; have hba : Below w2.heap.size w2 (w2.alloc (.cells #[.int .i64 0] 2)) := (Below.alloc (Below.refl _ _) (Nat.le_refl _) _); have m0 := pw_cell_below hba c0; have m1 := pw_cell_below hba c1; clear hba) | (go_at_call 51; go_must (obtain ⟨w4, hw4⟩ : ∃ w4, w4 = w2.alloc (.cells #[.int .i64 0] 2) := ⟨_, rfl⟩; have hb4 : Below w2.heap.size w2 w4 := (by rw [hw4]; exact Below.alloc (Below.refl _ _) (Nat.le_refl _) _); have HB4 := Aside0.mk (HB2.out.trans (hb4.mono HB2.out.size)); have hst : StC w2.heap.size 0 w4 := (by unfold StC; rw [hw4, show wrap64 ((0 : Nat) : Int) = 0 by unfold wrap64; omega]; exact heap_alloc_new w2 _); rw [← hw4]; have hz4 := HW4.out; rw [← hw4] at hz4; refine Calls.mono (isomorphisms w4.heap.size (StC w2.heap.size) stpC w2.heap.size n _ _ xs xs _ 0 w4 HX.out HC.out (countDo2 _ _) (fun s w w' h hb => StC.below s w w' h hb) hz4 (Nat.le_refl _) (RdK.mk' HK.out HB4.out HB2.out.size) (RdK.mk' HK.out HB4.out HB2.out.size) hst) ?_; rintro e w5 ⟨rfl, hs5, hg5⟩; rw [HWK.out] at hs5 ⊢; unfold StC at hs5; change w5.heap[w2.heap.size]? = some (Obj.cells #[.int .i64 (wrap64 ((0 + ((exts n n []).filter (okI xs xs)).length : Nat) : Int))] _) at hs5; rw [HCN.out] at hs5; have n0 : w5.cell? ⟨w2.heap.size, 0, none⟩ = some (.int .i64 ((autos n xs).length : Int)) := blk_cell hs5 0; have HG5 := Aside0.mk hg5; clear hs5 hg5 hst hz4 hb4 hw4)))
    go_ret2
    exact ⟨by rw [HA.out]; rfl, HB.out.trans ((HB4.out.trans (below_grown HG5.out HB2.out.size HB4.out.size)).mono HB.out.size)⟩
end Go.Proofs.Ythbkboigbkadjaa.H

namespace Go.Proofs.Ythbkboigbkadjaa.H
open Go.RowKit Go.Proofs.YthbkboigbkadjaaW.PrintWords Go.Proofs.YthbkboigbkadjaaW.PrintLast Go.Proofs.YthbkboigbkadjaaW.PrintMore
set_option linter.unusedVariables false
set_option linter.unusedSimpArgs false

/-- all images are faces -/
def imgIn (ys p : List Int) (x : Int) : Bool := decide (((img x.toNat p : Nat) : Int) ∈ ys)
def okS (xs ys p : List Int) : Bool := xs.all (imgIn ys p)

set_option maxRecDepth 100000 in
set_option maxHeartbeats 1000000 in
theorem searchLeaf (n : Nat) (ku lu : Value) (xs ys : List Int) (m : Nat) (hm1 : 1 ≤ m) (v : Value) (p : List Int) (w : World) (hl : p.length = n) (hn : n ≤ 6) (hp : Pre n p) (hck : Cx n xs) (hk : ReadI w ku xs) (hly : ReadI w lu ys) (hv : ReadI w v p) :
    Calls Try.prog 48 #[cx n ku, cx n lu, v, .int .i64 (m : Nat)] w fun e w' => ∃ u, e = .returned u ∧ OwnR w.heap.size w' u (([p].filter (okS xs ys)).take m) ∧ Below w.heap.size w w' := by
  obtain ⟨w1, hw1⟩ : ∃ w1, w1 = (w.alloc (.cells #[.int .i64 n, ku] 28)).alloc (.cells #[.int .i64 n, lu] 28) := ⟨_, rfl⟩
  have hB : Below w.heap.size w w1 := by rw [hw1]; exact ((Below.refl _ w).alloc (Nat.le_refl _) _).alloc (by simp) _
  have c0 : w1.cell? ⟨w.heap.size, 0, none⟩ = some (.int .i64 n) := by rw [hw1]; simp
  have c1 : w1.cell? ⟨w.heap.size, 1, none⟩ = some ku := by rw [hw1]; simp
  have c2 : w1.cell? ⟨w.heap.size + 1, 0, none⟩ = some (.int .i64 n) := by rw [hw1]; simp
  have c3 : w1.cell? ⟨w.heap.size + 1, 1, none⟩ = some lu := by rw [hw1]; simp
  have HL := Aside0.mk (hly.below hB)
  have HV := Aside0.mk (hv.below hB)
  have HB := Aside0.mk hB
  have HP5 : Aside0 (∀ x ∈ p, 0 ≤ x ∧ x ≤ 5) := ⟨fun x hx => by have := hp.2 x hx; omega⟩
  have hpl : p.length ≤ 6 := by omega
  have hk1 := hk.below hB
  have HT0 : Aside0 (okS xs ys p = false → ([p].filter (okS xs ys)).take m = []) := ⟨fun h => by simp [h]⟩
  have HT1 : Aside0 (okS xs ys p = true → ([p].filter (okS xs ys)).take m = [p]) := ⟨fun h => by
    rw [List.filter_cons, if_pos h, List.filter_nil]
    exact List.take_of_length_le (by simpa using hm1)⟩
  obtain ⟨A1, d1, rfl, -⟩ := id hly
  obtain ⟨A2, d2, e2, -⟩ := id hv
  rw [hl] at e2
  subst e2
  obtain ⟨A, c, rfl, hc, hr⟩ := hk1
  have HR := Aside0.mk hr
  have hlen := hr.2.1
  have HCK := Aside0.mk hck
  clear hk hly hv hB hck hp hr hl
  go_enter Try.func48, Try.ntmps48
  go_wp2
  rw [← hw1]
  clear hw1
  go_loopw [9] (fun v wr => ∃ i : Nat, v = .int .i64 i ∧ i ≤ xs.length ∧ Aside0 (∀ k, k < i → imgIn ys p (xs.getD k 0) = true) ∧ Below w1.heap.size w1 wr) (fun v _ => xs.length - (intOf v).toNat)
  case atStart => exact ⟨0, rfl, Nat.zero_le _, ⟨fun j hj => absurd hj (Nat.not_lt_zero _)⟩, Below.refl _ _⟩
  case round =>
    obtain ⟨i, rfl, hi, HU, hb⟩ := hrel
    have c0 := pw_cell_below hb c0
    have c1 := pw_cell_below hb c1
    have c2 := pw_cell_below hb c2
    have c3 := pw_cell_below hb c3
    have HBr := Aside0.mk hb
    by_cases hlt : i < xs.length
    · obtain ⟨ad, y, rfl, hcell, HY⟩ := ReadI.get (Kd.C_below HR.out hb) hlt
      obtain ⟨f, rfl, hf1, hf2⟩ := HCK.out.nat (mem_at hlt HY.out)
      clear hb
      have x1 : ∀ x : Ext wr, x.1.cell? ⟨w.heap.size, 1, none⟩ = some (.slice (some ad) xs.length c) := fun x => Ext.cell c1 x
      have x2 : ∀ x : Ext wr, x.1.cell? ⟨w.heap.size + 1, 0, none⟩ = some (.int .i64 n) := fun x => Ext.cell c2 x
      have x3 : ∀ x : Ext wr, x.1.cell? ⟨w.heap.size + 1, 1, none⟩ = some (.slice A1 ys.length d1) := fun x => Ext.cell c3 x
      have x4 : ∀ x : Ext wr, x.1.cell? (ad.add i) = some (.int .i64 f) := fun x => Ext.cell hcell x
      clear hcell
      have hj1 : (0 : Int) ≤ (i : Int) := by omega
      have hj2 : (i : Int) < (xs.length : Int) := by omega
      have HI : Aside0 (∀ x : Ext wr, Calls Try.prog 106 #[.int .i64 f, .slice A2 n d2] x.1 fun e w' => e = .returned (.int .i64 (img f p : Nat)) ∧ Below x.1.heap.size x.1 w') := ⟨fun x => specMoved f hf2 _ p x.1 (HV.out.below (HBr.out.trans (x.2.mono HBr.out.size))) hpl HP5.out⟩
      have HH : Aside0 (∀ x : Ext wr, Calls Try.prog 57 #[cx n (.slice A1 ys.length d1), .int .i64 (img f p : Nat)] x.1 fun e w' => e = .returned (.bool (imgIn ys p f)) ∧ Below x.1.heap.size x.1 w') := ⟨fun x => specHas n _ ys _ x.1 (HL.out.below (HBr.out.trans (x.2.mono HBr.out.size)))⟩
      have HS : Aside0 (imgIn ys p (xs.getD i 0) = imgIn ys p f) := ⟨by rw [HY.out]⟩
      have HALL : Aside0 (imgIn ys p (f : Int) = false → okS xs ys p = false) := ⟨fun h => all_false hlt HY.out h⟩
      generalize imgIn ys p (f : Int) = r at *
      generalize img f p = g at *
      cases r with
      | false =>
        have HT := Aside0.mk (HT0.out (HALL.out (by trivial)))
        go_wp2
        refine wp_region_ext (by kernel_rfl) (by kernel_rfl) ?_
        repeat (go_big_quiet_step ((first | (go_at_call 106; with_reducible exact Calls.ext_of (HI.out _)) | (go_at_call 57; with_reducible exact Calls.ext_of (HH.out _)))))
        refine wpQuiet_nil ?_
        rintro _ ⟨x, rfl⟩
        have HBX := Aside0.mk (HBr.out.trans (x.2.mono HBr.out.size))
        obtain ⟨wx, hwx⟩ : ∃ wx, wx = x.1 := ⟨_, rfl⟩
        rw [← hwx] at HBX ⊢
        clear hwx x1 x2 x3 x4 HI HH
        go_wp2
        go_ret
        exact ⟨_, rfl, by rw [HT.out]; exact OwnR.empty wx (HB.out.trans (HBX.out.mono HB.out.size)).size, (HB.out.trans (HBX.out.mono HB.out.size)).alloc (HB.out.trans (HBX.out.mono HB.out.size)).size _⟩
      | true =>
        go_wp2
        refine wp_region_ext (by kernel_rfl) (by kernel_rfl) ?_
        repeat (go_big_quiet_step ((first | (go_at_call 106; with_reducible exact Calls.ext_of (HI.out _)) | (go_at_call 57; with_reducible exact Calls.ext_of (HH.out _)))))
        refine wpQuiet_nil ?_
        rintro _ ⟨x, rfl⟩
        have hbx := x.2
        go_wp2
        go_roundw
        case rel =>
          refine ⟨i + 1, by go_num, by omega, ⟨fun k hk => ?_⟩, by have := HBr.out; (repeat (first | (with_reducible exact Below.refl _ _) | (with_reducible assumption) | (with_reducible refine below_step ?_ (by assumption)) | (with_reducible apply below_alloc) | (with_reducible apply below_drewN)))⟩
          rcases Nat.lt_succ_iff_lt_or_eq.1 hk with h | rfl
          · exact HU.out k h
          · exact HS.out
        case measure => simp [intOf]; omega
    · have HE : Aside0 (okS xs ys p = true) := ⟨all_true (fun k hk => HU.out k (by omega))⟩
      have HT := Aside0.mk (HT1.out HE.out)
      have HBr2 := Aside0.mk hb
      have hz := hb.size
      clear hb
      go_wp2_with (first | (go_at_call 101; refine (specOwn2 _ p _ (HV.out.below HBr2.out) (by omega)).mono ?_; rintro e w4 ⟨u4, rfl, ho, hb4⟩; obtain ⟨A4, c4, rfl, -⟩ := id ho.read; have HO4 := Aside0.mk ho; have HB4 := Aside0.mk (HBr2.out.trans (hb4.mono HBr2.out.size)); have hz4 := hb4.size; clear ho hb4))
      go_ret
      exact ⟨_, rfl, by rw [HT.out]; exact OwnR.one (HB.out.trans (HB4.out.mono HB.out.size)).size (HO4.out.lower (Nat.le_trans HB.out.size hz)), (HB.out.trans (HB4.out.mono HB.out.size)).alloc (HB.out.trans (HB4.out.mono HB.out.size)).size _⟩

theorem searchAll (n : Nat) (ku lu : Value) (xs ys : List Int) (hn : n ≤ 6) (hck : Cx n xs) : ∀ (k : Nat) (m : Nat) (v : Value) (l : List Int) (w : World), 1 ≤ m → m ≤ 1000 → l.length + k = n → Pre n l → ReadI w ku xs → ReadI w lu ys → ReadI w v l →
    Calls Try.prog 48 #[cx n ku, cx n lu, v, .int .i64 (m : Nat)] w fun e w' => ∃ u, e = .returned u ∧ OwnR w.heap.size w' u (((exts n k l).filter (okS xs ys)).take m) ∧ Below w.heap.size w w'
  | 0, m, v, l, w, h1, h2, hl, hp, hk, hly, hv => searchLeaf n ku lu xs ys m h1 v l w (by omega) hn hp hck hk hly hv
  | k + 1, m, v, l, w, h1, h2, hl, hp, hk, hly, hv => searchStep (okS xs ys) n k ku lu xs ys m h2 v l w (by omega) hn hk hly hv (fun iv v' m' W hiv hm h1' h2' hr hb =>
      searchAll n ku lu xs ys hn hck k m' v' (l ++ [(iv : Int)]) W h1' (by omega) (by rw [List.length_append, List.length_singleton]; omega) (hp.snoc hiv hm) (hk.below hb) (hly.below hb) hr)

/-- what is found is an order -/
theorem exts_pre {n : Nat} : ∀ (k : Nat) (l p : List Int), l.length + k = n → Pre n l → p ∈ exts n k l → p.length = n ∧ Pre n p
  | 0, l, p, hl, hp, h => by
    have : p = l := by simpa [exts] using h
    subst this; exact ⟨by omega, hp⟩
  | k + 1, l, p, hl, hp, h => by
    unfold exts at h
    obtain ⟨v, hv, h2⟩ := List.mem_flatMap.1 h
    by_cases hm : (v : Int) ∈ l
    · rw [if_pos hm] at h2; cases h2
    · rw [if_neg hm] at h2
      exact exts_pre k _ p (by rw [List.length_append, List.length_singleton]; omega) (hp.snoc (List.mem_range.1 hv) hm) h2
theorem ok_same {n : Nat} {xs ys : List Int} (hx : Cx n xs) (hy : Cx n ys) (hl : xs.length = ys.length) : (exts n n []).filter (okI xs ys) = (exts n n []).filter (okS xs ys) := by
  refine List.filter_congr (fun p hp => ?_)
  obtain ⟨h1, h2⟩ := exts_pre n [] p (by simp) (Pre.nil n) hp
  exact iso_ok hx hy.asc hl h2.1 h1 (fun x hxx => (h2.2 x hxx).1)

set_option maxRecDepth 100000 in
set_option maxHeartbeats 2000000 in
theorem specCountAutomorphisms (a : Int) (ku : Value) (xs : List Int) (w : World) (hk : ReadI w ku xs) :
    Calls Try.prog 10 #[cx a ku] w fun e w' => e = .returned (.tuple #[.int .i64 (ansCountAutomorphisms a xs).1, .int .i64 (ansCountAutomorphisms a xs).2]) ∧ Below w.heap.size w w' := by
  obtain ⟨w1, hw1⟩ : ∃ w1, w1 = w.alloc (.cells #[.int .i64 a, ku] 28) := ⟨_, rfl⟩
  have hB : Below w.heap.size w w1 := by rw [hw1]; exact Below.alloc (Below.refl _ _) (Nat.le_refl _) _
  have c0 : w1.cell? ⟨w.heap.size, 0, none⟩ = some (.int .i64 a) := by rw [hw1]; simp
  have c1 : w1.cell? ⟨w.heap.size, 1, none⟩ = some ku := by rw [hw1]; simp
  have HB := Aside0.mk hB
  have HK := Aside0.mk (hk.below hB)
  have HM := Aside0.mk (specIs a ku xs w1 HK.out)
  obtain ⟨A1, d1, rfl, -⟩ := id hk
  clear hk hB
  cases hx : cxOk a xs with
  | false =>
    have HA : Aside0 (ansCountAutomorphisms a xs = (0, 1)) := ⟨by unfold ansCountAutomorphisms; rw [hx]; rfl⟩
    rw [hx] at HM
    clear hx
    go_enter Try.func10, Try.ntmps10
    go_wp2_with (first | (go_at_call 47; rw [← hw1]; clear hw1; refine HM.out.mono ?_; rintro e w2 ⟨rfl, hb⟩; have HB2 := Aside0.mk hb; clear hb))
    go_ret2
    exact ⟨by rw [HA.out]; rfl, HB.out.trans (HB2.out.mono HB.out.size)⟩
  | true =>
    obtain ⟨n, rfl, hc, -⟩ := cxOk_cx hx
    have HA : Aside0 (ansCountAutomorphisms (n : Int) xs = (((autos n xs).length : Int), 0)) := ⟨by unfold ansCountAutomorphisms; rw [hx]; rfl⟩
    rw [hx] at HM
    have hal := autos_len hc.hi xs
    have HLN : Aside0 ((((exts n n []).filter (okS xs xs)).take 1000).length = (autos n xs).length) := ⟨by
      rw [← ok_same hc hc rfl]
      show ((autos n xs).take 1000).length = _
      rw [List.length_take]; omega⟩
    have HS := Aside0.mk (fun W (u : Value) (hk : ReadI W (.slice A1 xs.length d1) xs) (hu : ReadI W u []) => searchAll n (.slice A1 xs.length d1) (.slice A1 xs.length d1) xs xs hc.hi hc n 1000 u [] W (by decide) (by decide) (by simp) (Pre.nil n) hk hk hu)
    clear hx hc hal
    go_enter Try.func10, Try.ntmps10
    go_wp2_with (first | (go_at_call 47; rw [← hw1]; clear hw1; refine HM.out.mono ?_; rintro e w2 ⟨rfl, hb⟩; have HB2 := Aside0.mk hb; replace c0 := pw_cell_below hb c0; replace c1 := pw_cell_below hb c1; clear hb) | (go_at_call 48; go_must (have hb3 : Below w2.heap.size w2 (w2.alloc (.cells #[] 2)) := (Below.alloc (Below.refl _ _) (Nat.le_refl _) _); have HB3 := Aside0.mk (HB2.out.trans (hb3.mono HB2.out.size)); refine Calls.mono (HS.out _ _ (HK.out.below HB3.out) (OwnI.empty (b := 0) w2 (Nat.zero_le _)).read) ?_; rintro e w5 ⟨u5, rfl, ho5, hb5⟩; obtain ⟨g5, c5, ws5, e5, -⟩ := id ho5; rw [HLN.out] at e5; subst e5; have HB5 := Aside0.mk (HB3.out.trans (hb5.mono HB3.out.size)); clear hb3 ho5 hb5)))
    go_ret2
    exact ⟨by rw [HA.out]; rfl, HB.out.trans (HB5.out.mono HB.out.size)⟩
end Go.Proofs.Ythbkboigbkadjaa.H

namespace Go.Proofs.Ythbkboigbkadjaa.H
open Go.RowKit Go.Proofs.YthbkboigbkadjaaW.PrintWords Go.Proofs.YthbkboigbkadjaaW.PrintLast Go.Proofs.YthbkboigbkadjaaW.PrintMore
set_option linter.unusedVariables false
set_option linter.unusedSimpArgs false

/-- the first, if there is one -/
def firstOr (ls : List (List Int)) : List Int × Int := match ls with | [] => ([], 4) | l :: _ => (l, 0)
/-- what FindIsomorphism answers -/
def ansFindIsomorphism (a : Int) (xs : List Int) (b : Int) (ys : List Int) : List Int × Int :=
  if cxOk a xs && cxOk b ys then (if a = b then firstOr ((exts a.toNat a.toNat []).filter (okI xs ys)) else ([], 5)) else ([], 1)
theorem find_pre {n : Nat} {xs ys l : List Int} {r : List (List Int)} (h : (exts n n []).filter (okI xs ys) = l :: r) : l.length = n := by
  have h1 : l ∈ (exts n n []).filter (okI xs ys) := by rw [h]; exact List.mem_cons_self
  exact (exts_pre n [] l (by simp) (Pre.nil n) (List.mem_filter.1 h1).1).1
theorem lenFindIsomorphism (a : Int) (xs : List Int) (b : Int) (ys : List Int) : (ansFindIsomorphism a xs b ys).1.length ≤ 1073741824 := by
  unfold ansFindIsomorphism
  split
  · next h =>
    rw [Bool.and_eq_true] at h
    obtain ⟨n, rfl, hc, -⟩ := cxOk_cx h.1
    split
    · unfold firstOr
      cases he : (exts (n : Int).toNat (n : Int).toNat []).filter (okI xs ys) with
      | nil => simp
      | cons l r =>
        have := find_pre (n := n) he
        have := hc.hi
        show l.length ≤ _
        omega
    · simp
  · simp

/-! finding -/
def StF (B bo : Nat) (s : List Int) (w : World) : Prop := ∃ u, w.heap[bo]? = some (.cells #[u] 22) ∧ OwnI B w u s
theorem StF.below {B bo : Nat} (s : List Int) (w w' : World) (h : StF B bo s w) (hb : Below w.heap.size w w') : StF B bo s w' := by
  obtain ⟨u, h1, h2⟩ := h
  exact ⟨u, by rw [hb.block bo (blk_lt h1)]; exact h1, h2.below hb⟩
set_option maxRecDepth 100000 in
set_option maxHeartbeats 1000000 in
theorem findDo2 (B bo : Nat) (hbo : bo < B) : DoL B (StF B bo) stpF bo (.func (.func 54) #[] #[.pointer (some ⟨bo, 0, none⟩)]) := by
  refine ⟨_, _, _, rfl, Enters.mk' Try.func54 rfl rfl, fun w s v l hl6 h ho => ?_⟩
  obtain ⟨u, h, -⟩ := h
  refine Calls.mono (findDo w bo u v (by obtain ⟨A, c, e, -⟩ := ho.read; exact ⟨_, _, _, e⟩) h) ?_
  rintro e w' ⟨rfl, h1, hg⟩
  exact ⟨rfl, ⟨v, h1, ho.grown hg (fun k hk e => by have := ho.base k hk; have := Option.some.inj e; omega)⟩, hg⟩

set_option maxRecDepth 100000 in
set_option maxHeartbeats 4000000 in
theorem implFindIsomorphism (a : Int) (ku : Value) (xs : List Int) (b : Int) (lu : Value) (ys : List Int) (w : World) (hk : ReadI w ku xs) (hl : ReadI w lu ys) :
    Calls Try.prog 15 #[cx a ku, cx b lu] w fun e w' => ∃ u, e = .returned (.tuple #[u, .int .i64 (ansFindIsomorphism a xs b ys).2]) ∧ OwnI w.heap.size w' u (ansFindIsomorphism a xs b ys).1 ∧ Below w.heap.size w w' := by
  obtain ⟨w1, hw1⟩ : ∃ w1, w1 = (w.alloc (.cells #[.int .i64 a, ku] 28)).alloc (.cells #[.int .i64 b, lu] 28) := ⟨_, rfl⟩
  have hB : Below w.heap.size w w1 := by rw [hw1]; exact ((Below.refl _ w).alloc (Nat.le_refl _) _).alloc (by simp) _
  have c0 : w1.cell? ⟨w.heap.size, 0, none⟩ = some (.int .i64 a) := by rw [hw1]; simp
  have c1 : w1.cell? ⟨w.heap.size, 1, none⟩ = some ku := by rw [hw1]; simp
  have c2 : w1.cell? ⟨w.heap.size + 1, 0, none⟩ = some (.int .i64 b) := by rw [hw1]; simp
  have c3 : w1.cell? ⟨w.heap.size + 1, 1, none⟩ = some lu := by rw [hw1]; simp
  have HB := Aside0.mk hB
  have HK := Aside0.mk (hk.below hB)
  have HL := Aside0.mk (hl.below hB)
  obtain ⟨A1, d1, rfl, -⟩ := id hk
  obtain ⟨A2, d2, rfl, -⟩ := id hl
  clear hk hl hB
  cases hx : cxOk a xs with
  | false =>
    have HA : Aside0 (ansFindIsomorphism a xs b ys = ([], 1)) := ⟨by unfold ansFindIsomorphism; rw [hx]; rfl⟩
    have HX := Aside0.mk hx
    clear hx
    go_enter Try.func15, Try.ntmps15
    go_wp2_with (first | (go_at_call 53; rw [← hw1]; clear hw1; refine (isComplex a _ xs w1 HK.out).mono ?_; rintro e w2 ⟨rfl, hb⟩; rw [HX.out]; have HB2 := Aside0.mk hb; clear hb))
    go_ret2
    exact ⟨_, by rw [HA.out]; rfl, by rw [HA.out]; exact OwnI.nil _ _, HB.out.trans (HB2.out.mono HB.out.size)⟩
  | true =>
    cases hy : cxOk b ys with
    | false =>
      have HA : Aside0 (ansFindIsomorphism a xs b ys = ([], 1)) := ⟨by unfold ansFindIsomorphism; rw [hx, hy]; rfl⟩
      have HX := Aside0.mk hx
      have HY := Aside0.mk hy
      clear hx hy
      go_enter Try.func15, Try.ntmps15
      go_wp2_with (first | (go_at_call 53; rw [← hw1]; clear hw1; refine (isComplex a _ xs w1 HK.out).mono ?_; rintro e w2 ⟨rfl, hb⟩; rw [HX.out]; have HB2 := Aside0.mk hb; replace c2 := pw_cell_below hb c2; replace c3 := pw_cell_below hb c3; clear hb) | (go_at_call 53; refine (isComplex b _ ys w2 (HL.out.below HB2.out)).mono ?_; rintro e w3 ⟨rfl, hb⟩; rw [HY.out]; have HB3 := Aside0.mk (HB2.out.trans (hb.mono HB2.out.size)); clear hb))
      go_ret2
      exact ⟨_, by rw [HA.out]; rfl, by rw [HA.out]; exact OwnI.nil _ _, HB.out.trans (HB3.out.mono HB.out.size)⟩
    | true =>
      obtain ⟨n, rfl, hc, -⟩ := cxOk_cx hx
      obtain ⟨m, rfl, hcm, -⟩ := cxOk_cx hy
      have HX := Aside0.mk hx
      have HY := Aside0.mk hy
      have HC := Aside0.mk hc
      by_cases hnm : (n : Int) = (m : Int)
      · obtain rfl : n = m := by omega
        have HA : Aside0 (ansFindIsomorphism n xs n ys = firstOr ((exts n n []).filter (okI xs ys))) := ⟨by unfold ansFindIsomorphism; rw [hx, hy, if_pos rfl]; rfl⟩
        have HWK := Aside0.mk (walk_find (okI xs ys) (exts n n []) [])
        obtain ⟨R, hR⟩ : ∃ R, R = (exts n n []).filter (okI xs ys) := ⟨_, rfl⟩
        rw [← hR] at HA HWK
        clear hx hy hc hcm hnm hR
        cases R with
        | nil =>
          have HA2 : Aside0 (ansFindIsomorphism n xs n ys = ([], 4)) := ⟨HA.out⟩
          have HWK2 : Aside0 (walkD (okI xs ys) stpF (exts n n []) [] = (false, [])) := ⟨HWK.out⟩
          go_enter Try.func15, Try.ntmps15
          go_wp2_with (first | (go_at_call 53; rw [← hw1]; clear hw1; refine (isComplex n _ xs w1 HK.out).mono ?_; rintro e w2 ⟨rfl, hb⟩; rw [HX.out]; have HB2 := Aside0.mk hb; replace c0 := pw_cell_below hb c0; replace c1 := pw_cell_below hb c1; replace c2 := pw_cell_below hb c2; replace c3 := pw_cell_below hb c3; clear hb) | (go_at_call 53; refine (isComplex n _ ys w2 (HL.out.below HB2.out)).mono ?_; rintro e w3 ⟨rfl, hb⟩; rw [HY.out]; have HB3 := Aside0.mk (HB2.out.trans (hb.mono HB2.out.size)); have hba : Below w3.heap.size w3 (w3.alloc (.cells #[.slice none 0 0] 22)) := (Below.alloc (Below.refl _ _) (Nat.le_refl _) _); replace c0 := pw_cell_below hb c0; replace c1 := pw_cell_below hb c1; replace c2 := pw_cell_below hb c2; replace c3 := pw_cell_below hb c3; have m0 := pw_cell_below hba c0; have m1 := pw_cell_below hba c1; have m2 := pw_cell_below hba c2; have m3 := pw_cell_below hba c3; have HZ4 : Aside0 (w3.heap.size < (w3.alloc (.cells #[.slice none 0 0] 22)).heap.size) := ⟨(by simp)⟩; clear hb hba) | (go_at_call 51; go_must (obtain ⟨w4, hw4⟩ : ∃ w4, w4 = w3.alloc (.cells #[.slice none 0 0] 22) := ⟨_, rfl⟩; have hb4 : Below w3.heap.size w3 w4 := (by rw [hw4]; exact Below.alloc (Below.refl _ _) (Nat.le_refl _) _); have HB4 := Aside0.mk (HB3.out.trans (hb4.mono HB3.out.size)); have hst : StF w4.heap.size w3.heap.size [] w4 := ⟨_, (by rw [hw4]; exact heap_alloc_new w3 _), OwnI.nil _ _⟩; rw [← hw4]; have hz4 := HZ4.out; rw [← hw4] at hz4; refine Calls.mono (isomorphisms w4.heap.size (StF w4.heap.size w3.heap.size) stpF w3.heap.size n _ _ xs ys _ [] w4 HX.out HC.out (findDo2 _ _ hz4) (fun s w w' h hb => StF.below s w w' h hb) hz4 (Nat.le_refl _) (RdK.mk' HK.out HB4.out HB3.out.size) (RdK.mk' HL.out HB4.out HB3.out.size) hst) ?_; rintro e w5 ⟨rfl, -, hg5⟩; rw [HWK2.out]; have HG5 := Aside0.mk hg5; clear hg5 hst hz4 hb4 hw4)))
          go_ret2
          exact ⟨_, by rw [HA2.out]; rfl, by rw [HA2.out]; exact OwnI.nil _ _, HB.out.trans ((HB4.out.trans (below_grown HG5.out HB3.out.size HB4.out.size)).mono HB.out.size)⟩
        | cons l r =>
          have HA2 : Aside0 (ansFindIsomorphism n xs n ys = (l, 0)) := ⟨HA.out⟩
          have HWK2 : Aside0 (walkD (okI xs ys) stpF (exts n n []) [] = (true, l)) := ⟨HWK.out⟩
          go_enter Try.func15, Try.ntmps15
          go_wp2_with (first | (go_at_call 53; rw [← hw1]; clear hw1; refine (isComplex n _ xs w1 HK.out).mono ?_; rintro e w2 ⟨rfl, hb⟩; rw [HX.out]; have HB2 := Aside0.mk hb; replace c0 := pw_cell_below hb c0; replace c1 := pw_cell_below hb c1; replace c2 := pw_cell_below hb c2; replace c3 := pw_cell_below hb c3; clear hb) | (go_at_call 53; refine (isComplex n _ ys w2 (HL.out.below HB2.out)).mono ?_; rintro e w3 ⟨rfl, hb⟩; rw [HY.out]; have HB3 := Aside0.mk (HB2.out.trans (hb.mono HB2.out.size)); have hba : Below w3.heap.size w3 (w3.alloc (.cells #[.slice none 0 0] 22)) := (Below.alloc (Below.refl _ _) (Nat.le_refl _) _); replace c0 := pw_cell_below hb c0; replace c1 := pw_cell_below hb c1; replace c2 := pw_cell_below hb c2; replace c3 := pw_cell_below hb c3; have m0 := pw_cell_below hba c0; have m1 := pw_cell_below hba c1; have m2 := pw_cell_below hba c2; have m3 := pw_cell_below hba c3; have HZ4 : Aside0 (w3.heap.size < (w3.alloc (.cells #[.slice none 0 0] 22)).heap.size) := ⟨(by simp)⟩; clear hb hba) | (go_at_call 51; go_must (obtain ⟨w4, hw4⟩ : ∃ w4, w4 = w3.alloc (.cells #[.slice none 0 0] 22) := ⟨_, rfl⟩; have hb4 : Below w3.heap.size w3 w4 := (by rw [hw4]; exact Below.alloc (Below.refl _ _) (Nat.le_refl _) _); have HB4 := Aside0.mk (HB3.out.trans (hb4.mono HB3.out.size)); have hst : StF w4.heap.size w3.heap.size [] w4 := ⟨_, (by rw [hw4]; exact heap_alloc_new w3 _), OwnI.nil _ _⟩; rw [← hw4]; have hz4 := HZ4.out; rw [← hw4] at hz4; refine Calls.mono (isomorphisms w4.heap.size (StF w4.heap.size w3.heap.size) stpF w3.heap.size n _ _ xs ys _ [] w4 HX.out HC.out (findDo2 _ _ hz4) (fun s w w' h hb => StF.below s w w' h hb) hz4 (Nat.le_refl _) (RdK.mk' HK.out HB4.out HB3.out.size) (RdK.mk' HL.out HB4.out HB3.out.size) hst) ?_; rintro e w5 ⟨rfl, ⟨u5, hu5, ho5⟩, hg5⟩; rw [HWK2.out] at ho5 ⊢; have n0 : w5.cell? ⟨w3.heap.size, 0, none⟩ = some u5 := blk_cell hu5 0; have HO5 := Aside0.mk (ho5 : OwnI _ w5 u5 l); have HG5 := Aside0.mk hg5; obtain ⟨A5, c5, rfl, -⟩ := id HO5.out.read; clear hg5 hst hz4 hb4 hw4 hu5 ho5)))
          go_ret2
          exact ⟨_, by rw [HA2.out]; rfl, by rw [HA2.out]; exact HO5.out.lower (HB.out.trans (HB4.out.mono HB.out.size)).size, HB.out.trans ((HB4.out.trans (below_grown HG5.out HB3.out.size HB4.out.size)).mono HB.out.size)⟩
      · have HA : Aside0 (ansFindIsomorphism n xs m ys = ([], 5)) := ⟨by unfold ansFindIsomorphism; rw [hx, hy, if_neg hnm]; rfl⟩
        have hnb : ((n : Int) != (m : Int)) = true := by simpa using (fun h => hnm (by rw [h]))
        clear hx hy hc hcm hnm
        go_enter Try.func15, Try.ntmps15
        go_wp2_with (first | (go_at_call 53; rw [← hw1]; clear hw1; refine (isComplex n _ xs w1 HK.out).mono ?_; rintro e w2 ⟨rfl, hb⟩; rw [HX.out]; have HB2 := Aside0.mk hb; replace c0 := pw_cell_below hb c0; replace c1 := pw_cell_below hb c1; replace c2 := pw_cell_below hb c2; replace c3 := pw_cell_below hb c3; clear hb) | (go_at_call 53; refine (isComplex m _ ys w2 (HL.out.below HB2.out)).mono ?_; rintro e w3 ⟨rfl, hb⟩; rw [HY.out]; have HB3 := Aside0.mk (HB2.out.trans (hb.mono HB2.out.size)); replace c0 := pw_cell_below hb c0; replace c1 := pw_cell_below hb c1; replace c2 := pw_cell_below hb c2; replace c3 := pw_cell_below hb c3; clear hb))
        go_ret2
        exact ⟨_, by rw [HA.out]; rfl, by rw [HA.out]; exact OwnI.nil _ _, HB.out.trans (HB3.out.mono HB.out.size)⟩
end Go.Proofs.Ythbkboigbkadjaa.H

namespace Go.Proofs.Ythbkboigbkadjaa.H
open Go.RowKit Go.Proofs.YthbkboigbkadjaaW.PrintWords Go.Proofs.YthbkboigbkadjaaW.PrintLast Go.Proofs.YthbkboigbkadjaaW.PrintMore
set_option linter.unusedVariables false
set_option linter.unusedSimpArgs false

theorem ok_none {n : Nat} {xs ys : List Int} (hl : xs.length ≠ ys.length) : (exts n n []).filter (okI xs ys) = [] := by
  rw [List.filter_eq_nil_iff]
  intro p _
  unfold okI
  rw [decide_eq_true_eq]
  intro e
  have : (sortN (imgL xs p)).length = xs.length := by unfold sortN imgL; rw [List.length_mergeSort, List.length_map]
  rw [e] at this
  exact hl this.symm

set_option maxRecDepth 100000 in
set_option maxHeartbeats 4000000 in
theorem specFindIsomorphism (a : Int) (ku : Value) (xs : List Int) (b : Int) (lu : Value) (ys : List Int) (w : World) (hk : ReadI w ku xs) (hl : ReadI w lu ys) :
    Calls Try.prog 14 #[cx a ku, cx b lu] w fun e w' => ∃ u, e = .returned (.tuple #[u, .int .i64 (ansFindIsomorphism a xs b ys).2]) ∧ OwnI w.heap.size w' u (ansFindIsomorphism a xs b ys).1 ∧ Below w.heap.size w w' := by
  obtain ⟨w1, hw1⟩ : ∃ w1, w1 = (w.alloc (.cells #[.int .i64 a, ku] 28)).alloc (.cells #[.int .i64 b, lu] 28) := ⟨_, rfl⟩
  have hB : Below w.heap.size w w1 := by rw [hw1]; exact ((Below.refl _ w).alloc (Nat.le_refl _) _).alloc (by simp) _
  have c0 : w1.cell? ⟨w.heap.size, 0, none⟩ = some (.int .i64 a) := by rw [hw1]; simp
  have c1 : w1.cell? ⟨w.heap.size, 1, none⟩ = some ku := by rw [hw1]; simp
  have c2 : w1.cell? ⟨w.heap.size + 1, 0, none⟩ = some (.int .i64 b) := by rw [hw1]; simp
  have c3 : w1.cell? ⟨w.heap.size + 1, 1, none⟩ = some lu := by rw [hw1]; simp
  have HB := Aside0.mk hB
  have HK := Aside0.mk (hk.below hB)
  have HL := Aside0.mk (hl.below hB)
  obtain ⟨A1, d1, rfl, -⟩ := id hk
  obtain ⟨A2, d2, rfl, -⟩ := id hl
  clear hk hl hB
  cases hx : cxOk a xs with
  | false =>
    have HA : Aside0 (ansFindIsomorphism a xs b ys = ([], 1)) := ⟨by unfold ansFindIsomorphism; rw [hx]; rfl⟩
    have HX := Aside0.mk hx
    clear hx
    go_enter Try.func14, Try.ntmps14
    go_wp2_with (first | (go_at_call 47; rw [← hw1]; clear hw1; refine (specIs a _ xs w1 HK.out).mono ?_; rintro e w2 ⟨rfl, hb⟩; rw [HX.out]; have HB2 := Aside0.mk hb; clear hb))
    go_ret2
    exact ⟨_, by rw [HA.out]; rfl, by rw [HA.out]; exact OwnI.nil _ _, HB.out.trans (HB2.out.mono HB.out.size)⟩
  | true =>
    cases hy : cxOk b ys with
    | false =>
      have HA : Aside0 (ansFindIsomorphism a xs b ys = ([], 1)) := ⟨by unfold ansFindIsomorphism; rw [hx, hy]; rfl⟩
      have HX := Aside0.mk hx
      have HY := Aside0.mk hy
      clear hx hy
      go_enter Try.func14, Try.ntmps14
      go_wp2_with (first | (go_at_call 47; rw [← hw1]; clear hw1; refine (specIs a _ xs w1 HK.out).mono ?_; rintro e w2 ⟨rfl, hb⟩; rw [HX.out]; have HB2 := Aside0.mk hb; replace c2 := pw_cell_below hb c2; replace c3 := pw_cell_below hb c3; clear hb) | (go_at_call 47; refine (specIs b _ ys w2 (HL.out.below HB2.out)).mono ?_; rintro e w3 ⟨rfl, hb⟩; rw [HY.out]; have HB3 := Aside0.mk (HB2.out.trans (hb.mono HB2.out.size)); clear hb))
      go_ret2
      exact ⟨_, by rw [HA.out]; rfl, by rw [HA.out]; exact OwnI.nil _ _, HB.out.trans (HB3.out.mono HB.out.size)⟩
    | true =>
      obtain ⟨n, rfl, hc, -⟩ := cxOk_cx hx
      obtain ⟨m, rfl, hcm, -⟩ := cxOk_cx hy
      have HX := Aside0.mk hx
      have HY := Aside0.mk hy
      have HC := Aside0.mk hc
      by_cases hnm : (n : Int) = (m : Int)
      · obtain rfl : n = m := by omega
        have HA : Aside0 (ansFindIsomorphism n xs n ys = firstOr ((exts n n []).filter (okI xs ys))) := ⟨by unfold ansFindIsomorphism; rw [hx, hy, if_pos rfl]; rfl⟩
        by_cases hll : xs.length = ys.length
        · have HSM := Aside0.mk (ok_same hc hcm hll)
          have hlb : ((xs.length : Int) != (ys.length : Int)) = false := by rw [hll]; simp
          obtain ⟨R, hR⟩ : ∃ R, R = (exts n n []).filter (okI xs ys) := ⟨_, rfl⟩
          have HT : Aside0 ((((exts n n []).filter (okS xs ys)).take 1) = R.take 1) := ⟨by rw [hR, HSM.out]⟩
          have HS := Aside0.mk (fun W (u : Value) (hk : ReadI W (.slice A1 xs.length d1) xs) (hl : ReadI W (.slice A2 ys.length d2) ys) (hu : ReadI W u []) => searchAll n (.slice A1 xs.length d1) (.slice A2 ys.length d2) xs ys hc.hi hc n 1 u [] W (by decide) (by decide) (by simp) (Pre.nil n) hk hl hu)
          rw [HT.out] at HS
          rw [← hR] at HA
          clear hx hy hc hcm hnm hR HSM HT hll
          cases R with
          | nil =>
            have HA2 : Aside0 (ansFindIsomorphism n xs n ys = ([], 4)) := ⟨HA.out⟩
            rw [List.take_nil] at HS
            go_enter Try.func14, Try.ntmps14
            go_wp2_with (first | (go_at_call 47; rw [← hw1]; clear hw1; refine (specIs n _ xs w1 HK.out).mono ?_; rintro e w2 ⟨rfl, hb⟩; rw [HX.out]; have HB2 := Aside0.mk hb; replace c0 := pw_cell_below hb c0; replace c1 := pw_cell_below hb c1; replace c2 := pw_cell_below hb c2; replace c3 := pw_cell_below hb c3; clear hb) | (go_at_call 47; refine (specIs n _ ys w2 (HL.out.below HB2.out)).mono ?_; rintro e w3 ⟨rfl, hb⟩; rw [HY.out]; have HB3 := Aside0.mk (HB2.out.trans (hb.mono HB2.out.size)); replace c0 := pw_cell_below hb c0; replace c1 := pw_cell_below hb c1; replace c2 := pw_cell_below hb c2; replace c3 := pw_cell_below hb c3; clear hb) | (go_at_call 48; go_must (have hb4 : Below w3.heap.size w3 (w3.alloc (.cells #[] 2)) := (Below.alloc (Below.refl _ _) (Nat.le_refl _) _); have HB4 := Aside0.mk (HB3.out.trans (hb4.mono HB3.out.size)); refine Calls.mono (HS.out _ _ (HK.out.below HB4.out) (HL.out.below HB4.out) (OwnI.empty (b := 0) w3 (Nat.zero_le _)).read) ?_; rintro e w5 ⟨u5, rfl, ho5, hb5⟩; obtain ⟨g5, c5, ws5, rfl, -⟩ := id ho5; have HB5 := Aside0.mk (HB4.out.trans (hb5.mono HB4.out.size)); clear hb4 ho5 hb5)))
            go_ret2
            exact ⟨_, by rw [HA2.out]; rfl, by rw [HA2.out]; exact OwnI.nil _ _, HB.out.trans (HB5.out.mono HB.out.size)⟩
          | cons l r =>
            have HA2 : Aside0 (ansFindIsomorphism n xs n ys = (l, 0)) := ⟨HA.out⟩
            rw [show (l :: r).take 1 = [l] by simp] at HS
            go_enter Try.func14, Try.ntmps14
            go_wp2_with (first | (go_at_call 47; rw [← hw1]; clear hw1; refine (specIs n _ xs w1 HK.out).mono ?_; rintro e w2 ⟨rfl, hb⟩; rw [HX.out]; have HB2 := Aside0.mk hb; replace c0 := pw_cell_below hb c0; replace c1 := pw_cell_below hb c1; replace c2 := pw_cell_below hb c2; replace c3 := pw_cell_below hb c3; clear hb) | (go_at_call 47; refine (specIs n _ ys w2 (HL.out.below HB2.out)).mono ?_; rintro e w3 ⟨rfl, hb⟩; rw [HY.out]; have HB3 := Aside0.mk (HB2.out.trans (hb.mono HB2.out.size)); replace c0 := pw_cell_below hb c0; replace c1 := pw_cell_below hb c1; replace c2 := pw_cell_below hb c2; replace c3 := pw_cell_below hb c3; clear hb) | (go_at_call 48; go_must (have hb4 : Below w3.heap.size w3 (w3.alloc (.cells #[] 2)) := (Below.alloc (Below.refl _ _) (Nat.le_refl _) _); have HB4 := Aside0.mk (HB3.out.trans (hb4.mono HB3.out.size)); refine Calls.mono (HS.out _ _ (HK.out.below HB4.out) (HL.out.below HB4.out) (OwnI.empty (b := 0) w3 (Nat.zero_le _)).read) ?_; rintro e w5 ⟨u5, rfl, ho5, hb5⟩; obtain ⟨g5, c5, z5, rfl, hz5, hoz5⟩ := ho5.get (j := 0) (x := l) rfl; have HO5 := Aside0.mk hoz5; have HB45 := Aside0.mk HB4.out.size; have hz45 : w1.heap.size ≤ (w3.alloc (.cells #[] 2)).heap.size := HB4.out.size; have HO6 := Aside0.mk (hoz5.lower (Nat.le_trans HB.out.size hz45)); have HB5 := Aside0.mk (HB4.out.trans (hb5.mono HB4.out.size)); obtain ⟨A6, c6, rfl, -⟩ := id hoz5.read; clear hb4 ho5 hb5 hoz5)))
            go_ret2
            exact ⟨_, by rw [HA2.out]; rfl, by rw [HA2.out]; exact HO6.out, HB.out.trans (HB5.out.mono HB.out.size)⟩
        · have HA2 : Aside0 (ansFindIsomorphism n xs n ys = ([], 4)) := ⟨by rw [HA.out, ok_none hll]; rfl⟩
          have hlb : ((xs.length : Int) != (ys.length : Int)) = true := by simpa using (fun h => hll (by omega))
          clear hx hy hc hcm hnm hll HA
          go_enter Try.func14, Try.ntmps14
          go_wp2_with (first | (go_at_call 47; rw [← hw1]; clear hw1; refine (specIs n _ xs w1 HK.out).mono ?_; rintro e w2 ⟨rfl, hb⟩; rw [HX.out]; have HB2 := Aside0.mk hb; replace c0 := pw_cell_below hb c0; replace c1 := pw_cell_below hb c1; replace c2 := pw_cell_below hb c2; replace c3 := pw_cell_below hb c3; clear hb) | (go_at_call 47; refine (specIs n _ ys w2 (HL.out.below HB2.out)).mono ?_; rintro e w3 ⟨rfl, hb⟩; rw [HY.out]; have HB3 := Aside0.mk (HB2.out.trans (hb.mono HB2.out.size)); replace c0 := pw_cell_below hb c0; replace c1 := pw_cell_below hb c1; replace c2 := pw_cell_below hb c2; replace c3 := pw_cell_below hb c3; clear hb))
          go_ret2
          exact ⟨_, by rw [HA2.out]; rfl, by rw [HA2.out]; exact OwnI.nil _ _, HB.out.trans (HB3.out.mono HB.out.size)⟩
      · have HA : Aside0 (ansFindIsomorphism n xs m ys = ([], 5)) := ⟨by unfold ansFindIsomorphism; rw [hx, hy, if_neg hnm]; rfl⟩
        have hnb : ((n : Int) != (m : Int)) = true := by simpa using (fun h => hnm (by rw [h]))
        clear hx hy hc hcm hnm
        go_enter Try.func14, Try.ntmps14
        go_wp2_with (first | (go_at_call 47; rw [← hw1]; clear hw1; refine (specIs n _ xs w1 HK.out).mono ?_; rintro e w2 ⟨rfl, hb⟩; rw [HX.out]; have HB2 := Aside0.mk hb; replace c0 := pw_cell_below hb c0; replace c1 := pw_cell_below hb c1; replace c2 := pw_cell_below hb c2; replace c3 := pw_cell_below hb c3; clear hb) | (go_at_call 47; refine (specIs m _ ys w2 (HL.out.below HB2.out)).mono ?_; rintro e w3 ⟨rfl, hb⟩; rw [HY.out]; have HB3 := Aside0.mk (HB2.out.trans (hb.mono HB2.out.size)); replace c0 := pw_cell_below hb c0; replace c1 := pw_cell_below hb c1; replace c2 := pw_cell_below hb c2; replace c3 := pw_cell_below hb c3; clear hb))
        go_ret2
        exact ⟨_, by rw [HA.out]; rfl, by rw [HA.out]; exact OwnI.nil _ _, HB.out.trans (HB3.out.mono HB.out.size)⟩
end Go.Proofs.Ythbkboigbkadjaa.H

namespace Go.Proofs.Ythbkboigbkadjaa.H
open Go.RowKit Go.Proofs.YthbkboigbkadjaaW.PrintWords Go.Proofs.YthbkboigbkadjaaW.PrintLast Go.Proofs.YthbkboigbkadjaaW.PrintMore
set_option linter.unusedVariables false
set_option linter.unusedSimpArgs false

theorem grown_alloc {w w' : World} {o : Obj} {r : Option Nat} (h : (w.alloc o).grownBy w' r) : w.grownBy w' r :=
  ⟨h.os, h.tape, h.output, Nat.le_trans (by simp) h.size, fun k hk hne => (h.block k (by simp; omega) hne).trans ((World.grownBy_alloc w o none).block k hk (by simp))⟩

set_option maxRecDepth 100000 in
set_option maxHeartbeats 1000000 in
theorem markComplex (b : Nat) (a : Int) (v : Value) (xs : List Int) (k : Nat) (w : World) (ho : OwnI b w v xs) (hk : k ≤ 1073741824) (hl : xs.length ≤ 1073741824) (hbw : b ≤ w.heap.size) :
    Calls Try.prog 17 #[.agg #[.int .i64 a, v], .int .i64 k] w fun e w' => e = .returned (.int .i64 ((k : Int) + xs.length)) ∧ OwnI b w' v (marks k xs.length) ∧ w.grownBy w' v.ownBlock ∧ Below b w w' := by
  have hba : Below w.heap.size w (w.alloc (.cells #[.int .i64 a, v] 28)) := Below.alloc (Below.refl _ _) (Nat.le_refl _) _
  have HO := Aside0.mk (OwnI.below ho hba)
  have HB := Aside0.mk (hba.mono hbw)
  obtain ⟨A, c, rfl, -⟩ := ho.read
  clear ho hba
  go_enter Try.func17, Try.ntmps17
  go_wp2_with (first | (go_at_call 18; refine (markInt64S b _ xs k _ HO.out hk hl).mono ?_; rintro e w2 ⟨rfl, ho, hg, hb⟩; have HO2 := Aside0.mk ho; have HG2 := Aside0.mk hg; have HB2 := Aside0.mk hb; clear ho hg hb))
  go_ret
  exact ⟨rfl, HO2.out, grown_alloc HG2.out, HB.out.trans HB2.out⟩

end Go.Proofs.Ythbkboigbkadjaa.H

namespace Go.Proofs.Ythbkboigbkadjaa.H
open Go.ChangeShapes Go.WideShapes Go.ChangeAt
open Go.RowKit Go.Proofs.YthbkboigbkadjaaW.PrintWords Go.Proofs.YthbkboigbkadjaaW.PrintLast Go.Proofs.YthbkboigbkadjaaW.PrintMore
set_option linter.unusedVariables false
set_option linter.unusedSimpArgs false

/-- an int64 -/
def W64 (a : Int) : Prop := (Lit.int .i64 a).wf = true
theorem W64.bd {a : Int} (h : W64 a) : -9223372036854775808 ≤ a ∧ a ≤ 9223372036854775807 := by
  simpa [W64, Lit.wf, IntKind.min, IntKind.max, IntKind.signed, IntKind.bits] using h

set_option maxRecDepth 100000 in
theorem read_list {H : Type} {enc : TypeId × Value → H} {W : World} {fuel : Nat} {v : Value} {y : DataW H × List MemPlace}
    (hf : DataW.trod enc Try.prog W 0 (fun _ => true) true fuel 22 [v] = some y) : ∃ l : List Int, ReadI W v l ∧ ∀ x ∈ l, W64 x := by
  rcases open_ints Try.underlying22 Try.underlying2 (by kernel_rfl) hf with ⟨hcs, _⟩ | ⟨x, l, c, zs, hcs, _, hl, hm, hz, _, hcell, hwz⟩
  · simp at hcs
    subst hcs
    exact ⟨[], ReadI.nil _, fun x hx => by cases hx⟩
  · simp at hcs
    subst hcs
    obtain ⟨l, rfl, hr, hm, hw, hc⟩ := ReadsInt.ofRowC (k := .i64) (w := W) (.inr ⟨_, rfl, hl, hm, by simpa using hz, hcell, hwz⟩)
    exact ⟨l, ⟨_, _, rfl, hc, Kd.C_of_reads (d := (0 : Int)) (h1 := fun _ => rfl) hr⟩, hw⟩
set_option maxRecDepth 100000 in
theorem open_list {H : Type} {enc : TypeId × Value → H} {W : World} {base : Nat} {v : Value} {d : DataW H} {p : List MemPlace}
    (hv : Value.okWide Try.prog W .any base 22 v) (h : DataW.Trod enc Try.prog W 0 (fun _ => true) true 22 v d p) : ∃ l : List Int, ReadI W v l ∧ ∀ x ∈ l, W64 x := by
  obtain ⟨a1, len1, cap1, rfl⟩ := okWide_slice Try.underlying22 hv
  obtain ⟨fuel, hf⟩ := h
  exact read_list hf
set_option maxRecDepth 100000 in
theorem open_complex {H : Type} {enc : TypeId × Value → H} {W : World} {base : Nat} {v : Value} {d : DataW H} {p : List MemPlace}
    (hv : Value.okWide Try.prog W .any base 24 v) (h : DataW.Trod enc Try.prog W 0 (fun _ => true) true 24 v d p) : ∃ (a : Int) (u : Value) (l : List Int), v = .agg #[.int .i64 a, u] ∧ W64 a ∧ ReadI W u l ∧ ∀ x ∈ l, W64 x := by
  obtain ⟨c0, c1, y0, y1, m, rfl, rfl, rfl, hy0, hy1⟩ := Joins.open_agg2 Try.underlying24 (by kernel_rfl) (by kernel_rfl) hv h
  obtain ⟨a, e0, rfl, wa⟩ := DataW.trod_int Try.underlying2 hy0
  simp at e0
  subst e0
  obtain ⟨l, hr, hw⟩ := read_list hy1
  exact ⟨a, c1, l, rfl, wa, hr, hw⟩
end Go.Proofs.Ythbkboigbkadjaa.H
