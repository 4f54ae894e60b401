/- Rows of pairs that begin anywhere in their block; a part of a row; append of a row. A pair put into a row of pairs: l02With of the reference. The faces above a face; all pairs of a complex (plain). A filter of a part of a list. l01Above of the reference. -/
import Derived.Deep.AppendLies
import Derived.Maps.AppendAt
import Derived.Laws.OwnMore
import Derived.Deep.DeepMust
import Derived.Test.YtomofijniefelaaGreatKFnFlows1
import Derived.Test.YtomofijniefelaaGreatKFnFlows2
import Derived.Test.YtomofijniefelaaGreatKFnFlows3
import Derived.Test.YtomofijniefelaaGreatKFnFlows4
import Derived.Test.YtomofijniefelaaGreatKFnFlows5
import Derived.Test.YtomofijniefelaaGreatKFnFlows6
import Derived.Test.YtomofijniefelaaGreatKFnFlows7
import Derived.Test.YtomofijniefelaaGreatKFnFlows8
import Derived.Test.YtomofijniefelaaGreatKFnFlows9
import Derived.Test.YtomofijniefelaaGreatKFnFlows10
import Derived.Test.YtomofijniefelaaGreatKFnFlows11
import Derived.Test.YtomofijniefelaaGreatKFnFlows12
import Derived.Test.YtomofijniefelaaGreatKFnFlows13
import Derived.Test.YtomofijniefelaaGreatKFnFlows14
import Derived.Test.YtomofijniefelaaGreatKFnFlows15
import Derived.Test.YtomofijniefelaaGreatKFnFlows16
import Derived.Test.YtomofijniefelaaGreatKFnFlows17
import Derived.Test.YtomofijniefelaaGreatKFnFlows18
import Derived.Test.YtomofijniefelaaGreatKFnFlows19

namespace Go.Proofs.YtomofijniefelaaGreat.H
open Go.RowKit Go.Proofs.YtomofijniefelaaGreatW.PrintWords Go.Proofs.YtomofijniefelaaGreatW.PrintLast
set_option linter.unusedVariables false
set_option linter.unusedSimpArgs false
/-- v is a slice that reads these pairs, wherever it begins -/
def ReadQ (w : World) (v : Value) (ps : List (Int × Int)) : Prop := ∃ (A : Option Addr) (c : Nat), v = .slice A ps.length c ∧ ps.length ≤ c ∧ (A = none → c = 0) ∧ ∀ ad, A = some ad → ∀ (j : Nat) (x : Int), (flat ps)[j]? = some x → w.cell? (ad.add j) = some (.int .i64 x)
theorem ReadQ.below {w w' : World} {v : Value} {ps : List (Int × Int)} (h : ReadQ w v ps) (hb : Below w.heap.size w w') : ReadQ w' v ps := by
 obtain ⟨A, c, e, h1, h2, h3⟩ := h
 exact ⟨A, c, e, h1, h2, fun ad ha j x hj => pw_cell_below hb (h3 ad ha j x hj)⟩
theorem OwnP.readQ {b : Nat} {w : World} {v : Value} {ps : List (Int × Int)} (h : OwnP b w v ps) : ReadQ w v ps := by
 have hr := h.read
 rcases h.2 with ⟨rfl, h0⟩ | ⟨g, cap, cur, rfl, hb, hg, hnc, hcm, hcs, ht⟩
 ·obtain rfl : ps = [] := List.eq_nil_of_length_eq_zero h0
  exact ⟨none, 0, rfl, Nat.le_refl _, fun _ => rfl, fun ad ha => by cases ha⟩
 ·refine ⟨_, _, rfl, hnc, (fun e => by cases e), fun ad ha j x hj => ?_⟩
  cases ha
  have hc := World.ownsRow.cells h (g := g) rfl j (.int .i64 x) (by rw [List.getElem?_map, hj]; rfl)
  exact hc
theorem flat_drop : ∀ (ps : List (Int × Int)) (k : Nat), flat (ps.drop k) = (flat ps).drop (k * 2)
 | [], k => by simp [flat]
 | p :: r, 0 => by simp
 | p :: r, k + 1 => by
  rw [List.drop_succ_cons, flat_drop r k, show (k + 1) * 2 = k * 2 + 1 + 1 by omega]
  rfl
theorem flat_take : ∀ (ps : List (Int × Int)) (k : Nat), flat (ps.take k) = (flat ps).take (k * 2)
 | [], k => by simp [flat]
 | p :: r, 0 => by simp [flat]
 | p :: r, k + 1 => by
  rw [List.take_succ_cons, show (k + 1) * 2 = k * 2 + 1 + 1 by omega]
  simp only [flat, List.take_succ_cons, flat_take r k]
theorem flat_apd : ∀ (a b : List (Int × Int)), flat (a ++ b) = flat a ++ flat b
 | [], b => rfl
 | p :: r, b => by show p.1 :: p.2 :: flat (r ++ b) = _; rw [flat_apd r b]; rfl
/-- ps[k:] -/
theorem ReadQ.from_ {w : World} {A : Option Addr} {n c : Nat} {ps : List (Int × Int)} (h : ReadQ w (.slice A n c) ps) {k : Nat} (hk : k ≤ ps.length) :
  ∃ A' c', (∀ W : World, (Instr.slice 51 (.slice A n c) (some (.int .i64 (k : Int))) none none).run Tryz.prog W = .ok (.slice A' (ps.length - k) c') W) ∧ ReadQ w (.slice A' (ps.length - k) c') (ps.drop k) := by
 obtain ⟨A0, c0, e, hc, hn, hr⟩ := h
 cases e
 obtain ⟨i, hi, hs⟩ := Option.map_eq_some_iff.1 (show (Tryz.prog.info? 72).map (·.size) = some 2 by kernel_rfl)
 have h2 : (k : Int) ≤ (ps.length : Int) := by omega
 have hrun : ∀ W : World, (Instr.slice 51 (.slice A ps.length c) (some (.int .i64 (k : Int))) none none).run Tryz.prog W = .ok (.slice (if c = k then A else A.map (·.add (k * 2))) (ps.length - k) (c - k)) W := fun W => by
  have h3 : ¬ ps.length < k := by omega
  by_cases hck : c = k
  ·simp [Instr.slice, Instr.sliceBounds, Instr.sliceBound, asIntOf, run_underlying Tryz.underlying51, sizeOf, typeInfo, hi, hs, go_sem, h2, h3, hck]
  ·simp [Instr.slice, Instr.sliceBounds, Instr.sliceBound, asIntOf, run_underlying Tryz.underlying51, sizeOf, typeInfo, hi, hs, go_sem, h2, h3, hck]
 refine ⟨_, _, hrun, ⟨_, _, by rw [List.length_drop], by rw [List.length_drop]; omega, fun hA => ?_, fun ad hA j x hj => ?_⟩⟩
 ·split at hA
  ·have := hn hA; omega
  ·cases A with
   | none => have := hn rfl; omega
   | some a => simp at hA
 ·rw [flat_drop, List.getElem?_drop] at hj
  split at hA
  ·next hck =>
   have : (flat ps).length = ps.length * 2 := flat_len ps
   rw [List.getElem?_eq_none (by rw [this]; omega)] at hj
   cases hj
  ·cases A with
   | none => cases hA
   | some a =>
    cases hA
    rw [Go.Proofs.YtomofijniefelaaGreatW.PrintWords.add_add]
    exact hr a rfl _ _ hj
/-- ps[:k] -/
theorem ReadQ.to_ {w : World} {A : Option Addr} {n c : Nat} {ps : List (Int × Int)} (h : ReadQ w (.slice A n c) ps) {k : Nat} (hk : k ≤ ps.length) :
  (∀ W : World, (Instr.slice 51 (.slice A n c) none (some (.int .i64 (k : Int))) none).run Tryz.prog W = .ok (.slice A k c) W) ∧ ReadQ w (.slice A k c) (ps.take k) := by
 obtain ⟨A0, c0, e, hc, hn, hr⟩ := h
 cases e
 obtain ⟨i, hi, hs⟩ := Option.map_eq_some_iff.1 (show (Tryz.prog.info? 72).map (·.size) = some 2 by kernel_rfl)
 have h2 : (k : Int) ≤ (c : Int) := by omega
 have hl : (ps.take k).length = k := by rw [List.length_take]; omega
 refine ⟨fun W => ?_, ⟨A, c, by rw [hl], by rw [hl]; omega, hn, fun ad hA j x hj => ?_⟩⟩
 ·have h3 : ¬ c < k := by omega
  by_cases hc0 : c = 0
  ·obtain rfl : k = 0 := by omega
   simp [Instr.slice, Instr.sliceBounds, Instr.sliceBound, asIntOf, run_underlying Tryz.underlying51, sizeOf, typeInfo, hi, hs, go_sem, h2, h3, hc0]
  ·simp [Instr.slice, Instr.sliceBounds, Instr.sliceBound, asIntOf, run_underlying Tryz.underlying51, sizeOf, typeInfo, hi, hs, go_sem, h2, h3, hc0]
 ·rw [flat_take] at hj
  have hjl : j < k * 2 := by
   have := (List.getElem?_eq_some_iff.1 hj).1
   rw [List.length_take] at this; omega
  rw [List.getElem?_take_of_lt hjl] at hj
  exact hr ad hA j x hj
theorem infoQ : (Tryz.prog.info? 72).map (fun i => (i.zero, i.size, i.bytes)) = some (some (.agg #[.int .i64 0, .int .i64 0]), 2, 16) := by kernel_rfl
theorem runAppP {W : World} (base : Nat) (ty : TypeId) (v : Value) (ps qs : List (Int × Int)) (A : Option Addr) (m c : Nat) (HO : OwnP base W v ps) (HR : ReadQ W (.slice A m c) qs) (hbase : base ≤ W.heap.size) (hl : ps.length + qs.length ≤ 1000000) :
  ∃ v' w', (Builtin.append_ #[51, 51] ty #[v, .slice A m c]).run Tryz.prog W = .ok v' w' ∧ OwnP base w' v' (ps ++ qs) ∧ W.grownBy w' v.ownBlock ∧ (v'.ownBlock = v.ownBlock ∨ v'.ownBlock = some W.heap.size) := by
 obtain ⟨i0, hi, hzz⟩ := Option.map_eq_some_iff.1 infoQ
 simp only [Prod.mk.injEq] at hzz
 obtain ⟨hz0, hz1, hz2⟩ := hzz
 obtain ⟨A', c', e, hle, hn, hr⟩ := HR
 cases e
 cases A with
 | none =>
  have hc0 := hn rfl
  have hq0 : qs = [] := List.eq_nil_of_length_eq_zero (by omega)
  subst hq0
  subst hc0
  refine ⟨v, W, run_append_owned_none (P := Tryz.prog) (w := W) base 51 ty 72 i0 2 Tryz.underlying51 hi v ps.length _ HO, by rw [List.append_nil]; exact HO, ⟨rfl, rfl, rfl, Nat.le_refl _, fun _ _ _ => rfl⟩, .inl rfl⟩
 | some ad =>
  obtain ⟨v', w', hrun, h2, h3, -, h5⟩ := run_append_own_at (P := Tryz.prog) W base 51 ty 72 i0 _ 2 16 Tryz.underlying51 hi hz0 hz1 hz2 rfl (by decide) v ps.length ((flat ps).map (Value.int .i64)) HO ad qs.length c ((flat qs).map (Value.int .i64)) (by rw [List.length_map, flat_len])
   (fun j u hj => by
    rw [List.getElem?_map] at hj
    obtain ⟨y, hy, rfl⟩ := Option.map_eq_some_iff.1 hj
    exact hr ad rfl j y hy) (fun u hu => by
    obtain ⟨y, -, rfl⟩ := List.mem_map.1 hu
    rfl) (by simp only [maxLen]; omega) (by omega) hbase
  refine ⟨v', w', hrun, ?_, h3, h5⟩
  unfold OwnP
  rw [List.length_append, flat_apd, List.map_append]
  exact h2
theorem appP_gives {o : Oper} {ev : Operand → Value} {W : World} (base : Nat) (s x : Operand) (ho : o.op = .call { callee := .builtin .append, args := #[s, x], argTypes := #[51, 51] })
  (v : Value) (ps qs : List (Int × Int)) (A : Option Addr) (m c : Nat) (hs : ev s = v) (hx : ev x = .slice A m c) (HO : OwnP base W v ps) (HR : ReadQ W (.slice A m c) qs) (hbase : base ≤ W.heap.size) (hl : ps.length + qs.length ≤ 1000000) {R : Value → World → Prop}
  (h : ∀ v1 w1, OwnP base w1 v1 (ps ++ qs) → W.grownBy w1 v.ownBlock → R v1 w1) : opGives Tryz.prog o ev W R := by
 obtain ⟨v', w', hrun, h1, h2, -⟩ := runAppP base o.type v ps qs A m c HO HR hbase hl
 refine opGives_value (w' := w') (v := v') ?_ (h v' w' h1 h2)
 unfold execOp
 simp only [ho, resolve, invoke, builtin, Sem.run_bind, Sem.run_pure, Result.andThen_ok, List.map_toArray, List.map_cons, List.map_nil, hs, hx, hrun]
section
variable {ops : Array Oper} {rest : List Oper} {o : Oper} {a : Act} {Q : Exit → Act → World → Prop}
theorem appP_list {W : World} (base : Nat) (hgd : o.guard = none) (s x : Operand) (ho : o.op = .call { callee := .builtin .append, args := #[s, x], argTypes := #[51, 51] })
  (v : Value) (ps qs : List (Int × Int)) (A : Option Addr) (m c : Nat) (hs : a.eval s = v) (hx : a.eval x = .slice A m c) (HO : OwnP base W v ps) (HR : ReadQ W (.slice A m c) qs) (hbase : base ≤ W.heap.size) (hl : ps.length + qs.length ≤ 1000000)
  (h : ∀ v1 w1, OwnP base w1 v1 (ps ++ qs) → W.grownBy w1 v.ownBlock → wpList Tryz.prog ops Q rest (a.put o.dst v1) w1) : wpList Tryz.prog ops Q (o :: rest) a W := by
 obtain ⟨v', w', hrun, h1, h2, -⟩ := runAppP base o.type v ps qs A m c HO HR hbase hl
 refine wpList_plain hgd fun K hK => ?_
 unfold Oper.wp
 simp [execOp, ho, resolve, invoke, builtin, hs, hx, hrun, Result.andThen]
 exact hK _ _ (h v' w' h1 h2)
end
/-- one pair, as a row of the call's own -/
theorem OwnP.single {b : Nat} (W : World) (x y : Int) (hb : b ≤ W.heap.size) : OwnP b (W.alloc (.cells #[.int .i64 x, .int .i64 y] 72)) (.slice (some ⟨W.heap.size, 0, none⟩) 1 1) [(x, y)] :=
 ⟨rfl, .inr ⟨W.heap.size, 1, #[.int .i64 x, .int .i64 y], rfl, hb, heap_alloc_new W _, Nat.le_refl _, by decide, rfl, rfl⟩⟩
/-- a slice expression, its run told -/
theorem slice_execQ {P : Program} {o : Oper} {ev : Operand → Value} {W : World} {t e : TypeId} {s : Operand} {lo hi : Option Operand} {u : Value} (ht : P.underlying t = some (.slice e)) (ho : o.op = .slice t s lo hi none) (hr : (Instr.slice t (ev s) (lo.map ev) (hi.map ev) none).run P W = .ok u W) : (execOp ev o).run P W = .ok (.value u) W := by
 have hel : P.elem t = e := by simp [Program.elem, ht]
 have h1 := run_sliceAt_slice (P := P) (w := W) t (ev s) (lo.map ev) (hi.map ev) none (by rw [hel]; exact ht)
 simp [execOp, ho, h1, hr]
section
variable {P : Program} {ops : Array Oper} {rest : List Oper} {o : Oper} {a : Act} {Q : Exit → Act → World → Prop}
theorem slice_toldQ {W : World} {t e : TypeId} {s : Operand} {lo hi : Option Operand} {u : Value} (ht : P.underlying t = some (.slice e)) (hgd : o.guard = none) (ho : o.op = .slice t s lo hi none) (hr : ∀ W : World, (Instr.slice t (a.eval s) (lo.map a.eval) (hi.map a.eval) none).run P W = .ok u W) (h : wpList P ops Q rest (a.put o.dst u) W) : wpList P ops Q (o :: rest) a W :=
 Kd.event_run hgd (slice_execQ ht ho (hr W)) h
end
/-- where a pair is put in, below k -/
def insK (acc : List (Int × Int)) (p : Int × Int) : Nat → Nat
 | 0 => 0
 | k + 1 => if lessP p.1 p.2 (acc.getD k (0, 0)).1 (acc.getD k (0, 0)).2 then insK acc p k else k + 1
def insAt (acc : List (Int × Int)) (p : Int × Int) : Nat := insK acc p acc.length
theorem insK_le (acc : List (Int × Int)) (p : Int × Int) : ∀ k, insK acc p k ≤ k
 | 0 => Nat.le_refl _
 | k + 1 => by
  unfold insK
  split
  ·exact Nat.le_trans (insK_le acc p k) (Nat.le_succ _)
  ·exact Nat.le_refl _
theorem insK_down {acc : List (Int × Int)} {p q x y : Int} {k : Nat} (e : acc[k]? = some (x, y)) (h : lessP p q x y = true) : insK acc (p, q) (k + 1) = insK acc (p, q) k := by
 have : acc.getD k (0, 0) = (x, y) := by rw [List.getD_eq_getElem?_getD, e]; rfl
 conv => lhs; unfold insK
 rw [this]; exact if_pos h
theorem insK_stop {acc : List (Int × Int)} {p q x y : Int} {k : Nat} (e : acc[k]? = some (x, y)) (h : lessP p q x y = false) : insK acc (p, q) (k + 1) = k + 1 := by
 have : acc.getD k (0, 0) = (x, y) := by rw [List.getD_eq_getElem?_getD, e]; rfl
 conv => lhs; unfold insK
 rw [this]; exact if_neg (by rw [h]; decide)
set_option maxRecDepth 100000 in
set_option maxHeartbeats 4000000 in
theorem specWith (n : Nat) (ku : Value) (xs : List Int) (v : Value) (acc : List (Int × Int)) (p q : Int) (w : World) (hk0 : ReadI w ku xs) (hc : Cx n xs) (hv : ReadP w v acc) (hq : ReadQ w v acc) (hl : acc.length ≤ 100000) :
  Calls Tryz.prog 242 #[cx n ku, v, .agg #[.int .i64 p, .int .i64 q]] w fun e w' => ∃ u, e = .returned (.tuple #[u, .bool (pOk xs (putP acc (insAt acc (p, q)) (p, q)))]) ∧ OwnP w.heap.size w' u (putP acc (insAt acc (p, q)) (p, q)) ∧ Below w.heap.size w w' := by
 obtain ⟨w1, hw1⟩ : ∃ w1, w1 = (w.alloc (.cells #[.int .i64 n, ku] 26)).alloc (.cells #[.int .i64 p, .int .i64 q] 72) := ⟨_, rfl⟩
 have hB : Below w.heap.size w w1 := by rw [hw1]; exact ((Below.refl _ w).alloc (Nat.le_refl _) _).alloc (by simp) _
 have c0 : w1.cell? ⟨w.heap.size, 0, none⟩ = some (.int .i64 n) := by rw [hw1]; simp
 have c1 : w1.cell? ⟨w.heap.size, 1, none⟩ = some ku := by rw [hw1]; simp
 have c2 : w1.cell? ⟨w.heap.size + 1, 0, none⟩ = some (.int .i64 p) := by rw [hw1]; simp
 have c3 : w1.cell? ⟨w.heap.size + 1, 1, none⟩ = some (.int .i64 q) := by rw [hw1]; simp
 have HB := Aside0.mk hB
 have HK := Aside0.mk (hk0.below hB)
 have HC := Aside0.mk hc
 have HP := Aside0.mk (hv.below hB)
 have HQ0 := hq.below hB
 obtain ⟨A1, d1, rfl, -⟩ := id hk0
 obtain ⟨A2, d2, rfl, -⟩ := id hq
 have HQ := Aside0.mk HQ0
 have hmx : Tryz.prog.follows .mixedOrders = true := by kernel_rfl
 have c0w := c0
 have c1w := c1
 clear hk0 hc hv hq hB HQ0
 go_enter Tryz.func242, Tryz.ntmps242
 go_wp2
 rw [← hw1]
 clear hw1
 go_loopw [8] (fun s8 wr => ∃ k : Nat, s8 = .int .i64 k ∧ k ≤ acc.length ∧ Aside0 (insK acc (p, q) k = insAt acc (p, q)) ∧ Aside0 (Below w1.heap.size w1 wr)) (fun s8 _ => (intOf s8).toNat)
 case atStart => exact ⟨_, rfl, Nat.le_refl _, ⟨rfl⟩, ⟨Below.refl _ _⟩⟩
 case round =>
  obtain ⟨k, rfl, hk, HK0, HBr⟩ := hrel
  have c2 := pw_cell_below HBr.out c2
  have c3 := pw_cell_below HBr.out c3
  by_cases hk0 : 0 < k
  ·obtain ⟨g, x, y, rfl, hxy, hc0, hc1⟩ := ReadP.get (HP.out.below HBr.out) (i := k - 1) (by omega)
   have h1i : (0 : Int) ≤ (k : Int) - 1 := by omega
   have h2i : (k : Int) - 1 < (acc.length : Int) := by omega
   have h3i : ((k : Int) - 1).toNat = k - 1 := by omega
   have hk0I : (0 : Int) < (k : Int) := by omega
   have hwk : IntKind.i64.wrap ((k : Int) - 1) = (k : Int) - 1 := IntWalk.i64_in _ (by omega)
   have b0 : ∀ z : Ext wr, z.1.cell? ⟨g, (k - 1) * 2, none⟩ = some (.int .i64 x) := fun z => Ext.cell hc0 z
   have b1 : ∀ z : Ext wr, z.1.cell? ⟨g, (k - 1) * 2 + 1, none⟩ = some (.int .i64 y) := fun z => Ext.cell hc1 z
   have b2 : ∀ z : Ext wr, z.1.cell? ⟨w.heap.size + 1, 0, none⟩ = some (.int .i64 p) := fun z => Ext.cell c2 z
   have b3 : ∀ z : Ext wr, z.1.cell? ⟨w.heap.size + 1, 1, none⟩ = some (.int .i64 q) := fun z => Ext.cell c3 z
   have HLE : Aside0 (∀ z : Ext wr, Calls Tryz.prog 338 #[.agg #[.int .i64 p, .int .i64 q], .agg #[.int .i64 x, .int .i64 y]] z.1 fun e w' => e = .returned (.bool (lessP p q x y)) ∧ Below z.1.heap.size z.1 w') := ⟨fun z => specLess p q x y z.1⟩
   have HDN := Aside0.mk (fun h => insK_down (acc := acc) (p := p) (q := q) hxy h)
   have HST := Aside0.mk (fun h => insK_stop (acc := acc) (p := p) (q := q) hxy h)
   rw [show k - 1 + 1 = k by omega] at HDN HST
   clear hc0 hc1 hxy
   generalize lessP p q x y = r at *
   cases r with
   | true =>
    go_wp2
    refine wp_region_ext (by kernel_rfl) (by kernel_rfl) ?_
    repeat (go_big_quiet_step (first | (go_at_call 338; with_reducible exact Calls.ext_of (HLE.out _))))
    refine wpQuiet_nil ?_
    rintro _ ⟨z, rfl⟩
    have HBn := Aside0.mk (HBr.out.trans (z.2.mono HBr.out.size))
    go_wp2
    go_roundw
    case rel => exact ⟨k - 1, by go_num, by omega, ⟨(HDN.out (by trivial)).symm.trans HK0.out⟩, HBn⟩
    case measure => simp [intOf]; omega
   | false =>
    have HIS := HST.out (by trivial)
    go_wp2
    refine wp_region_ext (by kernel_rfl) (by kernel_rfl) ?_
    repeat (go_big_quiet_step (first | (go_at_call 338; with_reducible exact Calls.ext_of (HLE.out _))))
    refine wpQuiet_nil ?_
    rintro _ ⟨z, rfl⟩
    have HBn := Aside0.mk (HBr.out.trans (z.2.mono HBr.out.size))
    have hbz := z.2
    obtain ⟨wz, hwz⟩ : ∃ wz, wz = z.1 := ⟨_, rfl⟩
    rw [← hwz] at HBn hbz ⊢
    clear b0 b1 b2 b3 HLE hwz
    replace c2 := pw_cell_below hbz c2
    replace c3 := pw_cell_below hbz c3
    clear hbz HBr
    have HBr := HBn
    have HIN : Aside0 (insAt acc (p, q) = k) := ⟨HK0.out.symm.trans HIS⟩
    obtain ⟨Af, cf, hslf, hrf⟩ := (HQ.out.below HBr.out).from_ hk
    have HSF := Aside0.mk hslf
    have HRF := Aside0.mk hrf
    have HRT := Aside0.mk (fun W (h : Below w1.heap.size w1 W) => ReadQ.to_ (HQ.out.below h) hk)
    have HSLT := Aside0.mk ((ReadQ.to_ (HQ.out.below HBr.out) hk).1)
    have HBz := HBr.out.size
    clear hslf hrf HIS
    go_wp2
    refine wp_region_tail 5 (fun i => match i with | 0 => fun v _ => v = .agg #[.int .i64 p, .int .i64 q] | 1 => fun v W => OwnP w1.heap.size W v [(p, q)] | 2 => fun v _ => v = .slice (some ⟨g, 0, none⟩) acc.length d2 | 3 => fun v _ => v = .int .i64 (k : Nat) | 4 => fun v _ => v = .slice Af (acc.length - k) cf | _ => fun _ _ => True)
     [0, 1, 0, 0, 12, 31, 63] hmx (by kernel_rfl) ?st ?steps ?rest
    case st =>
     intro i v w1_ w2_ hb
     match i with
     | 0 | 2 | 3 | 4 => exact id
     | 1 => exact fun h => OwnP.below h hb
     | n + 5 => exact id
    case steps =>
     refine ⟨?_, ?_, ?_, ?_, ?_, trivial⟩
     ·intro s w_ hb hd R hR
      generalize hA : putAll _ 0 s _ = A
      have c2 := pw_cell_below hb c2
      have c3 := pw_cell_below hb c3
      have hR' := hR (.agg #[.int .i64 p, .int .i64 q]) _ (Below.refl _ _) rfl
      clear hR hd
      refine opGives_value ?_ hR'
      subst hA
      simp only [dsOf, List.take, List.map_cons, List.map_nil, Option.getD_some, putAll, Act.put, List.setIfInBounds_toArray, List.set_cons_zero, List.set_cons_succ]
      go_simp
     ·intro s w_ hb hd R hR
      generalize hA : putAll _ 0 s _ = A
      have e0 : s 0 = _ := hd 0 (by kernel_rfl)
      have hR' := hR (.slice (some ⟨w_.heap.size, 0, none⟩) 1 1) (w_.alloc (.cells #[.int .i64 p, .int .i64 q] 72)) (Below.alloc (Below.refl _ _) (Nat.le_refl _) _) (OwnP.single w_ p q (Nat.le_trans HBr.out.size hb.size))
      clear hR hd
      refine opGives_value ?_ hR'
      subst hA
      simp only [dsOf, List.take, List.map_cons, List.map_nil, Option.getD_some, putAll, Act.put, List.setIfInBounds_toArray, List.set_cons_zero, List.set_cons_succ]
      go_simp
     ·intro s w_ hb hd R hR
      generalize hA : putAll _ 0 s _ = A
      have hR' := hR (.slice (some ⟨g, 0, none⟩) acc.length d2) _ (Below.refl _ _) rfl
      clear hR hd
      refine opGives_value ?_ hR'
      subst hA
      simp only [dsOf, List.take, List.map_cons, List.map_nil, Option.getD_some, putAll, Act.put, List.setIfInBounds_toArray, List.set_cons_zero, List.set_cons_succ]
      go_simp
     ·intro s w_ hb hd R hR
      generalize hA : putAll _ 0 s _ = A
      have hR' := hR (.int .i64 (k : Nat)) _ (Below.refl _ _) rfl
      clear hR hd
      refine opGives_value ?_ hR'
      subst hA
      simp only [dsOf, List.take, List.map_cons, List.map_nil, Option.getD_some, putAll, Act.put, List.setIfInBounds_toArray, List.set_cons_zero, List.set_cons_succ]
      go_simp
     ·intro s w_ hb hd R hR
      generalize hA : putAll _ 0 s _ = A
      have e2 : s 2 = _ := hd 2 (by kernel_rfl)
      have e3 : s 3 = _ := hd 3 (by kernel_rfl)
      have hR' := hR (.slice Af (acc.length - k) cf) _ (Below.refl _ _) rfl
      clear hR hd
      refine opGives_value (slice_execQ Tryz.underlying51 rfl ?_) hR'
      subst hA
      simp only [dsOf, List.take, List.map_cons, List.map_nil, Option.getD_some, putAll, Act.put, List.setIfInBounds_toArray, List.set_cons_zero, List.set_cons_succ]
      show (Instr.slice 51 (s 2) (some (s 3)) none none).run Tryz.prog w_ = _
      rw [e2, e3]
      exact HSF.out w_
    case rest =>
     intro s9 w9 hb hv
     have o1_ : OwnP w1.heap.size w9 (s9 1) [(p, q)] := hv 1 (by decide)
     have e4_ : s9 4 = _ := hv 4 (by decide)
     clear hv
     simp only [dsOf, List.take, List.map_cons, List.map_nil, Option.getD_some, putAll, Act.put, List.setIfInBounds_toArray, List.set_cons_zero, List.set_cons_succ]
     have h9 := Below.size hb
     refine .inl (appP_gives w1.heap.size (.tmp 27) (.tmp 30) rfl (s9 1) [(p, q)] (acc.drop k) Af (acc.length - k) cf rfl e4_ o1_ (HRF.out.below hb) (by omega) (by rw [List.length_drop]; simp; omega) ?_)
     intro v1 w10 ho10 hg10
     simp only [List.drop, Act.put, List.setIfInBounds_toArray, List.set_cons_zero, List.set_cons_succ]
     refine .inl (opGives_value (v := v1) (w' := w10) (by go_simp) ?_)
     simp only [List.drop, Act.put, List.setIfInBounds_toArray, List.set_cons_zero, List.set_cons_succ]
     unfold tailList
     have HO10 := Aside0.mk (show OwnP w1.heap.size w10 v1 ([(p, q)] ++ acc.drop k) from ho10)
     have HB10 := Aside0.mk ((HBr.out.trans (hb.mono HBr.out.size)).grown hg10 (by omega) (fun j hj => OwnP.base o1_ j hj))
     have hLn : ([(p, q)] ++ acc.drop k).length = acc.length - k + 1 := by rw [List.length_append, List.length_drop]; simp; omega
     have c0 := pw_cell_below HB10.out c0w
     have c1 := pw_cell_below HB10.out c1w
     have hz10 := HB10.out.size
     clear ho10 hg10 hb o1_ e4_ h9
     obtain ⟨A10, c10, rfl, -⟩ := id HO10.out.readQ
     rw [hLn] at HO10 ⊢
     have HE := Aside0.mk (OwnP.empty (b := w1.heap.size) w10 hz10)
     have HBE : Aside0 (Below w10.heap.size w10 (w10.alloc (.cells #[] 72))) := ⟨Below.alloc (Below.refl _ _) (Nat.le_refl _) _⟩
     have hba : Below w10.heap.size w10 (w10.alloc (.cells #[] 72)) := HBE.out
     have m0 := pw_cell_below hba c0
     have m1 := pw_cell_below hba c1
     clear hba
     go_wp2_with (first | ((with_reducible refine gate_dst (N := 35) rfl ?_); refine slice_toldQ (u := .slice (some ⟨g, 0, none⟩) k d2) Tryz.underlying51 rfl rfl HSLT.out ?_) | ((with_reducible refine gate_builtin (b := .append) (xs := #[.tmp 32, .tmp 35]) rfl ?_); refine appP_list w1.heap.size rfl (.tmp 32) (.tmp 35) rfl (.slice (some ⟨w10.heap.size, 0, none⟩) 0 0) [] (acc.take k) (some ⟨g, 0, none⟩) k d2 rfl rfl HE.out (HRT.out _ (HB10.out.trans (HBE.out.mono hz10))).2 (Nat.le_trans hz10 HBE.out.size) (by rw [List.length_take]; simp; omega) ?_; intro v6 w6 ho6 hg6; have HO6 := Aside0.mk (show OwnP w1.heap.size w6 v6 (acc.take k) from ho6); have hb6 : Below w10.heap.size w10 w6 := (HBE.out.grown hg6 HBE.out.size (fun j hj => by have e2 : w10.heap.size = j := Option.some.inj hj; omega)); have HB6 := Aside0.mk (HB10.out.trans (hb6.mono hz10)); have HO6b := Aside0.mk (OwnP.below HO10.out hb6); replace m0 := pw_cell_below hb6 c0; replace m1 := pw_cell_below hb6 c1; have hz6 := hb6.size; clear ho6 hg6 hb6; obtain ⟨A6, c6, rfl, -⟩ := id HO6.out.readQ; generalize hn6 : List.length (acc.take k) = n6 at HO6 ⊢; clear hn6) | ((with_reducible refine gate_builtin (b := .append) (xs := #[.tmp 36, .tmp 37]) rfl ?_); refine appP_list w1.heap.size rfl (.tmp 36) (.tmp 37) rfl _ (acc.take k) ([(p, q)] ++ acc.drop k) A10 (acc.length - k + 1) c10 rfl rfl HO6.out HO6b.out.readQ (Nat.le_trans hz10 hz6) (by rw [List.length_take, hLn]; omega) ?_; intro v7 w7 ho7 hg7; have HO7 := Aside0.mk (show OwnP w1.heap.size w7 v7 (putP acc k (p, q)) from ho7); have hb7 := HB6.out.grown hg7 (Nat.le_trans hz10 hz6) (fun j hj => OwnP.base HO6.out j hj); have HB7 := Aside0.mk hb7; replace m0 := pw_cell_below hb7 c0w; replace m1 := pw_cell_below hb7 c1w; clear ho7 hg7 hb7; obtain ⟨A7, c7, rfl, -⟩ := id HO7.out.readQ; generalize hn7 : List.length (putP acc k (p, q)) = n7 at HO7 ⊢; clear hn7) | (go_at_call 301; go_must (refine Calls.mono (specIs2 n _ xs _ (putP acc k (p, q)) _ (HK.out.below HB7.out) HO7.out.read HC.out) ?_; rintro e w8 ⟨rfl, hb⟩; have HO8 := Aside0.mk (OwnP.below HO7.out hb); have HB8 := Aside0.mk (HB7.out.trans (hb.mono HB7.out.size)); clear hb)))
     go_ret2
     exact ⟨_, by rw [HIN.out]; rfl, by rw [HIN.out]; exact OwnP.lower HO8.out HB.out.size, HB.out.trans (HB8.out.mono HB.out.size)⟩
  ·have hk0I : ¬ (0 : Int) < (k : Int) := by omega
   have e0 : k = 0 := by omega
   have HIS : insK acc (p, q) k = k := by rw [e0]; rfl
   clear e0
   go_wp2
   refine wp_region_ext (by kernel_rfl) (by kernel_rfl) ?_
   repeat (go_big_quiet_step (fail))
   refine wpQuiet_nil ?_
   rintro _ ⟨z, rfl⟩
   have HBn := Aside0.mk (HBr.out.trans (z.2.mono HBr.out.size))
   have hbz := z.2
   obtain ⟨wz, hwz⟩ : ∃ wz, wz = z.1 := ⟨_, rfl⟩
   rw [← hwz] at HBn hbz ⊢
   clear hwz
   replace c2 := pw_cell_below hbz c2
   replace c3 := pw_cell_below hbz c3
   clear hbz HBr
   have HBr := HBn
   have HIN : Aside0 (insAt acc (p, q) = k) := ⟨HK0.out.symm.trans HIS⟩
   obtain ⟨Af, cf, hslf, hrf⟩ := (HQ.out.below HBr.out).from_ hk
   have HSF := Aside0.mk hslf
   have HRF := Aside0.mk hrf
   have HRT := Aside0.mk (fun W (h : Below w1.heap.size w1 W) => ReadQ.to_ (HQ.out.below h) hk)
   have HSLT := Aside0.mk ((ReadQ.to_ (HQ.out.below HBr.out) hk).1)
   have HBz := HBr.out.size
   clear hslf hrf HIS
   go_wp2
   refine wp_region_tail 5 (fun i => match i with | 0 => fun v _ => v = .agg #[.int .i64 p, .int .i64 q] | 1 => fun v W => OwnP w1.heap.size W v [(p, q)] | 2 => fun v _ => v = .slice A2 acc.length d2 | 3 => fun v _ => v = .int .i64 (k : Nat) | 4 => fun v _ => v = .slice Af (acc.length - k) cf | _ => fun _ _ => True)
    [0, 1, 0, 0, 12, 31, 63] hmx (by kernel_rfl) ?st ?steps ?rest
   case st =>
    intro i v w1_ w2_ hb
    match i with
    | 0 | 2 | 3 | 4 => exact id
    | 1 => exact fun h => OwnP.below h hb
    | n + 5 => exact id
   case steps =>
    refine ⟨?_, ?_, ?_, ?_, ?_, trivial⟩
    ·intro s w_ hb hd R hR
     generalize hA : putAll _ 0 s _ = A
     have c2 := pw_cell_below hb c2
     have c3 := pw_cell_below hb c3
     have hR' := hR (.agg #[.int .i64 p, .int .i64 q]) _ (Below.refl _ _) rfl
     clear hR hd
     refine opGives_value ?_ hR'
     subst hA
     simp only [dsOf, List.take, List.map_cons, List.map_nil, Option.getD_some, putAll, Act.put, List.setIfInBounds_toArray, List.set_cons_zero, List.set_cons_succ]
     go_simp
    ·intro s w_ hb hd R hR
     generalize hA : putAll _ 0 s _ = A
     have e0 : s 0 = _ := hd 0 (by kernel_rfl)
     have hR' := hR (.slice (some ⟨w_.heap.size, 0, none⟩) 1 1) (w_.alloc (.cells #[.int .i64 p, .int .i64 q] 72)) (Below.alloc (Below.refl _ _) (Nat.le_refl _) _) (OwnP.single w_ p q (Nat.le_trans HBr.out.size hb.size))
     clear hR hd
     refine opGives_value ?_ hR'
     subst hA
     simp only [dsOf, List.take, List.map_cons, List.map_nil, Option.getD_some, putAll, Act.put, List.setIfInBounds_toArray, List.set_cons_zero, List.set_cons_succ]
     go_simp
    ·intro s w_ hb hd R hR
     generalize hA : putAll _ 0 s _ = A
     have hR' := hR (.slice A2 acc.length d2) _ (Below.refl _ _) rfl
     clear hR hd
     refine opGives_value ?_ hR'
     subst hA
     simp only [dsOf, List.take, List.map_cons, List.map_nil, Option.getD_some, putAll, Act.put, List.setIfInBounds_toArray, List.set_cons_zero, List.set_cons_succ]
     go_simp
    ·intro s w_ hb hd R hR
     generalize hA : putAll _ 0 s _ = A
     have hR' := hR (.int .i64 (k : Nat)) _ (Below.refl _ _) rfl
     clear hR hd
     refine opGives_value ?_ hR'
     subst hA
     simp only [dsOf, List.take, List.map_cons, List.map_nil, Option.getD_some, putAll, Act.put, List.setIfInBounds_toArray, List.set_cons_zero, List.set_cons_succ]
     go_simp
    ·intro s w_ hb hd R hR
     generalize hA : putAll _ 0 s _ = A
     have e2 : s 2 = _ := hd 2 (by kernel_rfl)
     have e3 : s 3 = _ := hd 3 (by kernel_rfl)
     have hR' := hR (.slice Af (acc.length - k) cf) _ (Below.refl _ _) rfl
     clear hR hd
     refine opGives_value (slice_execQ Tryz.underlying51 rfl ?_) hR'
     subst hA
     simp only [dsOf, List.take, List.map_cons, List.map_nil, Option.getD_some, putAll, Act.put, List.setIfInBounds_toArray, List.set_cons_zero, List.set_cons_succ]
     show (Instr.slice 51 (s 2) (some (s 3)) none none).run Tryz.prog w_ = _
     rw [e2, e3]
     exact HSF.out w_
   case rest =>
    intro s9 w9 hb hv
    have o1_ : OwnP w1.heap.size w9 (s9 1) [(p, q)] := hv 1 (by decide)
    have e4_ : s9 4 = _ := hv 4 (by decide)
    clear hv
    simp only [dsOf, List.take, List.map_cons, List.map_nil, Option.getD_some, putAll, Act.put, List.setIfInBounds_toArray, List.set_cons_zero, List.set_cons_succ]
    have h9 := Below.size hb
    refine .inl (appP_gives w1.heap.size (.tmp 27) (.tmp 30) rfl (s9 1) [(p, q)] (acc.drop k) Af (acc.length - k) cf rfl e4_ o1_ (HRF.out.below hb) (by omega) (by rw [List.length_drop]; simp; omega) ?_)
    intro v1 w10 ho10 hg10
    simp only [List.drop, Act.put, List.setIfInBounds_toArray, List.set_cons_zero, List.set_cons_succ]
    refine .inl (opGives_value (v := v1) (w' := w10) (by go_simp) ?_)
    simp only [List.drop, Act.put, List.setIfInBounds_toArray, List.set_cons_zero, List.set_cons_succ]
    unfold tailList
    have HO10 := Aside0.mk (show OwnP w1.heap.size w10 v1 ([(p, q)] ++ acc.drop k) from ho10)
    have HB10 := Aside0.mk ((HBr.out.trans (hb.mono HBr.out.size)).grown hg10 (by omega) (fun j hj => OwnP.base o1_ j hj))
    have hLn : ([(p, q)] ++ acc.drop k).length = acc.length - k + 1 := by rw [List.length_append, List.length_drop]; simp; omega
    have c0 := pw_cell_below HB10.out c0w
    have c1 := pw_cell_below HB10.out c1w
    have hz10 := HB10.out.size
    clear ho10 hg10 hb o1_ e4_ h9
    obtain ⟨A10, c10, rfl, -⟩ := id HO10.out.readQ
    rw [hLn] at HO10 ⊢
    have HE := Aside0.mk (OwnP.empty (b := w1.heap.size) w10 hz10)
    have HBE : Aside0 (Below w10.heap.size w10 (w10.alloc (.cells #[] 72))) := ⟨Below.alloc (Below.refl _ _) (Nat.le_refl _) _⟩
    have hba : Below w10.heap.size w10 (w10.alloc (.cells #[] 72)) := HBE.out
    have m0 := pw_cell_below hba c0
    have m1 := pw_cell_below hba c1
    clear hba
    go_wp2_with (first | ((with_reducible refine gate_dst (N := 35) rfl ?_); refine slice_toldQ (u := .slice A2 k d2) Tryz.underlying51 rfl rfl HSLT.out ?_) | ((with_reducible refine gate_builtin (b := .append) (xs := #[.tmp 32, .tmp 35]) rfl ?_); refine appP_list w1.heap.size rfl (.tmp 32) (.tmp 35) rfl (.slice (some ⟨w10.heap.size, 0, none⟩) 0 0) [] (acc.take k) A2 k d2 rfl rfl HE.out (HRT.out _ (HB10.out.trans (HBE.out.mono hz10))).2 (Nat.le_trans hz10 HBE.out.size) (by rw [List.length_take]; simp; omega) ?_; intro v6 w6 ho6 hg6; have HO6 := Aside0.mk (show OwnP w1.heap.size w6 v6 (acc.take k) from ho6); have hb6 : Below w10.heap.size w10 w6 := (HBE.out.grown hg6 HBE.out.size (fun j hj => by have e2 : w10.heap.size = j := Option.some.inj hj; omega)); have HB6 := Aside0.mk (HB10.out.trans (hb6.mono hz10)); have HO6b := Aside0.mk (OwnP.below HO10.out hb6); replace m0 := pw_cell_below hb6 c0; replace m1 := pw_cell_below hb6 c1; have hz6 := hb6.size; clear ho6 hg6 hb6; obtain ⟨A6, c6, rfl, -⟩ := id HO6.out.readQ; generalize hn6 : List.length (acc.take k) = n6 at HO6 ⊢; clear hn6) | ((with_reducible refine gate_builtin (b := .append) (xs := #[.tmp 36, .tmp 37]) rfl ?_); refine appP_list w1.heap.size rfl (.tmp 36) (.tmp 37) rfl _ (acc.take k) ([(p, q)] ++ acc.drop k) A10 (acc.length - k + 1) c10 rfl rfl HO6.out HO6b.out.readQ (Nat.le_trans hz10 hz6) (by rw [List.length_take, hLn]; omega) ?_; intro v7 w7 ho7 hg7; have HO7 := Aside0.mk (show OwnP w1.heap.size w7 v7 (putP acc k (p, q)) from ho7); have hb7 := HB6.out.grown hg7 (Nat.le_trans hz10 hz6) (fun j hj => OwnP.base HO6.out j hj); have HB7 := Aside0.mk hb7; replace m0 := pw_cell_below hb7 c0w; replace m1 := pw_cell_below hb7 c1w; clear ho7 hg7 hb7; obtain ⟨A7, c7, rfl, -⟩ := id HO7.out.readQ; generalize hn7 : List.length (putP acc k (p, q)) = n7 at HO7 ⊢; clear hn7) | (go_at_call 301; go_must (refine Calls.mono (specIs2 n _ xs _ (putP acc k (p, q)) _ (HK.out.below HB7.out) HO7.out.read HC.out) ?_; rintro e w8 ⟨rfl, hb⟩; have HO8 := Aside0.mk (OwnP.below HO7.out hb); have HB8 := Aside0.mk (HB7.out.trans (hb.mono HB7.out.size)); clear hb)))
    go_ret2
    exact ⟨_, by rw [HIN.out]; rfl, by rw [HIN.out]; exact OwnP.lower HO8.out HB.out.size, HB.out.trans (HB8.out.mono HB.out.size)⟩
/-- faces of one vertex more that have all of a face -/
def abv (f g : Int) : Bool := decide (g.toNat &&& f.toNat = f.toNat) && (ones g.toNat == ones f.toNat + 1)
def aboveL (xs : List Int) (f : Int) : List Int := xs.filter (abv f)
def allTo (xs : List Int) (i : Nat) : List (Int × Int) := (xs.take i).flatMap fun f => (aboveL xs f).map fun g => (f, g)
def allP (xs : List Int) : List (Int × Int) := allTo xs xs.length
theorem ins_last {acc : List (Int × Int)} {p : Int × Int} (h : ∀ q ∈ acc, lessP p.1 p.2 q.1 q.2 = false) : putP acc (insAt acc p) p = acc ++ [p] := by
 have e : insAt acc p = acc.length := by
  unfold insAt
  cases hl : acc.length with
  | zero => rfl
  | succ k =>
   have hk : k < acc.length := by omega
   have h1 : acc[k]? = some acc[k] := List.getElem?_eq_getElem hk
   have h2 := h acc[k] (List.getElem_mem hk)
   cases hxy : acc[k] with
   | mk x y =>
    rw [hxy] at h1 h2
    exact insK_stop h1 h2
 rw [e]
 unfold putP
 rw [List.take_length, List.drop_length]
theorem above_len (xs : List Int) (f : Int) : (aboveL xs f).length ≤ xs.length := List.length_filter_le _ _
theorem allTo_len {xs : List Int} (hl : xs.length ≤ 63) : ∀ i, (allTo xs i).length ≤ i * 63
 | 0 => by simp [allTo]
 | i + 1 => by
  have ih := allTo_len hl i
  unfold allTo at ih ⊢
  by_cases h : i < xs.length
  ·rw [List.take_succ_eq_append_getElem h, List.flatMap_append, List.length_append]
   simp only [List.flatMap_cons, List.flatMap_nil, List.append_nil, List.length_map]
   have := above_len xs xs[i]
   omega
  ·rw [List.take_of_length_le (by omega)]
   rw [List.take_of_length_le (by omega)] at ih
   omega
theorem allTo_next {xs : List Int} {i : Nat} {f : Int} (h : i < xs.length) (hf : xs.getD i 0 = f) : allTo xs (i + 1) = allTo xs i ++ (aboveL xs f).map fun g => (f, g) := by
 unfold allTo
 rw [take_get h hf, List.flatMap_append]
 simp only [List.flatMap_cons, List.flatMap_nil, List.append_nil]
/-- what comes next is not less than what is there -/
theorem all_last {xs : List Int} (ha : xs.Pairwise (· < ·)) {i j : Nat} {f g : Int} (h : i < xs.length) (hf : xs.getD i 0 = f) (hj : j < (aboveL xs f).length) (hg : (aboveL xs f).getD j 0 = g) :
  putP (allTo xs i ++ ((aboveL xs f).take j).map fun g => (f, g)) (insAt (allTo xs i ++ ((aboveL xs f).take j).map fun g => (f, g)) (f, g)) (f, g) = allTo xs i ++ ((aboveL xs f).take (j + 1)).map fun g => (f, g) := by
 rw [ins_last, take_get hj hg, List.map_append, List.append_assoc]
 ·rfl
 ·intro q hq
  have hfi : xs[i] = f := by rw [List.getD_eq_getElem?_getD, List.getElem?_eq_getElem h] at hf; exact hf
  rcases List.mem_append.1 hq with hq | hq
  ·unfold allTo at hq
   obtain ⟨f', hf', hq'⟩ := List.mem_flatMap.1 hq
   obtain ⟨g', hg', rfl⟩ := List.mem_map.1 hq'
   obtain ⟨k, hk, e⟩ := List.getElem_of_mem hf'
   rw [List.length_take] at hk
   rw [List.getElem_take] at e
   have := List.pairwise_iff_getElem.1 ha k i (by omega) h (by omega)
   unfold lessP
   rw [Bool.or_eq_false_iff, Bool.and_eq_false_iff, decide_eq_false_iff_not, beq_eq_false_iff_ne]
   exact ⟨by omega, .inl (by omega)⟩
  ·obtain ⟨g', hg', rfl⟩ := List.mem_map.1 hq
   obtain ⟨k, hk, e⟩ := List.getElem_of_mem hg'
   rw [List.length_take] at hk
   rw [List.getElem_take] at e
   have haa : (aboveL xs f).Pairwise (· < ·) := ha.sublist List.filter_sublist
   have h1 := List.pairwise_iff_getElem.1 haa k j (by omega) hj (by omega)
   have h2 : (aboveL xs f)[j] = g := by rw [List.getD_eq_getElem?_getD, List.getElem?_eq_getElem hj] at hg; exact hg
   unfold lessP
   rw [Bool.or_eq_false_iff, Bool.and_eq_false_iff, decide_eq_false_iff_not, decide_eq_false_iff_not]
   exact ⟨by omega, .inr (by omega)⟩
/-- the pairs that can be put in, one after the other -/
def fillStep (xs : List Int) (l : List (Int × Int)) (p : Int × Int) : List (Int × Int) := if pOk xs (putP l (insAt l p) p) && acyB (putP l (insAt l p) p) then putP l (insAt l p) p else l
def fillTo (xs : List Int) (l all : List (Int × Int)) (i : Nat) : List (Int × Int) := (all.take i).foldl (fillStep xs) l
theorem put_len (acc : List (Int × Int)) (k : Nat) (p : Int × Int) (hk : k ≤ acc.length) : (putP acc k p).length = acc.length + 1 := by
 unfold putP
 rw [List.length_append, List.length_cons, List.length_take, List.length_drop]; omega
theorem fillStep_len (xs : List Int) (l : List (Int × Int)) (p : Int × Int) : (fillStep xs l p).length ≤ l.length + 1 := by
 unfold fillStep
 split
 ·rw [put_len _ (insAt l p) _ (insK_le _ _ _)]; exact Nat.le_refl _
 ·omega
theorem fillTo_next {xs : List Int} {l all : List (Int × Int)} {i : Nat} {p : Int × Int} (h : all[i]? = some p) : fillTo xs l all (i + 1) = fillStep xs (fillTo xs l all i) p := by
 unfold fillTo
 obtain ⟨hi, e⟩ := List.getElem?_eq_some_iff.1 h
 rw [List.take_succ_eq_append_getElem hi, List.foldl_append, e]; rfl
theorem fillTo_len (xs : List Int) (l all : List (Int × Int)) : ∀ i, (fillTo xs l all i).length ≤ l.length + i
 | 0 => by simp [fillTo]
 | i + 1 => by
  have ih := fillTo_len xs l all i
  cases h : all[i]? with
  | some p =>
   rw [fillTo_next h]
   have := fillStep_len xs (fillTo xs l all i) p
   omega
  | none =>
   have hi := List.getElem?_eq_none_iff.1 h
   unfold fillTo at ih ⊢
   rw [List.take_of_length_le (by omega)] at ih
   rw [List.take_of_length_le (by omega)]
   omega
theorem filter_take {xs : List Int} {i : Nat} {y : Int} (p : Int → Bool) (h : i < xs.length) (hy : xs.getD i 0 = y) : (xs.take (i + 1)).filter p = if p y then (xs.take i).filter p ++ [y] else (xs.take i).filter p := by
 rw [take_get h hy, List.filter_append]
 cases hp : p y <;> simp [hp]
set_option maxRecDepth 100000 in
set_option maxHeartbeats 4000000 in
theorem specAbove (n : Nat) (ku : Value) (xs : List Int) (f : Nat) (w : World) (hk : ReadI w ku xs) (hc : Cx n xs) (hf : f < 64) :
  Calls Tryz.prog 303 #[cx n ku, .int .i64 (f : Nat)] w fun e w' => ∃ u, e = .returned u ∧ OwnI w.heap.size w' u (aboveL xs f) ∧ Below w.heap.size w w' := by
 obtain ⟨w1, hw1⟩ : ∃ w1, w1 = w.alloc (.cells #[.int .i64 n, ku] 26) := ⟨_, rfl⟩
 have hB : Below w.heap.size w w1 := by rw [hw1]; exact Below.alloc (Below.refl _ _) (Nat.le_refl _) _
 have c0 : w1.cell? ⟨w.heap.size, 0, none⟩ = some (.int .i64 n) := by rw [hw1]; simp
 have c1 : w1.cell? ⟨w.heap.size, 1, none⟩ = some ku := by rw [hw1]; simp
 have HB := Aside0.mk hB
 have HC := Aside0.mk hc
 have hlen := hc.len
 have hf6 := ones_le f hf
 have HOF := Aside0.mk (specOnes f hf)
 obtain ⟨A1, d1, rfl, hcv, hrv⟩ := hk.below hB
 have HR := Aside0.mk hrv
 have hsz : w1.heap.size = w.heap.size + 1 := by rw [hw1]; simp
 have HE1 := Aside0.mk (OwnI.empty (b := w1.heap.size) w1 (Nat.le_refl _))
 have HE1 : Aside0 (OwnI w1.heap.size (w1.alloc (.cells #[] 2)) (.slice (some ⟨w.heap.size + 1, 0, none⟩) 0 0) []) := ⟨by have h := HE1.out; rw [hsz] at h ⊢; exact h⟩
 clear hk hB hcv hrv hc
 obtain ⟨o, ho⟩ : ∃ o, o = ones f := ⟨_, rfl⟩
 rw [← ho] at hf6 HOF
 have HOO := Aside0.mk ho
 clear ho
 go_enter Tryz.func303, Tryz.ntmps303
 go_wp2
 rw [← hw1]
 clear hw1
 go_loopw [5, 6] (fun s5 s6 wr => ∃ i : Nat, s6 = .int .i64 i ∧ i ≤ xs.length ∧ Aside0 (OwnI w1.heap.size wr s5 ((xs.take i).filter (abv f))) ∧ Aside0 (Below w1.heap.size w1 wr)) (fun _ s6 _ => xs.length - (intOf s6).toNat)
 case atStart => exact ⟨0, rfl, Nat.zero_le _, HE1, ⟨Below.alloc (Below.refl _ _) (Nat.le_refl _) _⟩⟩
 case round =>
  obtain ⟨i, rfl, hi, HO, HBr⟩ := hrel
  replace c0 := pw_cell_below HBr.out c0
  replace c1 := pw_cell_below HBr.out c1
  have hll : ((xs.take i).filter (abv f)).length ≤ 63 := Nat.le_trans (List.length_filter_le _ _) (by rw [List.length_take]; omega)
  obtain ⟨A5, d5, rfl, -⟩ := id HO.out.read
  obtain ⟨L, hL⟩ : ∃ L, L = ((xs.take i).filter (abv f)).length := ⟨_, rfl⟩
  rw [← hL] at HO hll ⊢
  have HLL := Aside0.mk hL
  clear hL
  by_cases hlt : i < xs.length
  ·have hltI : (i : Int) < (xs.length : Int) := by omega
   obtain ⟨ad, y, rfl, hcell, HY⟩ := ReadI.get (Kd.C_below HR.out HBr.out) hlt
   obtain ⟨g, rfl, hg1, hg2⟩ := HC.out.nat (mem_at hlt HY.out)
   have hg64 : g < 64 := by omega
   have hand := and_i64 g f (by omega) (by omega)
   obtain ⟨z, hz⟩ : ∃ z, z = g &&& f := ⟨_, rfl⟩
   rw [← hz] at hand
   have HZ := Aside0.mk hz
   have HOG := Aside0.mk (specOnes g hg64)
   have hog := ones_le g hg64
   obtain ⟨q, hq⟩ : ∃ q, q = ones g := ⟨_, rfl⟩
   rw [← hq] at hog HOG
   have HQ := Aside0.mk hq
   have HMISS : abv f g = false → Aside0 ((xs.take (i + 1)).filter (abv f) = (xs.take i).filter (abv f)) := fun h => ⟨by rw [filter_take _ hlt HY.out, h]; rfl⟩
   have HHIT : abv f g = true → Aside0 ((xs.take (i + 1)).filter (abv f) = (xs.take i).filter (abv f) ++ [(g : Int)]) := fun h => ⟨by rw [filter_take _ hlt HY.out, h]; rfl⟩
   have hab : abv f g = (decide (z = f) && (q == o + 1)) := by unfold abv; rw [Int.toNat_natCast, Int.toNat_natCast, HZ.out, HQ.out, HOO.out]
   clear hz hq
   by_cases hzf : z = f
   ·have hzb : ((z : Int) == (f : Int)) = true := by rw [beq_iff_eq]; omega
    by_cases hqo : q = o + 1
    ·have hqb : ((q : Int) == (o : Int) + 1) = true := by rw [beq_iff_eq]; omega
     have HN := HHIT (by rw [hab, decide_eq_true hzf, hqo]; simp)
     clear HMISS HHIT hab hzf hqo
     go_wp2_with (first | (go_at_call 213; first | (with_reducible refine (HOG.out _).mono ?_; rintro e w3 ⟨rfl, hb⟩; have HB3 := Aside0.mk (HBr.out.trans (hb.mono HBr.out.size)); have HO3 := Aside0.mk (HO.out.below hb); replace c0 := pw_cell_below hb c0; replace c1 := pw_cell_below hb c1; replace hcell := pw_cell_below hb hcell; clear hb HOG) | (with_reducible refine (HOF.out _).mono ?_; rintro e w4 ⟨rfl, hb⟩; have HB4 := Aside0.mk (HB3.out.trans (hb.mono HB3.out.size)); have HO4 := Aside0.mk (HO3.out.below hb); replace c0 := pw_cell_below hb c0; replace c1 := pw_cell_below hb c1; replace hcell := pw_cell_below hb hcell; clear hb HOF)) | (at_builtin; refine app_own (w0 := w1) w1.heap.size rfl (.tmp 36) (.tmp 42) rfl _ ((xs.take i).filter (abv f)) (g : Int) rfl rfl HO4.out HB4.out HB4.out.size ?hl ?_; (case hl => (rw [← HLL.out]; omega)); intro v1 w8 ho hb hg hat; have HO8 := Aside0.mk ho; have HB8 := Aside0.mk hb; clear ho hb hg hat))
     go_roundw
     case rel => exact ⟨i + 1, by go_num, by omega, ⟨by rw [HN.out]; exact HO8.out⟩, HB8⟩
     case measure => simp [intOf]; omega
    ·have hqb : ((q : Int) == (o : Int) + 1) = false := by rw [beq_eq_false_iff_ne]; omega
     have HN := HMISS (by rw [hab, beq_eq_false_iff_ne.2 hqo, Bool.and_false])
     clear HMISS HHIT hab hzf hqo
     go_wp2_with (first | (go_at_call 213; first | (with_reducible refine (HOG.out _).mono ?_; rintro e w3 ⟨rfl, hb⟩; have HB3 := Aside0.mk (HBr.out.trans (hb.mono HBr.out.size)); have HO3 := Aside0.mk (HO.out.below hb); replace c0 := pw_cell_below hb c0; replace c1 := pw_cell_below hb c1; replace hcell := pw_cell_below hb hcell; clear hb HOG) | (with_reducible refine (HOF.out _).mono ?_; rintro e w4 ⟨rfl, hb⟩; have HB4 := Aside0.mk (HB3.out.trans (hb.mono HB3.out.size)); have HO4 := Aside0.mk (HO3.out.below hb); clear hb HOF)))
     go_roundw
     case rel => exact ⟨i + 1, by go_num, by omega, ⟨by rw [HN.out]; exact HO4.out⟩, HB4⟩
     case measure => simp [intOf]; omega
   ·have hzb : ((z : Int) == (f : Int)) = false := by rw [beq_eq_false_iff_ne]; omega
    have HN := HMISS (by rw [hab, decide_eq_false hzf, Bool.false_and])
    clear HMISS HHIT hab hzf
    go_wp2
    go_roundw
    case rel => exact ⟨i + 1, by go_num, by omega, ⟨by rw [HN.out]; exact HO.out⟩, HBr⟩
    case measure => simp [intOf]; omega
  ·have e : i = xs.length := by omega
   have HE : Aside0 (OwnI w1.heap.size wr (.slice A5 L d5) (aboveL xs f)) := ⟨by have h := HO.out; rw [e, List.take_length] at h; exact h⟩
   clear e
   go_wp2
   go_ret
   exact ⟨_, rfl, HE.out.lower HB.out.size, HB.out.trans (HBr.out.mono HB.out.size)⟩
end Go.Proofs.YtomofijniefelaaGreat.H
