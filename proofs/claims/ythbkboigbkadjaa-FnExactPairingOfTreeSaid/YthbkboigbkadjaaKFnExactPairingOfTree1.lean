/- What is said of slices of int64 and of function values; worlds in which nothing old has turned. Nothing old is turned: as a relation. The laws' own helpers: copies of slices, equality, marks. A region of open order: each operation is shown once; what holds of its value stays as memory grows. The laws' helpers over complexes, and the marks. slices.IndexFunc, slices.ContainsFunc and areAll at []int64: whatever predicate that makes memory at the most. What everything needs: within, isSize, length. Bits of small numbers, as the walk spells them. -/
import Derived.Test.YthbkboigbkadjaaProg
import Derived.Below
import Derived.Deep.Draws
import Derived.OwnWalk
import Derived.Laws.MakeOwn
import Derived.Laws.OwnMore
import Derived.Tactics
import Derived.Laws.Slices
import Derived.WalkKit
import Derived.KernelRfl
import Derived.RowKit3
import Derived.Deep.LoopGhost
import Derived.Deep.QuietTactic
import Derived.BigQuiet
import Derived.WideLaws
import Derived.Laws.Rows
import Derived.RowKit
import Derived.Test.YthbkboigbkadjaaWWords
import Derived.Test.YthbkboigbkadjaaWLast
import Derived.Test.YthbkboigbkadjaaWMore
import Derived.Test.YthbkboigbkadjaaWInv

namespace Go.Proofs.Ythbkboigbkadjaa.H
open Go.RowKit Go.Proofs.YthbkboigbkadjaaW.PrintWords Go.Proofs.YthbkboigbkadjaaW.PrintLast Go.Proofs.YthbkboigbkadjaaW.PrintMore
set_option linter.unusedVariables false
set_option linter.unusedSimpArgs false

theorem below_drewN {B : Nat} {w W : World} (h : Below B w W) (n : Nat) : Below B w (W.drewN n) := ⟨h.os, h.tape, h.output, h.size, h.block⟩
theorem info64 : (Try.prog.info? 2).map (fun i => (i.zero, i.size, i.bytes)) = some (some (.int .i64 0), 1, 8) := by kernel_rfl

/-- a slice of numbers that can be read -/
def ReadI (w : World) (v : Value) (xs : List Int) : Prop := ∃ A c, v = .slice A xs.length c ∧ xs.length ≤ c ∧ Kd.C (Kd.int .i64) w A xs.length xs
/-- a slice of numbers that lies in a block of its own, from block b on -/
def OwnI (b : Nat) (w : World) (v : Value) (xs : List Int) : Prop := Kd.R (Kd.int .i64) 2 w b (fun _ => True) v xs

theorem ReadI.below {w w' : World} {v : Value} {xs : List Int} (h : ReadI w v xs) (hb : Below w.heap.size w w') : ReadI w' v xs := by
  obtain ⟨A, c, rfl, hc, hr⟩ := h
  exact ⟨A, c, rfl, hc, Kd.C_below hr hb⟩
theorem ReadI.len {w : World} {v : Value} {xs : List Int} (h : ReadI w v xs) : xs.length ≤ 9223372036854775807 := by
  obtain ⟨A, c, rfl, hc, hr⟩ := h
  exact hr.2.1
theorem ReadI.nil (w : World) : ReadI w (.slice none 0 0) [] := ⟨none, 0, rfl, Nat.le_refl _, rfl, by decide, fun h => absurd h (by decide)⟩
theorem ReadI.at_ {w : World} {A : Option Addr} {xs : List Int} (h : Kd.C (Kd.int .i64) w A xs.length xs) {i : Nat} (hi : i < xs.length) :
    ∃ ad, A = some ad ∧ w.cell? (ad.add i) = some (.int .i64 (xs.getD i 0)) := by
  obtain ⟨ad, e, hc⟩ := Kd.at_int h (i : Int) (by omega) (by omega)
  exact ⟨ad, e, by simpa [rd] using hc⟩
theorem ReadI.get {w : World} {A : Option Addr} {xs : List Int} (h : Kd.C (Kd.int .i64) w A xs.length xs) {i : Nat} (hi : i < xs.length) :
    ∃ ad y, A = some ad ∧ w.cell? (ad.add i) = some (.int .i64 y) ∧ Aside0 (xs.getD i 0 = y) := by
  obtain ⟨ad, e, hc⟩ := ReadI.at_ h hi
  exact ⟨ad, _, e, hc, ⟨rfl⟩⟩
theorem take_get {xs : List Int} {i : Nat} {y : Int} (h : i < xs.length) (hy : xs.getD i 0 = y) : xs.take (i + 1) = xs.take i ++ [y] := by
  rw [List.take_succ_eq_append_getElem h, ← hy]; simp [List.getD_eq_getElem?_getD, h]
theorem OwnI.read {b : Nat} {w : World} {v : Value} {xs : List Int} (h : OwnI b w v xs) : ReadI w v xs := by
  obtain ⟨A, c, e, hl, hr⟩ := Kd.R_reads h
  exact ⟨A, c, e, hl, hr⟩
theorem OwnI.below {b : Nat} {w w' : World} {v : Value} {xs : List Int} (h : OwnI b w v xs) (hb : Below w.heap.size w w') : OwnI b w' v xs := Kd.R_below h hb
theorem OwnI.lower {b b' : Nat} {w : World} {v : Value} {xs : List Int} (h : OwnI b w v xs) (hb : b' ≤ b) : OwnI b' w v xs := Kd.R_lower h hb
theorem OwnI.nil (b : Nat) (w : World) : OwnI b w (.slice none 0 0) [] := Kd.R_nil _ _ _ _ _
theorem OwnI.base {b : Nat} {w : World} {v : Value} {xs : List Int} (h : OwnI b w v xs) : ∀ k, v.ownBlock = some k → b ≤ k := by
  obtain ⟨inner, ho⟩ := Kd.R_own h
  exact fun k hk => own_base ho k hk
theorem OwnI.lt {b : Nat} {w : World} {v : Value} {xs : List Int} (h : OwnI b w v xs) : ∀ k, v.ownBlock = some k → k < w.heap.size := by
  obtain ⟨inner, ho⟩ := Kd.R_own h
  exact fun k hk => own_lt ho k hk
/-- out of the kit's own word -/
theorem OwnI.of_row {b b' : Nat} {w : World} {v : Value} {xs : List Int} (h : w.ownsRow b 2 1 v xs.length (xs.map (Value.int .i64))) (hb : b' ≤ b) : OwnI b' w v xs := by
  refine ⟨fun _ _ => trivial, xs.map (Value.int .i64), own_less h hb, by rw [List.length_map]; exact (Nat.mul_one _).symm, fun j p hj => ?_⟩
  show ((xs.map (Value.int .i64)).drop (j * 1)).take 1 = [Value.int .i64 p]
  rw [Nat.mul_one, ← List.map_drop, ← List.map_take]
  have : xs.drop j = p :: xs.drop (j + 1) := by
    obtain ⟨hj', e⟩ := List.getElem?_eq_some_iff.1 hj
    rw [← e, List.getElem_cons_drop]
  rw [this]; rfl
/-- another block has been written -/
theorem OwnI.grown {b : Nat} {w w' : World} {v : Value} {xs : List Int} (h : OwnI b w v xs) {row : Option Nat} (hg : w.grownBy w' row) (hn : ∀ k, v.ownBlock = some k → some k ≠ row) : OwnI b w' v xs := by
  obtain ⟨h0, inner, ho, hr⟩ := h
  exact ⟨h0, inner, own_move ho (fun k hk => hg.block k (own_lt ho k hk) (hn k hk)), hr⟩

/-- its cells may be written -/
theorem OwnI.slot {b g n cap : Nat} {w : World} {xs : List Int} (h : OwnI b w (.slice (some ⟨g, 0, none⟩) n cap) xs) {i : Nat} (hi : i < n) : (∃ y, w.cell? ⟨g, i, none⟩ = some (.int .i64 y)) ∧ w.frozen? ⟨g, i, none⟩ = false := by
  have hc := Kd.R_celln (0 : Int) h (i : Int) (by omega) (by omega)
  simp only [Int.toNat_natCast] at hc
  exact ⟨⟨_, hc.1⟩, hc.2⟩

section
variable {P : Program} {ops : Array Oper} {rest : List Oper} {o : Oper} {a : Act} {Q : Exit → Act → World → Prop}
/-- make([]int64, n) -/
theorem make_own {w0 W : World} (base : Nat) (hgd : o.guard = none) {N : Tmp} (hd : o.dst = some N) (x y : Operand) (ho : o.op = .makeSlice 22 x y) (n : Nat) (hx : a.eval x = .int .i64 n) (hy : a.eval y = .int .i64 n)
    (hl : n ≤ 35184372088832) (HB : Below base w0 W) (hbase : base ≤ W.heap.size)
    (h : ∀ v1 w1, OwnI base w1 v1 (List.replicate n 0) → Below base w0 w1 → W.grownBy w1 none → (∃ b, v1.ownBlock = some b ∧ W.heap.size ≤ b) → wpList Try.prog ops Q rest (a.put o.dst v1) w1) : wpList Try.prog ops Q (o :: rest) a W :=
  Kd.R_make (Kd.int .i64) base 2 hgd hd 22 x y ho (n : Int) hx hy Try.underlying22 (.int .i64 0) 8 info64 rfl (by decide) (by omega) (0 : Int) (ok := fun _ => True) (okp := fun _ => True) rfl (fun _ hk => hk) trivial (by omega) (by simp only [Int.toNat_natCast]; omega) HB hbase
    (fun v1 w1 h1 h2 h3 h4 => h v1 w1 (by rw [Int.toNat_natCast] at h1; exact h1) h2 h3 h4)
/-- append(v, p), v a slice of the call's own; the one-cell block of the variadic lies ahead -/
theorem app_own {w0 W : World} (base : Nat) (hgd : o.guard = none) (s x : Operand) (ho : o.op = .call { callee := .builtin .append, args := #[s, x], argTypes := #[22, 22] })
    (v : Value) (xs : List Int) (p : Int) (hs : a.eval s = v) (hx : a.eval x = .slice (some ⟨W.heap.size, 0, none⟩) 1 1)
    (HO : OwnI base W v xs) (HB : Below base w0 W) (hbase : base ≤ W.heap.size) (hl : xs.length < 17592186044416)
    (h : ∀ v1 w1, OwnI base w1 v1 (xs ++ [p]) → Below base w0 w1 → W.grownBy w1 v.ownBlock → (v1.ownBlock = v.ownBlock ∨ ∃ b, v1.ownBlock = some b ∧ W.heap.size ≤ b) → wpList Try.prog ops Q rest (a.put o.dst v1) w1) :
    wpList Try.prog ops Q (o :: rest) a (W.alloc (.cells #[.int .i64 p] 2)) :=
  Kd.R_append (Kd.int .i64) (w0 := w0) base hgd s x 22 2 (.int .i64 0) 8 ho Try.underlying22 info64 rfl (by decide) (by omega) v xs p [.int .i64 p] (fun _ => True) (fun _ => False) hs hx rfl (fun _ hk => hk.elim) (fun _ _ => trivial) HO HB hbase (by omega) h
/-- out[i] = x -/
theorem store_own {w0 W : World} {b g n cap : Nat} {xs : List Int} (hgd : o.guard = none) {p : Tmp} {v : Operand} (ho : o.op = .store 2 (.tmp p) v) (hN : o.dst = none)
    (i : Nat) (x : Int) (HO : OwnI b W (.slice (some ⟨g, 0, none⟩) n cap) xs) (hi : i < n) (hp : a.eval (.tmp p) = .pointer (some ⟨g, i, none⟩)) (hv : a.eval v = .int .i64 x)
    (h : ∀ w', OwnI b w' (.slice (some ⟨g, 0, none⟩) n cap) (xs.set i x) → W.grownBy w' (some g) → Below b W w' → wpList Try.prog ops Q rest a w') : wpList Try.prog ops Q (o :: rest) a W := by
  have hc := Kd.R_celln (0 : Int) HO (i : Int) (by omega) (by omega)
  simp only [Int.toNat_natCast] at hc
  have hp' := Kd.R_putg HO (i : Int) x
  simp only [Int.toNat_natCast] at hp'
  refine store_event (w1 := W.setCell ⟨g, i, none⟩ (.int .i64 x)) hgd ho hN ?_ (fun w' e => h w' ?_ ?_ ?_)
  · obtain ⟨h1, h2⟩ := hc
    generalize a.eval = ρ at hp hv ⊢
    simp [execOp, ho, hp, hv, go_sem, h1, h2]
  · rw [e]; exact hp'.1
  · rw [e]; exact hp'.2
  · rw [e]; exact Below.setCell (Below.refl _ _) (OwnI.base HO g (by simp [Value.ownBlock])) _
end

/-- worlds in which nothing that was there has turned -/
def Ext (w : World) := {w' : World // Below w.heap.size w w'}
instance (w : World) : Inhabited (Ext w) := ⟨⟨w, Below.refl _ _⟩⟩
theorem Ext.cell {w : World} {a : Addr} {v : Value} (h : w.cell? a = some v) (x : Ext w) : x.1.cell? a = some v := pw_cell_below x.2 h
theorem wp_region_ext {P : Program} {id : Nat} {Q : Exit → Act → World → Prop} {a : Act} {w : World} {l : List Oper} (hm : P.follows .mixedOrders = true) (hB : Region.lexB .any l.toArray = true)
    (h : wpQuiet P l.toArray (fun w' => ∃ x : Ext w, w' = x.1) (fun a' => ∀ w', (∃ x : Ext w, w' = x.1) → Q .normal a' w') l a) : (Code.region id l.toArray true).wp P Q a w :=
  wp_region_quiet (C := fun w' => ∃ x : Ext w, w' = x.1) hm hB ⟨⟨_, (Below.refl _ w).drew⟩, rfl⟩ (by simpa using h)
theorem Calls.ext_of {P : Program} {f : FuncId} {args : Array Value} {w : World} {x : Ext w} {v : Value}
    (h : Calls P f args x.1 fun e w' => e = .returned v ∧ Below x.1.heap.size x.1 w') : Calls P f args x.1 fun e w' => e = .returned v ∧ ∃ y : Ext w, w' = y.1 :=
  h.mono fun _ _ ⟨he, hb⟩ => ⟨he, ⟨⟨_, x.2.trans (hb.mono x.2.size)⟩, rfl⟩⟩

/-- a function with a body is entered -/
def Enters (g : FuncId) : Prop := ∀ (args : Array Value) (w : World), Sem.run Try.prog (callFunc g args) w = .ok (.enter g args) w
theorem Enters.mk' {g : FuncId} {fn : Func} (hf : Try.prog.funcs[g]? = some fn) (hn : (fn.name == "runtime.NumGoroutine") = false) (hb : fn.body.isNone = false) : Enters g := by
  intro args w
  have hn' : ¬ fn.name = "runtime.NumGoroutine" := by simpa using hn
  have hb' : ¬ fn.body = none := by intro h; rw [h] at hb; cases hb
  simp [callFunc, go_sem, hf, hn', hb']
end Go.Proofs.Ythbkboigbkadjaa.H

namespace Go.Proofs.Ythbkboigbkadjaa.H
open Go.RowKit Go.Proofs.YthbkboigbkadjaaW.PrintWords Go.Proofs.YthbkboigbkadjaaW.PrintLast Go.Proofs.YthbkboigbkadjaaW.PrintMore
set_option linter.unusedVariables false
set_option linter.unusedSimpArgs false

def Bl (w w' : World) : Prop := Below w.heap.size w w'
theorem Bl.trans {a b c : World} (h : Bl a b) (k : Bl b c) : Bl a c := Below.trans h (Below.mono k (Below.size h))
end Go.Proofs.Ythbkboigbkadjaa.H

namespace Go.Proofs.Ythbkboigbkadjaa.H
open Go.RowKit Go.Proofs.YthbkboigbkadjaaW.PrintWords Go.Proofs.YthbkboigbkadjaaW.PrintLast Go.Proofs.YthbkboigbkadjaaW.PrintMore
set_option linter.unusedVariables false
set_option linter.unusedSimpArgs false

theorem set_take {xs : List Int} {i : Nat} {y : Int} (h : i < xs.length) (hy : xs.getD i 0 = y) : (xs.take i ++ List.replicate (xs.length - i) (0 : Int)).set i y = xs.take (i + 1) ++ List.replicate (xs.length - (i + 1)) 0 := by
  rw [List.set_append_right _ _ (by simp; omega), take_get h hy]
  have e : xs.length - i = (xs.length - (i + 1)) + 1 := by omega
  rw [e, List.replicate_succ]
  have l : i - (xs.take i).length = 0 := by simp; omega
  rw [l, List.set_cons_zero]
  simp

set_option maxHeartbeats 1000000 in
theorem toInt64S (v : Value) (xs : List Int) (w : World) (hr : ReadI w v xs) (hl : xs.length ≤ 35184372088832) :
    Calls Try.prog 21 #[v] w fun e w' => ∃ u, e = .returned u ∧ OwnI w.heap.size w' u xs ∧ Below w.heap.size w w' := by
  obtain ⟨A, c, rfl, hc, hr⟩ := hr
  have HR := Aside0.mk hr
  have HC := Aside0.mk hc
  clear hr hc
  go_enter Try.func21, Try.ntmps21
  go_wp2_with (first | ((with_reducible refine gate_dst (N := 7) rfl ?_); refine make_own (w0 := w) w.heap.size rfl (N := 7) rfl _ _ rfl xs.length rfl rfl hl (Below.refl _ _) (Nat.le_refl _) ?_; intro v1 w1 ho hb hg hn; have HO := Aside0.mk ho; have HB := Aside0.mk hb; clear ho hb hg hn))
  go_loopw [4] (fun v wr => ∃ i : Nat, v = .int .i64 i ∧ i ≤ xs.length ∧ Aside0 (OwnI w.heap.size wr v1 (xs.take i ++ List.replicate (xs.length - i) 0)) ∧ Aside0 (Below w.heap.size w wr)) (fun v _ => xs.length - (intOf v).toNat)
  case atStart => exact ⟨0, rfl, Nat.zero_le _, by simpa using HO, HB⟩
  case round =>
    obtain ⟨i, rfl, hi, HI, HB2⟩ := hrel
    by_cases hlt : i < xs.length
    · obtain ⟨ad, y, e1, hcell, HY⟩ := ReadI.get (Kd.C_below HR.out HB2.out) hlt
      cases e1
      obtain ⟨g, cap, e2, -⟩ := Kd.R_form HI.out (by simp; omega)
      have el : (xs.take i ++ List.replicate (xs.length - i) (0 : Int)).length = xs.length := by simp; omega
      rw [el] at e2
      subst e2
      obtain ⟨⟨y0, hcell2⟩, hf2⟩ := OwnI.slot HI.out (i := i) (by omega)
      go_wp2_with (first | ((with_reducible refine gate_store (t := 2) (p := 20) rfl ?_); refine store_own (w0 := w) rfl (p := 20) rfl rfl i y HI.out ?ha ?hb ?hc ?_; (case ha => omega); (case hb => rfl); (case hc => rfl); intro w' ho hg hb; have HO2 := Aside0.mk ho; have HB3 := Aside0.mk (HB2.out.trans hb); clear ho hg hb))
      go_roundw
      case rel => exact ⟨i + 1, by go_num, by omega, ⟨by rw [← set_take hlt HY.out]; exact HO2.out⟩, HB3⟩
      case measure => simp [intOf]; omega
    · have e : i = xs.length := by omega
      have HE := Aside0.mk e
      clear e
      go_wp2
      go_ret
      exact ⟨_, rfl, by have := HI.out; rw [HE.out] at this; simpa using this, HB2.out⟩

set_option maxHeartbeats 1000000 in
theorem eqInt64S (v u : Value) (xs ys : List Int) (w : World) (hv : ReadI w v xs) (hu : ReadI w u ys) :
    Calls Try.prog 16 #[v, u] w fun e w' => e = .returned (.bool (xs == ys)) ∧ Below w.heap.size w w' := by
  obtain ⟨A, c, rfl, hc, hr⟩ := hv
  obtain ⟨A', c', rfl, hc', hr'⟩ := hu
  have hlx := hr.2.1
  have HR := Aside0.mk hr
  have HR' := Aside0.mk hr'
  clear hr hc hr' hc'
  by_cases hl : xs.length = ys.length
  · have h1 : ((xs.length : Int) != (ys.length : Int)) = false := by simp [hl]
    have HL := Aside0.mk hl
    clear hl
    go_enter Try.func16, Try.ntmps16
    go_wp2
    go_loopw [5] (fun v wr => ∃ i : Nat, v = .int .i64 i ∧ i ≤ xs.length ∧ Aside0 (xs.take i = ys.take i) ∧ Aside0 (Below w.heap.size w wr)) (fun v _ => xs.length - (intOf v).toNat)
    case atStart => exact ⟨0, rfl, Nat.zero_le _, ⟨rfl⟩, ⟨Below.refl _ _⟩⟩
    case round =>
      obtain ⟨i, rfl, hi, HI, HB2⟩ := hrel
      by_cases hlt : i < xs.length
      · obtain ⟨ad, x, e1, hcell, HX⟩ := ReadI.get (Kd.C_below HR.out HB2.out) hlt
        cases e1
        have hlt' : (i : Int) < (ys.length : Int) := by have := HL.out; omega
        obtain ⟨ad', y, e1, hcell', HY⟩ := ReadI.get (Kd.C_below HR'.out HB2.out) (i := i) (by have := HL.out; omega)
        cases e1
        cases hq : (x == y) with
        | true =>
          have hq' : (x != y) = false := by rw [bne, hq]; rfl
          have HQ := Aside0.mk hq
          clear hq
          go_wp2
          go_quiet (fail)
          go_wp2
          go_roundw
          case rel => exact ⟨i + 1, by go_num, by omega, ⟨by rw [take_get hlt HX.out, take_get (by omega) HY.out, HI.out, eq_of_beq HQ.out]⟩, ⟨below_drewN HB2.out _⟩⟩
          case measure => simp [intOf]; omega
        | false =>
          have hq' : (x != y) = true := by rw [bne, hq]; rfl
          have HQ := Aside0.mk hq
          clear hq
          go_wp2
          go_quiet (fail)
          go_wp2
          go_ret
          exact ⟨by
            have : (xs == ys) = false := by
              rw [beq_eq_false_iff_ne]
              rintro rfl
              have h3 := HQ.out
              rw [← HX.out, ← HY.out] at h3
              simp at h3
            rw [this]; rfl, below_drewN HB2.out _⟩
      · have e : i = xs.length := by omega
        have HE := Aside0.mk e
        clear e
        go_wp2
        go_ret
        exact ⟨by
          have h2 := HI.out
          rw [HE.out, List.take_length, HL.out, List.take_length] at h2
          rw [h2]; simp, HB2.out⟩
  · have h1 : ((xs.length : Int) != (ys.length : Int)) = true := by simp; omega
    go_enter Try.func16, Try.ntmps16
    go_wp2
    go_ret
    exact ⟨by
      have : (xs == ys) = false := by
        rw [beq_eq_false_iff_ne]
        rintro rfl
        exact hl rfl
      rw [this]; rfl, Below.refl _ _⟩
end Go.Proofs.Ythbkboigbkadjaa.H

namespace Go.Proofs.Ythbkboigbkadjaa.H
open Go.RowKit Go.Proofs.YthbkboigbkadjaaW.PrintWords Go.Proofs.YthbkboigbkadjaaW.PrintLast Go.Proofs.YthbkboigbkadjaaW.PrintMore
set_option linter.unusedVariables false
set_option linter.unusedSimpArgs false

/-- the slots d, d', .. filled with s k, s (k + 1), .. -/
def putAll : List Tmp → Nat → (Nat → Value) → Act → Act
  | [], _, _, a => a
  | d :: r, k, s, a => putAll r (k + 1) s (a.put (some d) (s k))
def upd (s : Nat → Value) (i : Nat) (v : Value) : Nat → Value := fun j => if j = i then v else s j

theorem putAll_congr : ∀ (ds : List Tmp) (k : Nat) (s s' : Nat → Value) (a : Act), (∀ j, k ≤ j → s j = s' j) → putAll ds k s a = putAll ds k s' a
  | [], _, _, _, _, _ => rfl
  | d :: r, k, s, s', a, h => by
    unfold putAll
    rw [h k (Nat.le_refl _)]
    exact putAll_congr r (k + 1) s s' _ (fun j hj => h j (by omega))
theorem putAll_out : ∀ (ds : List Tmp) (k : Nat) (s : Nat → Value) (a : Act) (d : Tmp) (v : Value), d ∉ ds → (putAll ds k s a).put (some d) v = putAll ds k s (a.put (some d) v)
  | [], _, _, _, _, _, _ => rfl
  | e :: r, k, s, a, d, v, h => by
    unfold putAll
    rw [List.mem_cons, not_or] at h
    rw [putAll_out r (k + 1) s _ d v h.2, put_comm (Ne.symm h.1)]
theorem put_put {a : Act} {d : Tmp} {u v : Value} : (a.put (some d) u).put (some d) v = a.put (some d) v := by
  simp [Act.put]
theorem putAll_put : ∀ (ds : List Tmp) (k : Nat) (s : Nat → Value) (a : Act) (i : Nat) (d : Tmp) (v : Value), ds.Nodup → k ≤ i → ds[i - k]? = some d → (putAll ds k s a).put (some d) v = putAll ds k (upd s i v) a
  | [], _, _, _, _, _, _, _, _, h => by cases h
  | e :: r, k, s, a, i, d, v, hn, hk, h => by
    rw [List.nodup_cons] at hn
    unfold putAll
    by_cases hi : i = k
    · subst hi
      rw [Nat.sub_self] at h
      cases h
      rw [putAll_out r (i + 1) s _ e v hn.1, put_put]
      have : upd s i v i = v := by simp [upd]
      rw [this]
      exact putAll_congr r (i + 1) _ _ _ (fun j hj => by simp [upd]; omega)
    · have e1 : i - k = (i - (k + 1)) + 1 := by omega
      rw [e1] at h
      rw [putAll_put r (k + 1) s _ i d v hn.2 (by omega) h]
      have : upd s i v k = s k := by simp [upd]; omega
      rw [this]
theorem putAll_self : ∀ (ds : List Tmp) (k : Nat) (s : Nat → Value) (a : Act), (∀ j d, ds[j]? = some d → a.tmps[d]? = some (s (k + j))) → putAll ds k s a = a
  | [], _, _, _, _ => rfl
  | d :: r, k, s, a, h => by
    unfold putAll
    have h0 := h 0 d rfl
    have e : a.put (some d) (s k) = a := by
      obtain ⟨hd, he⟩ := Array.getElem?_eq_some_iff.1 h0
      rw [Nat.add_zero] at he
      have e2 : a.tmps.setIfInBounds d a.tmps[d] = a.tmps := by
        refine Array.ext (by rw [Array.size_setIfInBounds]) (fun i h1 h2 => ?_)
        by_cases hi : d = i
        · subst hi; exact Array.getElem_setIfInBounds_self _
        · exact Array.getElem_setIfInBounds_ne _ hi
      rw [he] at e2
      show ({ tmps := a.tmps.setIfInBounds d (s k), defers := a.defers } : Act) = a
      rw [e2]
    rw [e]
    exact putAll_self r (k + 1) s a (fun j d' hj => by have := h (j + 1) d' hj; rwa [show k + (j + 1) = k + 1 + j by omega] at this)

def dsOf (l : List Oper) : List Tmp := l.map fun o => o.dst.getD 0
/-- the operations that each waits for, as bits -/
def mkB (T : List (List Nat × List Nat)) : List Nat := T.foldl (fun B r => B ++ [upM B B.length r.1]) []
def phiOk (l : List Oper) (B : List Nat) (n : Nat) : Bool :=
  l.all (fun o => o.dst.isSome) && l.all (fun o => o.guard.isNone) && decide (dsOf l).Nodup && (dsOf l).all (fun d => decide (d < n)) && waitsOk (rtab .any l.toArray).2 B && baseOk (rtab .any l.toArray).2 (List.range l.length)

/-- an operation that yields a value, or enters a call that returns one -/
def opGives (P : Program) (o : Oper) (ev : Operand → Value) (w : World) (R : Value → World → Prop) : Prop :=
  match (execOp ev o).run P w with
  | .ok (.value v) w' => R v w'
  | .ok (.enter f args) w' => Calls P f args w' fun e w'' => ∃ v, e = .returned v ∧ R v w''
  | _ => False
theorem opGives_value {P : Program} {o : Oper} {ev : Operand → Value} {w w' : World} {R : Value → World → Prop} {v : Value} (h : (execOp ev o).run P w = .ok (.value v) w') (hR : R v w') : opGives P o ev w R := by
  unfold opGives; rw [h]; exact hR
theorem opGives_call {P : Program} {o : Oper} {ev : Operand → Value} {w : World} {R : Value → World → Prop} {f : FuncId} {args : Array Value} (h : (execOp ev o).run P w = .ok (.enter f args) w) (hR : Calls P f args w fun e w'' => ∃ v, e = .returned v ∧ R v w'') : opGives P o ev w R := by
  unfold opGives; rw [h]; exact hR
theorem opGives_wp {P : Program} {o : Oper} {a : Act} {w : World} {K : Act → World → Prop} {Q : Exit → Act → World → Prop} (h : opGives P o a.eval w fun v w' => K (a.put o.dst v) w') : Oper.wp P o a w K Q := by
  unfold Oper.wp
  unfold opGives at h
  split at h
  · next h1 => rw [h1]; exact h
  · next f args w' h1 =>
    rw [h1]
    rw [Oper.upon_enter]
    refine h.mono fun e w'' hh => ?_
    obtain ⟨v, rfl, hK⟩ := hh
    exact hK
  · exact h.elim

/-- each step -/
def phiSteps (P : Program) (l : List Oper) (B : List Nat) (V : Nat → Value → World → Prop) (a : Act) (w : World) : Nat → List Oper → Prop
  | _, [] => True
  | i, o :: r => (∀ s w1, Below w.heap.size w w1 → (∀ j, ((List.range l.length).contains j && (B.getD i 0).testBit j) = true → V j (s j) w1) →
      ∀ R : Value → World → Prop, (∀ v w', Below w1.heap.size w1 w' → V i v w' → R v w') → opGives P o (putAll (dsOf l) 0 s a).eval w1 R) ∧ phiSteps P l B V a w (i + 1) r

theorem phiSteps_at {P : Program} {l : List Oper} {B : List Nat} {V : Nat → Value → World → Prop} {a : Act} {w : World} : ∀ (r : List Oper) (k : Nat), phiSteps P l B V a w k r → ∀ i o, r[i]? = some o →
    ∀ s w1, Below w.heap.size w w1 → (∀ j, ((List.range l.length).contains j && (B.getD (k + i) 0).testBit j) = true → V j (s j) w1) →
      ∀ R : Value → World → Prop, (∀ v w', Below w1.heap.size w1 w' → V (k + i) v w' → R v w') → opGives P o (putAll (dsOf l) 0 s a).eval w1 R
  | [], _, _, _, _, h => by cases h
  | x :: r, k, h, 0, o, ho => by cases ho; exact h.1
  | x :: r, k, h, i + 1, o, ho => by
    have := phiSteps_at r (k + 1) h.2 i o ho
    rwa [show k + 1 + i = k + (i + 1) by omega] at this

theorem wp_region_phi {P : Program} {id : Nat} {Q : Exit → Act → World → Prop} {a : Act} {w : World} {l : List Oper} (V : Nat → Value → World → Prop) (B : List Nat) (hm : P.follows .mixedOrders = true) (hok : phiOk l B a.tmps.size = true)
    (hV : ∀ i v w1 w2, Below w1.heap.size w1 w2 → V i v w1 → V i v w2)
    (hs : phiSteps P l B V a w 0 l)
    (hend : ∀ s w1, Below w.heap.size w w1 → (∀ i, i < l.length → V i (s i) w1) → Q .normal (putAll (dsOf l) 0 s a) w1) : (Code.region id l.toArray true).wp P Q a w := by
  simp only [phiOk, Bool.and_eq_true] at hok
  obtain ⟨⟨⟨⟨⟨h1, h0⟩, h2⟩, h3⟩, h4⟩, h5⟩ := hok
  have hnd : (dsOf l).Nodup := of_decide_eq_true h2
  have hTl : (rtab .any l.toArray).2.length = l.length := by rw [rtab_length]; simp
  have hds : ∀ (i : Nat) (o : Oper), l[i]? = some o → o.dst = some ((dsOf l)[i]?.getD 0) ∧ (dsOf l)[i]? = some (o.dst.getD 0) := by
    intro i o ho
    have e : (dsOf l)[i]? = some (o.dst.getD 0) := by simp [dsOf, ho]
    refine ⟨?_, e⟩
    have := List.all_eq_true.1 h1 o (List.mem_of_getElem? ho)
    rw [e]
    cases hd : o.dst with
    | none => rw [hd] at this; cases this
    | some d => rfl
  refine wp_region_last_drew (S := fun _ => True) (ds := []) hm trivial (fun _ => ?_)
  refine inv_ (T := rtab .any l.toArray) (B := B) (List.range l.length) (fun b a' w' => ∃ s, a' = putAll (dsOf l) 0 s a ∧ Below w.heap.size w w' ∧ ∀ i, i < l.length → b i = true → V i (s i) w') rfl h4 h5 ?_ ?_ ?_ ?_
  · rw [hTl, Bool.and_eq_true, beq_iff_eq, beq_iff_eq]
    refine ⟨?_, by simp⟩
    apply List.ext_getElem
    · simp [lof]
    · intro i hi1 hi2
      have hi : i < l.length := by simpa [lof] using hi1
      simp [lof, hi]
  · refine ⟨fun k => (a.tmps[(dsOf l)[k]?.getD 0]?).getD undef, ?_, (Below.refl _ _).drew, fun _ _ h => by cases h⟩
    refine (putAll_self _ _ _ _ (fun j d hj => ?_)).symm
    have hd := List.all_eq_true.1 h3 d (List.mem_of_getElem? hj)
    have hd' : d < a.tmps.size := of_decide_eq_true hd
    simp [hj, hd']
  · intro i hi b a' w' ⟨s, ha, hb, hv⟩ hbi hon hoff
    subst ha
    have hil : i < l.length := List.mem_range.1 hi
    have ho : l[i]? = some l[i] := List.getElem?_eq_getElem hil
    refine ⟨l[i], by simp, fun K hK => ?_⟩
    have hK' := Shut.out hK
    have hg : l[i].guard = none := by
      have := List.all_eq_true.1 h0 l[i] (List.mem_of_getElem? ho)
      cases hq : l[i].guard with
      | none => rfl
      | some g => rw [hq] at this; cases this
    rw [if_pos (by simp [Region.wanted, hg])]
    refine opGives_wp (phiSteps_at l 0 hs i _ ho s w' hb (fun j hj => hv j (by have h6 := (Bool.and_eq_true _ _ ▸ hj : _ ∧ _).1; simpa using h6) (hon j (by simpa using hj))) _ (fun v w2 hb2 hv2 => hK' _ _ ?_))
    refine ⟨upd s i v, ?_, hb.trans (hb2.mono hb.size), fun j hj hbj => ?_⟩
    · rw [(hds i _ ho).1, (hds i _ ho).2, Option.getD_some]
      exact putAll_put _ _ _ _ _ _ _ hnd (Nat.zero_le _) (by rw [Nat.sub_zero]; exact (hds i _ ho).2)
    · by_cases hji : j = i
      · subst hji
        have : upd s j v j = v := by simp [upd]
        rw [this]
        rw [Nat.zero_add] at hv2
        exact hv2
      · have : upd s i v j = s j := by simp [upd, hji]
        rw [this]
        rw [up_ne hji] at hbj
        exact hV _ _ _ _ hb2 (hv j hj hbj)
  · intro b a' w' hall ⟨s, ha, hb, hv⟩
    subst ha
    exact hend s w' hb (fun i hi => hv i hi (hall i (by simpa using hi)))
/-- what an operand reads -/
theorem eval_const (a : Act) (v : Value) : a.eval (.const v) = v := rfl
end Go.Proofs.Ythbkboigbkadjaa.H

namespace Go.Proofs.Ythbkboigbkadjaa.H
open Go.RowKit Go.Proofs.YthbkboigbkadjaaW.PrintWords Go.Proofs.YthbkboigbkadjaaW.PrintLast Go.Proofs.YthbkboigbkadjaaW.PrintMore
set_option linter.unusedVariables false
set_option linter.unusedSimpArgs false

theorem grown_trans {a b c : World} {r : Option Nat} (h : a.grownBy b r) (h' : b.grownBy c r) : a.grownBy c r :=
  ⟨h'.os.trans h.os, h'.tape.trans h.tape, h'.output.trans h.output, Nat.le_trans h.size h'.size, fun k hk hne => (h'.block k (Nat.lt_of_lt_of_le hk h.size) hne).trans (h.block k hk hne)⟩
theorem set_grown (w : World) (b i : Nat) (v : Value) : w.grownBy (w.setCell ⟨b, i, none⟩ v) (some b) :=
  ⟨rfl, rfl, rfl, by simp, fun k _ hne => Below.heap_setCell w ⟨b, i, none⟩ v k (fun e => hne (by rw [e]))⟩
/-- what is left of a size -/
def szAns (left : Int) (n : Nat) : Int := if left - n < 0 then -1 else left - n

theorem szInt64S (A : Option Addr) (n c : Nat) (left : Int) (w : World) (h0 : 0 ≤ left) (h1 : left ≤ 1048576) (hn : n ≤ 9223372036854775807) :
    Calls Try.prog 46 #[.slice A n c, .int .i64 left] w fun e w' => e = .returned (.int .i64 (szAns left n)) ∧ Below w.heap.size w w' := by
  by_cases h : left - n < 0
  · have HA : Aside0 (szAns left n = -1) := ⟨by unfold szAns; rw [if_pos h]⟩
    go_enter Try.func46, Try.ntmps46
    go_wp2
    go_ret
    exact ⟨by rw [HA.out]; rfl, Below.refl _ _⟩
  · have HA : Aside0 (szAns left n = left - n) := ⟨by unfold szAns; rw [if_neg h]⟩
    go_enter Try.func46, Try.ntmps46
    go_wp2
    go_ret
    exact ⟨by rw [HA.out]; rfl, Below.refl _ _⟩

theorem szComplex (a : Int) (u : Value) (l : List Int) (left : Int) (w : World) (hr : ReadI w u l) (h0 : 0 ≤ left) (h1 : left ≤ 1048576) :
    Calls Try.prog 9 #[.agg #[.int .i64 a, u], .int .i64 left] w fun e w' => e = .returned (.int .i64 (szAns left l.length)) ∧ Below w.heap.size w w' := by
  have hl := hr.len
  obtain ⟨A, c, rfl, -⟩ := id hr
  have hba : Below w.heap.size w (w.alloc (.cells #[.int .i64 a, .slice A l.length c] 24)) := Below.alloc (Below.refl _ _) (Nat.le_refl _) _
  clear hr
  by_cases h : left - l.length < 0
  · have HA : Aside0 (szAns left l.length = -1) := ⟨by unfold szAns; rw [if_pos h]⟩
    clear h
    go_enter Try.func9, Try.ntmps9
    go_wp2_with (first | (go_at_call 46; refine (szInt64S _ _ _ _ _ h0 h1 hl).mono ?_; rintro e w' ⟨rfl, hb⟩; rw [HA.out]))
    go_ret
    exact ⟨by rw [HA.out]; rfl, by (repeat (first | (with_reducible exact Below.refl _ _) | (with_reducible assumption) | (with_reducible refine below_step ?_ (by assumption)) | (with_reducible apply below_alloc) | (with_reducible apply below_drewN)))⟩
  · have HA : Aside0 (szAns left l.length = left - l.length) := ⟨by unfold szAns; rw [if_neg h]⟩
    go_enter Try.func9, Try.ntmps9
    go_wp2_with (first | (go_at_call 46; refine (szInt64S _ _ _ _ _ h0 h1 hl).mono ?_; rintro e w' ⟨rfl, hb⟩; rw [HA.out]))
    go_ret
    exact ⟨by rw [HA.out]; rfl, by (repeat (first | (with_reducible exact Below.refl _ _) | (with_reducible assumption) | (with_reducible refine below_step ?_ (by assumption)) | (with_reducible apply below_alloc) | (with_reducible apply below_drewN)))⟩

set_option maxHeartbeats 1000000 in
theorem toComplex (a : Int) (u : Value) (l : List Int) (w : World) (hr : ReadI w u l) (hl : l.length ≤ 35184372088832) :
    Calls Try.prog 11 #[.agg #[.int .i64 a, u]] w fun e w' => ∃ u', e = .returned (.agg #[.int .i64 a, u']) ∧ OwnI w.heap.size w' u' l ∧ Below w.heap.size w w' := by
  have HR := Aside0.mk hr
  obtain ⟨A, c, rfl, -⟩ := id hr
  clear hr
  obtain ⟨w0, hw0⟩ : ∃ w0, w0 = ((w.alloc (Obj.cells #[Value.int IntKind.i64 a, Value.slice A l.length c] 24)).alloc (Obj.cells #[Value.int IntKind.i64 0, Value.slice none 0 0] 28)).alloc (Obj.cells #[Value.int IntKind.i64 a, Value.slice none 0 0] 28) := ⟨_, rfl⟩
  have hs0 : w0.heap.size = w.heap.size + 1 + 1 + 1 := by rw [hw0]; simp
  have hb2 : w0.heap[w.heap.size + 1]? = some (Obj.cells #[Value.int IntKind.i64 0, Value.slice none 0 0] 28) := by
    rw [hw0, (World.grownBy_alloc _ _ none).block _ (by simp) (by simp)]
    have := heap_alloc_new (w.alloc (Obj.cells #[Value.int IntKind.i64 a, Value.slice A l.length c] 24)) (Obj.cells #[Value.int IntKind.i64 0, Value.slice none 0 0] 28)
    rwa [World.size_alloc] at this
  have hb3 : w0.heap[w.heap.size + 1 + 1]? = some (Obj.cells #[Value.int IntKind.i64 a, Value.slice none 0 0] 28) := by
    rw [hw0]
    have := heap_alloc_new ((w.alloc (Obj.cells #[Value.int IntKind.i64 a, Value.slice A l.length c] 24)).alloc (Obj.cells #[Value.int IntKind.i64 0, Value.slice none 0 0] 28)) (Obj.cells #[Value.int IntKind.i64 a, Value.slice none 0 0] 28)
    rwa [World.size_alloc, World.size_alloc] at this
  have hB0 : Below w.heap.size w w0 := by rw [hw0]; exact (((Below.refl _ w).alloc (Nat.le_refl _) _).alloc (by simp) _).alloc (by simp; omega) _
  have HB0 := Aside0.mk hB0
  clear hB0
  go_enter Try.func11, Try.ntmps11
  go_wp2_with (first | (rw [← hw0]; clear hw0; go_at_call 21; refine (toInt64S _ l _ (ReadI.below HR.out HB0.out) hl).mono ?_; rintro e w1 ⟨u', rfl, ho, hb⟩; obtain ⟨A', c', rfl, -⟩ := ho.read; have hk2 := (hb.block (w.heap.size + 1) (by omega)).trans hb2; have hk3 := (hb.block (w.heap.size + 1 + 1) (by omega)).trans hb3; have hn := ho.base; have h30 : w1.cell? ⟨w.heap.size + 1 + 1, 0, none⟩ = some (.int .i64 a) := (by simp [World.cell?, hk3]); have h31 : w1.cell? ⟨w.heap.size + 1 + 1, 1, none⟩ = some (.slice none 0 0) := (by simp [World.cell?, hk3]); have h3f : w1.frozen? ⟨w.heap.size + 1 + 1, 1, none⟩ = false := (by simp [World.frozen?, hk3]); have h20 : w1.cell? ⟨w.heap.size + 1, 0, none⟩ = some (.int .i64 0) := (by simp [World.cell?, hk2]); have h21 : w1.cell? ⟨w.heap.size + 1, 1, none⟩ = some (.slice none 0 0) := (by simp [World.cell?, hk2]); have h2f : w1.frozen? ⟨w.heap.size + 1, 0, none⟩ = false := (by simp [World.frozen?, hk2]); have h2g : w1.frozen? ⟨w.heap.size + 1, 1, none⟩ = false := (by simp [World.frozen?, hk2]); have HO := Aside0.mk ho; have HB1 := Aside0.mk hb; have HN := Aside0.mk hn; have HK2 := Aside0.mk hk2; clear ho hb hk2 hk3 hn))
  refine bodyPost_ret (results_cell_row rfl _ _ (w.heap.size + 1) 28 #[.int .i64 a, .slice A' l.length c'] (0, 0) _ rfl (by refine blk_put (cs := #[.int .i64 a, .slice none 0 0]) ?_ 1 _ rfl; refine blk_put (cs := #[.int .i64 0, .slice none 0 0]) ?_ 0 _ rfl; refine blk_far ?_ ?_ _; exact HK2.out; simp) Try.underlying28 rfl (by kernel_rfl)) rfl ?_
  have hb := HB0.out.trans (HB1.out.mono (by rw [hs0]; omega))
  refine ⟨_, rfl, ?_, ((hb.setCell (by simp; omega) _).setCell (by simp) _).setCell (by simp) _⟩
  have hn := HN.out
  rw [hs0] at hn
  have ho := HO.out.lower (b' := w.heap.size) (by rw [hs0]; omega)
  exact ((ho.grown (set_grown _ _ _ _) (fun k hk => by have := hn k hk; simp; omega)).grown (set_grown _ _ _ _) (fun k hk => by have := hn k hk; simp; omega)).grown (set_grown _ _ _ _) (fun k hk => by have := hn k hk; simp; omega)

set_option maxHeartbeats 1000000 in
theorem eqComplex (a b : Int) (u v : Value) (xs ys : List Int) (w : World) (hu : ReadI w u xs) (hv : ReadI w v ys) :
    Calls Try.prog 13 #[.agg #[.int .i64 a, u], .agg #[.int .i64 b, v]] w fun e w' => e = .returned (.bool (decide (a = b) && (xs == ys))) ∧ Below w.heap.size w w' := by
  have HU := Aside0.mk hu
  have HV := Aside0.mk hv
  obtain ⟨A, c, rfl, -⟩ := id hu
  obtain ⟨A', c', rfl, -⟩ := id hv
  clear hu hv
  by_cases hab : a = b
  · have h1 : (a != b) = false := by simp [hab]
    have HA := Aside0.mk hab
    clear hab
    cases hq : (xs == ys) with
    | true =>
      go_enter Try.func13, Try.ntmps13
      go_wp2_with (first | (go_at_call 16; refine (eqInt64S _ _ xs ys _ (ReadI.below HU.out ?hx) (ReadI.below HV.out ?hy)).mono ?_; (case hx => (repeat (first | (with_reducible exact Below.refl _ _) | (with_reducible assumption) | (with_reducible refine below_step ?_ (by assumption)) | (with_reducible apply below_alloc) | (with_reducible apply below_drewN)))); (case hy => (repeat (first | (with_reducible exact Below.refl _ _) | (with_reducible assumption) | (with_reducible refine below_step ?_ (by assumption)) | (with_reducible apply below_alloc) | (with_reducible apply below_drewN)))); rintro e w1 ⟨rfl, hb⟩; rw [hq]))
      go_ret
      exact ⟨by rw [HA.out, decide_eq_true rfl]; rfl, by (repeat (first | (with_reducible exact Below.refl _ _) | (with_reducible assumption) | (with_reducible refine below_step ?_ (by assumption)) | (with_reducible apply below_alloc) | (with_reducible apply below_drewN)))⟩
    | false =>
      go_enter Try.func13, Try.ntmps13
      go_wp2_with (first | (go_at_call 16; refine (eqInt64S _ _ xs ys _ (ReadI.below HU.out ?hx) (ReadI.below HV.out ?hy)).mono ?_; (case hx => (repeat (first | (with_reducible exact Below.refl _ _) | (with_reducible assumption) | (with_reducible refine below_step ?_ (by assumption)) | (with_reducible apply below_alloc) | (with_reducible apply below_drewN)))); (case hy => (repeat (first | (with_reducible exact Below.refl _ _) | (with_reducible assumption) | (with_reducible refine below_step ?_ (by assumption)) | (with_reducible apply below_alloc) | (with_reducible apply below_drewN)))); rintro e w1 ⟨rfl, hb⟩; rw [hq]))
      go_ret
      exact ⟨by rw [Bool.and_false]; rfl, by (repeat (first | (with_reducible exact Below.refl _ _) | (with_reducible assumption) | (with_reducible refine below_step ?_ (by assumption)) | (with_reducible apply below_alloc) | (with_reducible apply below_drewN)))⟩
  · have h1 : (a != b) = true := by simpa using hab
    have HA := Aside0.mk hab
    clear hab
    go_enter Try.func13, Try.ntmps13
    go_wp2
    go_ret
    exact ⟨by rw [decide_eq_false HA.out]; rfl, by (repeat (first | (with_reducible exact Below.refl _ _) | (with_reducible assumption) | (with_reducible refine below_step ?_ (by assumption)) | (with_reducible apply below_alloc) | (with_reducible apply below_drewN)))⟩

/-- marked from k on -/
def marks (k : Int) (n : Nat) : List Int := (List.range n).map fun i : Nat => k + i
theorem marks_succ (k : Int) (n : Nat) : marks k (n + 1) = marks k n ++ [k + n] := by simp [marks, List.range_succ]
theorem marks_len (k : Int) (n : Nat) : (marks k n).length = n := by simp [marks]
theorem marks_set {k : Int} {xs : List Int} {i : Nat} (h : i < xs.length) : (marks k i ++ xs.drop i).set i (k + i) = marks k (i + 1) ++ xs.drop (i + 1) := by
  rw [List.set_append_right _ _ (by rw [marks_len]; exact Nat.le_refl _), marks_len, Nat.sub_self, List.drop_eq_getElem_cons h, List.set_cons_zero, marks_succ]
  simp
theorem marks_at (k : Int) {n i : Nat} (h : i < n) : (marks k n).getD i 0 = k + i := by
  simp [marks, List.getD_eq_getElem?_getD, h]

set_option maxHeartbeats 1000000 in
theorem markInt64S (b : Nat) (v : Value) (xs : List Int) (k : Nat) (w : World) (ho : OwnI b w v xs) (hk : k ≤ 1073741824) (hl : xs.length ≤ 1073741824) :
    Calls Try.prog 18 #[v, .int .i64 k] w fun e w' => e = .returned (.int .i64 ((k : Int) + xs.length)) ∧ OwnI b w' v (marks k xs.length) ∧ w.grownBy w' v.ownBlock ∧ Below b w w' := by
  have HO := Aside0.mk ho
  obtain ⟨A, c, rfl, -⟩ := ho.read
  clear ho
  go_enter Try.func18, Try.ntmps18
  go_wp2
  go_loopw [1, 5] (fun vk vi wr => ∃ i : Nat, vi = .int .i64 i ∧ vk = .int .i64 ((k : Int) + i) ∧ i ≤ xs.length ∧ Aside0 (OwnI b wr (.slice A xs.length c) (marks k i ++ xs.drop i)) ∧ Aside0 (w.grownBy wr (Value.slice A xs.length c).ownBlock) ∧ Aside0 (Below b w wr)) (fun _ vi _ => xs.length - (intOf vi).toNat)
  case atStart => exact ⟨0, rfl, by simp, Nat.zero_le _, by simpa [marks] using HO, ⟨⟨rfl, rfl, rfl, Nat.le_refl _, fun _ _ _ => rfl⟩⟩, ⟨Below.refl _ _⟩⟩
  case round =>
    obtain ⟨i, rfl, rfl, hi, HI, HG, HB⟩ := hrel
    by_cases hlt : i < xs.length
    · obtain ⟨g, cap, e2, -⟩ := Kd.R_form HI.out (by simp [marks_len]; omega)
      have el : (marks k i ++ xs.drop i).length = xs.length := by rw [List.length_append, marks_len, List.length_drop]; omega
      rw [el] at e2
      cases e2
      obtain ⟨⟨y0, hcell2⟩, hf2⟩ := OwnI.slot HI.out (i := i) (by omega)
      have HM := Aside0.mk (marks_set (k := (k : Int)) hlt)
      clear el
      go_wp2_with (first | ((with_reducible refine gate_store (t := 2) (p := 15) rfl ?_); refine store_own (w0 := w) rfl (p := 15) rfl rfl i ((k : Int) + i) HI.out ?ha ?hb ?hc ?_; (case ha => omega); (case hb => rfl); (case hc => rfl); intro w' ho hg hb; have HO2 := Aside0.mk ho; have HB3 := Aside0.mk (HB.out.trans hb); have HG3 := Aside0.mk (grown_trans HG.out hg); clear ho hg hb))
      go_roundw
      case rel => exact ⟨i + 1, by go_num, by go_num, by omega, ⟨by rw [← HM.out]; exact HO2.out⟩, HG3, HB3⟩
      case measure => simp [intOf]; omega
    · have e : i = xs.length := by omega
      have HE := Aside0.mk e
      clear e
      go_wp2
      go_ret
      exact ⟨by rw [HE.out]; rfl, by have := HI.out; rw [HE.out, List.drop_length, List.append_nil] at this; exact this, HG.out, HB.out⟩

set_option maxHeartbeats 1000000 in
theorem heldInt64S (v : Value) (k n : Nat) (w : World) (hr : ReadI w v (marks k n)) (hk : k ≤ 1073741824) (hl : n ≤ 1073741824) :
    Calls Try.prog 19 #[v, .int .i64 k] w fun e w' => e = .returned (.int .i64 ((k : Int) + n)) ∧ Below w.heap.size w w' := by
  obtain ⟨A, c, rfl, hc, hr⟩ := hr
  have HR := Aside0.mk hr
  rw [marks_len]
  have hlen := marks_len (k : Int) n
  rw [marks_len] at hc
  clear hr
  go_enter Try.func19, Try.ntmps19
  go_wp2
  go_loopw [1, 5] (fun vk vi wr => ∃ i : Nat, vi = .int .i64 i ∧ vk = .int .i64 ((k : Int) + i) ∧ i ≤ n ∧ Aside0 (Below w.heap.size w wr)) (fun _ vi _ => n - (intOf vi).toNat)
  case atStart => exact ⟨0, rfl, by simp, Nat.zero_le _, ⟨Below.refl _ _⟩⟩
  case round =>
    obtain ⟨i, rfl, rfl, hi, HB⟩ := hrel
    by_cases hlt : i < n
    · obtain ⟨ad, y, e1, hcell, HY⟩ := ReadI.get (Kd.C_below HR.out HB.out) (i := i) (by omega)
      cases e1
      have hy := HY.out
      rw [marks_at _ hlt] at hy
      rw [← hy] at hcell
      clear hy
      go_wp2
      go_roundw
      case rel => exact ⟨i + 1, by go_num, by go_num, by omega, HB⟩
      case measure => simp [intOf]; omega
    · have e : i = n := by omega
      have HE := Aside0.mk e
      clear e
      go_wp2
      go_ret
      exact ⟨by rw [HE.out]; rfl, HB.out⟩
end Go.Proofs.Ythbkboigbkadjaa.H

namespace Go.Proofs.Ythbkboigbkadjaa.H
open Go.RowKit Go.Proofs.YthbkboigbkadjaaW.PrintWords Go.Proofs.YthbkboigbkadjaaW.PrintLast Go.Proofs.YthbkboigbkadjaaW.PrintMore
set_option linter.unusedVariables false
set_option linter.unusedSimpArgs false

/-- the least index at which p holds, -1 if there is none -/
def idx {α : Type} (p : α → Bool) (xs : List α) : Int := if xs.findIdx p < xs.length then (xs.findIdx p : Int) else -1

/-- a function value of one int that answers a bool, and makes memory at the most -/
def PredI (w : World) (fv : Value) (p : Int → Bool) (dom : Int → Prop) : Prop :=
  ∃ g first caps, fv = .func (.func g) first caps ∧ Enters g ∧ ∀ w1 x, Below w.heap.size w w1 → dom x → Calls Try.prog g (first ++ #[.int .i64 x] ++ caps) w1 fun e w2 => e = .returned (.bool (p x)) ∧ Below w1.heap.size w1 w2

theorem idx_found {p : Int → Bool} {xs : List Int} {i : Nat} (hi : i < xs.length) (h0 : ∀ j, j < i → p (xs.getD j 0) = false) (h1 : p (xs.getD i 0) = true) : idx p xs = i := by
  have e : xs.findIdx p = i := by
    rw [List.findIdx_eq hi]
    refine ⟨by simpa [List.getD_eq_getElem?_getD, hi] using h1, fun j hj => ?_⟩
    have := h0 j hj
    simpa [List.getD_eq_getElem?_getD, Nat.lt_trans hj hi] using this
  unfold idx; rw [e, if_pos hi]
theorem idx_none {p : Int → Bool} {xs : List Int} (h0 : ∀ j, j < xs.length → p (xs.getD j 0) = false) : idx p xs = -1 := by
  have e : ¬ xs.findIdx p < xs.length := by
    rw [List.findIdx_lt_length]
    rintro ⟨x, hx, hp⟩
    obtain ⟨j, hj, rfl⟩ := List.getElem_of_mem hx
    have := h0 j hj
    simp [List.getD_eq_getElem?_getD, hj] at this
    rw [this] at hp; cases hp
  unfold idx; rw [if_neg e]

set_option maxHeartbeats 1000000 in
theorem indexFunc (v : Value) (xs : List Int) (fv : Value) (p : Int → Bool) (dom : Int → Prop) (w : World)
    (hr : ReadI w v xs) (hp : PredI w fv p dom) (hd : ∀ x ∈ xs, dom x) :
    Calls Try.prog 188 #[v, fv] w fun e w' => e = .returned (.int .i64 (idx p xs)) ∧ Below w.heap.size w w' := by
  obtain ⟨g, first, caps, rfl, hent, hp⟩ := hp
  obtain ⟨A, c, rfl, hc, hr⟩ := hr
  have HR := Aside0.mk hr
  have HP := Aside0.mk hp
  have HD := Aside0.mk hd
  have hlen : xs.length ≤ 9223372036854775807 := hr.2.1
  unfold Enters at hent
  clear hr hc hp hd
  go_enter Try.func188, Try.ntmps188
  go_wp2
  go_loopw [8] (fun v wr => ∃ i : Nat, v = .int .i64 i ∧ i ≤ xs.length ∧ Aside0 (∀ j, j < i → p (xs.getD j 0) = false) ∧ Below w.heap.size w wr) (fun v _ => xs.length - (intOf v).toNat)
  case atStart => exact ⟨0, rfl, Nat.zero_le _, ⟨fun j hj => absurd hj (Nat.not_lt_zero _)⟩, Below.refl _ _⟩
  case round =>
    obtain ⟨i, rfl, hi, HN, hb⟩ := hrel
    have hR := Kd.C_below HR.out hb
    by_cases hlt : i < xs.length
    · obtain ⟨ad, e1, hcell⟩ := Kd.at_int hR (i : Int) (by omega) (by omega)
      cases e1
      have hx : dom (xs.getD i 0) := HD.out _ (by simp [List.getD_eq_getElem?_getD, hlt])
      have hrd : rd xs (i : Int) = xs.getD i 0 := by simp [rd]
      rw [hrd] at hcell
      simp only [Int.toNat_natCast] at hcell
      have HX := Aside0.mk hx
      have HB := Aside0.mk hb
      clear hx hrd hb hR
      generalize hy : xs.getD i 0 = y at *
      have HY := Aside0.mk hy
      clear hy
      cases hpy : p y with
      | false =>
        go_wp2_with (first | (refine (HP.out _ _ HB.out HX.out).mono ?_; rintro e w' ⟨rfl, hb2⟩))
        go_roundw
        case rel => exact ⟨i + 1, by go_num, by omega, ⟨fun j hj => by
          rcases Nat.lt_succ_iff_lt_or_eq.1 hj with h | rfl
          · exact HN.out j h
          · rw [HY.out]; exact hpy⟩, HB.out.trans (hb2.mono HB.out.size)⟩
        case measure => simp [intOf]; omega
      | true =>
        go_wp2_with (first | (refine (HP.out _ _ HB.out HX.out).mono ?_; rintro e w' ⟨rfl, hb2⟩))
        go_ret
        exact ⟨by rw [idx_found hlt HN.out (by rw [HY.out]; exact hpy)]; rfl, HB.out.trans (hb2.mono HB.out.size)⟩
    · go_wp2
      go_ret
      exact ⟨by rw [idx_none (fun j hj => HN.out j (by omega))]; rfl, hb⟩

theorem idx_any {p : Int → Bool} {xs : List Int} : decide (0 ≤ idx p xs) = xs.any p := by
  unfold idx
  cases h : xs.any p with
  | true =>
    have : xs.findIdx p < xs.length := by rw [List.findIdx_lt_length]; simpa using h
    rw [if_pos this]; simp
  | false =>
    have : ¬ xs.findIdx p < xs.length := by rw [List.findIdx_lt_length]; simpa using h
    rw [if_neg this]; simp

set_option maxHeartbeats 1000000 in
theorem containsFunc (v : Value) (xs : List Int) (fv : Value) (p : Int → Bool) (dom : Int → Prop) (w : World)
    (hr : ReadI w v xs) (hp : PredI w fv p dom) (hd : ∀ x ∈ xs, dom x) :
    Calls Try.prog 159 #[v, fv] w fun e w' => e = .returned (.bool (xs.any p)) ∧ Below w.heap.size w w' := by
  have HR := Aside0.mk hr
  have HP := Aside0.mk hp
  have HD := Aside0.mk hd
  clear hp hd
  obtain ⟨A, c, rfl, -⟩ := id hr
  clear hr
  go_enter Try.func159, Try.ntmps159
  go_wp2_with (first | (go_at_call 188; refine (indexFunc _ _ _ _ _ _ HR.out HP.out HD.out).mono ?_; rintro e w' ⟨rfl, hb2⟩))
  go_ret
  exact ⟨by simp [← idx_any], hb2⟩

/-- areAll's own closure -/
theorem areAll1 (w : World) (b : Nat) (fv : Value) (p : Int → Bool) (dom : Int → Prop) (hc : w.cell? ⟨b, 0, none⟩ = some fv) (hp : PredI w fv p dom) :
    PredI w (.func (.func 160) #[] #[.pointer (some ⟨b, 0, none⟩)]) (fun x => !p x) dom := by
  refine ⟨_, _, _, rfl, Enters.mk' Try.func160 rfl rfl, fun w1 x hb hx => ?_⟩
  obtain ⟨g, first, caps, rfl, hent, hp⟩ := hp
  have hcell : w1.cell? ⟨b, 0, none⟩ = some (.func (.func g) first caps) := pw_cell_below hb hc
  have H := Aside0.mk (hp w1 x hb hx)
  unfold Enters at hent
  clear hp hb hx hc
  show Calls _ _ #[_, _] _ _
  go_enter Try.func160, Try.ntmps160
  go_wp2_with (first | (refine H.out.mono ?_; rintro e w' ⟨rfl, hb2⟩))
  go_ret
  exact ⟨by simp, hb2⟩

theorem PredI.below {w w' : World} {fv : Value} {p : Int → Bool} {dom : Int → Prop} (h : PredI w fv p dom) (hb : Below w.heap.size w w') : PredI w' fv p dom := by
  obtain ⟨g, first, caps, rfl, hent, hp⟩ := h
  exact ⟨g, first, caps, rfl, hent, fun w1 x h1 hx => hp w1 x (hb.trans (h1.mono hb.size)) hx⟩

set_option maxHeartbeats 1000000 in
theorem areAll (v : Value) (xs : List Int) (fv : Value) (p : Int → Bool) (dom : Int → Prop) (w : World)
    (hr : ReadI w v xs) (hp : PredI w fv p dom) (hd : ∀ x ∈ xs, dom x) :
    Calls Try.prog 114 #[v, fv] w fun e w' => e = .returned (.bool (xs.all p)) ∧ Below w.heap.size w w' := by
  obtain ⟨g, first, caps, rfl, -⟩ := id hp
  have hba : Below w.heap.size w (w.alloc (.cells #[.func (.func g) first caps] 74)) := Below.alloc (Below.refl _ _) (Nat.le_refl _) _
  have HR := Aside0.mk (hr.below hba)
  have HP := Aside0.mk (areAll1 (w.alloc (.cells #[.func (.func g) first caps] 74)) w.heap.size _ p dom (by simp) (hp.below hba))
  have HD := Aside0.mk hd
  have HB := Aside0.mk hba
  obtain ⟨A, c, rfl, -⟩ := id hr
  clear hr hp hd hba
  go_enter Try.func114, Try.ntmps114
  go_wp2_with (first | (go_at_call 159; refine (containsFunc _ _ _ _ _ _ HR.out HP.out HD.out).mono ?_; rintro e w' ⟨rfl, hb2⟩))
  go_ret
  exact ⟨by simp [List.all_eq_not_any_not], HB.out.trans (hb2.mono HB.out.size)⟩
end Go.Proofs.Ythbkboigbkadjaa.H

namespace Go.Proofs.Ythbkboigbkadjaa.H
open Go.RowKit Go.Proofs.YthbkboigbkadjaaW.PrintWords Go.Proofs.YthbkboigbkadjaaW.PrintLast Go.Proofs.YthbkboigbkadjaaW.PrintMore
set_option linter.unusedVariables false
set_option linter.unusedSimpArgs false

theorem add_mk (g i : Nat) : (⟨g, 0, none⟩ : Addr).add i = ⟨g, i, none⟩ := by
  unfold Addr.add
  split
  · next h => subst h; rfl
  · simp
theorem OwnI.put {b g n cap : Nat} {W : World} {xs : List Int} (HO : OwnI b W (.slice (some ⟨g, 0, none⟩) n cap) xs) (i : Nat) (x : Int) : OwnI b (W.setCell ⟨g, i, none⟩ (.int .i64 x)) (.slice (some ⟨g, 0, none⟩) n cap) (xs.set i x) := by
  have hp := Kd.R_putg HO (i : Int) x
  simp only [Int.toNat_natCast] at hp
  exact hp.1
theorem OwnI.drewN {b : Nat} {W : World} {v : Value} {xs : List Int} (HO : OwnI b W v xs) (q : Nat) : OwnI b (W.drewN q) v xs := HO.below (below_drewN (Below.refl _ _) q)
theorem zero_set {l : List Int} {n i : Nat} (hl : l.length = n) (h : i < n) : (List.replicate i (0 : Int) ++ l.drop i).set i 0 = List.replicate (i + 1) 0 ++ l.drop (i + 1) := by
  rw [List.set_append_right _ _ (by simp), List.length_replicate, Nat.sub_self, List.drop_eq_getElem_cons (by omega), List.set_cons_zero, List.replicate_succ']
  simp
theorem length_any (A : Option Addr) (n c : Nat) (w : World) :
    Calls Try.prog 109 #[.slice A n c] w fun e w' => e = .returned (.int .i64 n) ∧ Below w.heap.size w w' := by
  go_enter Try.func109, Try.ntmps109
  go_wp2
  go_ret
  exact ⟨rfl, Below.refl _ _⟩

theorem specIn (a b c : Int) (w : World) : Calls Try.prog 100 #[.int .i64 a, .int .i64 b, .int .i64 c] w fun e w' => e = .returned (.bool (decide (b ≤ a) && decide (a ≤ c))) ∧ Below w.heap.size w w' := by
  go_enter Try.func100, Try.ntmps100
  go_wp2
  all_goals go_ret
  all_goals exact ⟨by simp [*] <;> omega, Below.refl _ _⟩

theorem within (a b c : Int) (w : World) : Calls Try.prog 98 #[.int .i64 a, .int .i64 b, .int .i64 c] w fun e w' => e = .returned (.bool (decide (b ≤ a) && decide (a ≤ c))) ∧ Below w.heap.size w w' := by
  go_enter Try.func98, Try.ntmps98
  go_wp2
  all_goals go_ret
  all_goals exact ⟨by simp [*] <;> omega, Below.refl _ _⟩

theorem isSize (a : Int) (w : World) : Calls Try.prog 113 #[.int .i64 a] w fun e w' => e = .returned (.bool (decide (1 ≤ a) && decide (a ≤ 6))) ∧ Below w.heap.size w w' := by
  go_enter Try.func113, Try.ntmps113
  go_wp2_with (first | (go_at_call 98; refine (within _ _ _ _).mono ?_; rintro e w' ⟨rfl, hb⟩))
  go_ret
  exact ⟨rfl, hb⟩

end Go.Proofs.Ythbkboigbkadjaa.H

namespace Go.Proofs.Ythbkboigbkadjaa.H
open Go.RowKit Go.Proofs.YthbkboigbkadjaaW.PrintWords Go.Proofs.YthbkboigbkadjaaW.PrintLast Go.Proofs.YthbkboigbkadjaaW.PrintMore
set_option linter.unusedVariables false
set_option linter.unusedSimpArgs false

theorem wrap_small {n : Nat} (h : n < 9223372036854775808) : IntKind.i64.wrap (n : Int) = n := IntWalk.i64_in _ (by omega)
theorem ofInt_nat {a : Nat} (h : a < 9223372036854775808) : (BitVec.ofInt 64 (a : Int)).toNat = a := by
  rw [BitVec.ofInt_natCast, BitVec.toNat_ofNat]; exact Nat.mod_eq_of_lt (by omega)
theorem and_i64 (a b : Nat) (ha : a < 9223372036854775808) (hb : b < 9223372036854775808) : bits .and .i64 (a : Int) (b : Int) = ((a &&& b : Nat) : Int) := by
  have hx : a &&& b < 2 ^ 63 := Nat.and_lt_two_pow _ (by omega)
  show IntKind.i64.wrap ((BitVec.ofInt 64 (a : Int) &&& BitVec.ofInt 64 (b : Int)).toNat : Int) = _
  rw [BitVec.toNat_and, ofInt_nat ha, ofInt_nat hb, wrap_small (by omega)]
theorem or_i64 (a b : Nat) (ha : a < 9223372036854775808) (hb : b < 9223372036854775808) : bits .or .i64 (a : Int) (b : Int) = ((a ||| b : Nat) : Int) := by
  have hx : a ||| b < 2 ^ 63 := Nat.or_lt_two_pow (by omega) (by omega)
  show IntKind.i64.wrap ((BitVec.ofInt 64 (a : Int) ||| BitVec.ofInt 64 (b : Int)).toNat : Int) = _
  rw [BitVec.toNat_or, ofInt_nat ha, ofInt_nat hb, wrap_small (by omega)]
theorem xor_i64 (a b : Nat) (ha : a < 9223372036854775808) (hb : b < 9223372036854775808) : bits .xor .i64 (a : Int) (b : Int) = ((a ^^^ b : Nat) : Int) := by
  have hx : a ^^^ b < 2 ^ 63 := Nat.xor_lt_two_pow (by omega) (by omega)
  show IntKind.i64.wrap ((BitVec.ofInt 64 (a : Int) ^^^ BitVec.ofInt 64 (b : Int)).toNat : Int) = _
  rw [BitVec.toNat_xor, ofInt_nat ha, ofInt_nat hb, wrap_small (by omega)]
theorem andNot_i64 (a b : Nat) (ha : a < 9223372036854775808) (hb : b < 9223372036854775808) : bits .andNot .i64 (a : Int) (b : Int) = ((a ^^^ (a &&& b) : Nat) : Int) := by
  have hx : a &&& b < 2 ^ 63 := Nat.and_lt_two_pow _ (by omega)
  have hy : a ^^^ (a &&& b) < 2 ^ 63 := Nat.xor_lt_two_pow (by omega) hx
  have e : (BitVec.ofInt 64 (a : Int) &&& ~~~ BitVec.ofInt 64 (b : Int)) = (BitVec.ofInt 64 (a : Int) ^^^ (BitVec.ofInt 64 (a : Int) &&& BitVec.ofInt 64 (b : Int))) := by
    apply BitVec.eq_of_getElem_eq
    intro i hi
    simp only [BitVec.getElem_and, BitVec.getElem_not, BitVec.getElem_xor]
    cases (BitVec.ofInt 64 (a : Int))[i] <;> cases (BitVec.ofInt 64 (b : Int))[i] <;> rfl
  show IntKind.i64.wrap ((BitVec.ofInt 64 (a : Int) &&& ~~~ BitVec.ofInt 64 (b : Int)).toNat : Int) = _
  rw [e, BitVec.toNat_xor, BitVec.toNat_and, ofInt_nat ha, ofInt_nat hb, wrap_small (by omega)]
/-- a digit in base 2 -/
theorem bit_of (f k : Nat) (hf : f < 9223372036854775808) : bits .and .i64 ((f : Int) / 2 ^ k) 1 = if f.testBit k then 1 else 0 := by
  have e : ((f : Int) / 2 ^ k) = ((f / 2 ^ k : Nat) : Int) := by simp
  have hd : f / 2 ^ k ≤ f := Nat.div_le_self _ _
  rw [e, show (1 : Int) = ((1 : Nat) : Int) from rfl, and_i64 _ _ (by omega) (by omega), Nat.and_one_is_mod, Nat.testBit_eq_decide_div_mod_eq]
  have : f / 2 ^ k % 2 = 0 ∨ f / 2 ^ k % 2 = 1 := by omega
  rcases this with h | h <;> simp [h]
theorem pow_wrap : ∀ v, v < 7 → wrap64 ((2 : Int) ^ v) = ((2 ^ v : Nat) : Int) := by
  intro v hv
  rcases (by omega : v = 0 ∨ v = 1 ∨ v = 2 ∨ v = 3 ∨ v = 4 ∨ v = 5 ∨ v = 6) with rfl | rfl | rfl | rfl | rfl | rfl | rfl <;> (unfold wrap64; decide)
theorem pow_wrap' (v : Nat) (h : v < 7) : IntKind.i64.wrap ((2 : Int) ^ v) = ((2 ^ v : Nat) : Int) := by
  have hb : 2 ^ v ≤ 64 := by
    rcases (by omega : v = 0 ∨ v = 1 ∨ v = 2 ∨ v = 3 ∨ v = 4 ∨ v = 5 ∨ v = 6) with rfl | rfl | rfl | rfl | rfl | rfl | rfl <;> decide
  rw [show ((2 : Int) ^ v) = ((2 ^ v : Nat) : Int) by simp]
  exact wrap_small (by omega)
theorem pow_bd (v : Nat) (h : v ≤ 5) : 2 ^ v ≤ 32 := by
  rcases (by omega : v = 0 ∨ v = 1 ∨ v = 2 ∨ v = 3 ∨ v = 4 ∨ v = 5) with rfl | rfl | rfl | rfl | rfl | rfl <;> decide
end Go.Proofs.Ythbkboigbkadjaa.H
