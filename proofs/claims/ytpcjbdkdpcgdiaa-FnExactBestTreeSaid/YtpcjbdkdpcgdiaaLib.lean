/- What is said of slices of int64 and of function values; worlds in which nothing old has turned. -/
import Derived.Test.YtpcjbdkdpcgdiaaProg
import Derived.Below
import Derived.Deep.Draws
import Derived.OwnWalk
import Derived.Laws.MakeOwn
import Derived.Laws.OwnMore
import Derived.Tactics
import Derived.Laws.Slices
import Derived.WalkKit
import Derived.KernelRfl
import Derived.RowKit3
import Derived.Deep.LoopGhost
import Derived.Deep.QuietTactic
import Derived.BigQuiet
import Derived.WideLaws
import Derived.Laws.Rows
import Derived.RowKit
import Derived.Test.YtpcjbdkdpcgdiaaWWords
import Derived.Test.YtpcjbdkdpcgdiaaWLast
import Derived.Test.YtpcjbdkdpcgdiaaWMore
namespace Go.Proofs.Ytpcjbdkdpcgdiaa.H
open Go.RowKit Go.Proofs.YtpcjbdkdpcgdiaaW.PrintWords Go.Proofs.YtpcjbdkdpcgdiaaW.PrintLast Go.Proofs.YtpcjbdkdpcgdiaaW.PrintMore
set_option linter.unusedVariables false
set_option linter.unusedSimpArgs false

theorem below_drewN {B : Nat} {w W : World} (h : Below B w W) (n : Nat) : Below B w (W.drewN n) := ⟨h.os, h.tape, h.output, h.size, h.block⟩
theorem info64 : (Try.prog.info? 2).map (fun i => (i.zero, i.size, i.bytes)) = some (some (.int .i64 0), 1, 8) := by kernel_rfl

/-- a slice of numbers that can be read -/
def ReadI (w : World) (v : Value) (xs : List Int) : Prop := ∃ A c, v = .slice A xs.length c ∧ xs.length ≤ c ∧ Kd.C (Kd.int .i64) w A xs.length xs
/-- a slice of numbers that lies in a block of its own, from block b on -/
def OwnI (b : Nat) (w : World) (v : Value) (xs : List Int) : Prop := Kd.R (Kd.int .i64) 2 w b (fun _ => True) v xs

theorem ReadI.below {w w' : World} {v : Value} {xs : List Int} (h : ReadI w v xs) (hb : Below w.heap.size w w') : ReadI w' v xs := by
  obtain ⟨A, c, rfl, hc, hr⟩ := h
  exact ⟨A, c, rfl, hc, Kd.C_below hr hb⟩
theorem ReadI.len {w : World} {v : Value} {xs : List Int} (h : ReadI w v xs) : xs.length ≤ 9223372036854775807 := by
  obtain ⟨A, c, rfl, hc, hr⟩ := h
  exact hr.2.1
theorem ReadI.nil (w : World) : ReadI w (.slice none 0 0) [] := ⟨none, 0, rfl, Nat.le_refl _, rfl, by decide, fun h => absurd h (by decide)⟩
theorem ReadI.at_ {w : World} {A : Option Addr} {xs : List Int} (h : Kd.C (Kd.int .i64) w A xs.length xs) {i : Nat} (hi : i < xs.length) :
    ∃ ad, A = some ad ∧ w.cell? (ad.add i) = some (.int .i64 (xs.getD i 0)) := by
  obtain ⟨ad, e, hc⟩ := Kd.at_int h (i : Int) (by omega) (by omega)
  exact ⟨ad, e, by simpa [rd] using hc⟩
theorem ReadI.get {w : World} {A : Option Addr} {xs : List Int} (h : Kd.C (Kd.int .i64) w A xs.length xs) {i : Nat} (hi : i < xs.length) :
    ∃ ad y, A = some ad ∧ w.cell? (ad.add i) = some (.int .i64 y) ∧ Aside0 (xs.getD i 0 = y) := by
  obtain ⟨ad, e, hc⟩ := ReadI.at_ h hi
  exact ⟨ad, _, e, hc, ⟨rfl⟩⟩
theorem take_get {xs : List Int} {i : Nat} {y : Int} (h : i < xs.length) (hy : xs.getD i 0 = y) : xs.take (i + 1) = xs.take i ++ [y] := by
  rw [List.take_succ_eq_append_getElem h, ← hy]; simp [List.getD_eq_getElem?_getD, h]
theorem OwnI.read {b : Nat} {w : World} {v : Value} {xs : List Int} (h : OwnI b w v xs) : ReadI w v xs := by
  obtain ⟨A, c, e, hl, hr⟩ := Kd.R_reads h
  exact ⟨A, c, e, hl, hr⟩
theorem OwnI.below {b : Nat} {w w' : World} {v : Value} {xs : List Int} (h : OwnI b w v xs) (hb : Below w.heap.size w w') : OwnI b w' v xs := Kd.R_below h hb
theorem OwnI.lower {b b' : Nat} {w : World} {v : Value} {xs : List Int} (h : OwnI b w v xs) (hb : b' ≤ b) : OwnI b' w v xs := Kd.R_lower h hb
theorem OwnI.nil (b : Nat) (w : World) : OwnI b w (.slice none 0 0) [] := Kd.R_nil _ _ _ _ _
theorem OwnI.base {b : Nat} {w : World} {v : Value} {xs : List Int} (h : OwnI b w v xs) : ∀ k, v.ownBlock = some k → b ≤ k := by
  obtain ⟨inner, ho⟩ := Kd.R_own h
  exact fun k hk => own_base ho k hk
theorem OwnI.lt {b : Nat} {w : World} {v : Value} {xs : List Int} (h : OwnI b w v xs) : ∀ k, v.ownBlock = some k → k < w.heap.size := by
  obtain ⟨inner, ho⟩ := Kd.R_own h
  exact fun k hk => own_lt ho k hk
/-- out of the kit's own word -/
theorem OwnI.of_row {b b' : Nat} {w : World} {v : Value} {xs : List Int} (h : w.ownsRow b 2 1 v xs.length (xs.map (Value.int .i64))) (hb : b' ≤ b) : OwnI b' w v xs := by
  refine ⟨fun _ _ => trivial, xs.map (Value.int .i64), own_less h hb, by rw [List.length_map]; exact (Nat.mul_one _).symm, fun j p hj => ?_⟩
  show ((xs.map (Value.int .i64)).drop (j * 1)).take 1 = [Value.int .i64 p]
  rw [Nat.mul_one, ← List.map_drop, ← List.map_take]
  have : xs.drop j = p :: xs.drop (j + 1) := by
    obtain ⟨hj', e⟩ := List.getElem?_eq_some_iff.1 hj
    rw [← e, List.getElem_cons_drop]
  rw [this]; rfl
/-- another block has been written -/
theorem OwnI.grown {b : Nat} {w w' : World} {v : Value} {xs : List Int} (h : OwnI b w v xs) {row : Option Nat} (hg : w.grownBy w' row) (hn : ∀ k, v.ownBlock = some k → some k ≠ row) : OwnI b w' v xs := by
  obtain ⟨h0, inner, ho, hr⟩ := h
  exact ⟨h0, inner, own_move ho (fun k hk => hg.block k (own_lt ho k hk) (hn k hk)), hr⟩

/-- its cells may be written -/
theorem OwnI.slot {b g n cap : Nat} {w : World} {xs : List Int} (h : OwnI b w (.slice (some ⟨g, 0, none⟩) n cap) xs) {i : Nat} (hi : i < n) : (∃ y, w.cell? ⟨g, i, none⟩ = some (.int .i64 y)) ∧ w.frozen? ⟨g, i, none⟩ = false := by
  have hc := Kd.R_celln (0 : Int) h (i : Int) (by omega) (by omega)
  simp only [Int.toNat_natCast] at hc
  exact ⟨⟨_, hc.1⟩, hc.2⟩

section
variable {P : Program} {ops : Array Oper} {rest : List Oper} {o : Oper} {a : Act} {Q : Exit → Act → World → Prop}
/-- make([]int64, n) -/
theorem make_own {w0 W : World} (base : Nat) (hgd : o.guard = none) {N : Tmp} (hd : o.dst = some N) (x y : Operand) (ho : o.op = .makeSlice 22 x y) (n : Nat) (hx : a.eval x = .int .i64 n) (hy : a.eval y = .int .i64 n)
    (hl : n ≤ 35184372088832) (HB : Below base w0 W) (hbase : base ≤ W.heap.size)
    (h : ∀ v1 w1, OwnI base w1 v1 (List.replicate n 0) → Below base w0 w1 → W.grownBy w1 none → (∃ b, v1.ownBlock = some b ∧ W.heap.size ≤ b) → wpList Try.prog ops Q rest (a.put o.dst v1) w1) : wpList Try.prog ops Q (o :: rest) a W :=
  Kd.R_make (Kd.int .i64) base 2 hgd hd 22 x y ho (n : Int) hx hy Try.underlying22 (.int .i64 0) 8 info64 rfl (by decide) (by omega) (0 : Int) (ok := fun _ => True) (okp := fun _ => True) rfl (fun _ hk => hk) trivial (by omega) (by simp only [Int.toNat_natCast]; omega) HB hbase
    (fun v1 w1 h1 h2 h3 h4 => h v1 w1 (by rw [Int.toNat_natCast] at h1; exact h1) h2 h3 h4)
/-- append(v, p), v a slice of the call's own; the one-cell block of the variadic lies ahead -/
theorem app_own {w0 W : World} (base : Nat) (hgd : o.guard = none) (s x : Operand) (ho : o.op = .call { callee := .builtin .append, args := #[s, x], argTypes := #[22, 22] })
    (v : Value) (xs : List Int) (p : Int) (hs : a.eval s = v) (hx : a.eval x = .slice (some ⟨W.heap.size, 0, none⟩) 1 1)
    (HO : OwnI base W v xs) (HB : Below base w0 W) (hbase : base ≤ W.heap.size) (hl : xs.length < 17592186044416)
    (h : ∀ v1 w1, OwnI base w1 v1 (xs ++ [p]) → Below base w0 w1 → W.grownBy w1 v.ownBlock → (v1.ownBlock = v.ownBlock ∨ ∃ b, v1.ownBlock = some b ∧ W.heap.size ≤ b) → wpList Try.prog ops Q rest (a.put o.dst v1) w1) :
    wpList Try.prog ops Q (o :: rest) a (W.alloc (.cells #[.int .i64 p] 2)) :=
  Kd.R_append (Kd.int .i64) (w0 := w0) base hgd s x 22 2 (.int .i64 0) 8 ho Try.underlying22 info64 rfl (by decide) (by omega) v xs p [.int .i64 p] (fun _ => True) (fun _ => False) hs hx rfl (fun _ hk => hk.elim) (fun _ _ => trivial) HO HB hbase (by omega) h
/-- out[i] = x -/
theorem store_own {w0 W : World} {b g n cap : Nat} {xs : List Int} (hgd : o.guard = none) {p : Tmp} {v : Operand} (ho : o.op = .store 2 (.tmp p) v) (hN : o.dst = none)
    (i : Nat) (x : Int) (HO : OwnI b W (.slice (some ⟨g, 0, none⟩) n cap) xs) (hi : i < n) (hp : a.eval (.tmp p) = .pointer (some ⟨g, i, none⟩)) (hv : a.eval v = .int .i64 x)
    (h : ∀ w', OwnI b w' (.slice (some ⟨g, 0, none⟩) n cap) (xs.set i x) → W.grownBy w' (some g) → Below b W w' → wpList Try.prog ops Q rest a w') : wpList Try.prog ops Q (o :: rest) a W := by
  have hc := Kd.R_celln (0 : Int) HO (i : Int) (by omega) (by omega)
  simp only [Int.toNat_natCast] at hc
  have hp' := Kd.R_putg HO (i : Int) x
  simp only [Int.toNat_natCast] at hp'
  refine store_event (w1 := W.setCell ⟨g, i, none⟩ (.int .i64 x)) hgd ho hN ?_ (fun w' e => h w' ?_ ?_ ?_)
  · obtain ⟨h1, h2⟩ := hc
    generalize a.eval = ρ at hp hv ⊢
    simp [execOp, ho, hp, hv, go_sem, h1, h2]
  · rw [e]; exact hp'.1
  · rw [e]; exact hp'.2
  · rw [e]; exact Below.setCell (Below.refl _ _) (OwnI.base HO g (by simp [Value.ownBlock])) _
end

/-- worlds in which nothing that was there has turned -/
def Ext (w : World) := {w' : World // Below w.heap.size w w'}
instance (w : World) : Inhabited (Ext w) := ⟨⟨w, Below.refl _ _⟩⟩
theorem Ext.cell {w : World} {a : Addr} {v : Value} (h : w.cell? a = some v) (x : Ext w) : x.1.cell? a = some v := pw_cell_below x.2 h
theorem wp_region_ext {P : Program} {id : Nat} {Q : Exit → Act → World → Prop} {a : Act} {w : World} {l : List Oper} (hm : P.follows .mixedOrders = true) (hB : Region.lexB .any l.toArray = true)
    (h : wpQuiet P l.toArray (fun w' => ∃ x : Ext w, w' = x.1) (fun a' => ∀ w', (∃ x : Ext w, w' = x.1) → Q .normal a' w') l a) : (Code.region id l.toArray true).wp P Q a w :=
  wp_region_quiet (C := fun w' => ∃ x : Ext w, w' = x.1) hm hB ⟨⟨_, (Below.refl _ w).drew⟩, rfl⟩ (by simpa using h)
theorem Calls.ext_of {P : Program} {f : FuncId} {args : Array Value} {w : World} {x : Ext w} {v : Value}
    (h : Calls P f args x.1 fun e w' => e = .returned v ∧ Below x.1.heap.size x.1 w') : Calls P f args x.1 fun e w' => e = .returned v ∧ ∃ y : Ext w, w' = y.1 :=
  h.mono fun _ _ ⟨he, hb⟩ => ⟨he, ⟨⟨_, x.2.trans (hb.mono x.2.size)⟩, rfl⟩⟩

/-- a function with a body is entered -/
def Enters (g : FuncId) : Prop := ∀ (args : Array Value) (w : World), Sem.run Try.prog (callFunc g args) w = .ok (.enter g args) w
theorem Enters.mk' {g : FuncId} {fn : Func} (hf : Try.prog.funcs[g]? = some fn) (hn : (fn.name == "runtime.NumGoroutine") = false) (hb : fn.body.isNone = false) : Enters g := by
  intro args w
  have hn' : ¬ fn.name = "runtime.NumGoroutine" := by simpa using hn
  have hb' : ¬ fn.body = none := by intro h; rw [h] at hb; cases hb
  simp [callFunc, go_sem, hf, hn', hb']
end Go.Proofs.Ytpcjbdkdpcgdiaa.H
