/- Words (printed by a tool of the kit; of them, what is used). What is said of slices of int64 and of function values; worlds in which nothing old has turned. The laws' own helpers: copies of slices, equality, marks. A region of open order: each operation is shown once; what holds of its value stays as memory grows. The laws' helpers over complexes, and the marks. Rows of pairs: what is said of them; the laws' eqPairS. slices.IndexFunc, slices.ContainsFunc and areAll at []int64: whatever predicate that makes memory at the most. What everything needs: within, isSize, length. Bits of small numbers, as the walk spells them. -/
import Derived.Test.YtomofijniefelaaGreatProg
import Derived.Below
import Derived.Deep.Draws
import Derived.OwnWalk
import Derived.Laws.MakeOwn
import Derived.Laws.OwnMore
import Derived.Tactics
import Derived.Laws.Slices
import Derived.WalkKit
import Derived.KernelRfl
import Derived.RowKit3
import Derived.Deep.LoopGhost
import Derived.Deep.QuietTactic
import Derived.BigQuiet
import Derived.WideLaws
import Derived.Laws.Rows
import Derived.RowKit
import Derived.Test.YtomofijniefelaaGreatKFnFlows1

namespace Go.Proofs.YtomofijniefelaaGreatW.PrintMore
open Go.RowKit Go.Proofs.YtomofijniefelaaGreatW.PrintWords
namespace Kd
open Go.Proofs.YtomofijniefelaaGreatW.PrintWords.Kd
end Kd
namespace Kd
open Go.Proofs.YtomofijniefelaaGreatW.PrintWords.Kd
section
variable {α : Type} {d : Kd α} {e base g N : Nat} {ok : Nat → Prop} {W w1 : World} {u v : Value} {xs : List α}
end
end Kd
end Go.Proofs.YtomofijniefelaaGreatW.PrintMore
namespace Go.Proofs.YtomofijniefelaaGreatW.PrintWords
open Go.RowKit
section
variable {P : Program} {ops : Array Oper} {rest : List Oper} {o : Oper} {a : Act} {Q : Exit → Act → World → Prop} {W : World}
/-- The operation is a builtin over these places. -/
theorem gate_builtin {b : Builtin} {xs : Array Operand} {ts : Array TypeId} (_ho : o.op = .call { callee := .builtin b, args := xs, argTypes := ts }) (h : wpList P ops Q (o :: rest) a W) : wpList P ops Q (o :: rest) a W := h
end
/-- The greater of two whole numbers, as Go's max tells it. -/
def mx (a b : Int) : Int := if a < b then b else a
namespace Kd
section
variable {α : Type} {d : Kd α} {e base : Nat} {ok : Nat → Prop} {W w1 : World} {v : Value} {xs : List α}
end
section
variable {α : Type} {d : Kd α} {e base g n cap : Nat} {ok oki okp : Nat → Prop} {W : World} {xs : List α} {i : Int} {c : List Value}
end
section
variable {α : Type} {d : Kd α} {e base b b' g N : Nat} {ok ok1 : Nat → Prop} {W W2 w1 : World} {u v : Value} {xs ys : List α} {S : Nat → Prop}
end
end Kd
end Go.Proofs.YtomofijniefelaaGreatW.PrintWords
namespace Go.Proofs.YtomofijniefelaaGreatW.PrintWords
open Go.RowKit
namespace Kd
/-- A row that is only read, told by its value: its form, its length, what it leads to (in ok). e and base say nothing; they make it as the others are. -/
def V {α : Type} (d : Kd α) (_e : Nat) (W : World) (_base : Nat) (ok : Nat → Prop) (v : Value) (xs : List α) : Prop := ∃ A c, v = .slice A xs.length c ∧ xs.length ≤ c ∧ F d W ok A xs.length xs
section
variable {α β : Type} {d : Kd α} {e base base' n m c g N' lo hi : Nat} {ok ok' S : Nat → Prop} {w W w1 : World} {A : Option Addr} {ad : Addr} {u v v1 : Value} {xs : List α}
end
end Kd
end Go.Proofs.YtomofijniefelaaGreatW.PrintWords

namespace Go.Proofs.YtomofijniefelaaGreat.H
open Go.RowKit Go.Proofs.YtomofijniefelaaGreatW.PrintWords Go.Proofs.YtomofijniefelaaGreatW.PrintLast
set_option linter.unusedVariables false
set_option linter.unusedSimpArgs false
theorem below_drewN {B : Nat} {w W : World} (h : Below B w W) (n : Nat) : Below B w (W.drewN n) := ⟨h.os, h.tape, h.output, h.size, h.block⟩
theorem info64 : (Tryz.prog.info? 2).map (fun i => (i.zero, i.size, i.bytes)) = some (some (.int .i64 0), 1, 8) := by kernel_rfl
/-- a slice of numbers that can be read -/
def ReadI (w : World) (v : Value) (xs : List Int) : Prop := ∃ A c, v = .slice A xs.length c ∧ xs.length ≤ c ∧ Kd.C (Kd.int .i64) w A xs.length xs
/-- a slice of numbers that lies in a block of its own, from block b on -/
def OwnI (b : Nat) (w : World) (v : Value) (xs : List Int) : Prop := Kd.R (Kd.int .i64) 2 w b (fun _ => True) v xs
theorem ReadI.below {w w' : World} {v : Value} {xs : List Int} (h : ReadI w v xs) (hb : Below w.heap.size w w') : ReadI w' v xs := by
 obtain ⟨A, c, rfl, hc, hr⟩ := h
 exact ⟨A, c, rfl, hc, Kd.C_below hr hb⟩
theorem ReadI.len {w : World} {v : Value} {xs : List Int} (h : ReadI w v xs) : xs.length ≤ 9223372036854775807 := by
 obtain ⟨A, c, rfl, hc, hr⟩ := h
 exact hr.2.1
theorem ReadI.at_ {w : World} {A : Option Addr} {xs : List Int} (h : Kd.C (Kd.int .i64) w A xs.length xs) {i : Nat} (hi : i < xs.length) :
  ∃ ad, A = some ad ∧ w.cell? (ad.add i) = some (.int .i64 (xs.getD i 0)) := by
 obtain ⟨ad, e, hc⟩ := Kd.at_int h (i : Int) (by omega) (by omega)
 exact ⟨ad, e, by simpa [rd] using hc⟩
theorem ReadI.get {w : World} {A : Option Addr} {xs : List Int} (h : Kd.C (Kd.int .i64) w A xs.length xs) {i : Nat} (hi : i < xs.length) :
  ∃ ad y, A = some ad ∧ w.cell? (ad.add i) = some (.int .i64 y) ∧ Aside0 (xs.getD i 0 = y) := by
 obtain ⟨ad, e, hc⟩ := ReadI.at_ h hi
 exact ⟨ad, _, e, hc, ⟨rfl⟩⟩
theorem take_get {xs : List Int} {i : Nat} {y : Int} (h : i < xs.length) (hy : xs.getD i 0 = y) : xs.take (i + 1) = xs.take i ++ [y] := by
 rw [List.take_succ_eq_append_getElem h, ← hy]; simp [List.getD_eq_getElem?_getD, h]
theorem OwnI.read {b : Nat} {w : World} {v : Value} {xs : List Int} (h : OwnI b w v xs) : ReadI w v xs := by
 obtain ⟨A, c, e, hl, hr⟩ := Kd.R_reads h
 exact ⟨A, c, e, hl, hr⟩
theorem OwnI.below {b : Nat} {w w' : World} {v : Value} {xs : List Int} (h : OwnI b w v xs) (hb : Below w.heap.size w w') : OwnI b w' v xs := Kd.R_below h hb
theorem OwnI.lower {b b' : Nat} {w : World} {v : Value} {xs : List Int} (h : OwnI b w v xs) (hb : b' ≤ b) : OwnI b' w v xs := Kd.R_lower h hb
theorem OwnI.nil (b : Nat) (w : World) : OwnI b w (.slice none 0 0) [] := Kd.R_nil _ _ _ _ _
theorem OwnI.base {b : Nat} {w : World} {v : Value} {xs : List Int} (h : OwnI b w v xs) : ∀ k, v.ownBlock = some k → b ≤ k := by
 obtain ⟨inner, ho⟩ := Kd.R_own h
 exact fun k hk => own_base ho k hk
theorem OwnI.lt {b : Nat} {w : World} {v : Value} {xs : List Int} (h : OwnI b w v xs) : ∀ k, v.ownBlock = some k → k < w.heap.size := by
 obtain ⟨inner, ho⟩ := Kd.R_own h
 exact fun k hk => own_lt ho k hk
/-- out of the kit's own word -/
theorem OwnI.of_row {b b' : Nat} {w : World} {v : Value} {xs : List Int} (h : w.ownsRow b 2 1 v xs.length (xs.map (Value.int .i64))) (hb : b' ≤ b) : OwnI b' w v xs := by
 refine ⟨fun _ _ => trivial, xs.map (Value.int .i64), own_less h hb, by rw [List.length_map]; exact (Nat.mul_one _).symm, fun j p hj => ?_⟩
 show ((xs.map (Value.int .i64)).drop (j * 1)).take 1 = [Value.int .i64 p]
 rw [Nat.mul_one, ← List.map_drop, ← List.map_take]
 have : xs.drop j = p :: xs.drop (j + 1) := by
  obtain ⟨hj', e⟩ := List.getElem?_eq_some_iff.1 hj
  rw [← e, List.getElem_cons_drop]
 rw [this]; rfl
/-- another block has been written -/
theorem OwnI.grown {b : Nat} {w w' : World} {v : Value} {xs : List Int} (h : OwnI b w v xs) {row : Option Nat} (hg : w.grownBy w' row) (hn : ∀ k, v.ownBlock = some k → some k ≠ row) : OwnI b w' v xs := by
 obtain ⟨h0, inner, ho, hr⟩ := h
 exact ⟨h0, inner, own_move ho (fun k hk => hg.block k (own_lt ho k hk) (hn k hk)), hr⟩
/-- its cells may be written -/
theorem OwnI.slot {b g n cap : Nat} {w : World} {xs : List Int} (h : OwnI b w (.slice (some ⟨g, 0, none⟩) n cap) xs) {i : Nat} (hi : i < n) : (∃ y, w.cell? ⟨g, i, none⟩ = some (.int .i64 y)) ∧ w.frozen? ⟨g, i, none⟩ = false := by
 have hc := Kd.R_celln (0 : Int) h (i : Int) (by omega) (by omega)
 simp only [Int.toNat_natCast] at hc
 exact ⟨⟨_, hc.1⟩, hc.2⟩
section
variable {P : Program} {ops : Array Oper} {rest : List Oper} {o : Oper} {a : Act} {Q : Exit → Act → World → Prop}
/-- append(v, p), v a slice of the call's own; the one-cell block of the variadic lies ahead -/
theorem app_own {w0 W : World} (base : Nat) (hgd : o.guard = none) (s x : Operand) (ho : o.op = .call { callee := .builtin .append, args := #[s, x], argTypes := #[24, 24] })
  (v : Value) (xs : List Int) (p : Int) (hs : a.eval s = v) (hx : a.eval x = .slice (some ⟨W.heap.size, 0, none⟩) 1 1)
  (HO : OwnI base W v xs) (HB : Below base w0 W) (hbase : base ≤ W.heap.size) (hl : xs.length < 17592186044416)
  (h : ∀ v1 w1, OwnI base w1 v1 (xs ++ [p]) → Below base w0 w1 → W.grownBy w1 v.ownBlock → (v1.ownBlock = v.ownBlock ∨ ∃ b, v1.ownBlock = some b ∧ W.heap.size ≤ b) → wpList Tryz.prog ops Q rest (a.put o.dst v1) w1) :
  wpList Tryz.prog ops Q (o :: rest) a (W.alloc (.cells #[.int .i64 p] 2)) :=
 Kd.R_append (Kd.int .i64) (w0 := w0) base hgd s x 24 2 (.int .i64 0) 8 ho Tryz.underlying24 info64 rfl (by decide) (by omega) v xs p [.int .i64 p] (fun _ => True) (fun _ => False) hs hx rfl (fun _ hk => hk.elim) (fun _ _ => trivial) HO HB hbase (by omega) h
/-- out[i] = x -/
theorem store_own {w0 W : World} {b g n cap : Nat} {xs : List Int} (hgd : o.guard = none) {p : Tmp} {v : Operand} (ho : o.op = .store 2 (.tmp p) v) (hN : o.dst = none)
  (i : Nat) (x : Int) (HO : OwnI b W (.slice (some ⟨g, 0, none⟩) n cap) xs) (hi : i < n) (hp : a.eval (.tmp p) = .pointer (some ⟨g, i, none⟩)) (hv : a.eval v = .int .i64 x)
  (h : ∀ w', OwnI b w' (.slice (some ⟨g, 0, none⟩) n cap) (xs.set i x) → W.grownBy w' (some g) → Below b W w' → wpList Tryz.prog ops Q rest a w') : wpList Tryz.prog ops Q (o :: rest) a W := by
 have hc := Kd.R_celln (0 : Int) HO (i : Int) (by omega) (by omega)
 simp only [Int.toNat_natCast] at hc
 have hp' := Kd.R_putg HO (i : Int) x
 simp only [Int.toNat_natCast] at hp'
 refine store_event (w1 := W.setCell ⟨g, i, none⟩ (.int .i64 x)) hgd ho hN ?_ (fun w' e => h w' ?_ ?_ ?_)
 ·obtain ⟨h1, h2⟩ := hc
  generalize a.eval = ρ at hp hv ⊢
  simp [execOp, ho, hp, hv, go_sem, h1, h2]
 ·rw [e]; exact hp'.1
 ·rw [e]; exact hp'.2
 ·rw [e]; exact Below.setCell (Below.refl _ _) (OwnI.base HO g (by simp [Value.ownBlock])) _
end
/-- worlds in which nothing that was there has turned -/
def Ext (w : World) := {w' : World // Below w.heap.size w w'}
instance (w : World) : Inhabited (Ext w) := ⟨⟨w, Below.refl _ _⟩⟩
theorem Ext.cell {w : World} {a : Addr} {v : Value} (h : w.cell? a = some v) (x : Ext w) : x.1.cell? a = some v := pw_cell_below x.2 h
theorem wp_region_ext {P : Program} {id : Nat} {Q : Exit → Act → World → Prop} {a : Act} {w : World} {l : List Oper} (hm : P.follows .mixedOrders = true) (hB : Region.lexB .any l.toArray = true)
  (h : wpQuiet P l.toArray (fun w' => ∃ x : Ext w, w' = x.1) (fun a' => ∀ w', (∃ x : Ext w, w' = x.1) → Q .normal a' w') l a) : (Code.region id l.toArray true).wp P Q a w :=
 wp_region_quiet (C := fun w' => ∃ x : Ext w, w' = x.1) hm hB ⟨⟨_, (Below.refl _ w).drew⟩, rfl⟩ (by simpa using h)
theorem Calls.ext_of {P : Program} {f : FuncId} {args : Array Value} {w : World} {x : Ext w} {v : Value}
  (h : Calls P f args x.1 fun e w' => e = .returned v ∧ Below x.1.heap.size x.1 w') : Calls P f args x.1 fun e w' => e = .returned v ∧ ∃ y : Ext w, w' = y.1 :=
 h.mono fun _ _ ⟨he, hb⟩ => ⟨he, ⟨⟨_, x.2.trans (hb.mono x.2.size)⟩, rfl⟩⟩
/-- a function with a body is entered -/
def Enters (g : FuncId) : Prop := ∀ (args : Array Value) (w : World), Sem.run Tryz.prog (callFunc g args) w = .ok (.enter g args) w
theorem Enters.mk' {g : FuncId} {fn : Func} (hf : Tryz.prog.funcs[g]? = some fn) (hn : (fn.name == "runtime.NumGoroutine") = false) (hb : fn.body.isNone = false) : Enters g := by
 intro args w
 have hn' : ¬ fn.name = "runtime.NumGoroutine" := by simpa using hn
 have hb' : ¬ fn.body = none := by intro h; rw [h] at hb; cases hb
 simp [callFunc, go_sem, hf, hn', hb']
end Go.Proofs.YtomofijniefelaaGreat.H

/-! ### 50. A region's order in a table, made once a region: each step asks the table (numbers alone), not the operations -/
namespace Go.Proofs.YtomofijniefelaaGreatW.PrintLast
open Go.Proofs.YtomofijniefelaaGreatW.PrintWords (Aside0)
def needsOf (md : Region.Mode) (o : Oper) : List Nat := (o.after.toList.filter (fun e => Region.binds md e)).map (fun e => e.on)
def clashOf (md : Region.Mode) (ops : Array Oper) (i : Nat) (oi : Oper) : List Nat := (List.range ops.size).filter fun j => !(j == i) && match ops[j]? with
 | some oj => !(oj.after.any (fun e => Region.binds md e && e.on == i) || oi.apart ops oj)
 | none => false
/-- No select in it; for each operation: what must have come up before it, and what may not come up behind it if it is taken first. -/
def rtab (md : Region.Mode) (ops : Array Oper) : Bool × List (List Nat × List Nat) := (Region.noSelect ops, (List.range ops.size).map fun i => match ops[i]? with
 | some o => (needsOf md o, clashOf md ops i o)
 | none => ([], []))
def readyAt (T : List (List Nat × List Nat)) (l : List Bool) (i : Nat) : Bool := !l.getD i true && match T[i]? with
 | some r => r.1.all (fun j => l.getD j false)
 | none => false
def readyT (T : List (List Nat × List Nat)) (l : List Bool) : List Nat := (List.range T.length).filter (readyAt T l)
section
variable {md : Region.Mode} {ops : Array Oper} {T : Bool × List (List Nat × List Nat)} {l l' li lj lk : Array Bool} {ds : List Nat} {i j k : Nat}
theorem gd (l : Array Bool) (j : Nat) (b : Bool) : l.getD j b = l.toList.getD j b := by simp [Array.getD_eq_getD_getElem?, List.getD_eq_getElem?_getD]
theorem needs_all (o : Oper) (p : Nat → Bool) : o.after.all (fun e => !Region.binds md e || p e.on) = (needsOf md o).all p := by
 unfold needsOf
 rw [← Array.all_toList]
 induction o.after.toList with
 | nil => rfl
 | cons e r ih =>
  rw [List.all_cons, ih, List.filter_cons]
  cases h : Region.binds md e <;> simp
theorem rtab_length : (rtab md ops).2.length = ops.size := by simp [rtab]
theorem rtab_some {o : Oper} (h : ops[i]? = some o) : (rtab md ops).2[i]? = some (needsOf md o, clashOf md ops i o) := by
 have hi := (Array.getElem?_eq_some_iff.1 h).1
 unfold rtab
 rw [List.getElem?_map, List.getElem?_range hi, Option.map_some, h]
theorem rtab_none (h : ops[i]? = none) : (rtab md ops).2[i]? = none := by
 have hi : ops.size ≤ i := Array.getElem?_eq_none_iff.1 h
 exact List.getElem?_eq_none (by rw [rtab_length]; exact hi)
theorem readyAt_eq : readyAt (rtab md ops).2 l.toList i = (!l.getD i true && ((ops[i]?).map (·.after.all fun e => !Region.binds md e || l.getD e.on false)).getD false) := by
 unfold readyAt
 rw [gd]
 cases h : ops[i]? with
 | none => rw [rtab_none h]; rfl
 | some o =>
  rw [rtab_some h]
  simp only [Option.map_some, Option.getD_some]
  rw [← needs_all]
  simp only [gd]
theorem ready_eq : Region.ready md ops l = readyT (rtab md ops).2 l.toList := by
 unfold Region.ready readyT
 rw [rtab_length]
 refine List.filter_congr (fun i _ => ?_)
 rw [readyAt_eq]
/-- What d waits for, as_ bits: told in the table (B), checked in one pass: each bit is a need of d, or a bit of an earlier need's. -/
def upM (B : List Nat) (d : Nat) : List Nat → Nat
 | [] => 0
 | n :: r => (2 ^ n ||| (if n < d then B.getD n 0 else 0)) ||| upM B d r
def waitsOk (T : List (List Nat × List Nat)) (B : List Nat) : Bool := (List.range T.length).all fun d => match T[d]? with
 | some r => (B.getD d 0 ||| upM B d r.1) == upM B d r.1
 | none => false
theorem upM_bit {B : List Nat} {d i : Nat} : ∀ {ns : List Nat}, (upM B d ns).testBit i = true → ∃ n ∈ ns, n = i ∨ (n < d ∧ (B.getD n 0).testBit i = true)
 | [], h => by simp [upM] at h
 | n :: r, h => by
  unfold upM at h
  rw [Nat.testBit_or, Nat.testBit_or, Bool.or_eq_true, Bool.or_eq_true] at h
  rcases h with (h | h) | h
  ·rw [Nat.testBit_two_pow] at h
   exact ⟨n, List.mem_cons_self, .inl (by simpa using h)⟩
  ·by_cases hn : n < d
   ·rw [if_pos hn] at h
    exact ⟨n, List.mem_cons_self, .inr ⟨hn, h⟩⟩
   ·rw [if_neg hn] at h
    simp at h
  ·obtain ⟨m, hm, h2⟩ := upM_bit h
   exact ⟨m, List.mem_cons_of_mem _ hm, h2⟩
end
end Go.Proofs.YtomofijniefelaaGreatW.PrintLast

/-! ### 57. A region of open order by ONE relation over what is listed so far: each operation is shown once, whatever came up before it -/
namespace Go.Proofs.YtomofijniefelaaGreatW.PrintLast
/-- Number i is listed too. -/
def up (b : Nat → Bool) (i : Nat) : Nat → Bool := fun j => if j = i then true else b j
theorem up_self (b : Nat → Bool) (i : Nat) : up b i i = true := by simp [up]
theorem up_ne {b : Nat → Bool} {i j : Nat} (h : j ≠ i) : up b i j = b j := by simp [up, h]
/-- What is listed: O's operations by b, all else already. -/
def lof (n : Nat) (O : List Nat) (b : Nat → Bool) : List Bool := (List.range n).map fun j => if O.contains j then b j else true
section
variable {P : Program} {ops : Array Oper} {Q : Exit → Act → World → Prop} {md : Region.Mode} {T : Bool × List (List Nat × List Nat)} {B : List Nat} {O : List Nat} {b : Nat → Bool} {i j n : Nat}
theorem lof_length : (lof n O b).length = n := by simp [lof]
theorem lof_get {d : Bool} (hj : j < n) : (lof n O b).getD j d = if O.contains j then b j else true := by
 simp [lof, List.getD_eq_getElem?_getD, hj]
theorem lof_up (hi : O.contains i = true) : (lof n O b).set i true = lof n O (up b i) := by
 apply List.ext_getElem?
 intro j
 by_cases hj : j < n
 ·by_cases hij : i = j
  ·subst hij
   have hl : i < (lof n O b).length := by rw [lof_length]; exact hj
   rw [List.getElem?_set_self hl]
   simp only [lof, List.getElem?_map, List.getElem?_range hj, Option.map_some, hi, if_true, up_self]
  ·rw [List.getElem?_set_ne hij]
   simp only [lof, List.getElem?_map, List.getElem?_range hj, Option.map_some]
   rw [up_ne (Ne.symm hij)]
 ·rw [List.getElem?_eq_none (by simp [lof]; omega), List.getElem?_eq_none (by simp [lof]; omega)]
/-- The step of operation i: out of the relation, it not being listed, all it waits for being so, and nothing that waits for it. -/
def StepAt (P : Program) (ops : Array Oper) (Q : Exit → Act → World → Prop) (B : List Nat) (O : List Nat) (I : (Nat → Bool) → Act → World → Prop) (i : Nat) : Prop :=
 ∀ b a w, I b a w → b i = false → (∀ j, (O.contains j && (B.getD i 0).testBit j) = true → b j = true) → (∀ d, (O.contains d && (B.getD d 0).testBit i) = true → b d = false) →
  ∃ oi, ops[i]? = some oi ∧ ∀ K : Act → World → Prop, Shut (∀ a' w', I (up b i) a' w' → K a' w') → if Region.wanted oi (yielded ops a.tmps) = true then Oper.wp P oi a w K Q else K (a.put oi.dst undef) w
/-- Every edge goes to an earlier operation; what is listed already waits for nothing of O; O's numbers are the region's, each once. -/
def baseOk (T : List (List Nat × List Nat)) (O : List Nat) : Bool :=
 (List.range T.length).all (fun d => match T[d]? with
  | some r => (O.contains d || r.1.all fun n => !O.contains n) && r.1.all fun n => decide (n < d)
  | none => false) && O.all (fun i => decide (i < T.length)) && decide O.Nodup
theorem baseOk_row {T : List (List Nat × List Nat)} (h : baseOk T O = true) {d : Nat} {r : List Nat × List Nat} (hr : T[d]? = some r) : (O.contains d = false → ∀ n ∈ r.1, O.contains n = false) ∧ ∀ n ∈ r.1, n < d := by
 simp only [baseOk, Bool.and_eq_true] at h
 have h1 := List.all_eq_true.1 h.1.1 d (List.mem_range.2 (List.getElem?_eq_some_iff.1 hr).1)
 rw [hr] at h1
 simp only [Bool.and_eq_true, Bool.or_eq_true, List.all_eq_true, decide_eq_true_eq] at h1
 refine ⟨fun hd n hn => ?_, h1.2⟩
 rcases h1.1 with h2 | h2
 ·rw [hd] at h2; cases h2
 ·simpa using h2 n hn
theorem baseOk_lt {T : List (List Nat × List Nat)} (h : baseOk T O = true) {i : Nat} (hi : i ∈ O) : i < T.length := by
 simp only [baseOk, Bool.and_eq_true] at h
 simpa using List.all_eq_true.1 h.1.2 i hi
theorem baseOk_nodup {T : List (List Nat × List Nat)} (h : baseOk T O = true) : O.Nodup := by
 simp only [baseOk, Bool.and_eq_true] at h
 exact of_decide_eq_true h.2
def Closed (T : List (List Nat × List Nat)) (O : List Nat) (b : Nat → Bool) : Prop := ∀ d r, T[d]? = some r → O.contains d = true → b d = true → ∀ n ∈ r.1, O.contains n = true → b n = true
/-- What waits for nothing of O has none of it in its bits. -/
theorem bits_out {T : List (List Nat × List Nat)} (hw : waitsOk T B = true) (hk : baseOk T O = true) : ∀ (m d : Nat), d ≤ m → d < T.length → O.contains d = false → ∀ j, (B.getD d 0).testBit j = true → O.contains j = false := by
 intro m
 induction m with
 | zero =>
  intro d hd hl hO j hj
  have hd0 : d = 0 := by omega
  subst hd0
  have hr : T[0]? = some T[0] := List.getElem?_eq_getElem hl
  have h1 := List.all_eq_true.1 hw 0 (List.mem_range.2 hl)
  rw [hr] at h1
  simp only [beq_iff_eq] at h1
  have h2 : (upM B 0 T[0].1).testBit j = true := by rw [← h1, Nat.testBit_or, hj, Bool.true_or]
  obtain ⟨n, hn, h3⟩ := upM_bit h2
  have := (baseOk_row hk hr).2 n hn
  omega
 | succ m ih =>
  intro d hd hl hO j hj
  have hr : T[d]? = some T[d] := List.getElem?_eq_getElem hl
  have h1 := List.all_eq_true.1 hw d (List.mem_range.2 hl)
  rw [hr] at h1
  simp only [beq_iff_eq] at h1
  have h2 : (upM B d T[d].1).testBit j = true := by rw [← h1, Nat.testBit_or, hj, Bool.true_or]
  obtain ⟨n, hn, h3⟩ := upM_bit h2
  have hO2 := (baseOk_row hk hr).1 hO n hn
  rcases h3 with rfl | ⟨h4, h5⟩
  ·exact hO2
  ·exact ih n (by omega) (by omega) hO2 j h5
theorem closed_bits {T : List (List Nat × List Nat)} (hw : waitsOk T B = true) (hk : baseOk T O = true) (hc : Closed T O b) : ∀ (m d : Nat), d ≤ m → d < T.length → O.contains d = true → b d = true → ∀ j, O.contains j = true → (B.getD d 0).testBit j = true → b j = true := by
 intro m
 induction m with
 | zero =>
  intro d hd hl hO hb j hjO hj
  have hd0 : d = 0 := by omega
  subst hd0
  have hr : T[0]? = some T[0] := List.getElem?_eq_getElem hl
  have h1 := List.all_eq_true.1 hw 0 (List.mem_range.2 hl)
  rw [hr] at h1
  simp only [beq_iff_eq] at h1
  have h2 : (upM B 0 T[0].1).testBit j = true := by rw [← h1, Nat.testBit_or, hj, Bool.true_or]
  obtain ⟨n, hn, h3⟩ := upM_bit h2
  have := (baseOk_row hk hr).2 n hn
  omega
 | succ m ih =>
  intro d hd hl hO hb j hjO hj
  have hr : T[d]? = some T[d] := List.getElem?_eq_getElem hl
  have h1 := List.all_eq_true.1 hw d (List.mem_range.2 hl)
  rw [hr] at h1
  simp only [beq_iff_eq] at h1
  have h2 : (upM B d T[d].1).testBit j = true := by rw [← h1, Nat.testBit_or, hj, Bool.true_or]
  obtain ⟨n, hn, h3⟩ := upM_bit h2
  rcases h3 with rfl | ⟨h4, h5⟩
  ·exact hc d _ hr hO hb n hn hjO
  ·cases hO2 : O.contains n with
   | true => exact ih n (by omega) (by omega) hO2 (hc d _ hr hO hb n hn hO2) j hjO h5
   | false =>
    have := bits_out hw hk n n (Nat.le_refl _) (by omega) hO2 j h5
    rw [hjO] at this
    cases this
theorem up_count : ∀ {O : List Nat}, O.Nodup → i ∈ O → b i = false → (O.filter fun j => !up b i j).length + 1 = (O.filter fun j => !b j).length
 | [], _, hi, _ => by cases hi
 | x :: r, hn, hi, hb => by
  rw [List.nodup_cons] at hn
  rcases List.mem_cons.1 hi with rfl | hi
  ·have h1 : (r.filter fun j => !up b i j) = r.filter fun j => !b j := by
    refine List.filter_congr (fun j hj => ?_)
    rw [up_ne (fun e => hn.1 (by rw [← e]; exact hj))]
   rw [List.filter_cons, List.filter_cons]
   simp [up_self, hb, h1]
  ·have hxi : x ≠ i := fun e => hn.1 (e ▸ hi)
   have h1 := up_count hn.2 hi hb
   rw [List.filter_cons, List.filter_cons, up_ne hxi]
   cases hbx : b x
   ·simp only [Bool.not_false, if_true, List.length_cons]
    omega
   ·simpa using h1
theorem inv_all (hT : rtab md ops = T) (hw : waitsOk T.2 B = true) (hk : baseOk T.2 O = true) (I : (Nat → Bool) → Act → World → Prop) (hs : ∀ i ∈ O, StepAt P ops Q B O I i)
  (hend : ∀ b a w, (∀ j, O.contains j = true → b j = true) → I b a w → Q .normal a w) :
  ∀ (m : Nat) (b : Nat → Bool) (a : Act) (w : World), (O.filter fun j => !b j).length = m → Closed T.2 O b → I b a w → wpAnyLast P md ops Q (fun _ => True) [] m (lof T.2.length O b).toArray a w := by
 subst hT
 have mem_ready' : ∀ {b : Nat → Bool} {i : Nat}, i ∈ Region.ready md ops (lof (rtab md ops).2.length O b).toArray → i < (rtab md ops).2.length ∧ O.contains i = true ∧ b i = false ∧ ∀ r, (rtab md ops).2[i]? = some r → ∀ n ∈ r.1, n < (rtab md ops).2.length → O.contains n = true → b n = true := by
  intro b i hi
  rw [ready_eq] at hi
  unfold readyT at hi
  rw [List.mem_filter, List.mem_range] at hi
  obtain ⟨hl, h1⟩ := hi
  unfold readyAt at h1
  rw [Bool.and_eq_true, lof_get hl] at h1
  obtain ⟨h2, h3⟩ := h1
  have h4 : O.contains i = true := by
   cases h : O.contains i with
   | true => rfl
   | false => rw [h] at h2; simp at h2
  rw [h4] at h2
  refine ⟨hl, h4, by simpa using h2, fun r hr n hn hnl hO => ?_⟩
  rw [hr] at h3
  simp only [List.all_eq_true] at h3
  have h5 := h3 n hn
  rw [lof_get hnl, hO] at h5
  simpa using h5
 intro m
 induction m with
 | zero =>
  intro b a w hm hc hI
  have hall : ∀ j, O.contains j = true → b j = true := by
   intro j hj
   cases hb : b j with
   | true => rfl
   | false =>
    have : j ∈ O.filter fun j => !b j := List.mem_filter.2 ⟨List.contains_iff_mem.1 hj, by simp [hb]⟩
    rw [List.eq_nil_of_length_eq_zero hm] at this
    cases this
  refine ⟨?_, hend b a w hall hI⟩
  refine List.eq_nil_iff_forall_not_mem.2 (fun i hi => ?_)
  obtain ⟨_, h1, h2, _⟩ := mem_ready' hi
  rw [hall i h1] at h2
  cases h2
 | succ m ih =>
  intro b a w hm hc hI
  refine ⟨fun hr => ?_, fun i hi => ?_⟩
  ·exfalso
   -- the smallest number that isn't listed is ready
   have hex : ∃ i, O.contains i = true ∧ b i = false := by
    cases hf : O.filter (fun j => !b j) with
    | nil => rw [hf] at hm; simp at hm
    | cons x r =>
     have hx : x ∈ O.filter (fun j => !b j) := by rw [hf]; exact List.mem_cons_self
     rw [List.mem_filter] at hx
     exact ⟨x, List.contains_iff_mem.2 hx.1, by simpa using hx.2⟩
   have hmin : ∀ k, (∃ i, i ≤ k ∧ O.contains i = true ∧ b i = false) → ∃ i, O.contains i = true ∧ b i = false ∧ ∀ j, j < i → O.contains j = true → b j = true := by
    intro k
    induction k with
    | zero =>
     rintro ⟨i, hi, h1, h2⟩
     exact ⟨i, h1, h2, fun j hj => by omega⟩
    | succ k ihk =>
     rintro ⟨i, hi, h1, h2⟩
     by_cases hlow : ∃ j, j ≤ k ∧ O.contains j = true ∧ b j = false
     ·exact ihk hlow
     ·refine ⟨i, h1, h2, fun j hj hO => ?_⟩
      cases hb : b j with
      | true => rfl
      | false => exact absurd ⟨j, by omega, hO, hb⟩ hlow
   obtain ⟨i0, h1, h2⟩ := hex
   obtain ⟨i, hO, hb, hlow⟩ := hmin i0 ⟨i0, Nat.le_refl _, h1, h2⟩
   have hl := baseOk_lt hk (List.contains_iff_mem.1 hO)
   have hin : i ∈ Region.ready md ops (lof (rtab md ops).2.length O b).toArray := by
    rw [ready_eq]
    unfold readyT
    rw [List.mem_filter, List.mem_range]
    refine ⟨hl, ?_⟩
    unfold readyAt
    rw [lof_get hl, hO, hb]
    have hr2 : (rtab md ops).2[i]? = some (rtab md ops).2[i] := List.getElem?_eq_getElem hl
    rw [hr2]
    simp only [if_true, Bool.not_false, Bool.true_and, List.all_eq_true]
    intro n hn
    have hni := (baseOk_row hk hr2).2 n hn
    rw [lof_get (by omega)]
    cases hOn : O.contains n with
    | true => simpa using hlow n hni hOn
    | false => simp
   rw [hr] at hin
   cases hin
  ·obtain ⟨hl, hO, hb, hneed⟩ := mem_ready' hi
   have hon : ∀ j, (O.contains j && (B.getD i 0).testBit j) = true → b j = true := by
    intro j hj
    rw [Bool.and_eq_true] at hj
    have hr2 : (rtab md ops).2[i]? = some (rtab md ops).2[i] := List.getElem?_eq_getElem hl
    have h1 := List.all_eq_true.1 hw i (List.mem_range.2 hl)
    rw [hr2] at h1
    simp only [beq_iff_eq] at h1
    have h2 : (upM B i (rtab md ops).2[i].1).testBit j = true := by rw [← h1, Nat.testBit_or, hj.2, Bool.true_or]
    obtain ⟨n, hn, h3⟩ := upM_bit h2
    have hni := (baseOk_row hk hr2).2 n hn
    rcases h3 with rfl | ⟨h4, h5⟩
    ·exact hneed _ hr2 n hn (by omega) hj.1
    ·cases hO2 : O.contains n with
     | true => exact closed_bits hw hk hc n n (Nat.le_refl _) (by omega) hO2 (hneed _ hr2 n hn (by omega) hO2) j hj.1 h5
     | false =>
      have := bits_out hw hk n n (Nat.le_refl _) (by omega) hO2 j h5
      rw [hj.1] at this
      cases this
   have hoff : ∀ d, (O.contains d && (B.getD d 0).testBit i) = true → b d = false := by
    intro d hd
    rw [Bool.and_eq_true] at hd
    cases hbd : b d with
    | false => rfl
    | true =>
     have hdl := baseOk_lt hk (List.contains_iff_mem.1 hd.1)
     have := closed_bits hw hk hc d d (Nat.le_refl _) hdl hd.1 hbd i hO hd.2
     rw [hb] at this
     cases this
   obtain ⟨oi, hoi, hK⟩ := hs i (List.contains_iff_mem.1 hO) b a w hI hb hon hoff
   refine wpOp_step hoi (fun K' hK' => hK K' (fun a' w' hI' => hK' a' w' ⟨fun _ _ => trivial, ?_⟩))
   have hset : (lof (rtab md ops).2.length O b).toArray.setIfInBounds i true = (lof (rtab md ops).2.length O (up b i)).toArray := by
    apply Array.ext'
    rw [Array.toList_setIfInBounds]
    exact lof_up hO
   rw [hset]
   refine ih (up b i) a' w' ?_ ?_ hI'
   ·have := up_count (baseOk_nodup hk) (List.contains_iff_mem.1 hO) hb
    omega
   ·intro d r hr hOd hbd n hn hOn
    by_cases hni : n = i
    ·rw [hni, up_self]
    ·rw [up_ne hni]
     by_cases hdi : d = i
     ·subst hdi
      exact hneed r hr n hn (by have := (baseOk_row hk hr).2 n hn; omega) hOn
     ·rw [up_ne hdi] at hbd
      exact hc d r hr hOd hbd n hn hOn
/-! The frame: what is listed has its destination filled. -/
theorem put_comm {a : Act} {s t : Tmp} {u v : Value} (h : s ≠ t) : (a.put (some s) u).put (some t) v = (a.put (some t) v).put (some s) u := by
 simp only [Act.put]
 rw [Array.setIfInBounds_comm _ _ h]
/-- THE REGION FROM HERE TO ITS END, by one relation I: l has all listed but O's operations; I holds with none of them listed; each step; with all listed what follows. -/
theorem inv_ {l : Array Bool} {fuel : Nat} {a : Act} {w : World} (O : List Nat) (I : (Nat → Bool) → Act → World → Prop) (hT : rtab md ops = T) (hw : waitsOk T.2 B = true) (hk : baseOk T.2 O = true)
  (hl : (lof T.2.length O (fun _ => false) == l.toList && O.length == fuel) = true) (h0 : I (fun _ => false) a w) (hs : ∀ i ∈ O, StepAt P ops Q B O I i)
  (hend : ∀ b a w, (∀ j, O.contains j = true → b j = true) → I b a w → Q .normal a w) : wpAnyLast P md ops Q (fun _ => True) [] fuel l a w := by
 rw [Bool.and_eq_true, beq_iff_eq, beq_iff_eq] at hl
 have h1 := inv_all hT hw hk I hs hend fuel (fun _ => false) a w (by rw [← hl.2]; simp) (fun d r _ _ hb => by cases hb) h0
 have h2 : (lof T.2.length O (fun _ => false)).toArray = l := by apply Array.ext'; exact hl.1
 rw [h2] at h1
 exact h1
end
end Go.Proofs.YtomofijniefelaaGreatW.PrintLast

namespace Go.Proofs.YtomofijniefelaaGreat.H
open Go.RowKit Go.Proofs.YtomofijniefelaaGreatW.PrintWords Go.Proofs.YtomofijniefelaaGreatW.PrintLast
set_option linter.unusedVariables false
set_option linter.unusedSimpArgs false
/-- the slots d, d', .. filled with s k, s (k + 1), .. -/
def putAll : List Tmp → Nat → (Nat → Value) → Act → Act
 | [], _, _, a => a
 | d :: r, k, s, a => putAll r (k + 1) s (a.put (some d) (s k))
def upd (s : Nat → Value) (i : Nat) (v : Value) : Nat → Value := fun j => if j = i then v else s j
theorem putAll_congr : ∀ (ds : List Tmp) (k : Nat) (s s' : Nat → Value) (a : Act), (∀ j, k ≤ j → s j = s' j) → putAll ds k s a = putAll ds k s' a
 | [], _, _, _, _, _ => rfl
 | d :: r, k, s, s', a, h => by
  unfold putAll
  rw [h k (Nat.le_refl _)]
  exact putAll_congr r (k + 1) s s' _ (fun j hj => h j (by omega))
theorem putAll_out : ∀ (ds : List Tmp) (k : Nat) (s : Nat → Value) (a : Act) (d : Tmp) (v : Value), d ∉ ds → (putAll ds k s a).put (some d) v = putAll ds k s (a.put (some d) v)
 | [], _, _, _, _, _, _ => rfl
 | e :: r, k, s, a, d, v, h => by
  unfold putAll
  rw [List.mem_cons, not_or] at h
  rw [putAll_out r (k + 1) s _ d v h.2, put_comm (Ne.symm h.1)]
theorem put_put {a : Act} {d : Tmp} {u v : Value} : (a.put (some d) u).put (some d) v = a.put (some d) v := by
 simp [Act.put]
theorem putAll_put : ∀ (ds : List Tmp) (k : Nat) (s : Nat → Value) (a : Act) (i : Nat) (d : Tmp) (v : Value), ds.Nodup → k ≤ i → ds[i - k]? = some d → (putAll ds k s a).put (some d) v = putAll ds k (upd s i v) a
 | [], _, _, _, _, _, _, _, _, h => by cases h
 | e :: r, k, s, a, i, d, v, hn, hk, h => by
  rw [List.nodup_cons] at hn
  unfold putAll
  by_cases hi : i = k
  ·subst hi
   rw [Nat.sub_self] at h
   cases h
   rw [putAll_out r (i + 1) s _ e v hn.1, put_put]
   have : upd s i v i = v := by simp [upd]
   rw [this]
   exact putAll_congr r (i + 1) _ _ _ (fun j hj => by simp [upd]; omega)
  ·have e1 : i - k = (i - (k + 1)) + 1 := by omega
   rw [e1] at h
   rw [putAll_put r (k + 1) s _ i d v hn.2 (by omega) h]
   have : upd s i v k = s k := by simp [upd]; omega
   rw [this]
theorem putAll_self : ∀ (ds : List Tmp) (k : Nat) (s : Nat → Value) (a : Act), (∀ j d, ds[j]? = some d → a.tmps[d]? = some (s (k + j))) → putAll ds k s a = a
 | [], _, _, _, _ => rfl
 | d :: r, k, s, a, h => by
  unfold putAll
  have h0 := h 0 d rfl
  have e : a.put (some d) (s k) = a := by
   obtain ⟨hd, he⟩ := Array.getElem?_eq_some_iff.1 h0
   rw [Nat.add_zero] at he
   have e2 : a.tmps.setIfInBounds d a.tmps[d] = a.tmps := by
    refine Array.ext (by rw [Array.size_setIfInBounds]) (fun i h1 h2 => ?_)
    by_cases hi : d = i
    ·subst hi; exact Array.getElem_setIfInBounds_self _
    ·exact Array.getElem_setIfInBounds_ne _ hi
   rw [he] at e2
   show ({ tmps := a.tmps.setIfInBounds d (s k), defers := a.defers } : Act) = a
   rw [e2]
  rw [e]
  exact putAll_self r (k + 1) s a (fun j d' hj => by have := h (j + 1) d' hj; rwa [show k + (j + 1) = k + 1 + j by omega] at this)
def dsOf (l : List Oper) : List Tmp := l.map fun o => o.dst.getD 0
def phiOk (l : List Oper) (B : List Nat) (n : Nat) : Bool :=
 l.all (fun o => o.dst.isSome) && l.all (fun o => o.guard.isNone) && decide (dsOf l).Nodup && (dsOf l).all (fun d => decide (d < n)) && waitsOk (rtab .any l.toArray).2 B && baseOk (rtab .any l.toArray).2 (List.range l.length)
/-- an operation that yields a value, or enters a call that returns one -/
def opGives (P : Program) (o : Oper) (ev : Operand → Value) (w : World) (R : Value → World → Prop) : Prop :=
 match (execOp ev o).run P w with
 | .ok (.value v) w' => R v w'
 | .ok (.enter f args) w' => Calls P f args w' fun e w'' => ∃ v, e = .returned v ∧ R v w''
 | _ => False
theorem opGives_value {P : Program} {o : Oper} {ev : Operand → Value} {w w' : World} {R : Value → World → Prop} {v : Value} (h : (execOp ev o).run P w = .ok (.value v) w') (hR : R v w') : opGives P o ev w R := by
 unfold opGives; rw [h]; exact hR
theorem opGives_call {P : Program} {o : Oper} {ev : Operand → Value} {w : World} {R : Value → World → Prop} {f : FuncId} {args : Array Value} (h : (execOp ev o).run P w = .ok (.enter f args) w) (hR : Calls P f args w fun e w'' => ∃ v, e = .returned v ∧ R v w'') : opGives P o ev w R := by
 unfold opGives; rw [h]; exact hR
theorem opGives_wp {P : Program} {o : Oper} {a : Act} {w : World} {K : Act → World → Prop} {Q : Exit → Act → World → Prop} (h : opGives P o a.eval w fun v w' => K (a.put o.dst v) w') : Oper.wp P o a w K Q := by
 unfold Oper.wp
 unfold opGives at h
 split at h
 ·next h1 => rw [h1]; exact h
 ·next f args w' h1 =>
  rw [h1]
  rw [Oper.upon_enter]
  refine h.mono fun e w'' hh => ?_
  obtain ⟨v, rfl, hK⟩ := hh
  exact hK
 ·exact h.elim
/-- each step -/
def phiSteps (P : Program) (l : List Oper) (B : List Nat) (V : Nat → Value → World → Prop) (a : Act) (w : World) : Nat → List Oper → Prop
 | _, [] => True
 | i, o :: r => (∀ s w1, Below w.heap.size w w1 → (∀ j, ((List.range l.length).contains j && (B.getD i 0).testBit j) = true → V j (s j) w1) →
   ∀ R : Value → World → Prop, (∀ v w', Below w1.heap.size w1 w' → V i v w' → R v w') → opGives P o (putAll (dsOf l) 0 s a).eval w1 R) ∧ phiSteps P l B V a w (i + 1) r
theorem phiSteps_at {P : Program} {l : List Oper} {B : List Nat} {V : Nat → Value → World → Prop} {a : Act} {w : World} : ∀ (r : List Oper) (k : Nat), phiSteps P l B V a w k r → ∀ i o, r[i]? = some o →
  ∀ s w1, Below w.heap.size w w1 → (∀ j, ((List.range l.length).contains j && (B.getD (k + i) 0).testBit j) = true → V j (s j) w1) →
   ∀ R : Value → World → Prop, (∀ v w', Below w1.heap.size w1 w' → V (k + i) v w' → R v w') → opGives P o (putAll (dsOf l) 0 s a).eval w1 R
 | [], _, _, _, _, h => by cases h
 | x :: r, k, h, 0, o, ho => by cases ho; exact h.1
 | x :: r, k, h, i + 1, o, ho => by
  have := phiSteps_at r (k + 1) h.2 i o ho
  rwa [show k + 1 + i = k + (i + 1) by omega] at this
theorem grown_trans {a b c : World} {r : Option Nat} (h : a.grownBy b r) (h' : b.grownBy c r) : a.grownBy c r :=
 ⟨h'.os.trans h.os, h'.tape.trans h.tape, h'.output.trans h.output, Nat.le_trans h.size h'.size, fun k hk hne => (h'.block k (Nat.lt_of_lt_of_le hk h.size) hne).trans (h.block k hk hne)⟩
theorem set_grown (w : World) (b i : Nat) (v : Value) : w.grownBy (w.setCell ⟨b, i, none⟩ v) (some b) :=
 ⟨rfl, rfl, rfl, by simp, fun k _ hne => Below.heap_setCell w ⟨b, i, none⟩ v k (fun e => hne (by rw [e]))⟩
/-- the cells of pairs -/
def flat : List (Int × Int) → List Int
 | [] => []
 | p :: r => p.1 :: p.2 :: flat r
theorem flat_len : ∀ ps : List (Int × Int), (flat ps).length = ps.length * 2
 | [] => rfl
 | p :: r => by simp only [flat, List.length_cons, flat_len r]; omega
theorem flat_snoc : ∀ (ps : List (Int × Int)) (p : Int × Int), flat (ps ++ [p]) = flat ps ++ [p.1, p.2]
 | [], p => rfl
 | q :: r, p => by simp only [List.cons_append, flat, flat_snoc r p]
theorem flat_get : ∀ (ps : List (Int × Int)) (i : Nat) (p : Int × Int), ps[i]? = some p → (flat ps)[i * 2]? = some p.1 ∧ (flat ps)[i * 2 + 1]? = some p.2
 | [], i, p, h => by simp at h
 | q :: r, 0, p, h => by simp at h; subst h; simp [flat]
 | q :: r, i + 1, p, h => by
  have := flat_get r i p (by simpa using h)
  rw [show (i + 1) * 2 = i * 2 + 1 + 1 by omega]
  simp only [flat, List.getElem?_cons_succ]
  exact this
/-- v is a slice that reads these pairs -/
def ReadP (w : World) (v : Value) (ps : List (Int × Int)) : Prop := ∃ A c, v = .slice A ps.length c ∧ ps.length ≤ 9223372036854775807 ∧ (0 < ps.length → ∃ g, A = some ⟨g, 0, none⟩ ∧ ∀ j x, (flat ps)[j]? = some x → w.cell? ⟨g, j, none⟩ = some (.int .i64 x))
/-- v is a slice of pairs of the call's own -/
def OwnP (b : Nat) (w : World) (v : Value) (ps : List (Int × Int)) : Prop := w.ownsRow b 72 2 v ps.length ((flat ps).map (Value.int .i64))
theorem ReadP.below {w w' : World} {v : Value} {ps : List (Int × Int)} (h : ReadP w v ps) (hb : Below w.heap.size w w') : ReadP w' v ps := by
 obtain ⟨A, c, rfl, hl, hr⟩ := h
 refine ⟨A, c, rfl, hl, fun h0 => ?_⟩
 obtain ⟨ad, e, hc⟩ := hr h0
 exact ⟨ad, e, fun j x hj => pw_cell_below hb (hc j x hj)⟩
theorem ReadP.nil (w : World) : ReadP w (.slice none 0 0) [] := ⟨none, 0, rfl, by decide, fun h => absurd h (by decide)⟩
theorem ReadP.get {w : World} {A : Option Addr} {c : Nat} {ps : List (Int × Int)} (h : ReadP w (.slice A ps.length c) ps) {i : Nat} (hi : i < ps.length) :
  ∃ g x y, A = some ⟨g, 0, none⟩ ∧ ps[i]? = some (x, y) ∧ w.cell? ⟨g, i * 2, none⟩ = some (.int .i64 x) ∧ w.cell? ⟨g, i * 2 + 1, none⟩ = some (.int .i64 y) := by
 obtain ⟨A', c', e, _, hr⟩ := h
 cases e
 obtain ⟨ad, rfl, hc⟩ := hr (by omega)
 have h1 := List.getElem?_eq_getElem hi
 obtain ⟨h2, h3⟩ := flat_get ps i _ h1
 exact ⟨ad, ps[i].1, ps[i].2, rfl, h1, hc _ _ h2, hc _ _ h3⟩
theorem OwnP.read {b : Nat} {w : World} {v : Value} {ps : List (Int × Int)} (h : OwnP b w v ps) : ReadP w v ps := by
 rcases h.2 with ⟨rfl, h0⟩ | ⟨g, cap, cur, rfl, hb, hg, hnc, hcm, hcs, ht⟩
 ·obtain rfl : ps = [] := List.eq_nil_of_length_eq_zero h0
  exact ReadP.nil w
 ·refine ⟨_, _, rfl, by simp only [maxLen] at hcm; omega, fun _ => ⟨_, rfl, fun j x hj => ?_⟩⟩
  have hc := World.ownsRow.cells h (g := g) rfl j (.int .i64 x) (by rw [List.getElem?_map, hj]; rfl)
  rwa [add_plain] at hc
theorem OwnP.below {b : Nat} {w w' : World} {v : Value} {ps : List (Int × Int)} (h : OwnP b w v ps) (hb : Below w.heap.size w w') : OwnP b w' v ps := own_move h (fun k hk => hb.block k (own_lt h k hk))
theorem OwnP.lower {b b' : Nat} {w : World} {v : Value} {ps : List (Int × Int)} (h : OwnP b w v ps) (hb : b' ≤ b) : OwnP b' w v ps := own_weaken h hb
theorem OwnP.empty {b : Nat} (w : World) (hb : b ≤ w.heap.size) : OwnP b (w.alloc (.cells #[] 72)) (.slice (some ⟨w.heap.size, 0, none⟩) 0 0) [] := ⟨rfl, .inr ⟨w.heap.size, 0, #[], rfl, hb, heap_alloc_new w _, Nat.le_refl _, by decide, rfl, rfl⟩⟩
theorem OwnP.base {b : Nat} {w : World} {v : Value} {ps : List (Int × Int)} (h : OwnP b w v ps) : ∀ k, v.ownBlock = some k → b ≤ k := fun k hk => own_base h k hk
theorem OwnP.lt {b : Nat} {w : World} {v : Value} {ps : List (Int × Int)} (h : OwnP b w v ps) : ∀ k, v.ownBlock = some k → k < w.heap.size := fun k hk => own_lt h k hk
theorem OwnP.grown {b : Nat} {w w' : World} {v : Value} {ps : List (Int × Int)} (h : OwnP b w v ps) {row : Option Nat} (hg : w.grownBy w' row) (hn : ∀ k, v.ownBlock = some k → some k ≠ row) : OwnP b w' v ps := own_move h (fun k hk => hg.block k (own_lt h k hk) (hn k hk))
/-- the least index at which p holds, -1 if there is none -/
def idx {α : Type} (p : α → Bool) (xs : List α) : Int := if xs.findIdx p < xs.length then (xs.findIdx p : Int) else -1
/-- a function value of one int that answers a bool, and makes memory at the most -/
def PredI (w : World) (fv : Value) (p : Int → Bool) (dom : Int → Prop) : Prop :=
 ∃ g first caps, fv = .func (.func g) first caps ∧ Enters g ∧ ∀ w1 x, Below w.heap.size w w1 → dom x → Calls Tryz.prog g (first ++ #[.int .i64 x] ++ caps) w1 fun e w2 => e = .returned (.bool (p x)) ∧ Below w1.heap.size w1 w2
theorem idx_found {p : Int → Bool} {xs : List Int} {i : Nat} (hi : i < xs.length) (h0 : ∀ j, j < i → p (xs.getD j 0) = false) (h1 : p (xs.getD i 0) = true) : idx p xs = i := by
 have e : xs.findIdx p = i := by
  rw [List.findIdx_eq hi]
  refine ⟨by simpa [List.getD_eq_getElem?_getD, hi] using h1, fun j hj => ?_⟩
  have := h0 j hj
  simpa [List.getD_eq_getElem?_getD, Nat.lt_trans hj hi] using this
 unfold idx; rw [e, if_pos hi]
theorem idx_none {p : Int → Bool} {xs : List Int} (h0 : ∀ j, j < xs.length → p (xs.getD j 0) = false) : idx p xs = -1 := by
 have e : ¬ xs.findIdx p < xs.length := by
  rw [List.findIdx_lt_length]
  rintro ⟨x, hx, hp⟩
  obtain ⟨j, hj, rfl⟩ := List.getElem_of_mem hx
  have := h0 j hj
  simp [List.getD_eq_getElem?_getD, hj] at this
  rw [this] at hp; cases hp
 unfold idx; rw [if_neg e]
set_option maxHeartbeats 1000000 in
theorem indexFunc (v : Value) (xs : List Int) (fv : Value) (p : Int → Bool) (dom : Int → Prop) (w : World)
  (hr : ReadI w v xs) (hp : PredI w fv p dom) (hd : ∀ x ∈ xs, dom x) :
  Calls Tryz.prog 271 #[v, fv] w fun e w' => e = .returned (.int .i64 (idx p xs)) ∧ Below w.heap.size w w' := by
 obtain ⟨g, first, caps, rfl, hent, hp⟩ := hp
 obtain ⟨A, c, rfl, hc, hr⟩ := hr
 have HR := Aside0.mk hr
 have HP := Aside0.mk hp
 have HD := Aside0.mk hd
 have hlen : xs.length ≤ 9223372036854775807 := hr.2.1
 unfold Enters at hent
 clear hr hc hp hd
 go_enter Tryz.func271, Tryz.ntmps271
 go_wp2
 go_loopw [8] (fun v wr => ∃ i : Nat, v = .int .i64 i ∧ i ≤ xs.length ∧ Aside0 (∀ j, j < i → p (xs.getD j 0) = false) ∧ Below w.heap.size w wr) (fun v _ => xs.length - (intOf v).toNat)
 case atStart => exact ⟨0, rfl, Nat.zero_le _, ⟨fun j hj => absurd hj (Nat.not_lt_zero _)⟩, Below.refl _ _⟩
 case round =>
  obtain ⟨i, rfl, hi, HN, hb⟩ := hrel
  have hR := Kd.C_below HR.out hb
  by_cases hlt : i < xs.length
  ·obtain ⟨ad, e1, hcell⟩ := Kd.at_int hR (i : Int) (by omega) (by omega)
   cases e1
   have hx : dom (xs.getD i 0) := HD.out _ (by simp [List.getD_eq_getElem?_getD, hlt])
   have hrd : rd xs (i : Int) = xs.getD i 0 := by simp [rd]
   rw [hrd] at hcell
   simp only [Int.toNat_natCast] at hcell
   have HX := Aside0.mk hx
   have HB := Aside0.mk hb
   clear hx hrd hb hR
   generalize hy : xs.getD i 0 = y at *
   have HY := Aside0.mk hy
   clear hy
   cases hpy : p y with
   | false =>
    go_wp2_with (first | (refine (HP.out _ _ HB.out HX.out).mono ?_; rintro e w' ⟨rfl, hb2⟩))
    go_roundw
    case rel => exact ⟨i + 1, by go_num, by omega, ⟨fun j hj => by
     rcases Nat.lt_succ_iff_lt_or_eq.1 hj with h | rfl
     ·exact HN.out j h
     ·rw [HY.out]; exact hpy⟩, HB.out.trans (hb2.mono HB.out.size)⟩
    case measure => simp [intOf]; omega
   | true =>
    go_wp2_with (first | (refine (HP.out _ _ HB.out HX.out).mono ?_; rintro e w' ⟨rfl, hb2⟩))
    go_ret
    exact ⟨by rw [idx_found hlt HN.out (by rw [HY.out]; exact hpy)]; rfl, HB.out.trans (hb2.mono HB.out.size)⟩
  ·go_wp2
   go_ret
   exact ⟨by rw [idx_none (fun j hj => HN.out j (by omega))]; rfl, hb⟩
theorem idx_any {p : Int → Bool} {xs : List Int} : decide (0 ≤ idx p xs) = xs.any p := by
 unfold idx
 cases h : xs.any p with
 | true =>
  have : xs.findIdx p < xs.length := by rw [List.findIdx_lt_length]; simpa using h
  rw [if_pos this]; simp
 | false =>
  have : ¬ xs.findIdx p < xs.length := by rw [List.findIdx_lt_length]; simpa using h
  rw [if_neg this]; simp
set_option maxHeartbeats 1000000 in
theorem containsFunc (v : Value) (xs : List Int) (fv : Value) (p : Int → Bool) (dom : Int → Prop) (w : World)
  (hr : ReadI w v xs) (hp : PredI w fv p dom) (hd : ∀ x ∈ xs, dom x) :
  Calls Tryz.prog 122 #[v, fv] w fun e w' => e = .returned (.bool (xs.any p)) ∧ Below w.heap.size w w' := by
 have HR := Aside0.mk hr
 have HP := Aside0.mk hp
 have HD := Aside0.mk hd
 clear hp hd
 obtain ⟨A, c, rfl, -⟩ := id hr
 clear hr
 go_enter Tryz.func122, Tryz.ntmps122
 go_wp2_with (first | (go_at_call 271; refine (indexFunc _ _ _ _ _ _ HR.out HP.out HD.out).mono ?_; rintro e w' ⟨rfl, hb2⟩))
 go_ret
 exact ⟨by simp [← idx_any], hb2⟩
/-- areAll's own closure -/
theorem areAll1 (w : World) (b : Nat) (fv : Value) (p : Int → Bool) (dom : Int → Prop) (hc : w.cell? ⟨b, 0, none⟩ = some fv) (hp : PredI w fv p dom) :
  PredI w (.func (.func 275) #[] #[.pointer (some ⟨b, 0, none⟩)]) (fun x => !p x) dom := by
 refine ⟨_, _, _, rfl, Enters.mk' Tryz.func275 rfl rfl, fun w1 x hb hx => ?_⟩
 obtain ⟨g, first, caps, rfl, hent, hp⟩ := hp
 have hcell : w1.cell? ⟨b, 0, none⟩ = some (.func (.func g) first caps) := pw_cell_below hb hc
 have H := Aside0.mk (hp w1 x hb hx)
 unfold Enters at hent
 clear hp hb hx hc
 show Calls _ _ #[_, _] _ _
 go_enter Tryz.func275, Tryz.ntmps275
 go_wp2_with (first | (refine H.out.mono ?_; rintro e w' ⟨rfl, hb2⟩))
 go_ret
 exact ⟨by simp, hb2⟩
theorem PredI.below {w w' : World} {fv : Value} {p : Int → Bool} {dom : Int → Prop} (h : PredI w fv p dom) (hb : Below w.heap.size w w') : PredI w' fv p dom := by
 obtain ⟨g, first, caps, rfl, hent, hp⟩ := h
 exact ⟨g, first, caps, rfl, hent, fun w1 x h1 hx => hp w1 x (hb.trans (h1.mono hb.size)) hx⟩
set_option maxHeartbeats 1000000 in
theorem areAll (v : Value) (xs : List Int) (fv : Value) (p : Int → Bool) (dom : Int → Prop) (w : World)
  (hr : ReadI w v xs) (hp : PredI w fv p dom) (hd : ∀ x ∈ xs, dom x) :
  Calls Tryz.prog 138 #[v, fv] w fun e w' => e = .returned (.bool (xs.all p)) ∧ Below w.heap.size w w' := by
 obtain ⟨g, first, caps, rfl, -⟩ := id hp
 have hba : Below w.heap.size w (w.alloc (.cells #[.func (.func g) first caps] 104)) := Below.alloc (Below.refl _ _) (Nat.le_refl _) _
 have HR := Aside0.mk (hr.below hba)
 have HP := Aside0.mk (areAll1 (w.alloc (.cells #[.func (.func g) first caps] 104)) w.heap.size _ p dom (by simp) (hp.below hba))
 have HD := Aside0.mk hd
 have HB := Aside0.mk hba
 obtain ⟨A, c, rfl, -⟩ := id hr
 clear hr hp hd hba
 go_enter Tryz.func138, Tryz.ntmps138
 go_wp2_with (first | (go_at_call 122; refine (containsFunc _ _ _ _ _ _ HR.out HP.out HD.out).mono ?_; rintro e w' ⟨rfl, hb2⟩))
 go_ret
 exact ⟨by simp [List.all_eq_not_any_not], HB.out.trans (hb2.mono HB.out.size)⟩
theorem add_mk (g i : Nat) : (⟨g, 0, none⟩ : Addr).add i = ⟨g, i, none⟩ := by
 unfold Addr.add
 split
 ·next h => subst h; rfl
 ·simp
theorem OwnI.put {b g n cap : Nat} {W : World} {xs : List Int} (HO : OwnI b W (.slice (some ⟨g, 0, none⟩) n cap) xs) (i : Nat) (x : Int) : OwnI b (W.setCell ⟨g, i, none⟩ (.int .i64 x)) (.slice (some ⟨g, 0, none⟩) n cap) (xs.set i x) := by
 have hp := Kd.R_putg HO (i : Int) x
 simp only [Int.toNat_natCast] at hp
 exact hp.1
theorem specIn (a b c : Int) (w : World) : Calls Tryz.prog 148 #[.int .i64 a, .int .i64 b, .int .i64 c] w fun e w' => e = .returned (.bool (decide (b ≤ a) && decide (a ≤ c))) ∧ Below w.heap.size w w' := by
 go_enter Tryz.func148, Tryz.ntmps148
 go_wp2
 all_goals go_ret
 all_goals exact ⟨by simp [*] <;> omega, Below.refl _ _⟩
theorem within (a b c : Int) (w : World) : Calls Tryz.prog 136 #[.int .i64 a, .int .i64 b, .int .i64 c] w fun e w' => e = .returned (.bool (decide (b ≤ a) && decide (a ≤ c))) ∧ Below w.heap.size w w' := by
 go_enter Tryz.func136, Tryz.ntmps136
 go_wp2
 all_goals go_ret
 all_goals exact ⟨by simp [*] <;> omega, Below.refl _ _⟩
theorem isSize (a : Int) (w : World) : Calls Tryz.prog 135 #[.int .i64 a] w fun e w' => e = .returned (.bool (decide (1 ≤ a) && decide (a ≤ 6))) ∧ Below w.heap.size w w' := by
 go_enter Tryz.func135, Tryz.ntmps135
 go_wp2_with (first | (go_at_call 136; refine (within _ _ _ _).mono ?_; rintro e w' ⟨rfl, hb⟩))
 go_ret
 exact ⟨rfl, hb⟩
theorem wrap_small {n : Nat} (h : n < 9223372036854775808) : IntKind.i64.wrap (n : Int) = n := IntWalk.i64_in _ (by omega)
theorem ofInt_nat {a : Nat} (h : a < 9223372036854775808) : (BitVec.ofInt 64 (a : Int)).toNat = a := by
 rw [BitVec.ofInt_natCast, BitVec.toNat_ofNat]; exact Nat.mod_eq_of_lt (by omega)
theorem and_i64 (a b : Nat) (ha : a < 9223372036854775808) (hb : b < 9223372036854775808) : bits .and .i64 (a : Int) (b : Int) = ((a &&& b : Nat) : Int) := by
 have hx : a &&& b < 2 ^ 63 := Nat.and_lt_two_pow _ (by omega)
 show IntKind.i64.wrap ((BitVec.ofInt 64 (a : Int) &&& BitVec.ofInt 64 (b : Int)).toNat : Int) = _
 rw [BitVec.toNat_and, ofInt_nat ha, ofInt_nat hb, wrap_small (by omega)]
theorem or_i64 (a b : Nat) (ha : a < 9223372036854775808) (hb : b < 9223372036854775808) : bits .or .i64 (a : Int) (b : Int) = ((a ||| b : Nat) : Int) := by
 have hx : a ||| b < 2 ^ 63 := Nat.or_lt_two_pow (by omega) (by omega)
 show IntKind.i64.wrap ((BitVec.ofInt 64 (a : Int) ||| BitVec.ofInt 64 (b : Int)).toNat : Int) = _
 rw [BitVec.toNat_or, ofInt_nat ha, ofInt_nat hb, wrap_small (by omega)]
theorem andNot_i64 (a b : Nat) (ha : a < 9223372036854775808) (hb : b < 9223372036854775808) : bits .andNot .i64 (a : Int) (b : Int) = ((a ^^^ (a &&& b) : Nat) : Int) := by
 have hx : a &&& b < 2 ^ 63 := Nat.and_lt_two_pow _ (by omega)
 have hy : a ^^^ (a &&& b) < 2 ^ 63 := Nat.xor_lt_two_pow (by omega) hx
 have e : (BitVec.ofInt 64 (a : Int) &&& ~~~ BitVec.ofInt 64 (b : Int)) = (BitVec.ofInt 64 (a : Int) ^^^ (BitVec.ofInt 64 (a : Int) &&& BitVec.ofInt 64 (b : Int))) := by
  apply BitVec.eq_of_getElem_eq
  intro i hi
  simp only [BitVec.getElem_and, BitVec.getElem_not, BitVec.getElem_xor]
  cases (BitVec.ofInt 64 (a : Int))[i] <;> cases (BitVec.ofInt 64 (b : Int))[i] <;> rfl
 show IntKind.i64.wrap ((BitVec.ofInt 64 (a : Int) &&& ~~~ BitVec.ofInt 64 (b : Int)).toNat : Int) = _
 rw [e, BitVec.toNat_xor, BitVec.toNat_and, ofInt_nat ha, ofInt_nat hb, wrap_small (by omega)]
/-- a digit in base 2 -/
theorem bit_of (f k : Nat) (hf : f < 9223372036854775808) : bits .and .i64 ((f : Int) / 2 ^ k) 1 = if f.testBit k then 1 else 0 := by
 have e : ((f : Int) / 2 ^ k) = ((f / 2 ^ k : Nat) : Int) := by simp
 have hd : f / 2 ^ k ≤ f := Nat.div_le_self _ _
 rw [e, show (1 : Int) = ((1 : Nat) : Int) from rfl, and_i64 _ _ (by omega) (by omega), Nat.and_one_is_mod, Nat.testBit_eq_decide_div_mod_eq]
 have : f / 2 ^ k % 2 = 0 ∨ f / 2 ^ k % 2 = 1 := by omega
 rcases this with h | h <;> simp [h]
theorem pow_wrap : ∀ v, v < 7 → wrap64 ((2 : Int) ^ v) = ((2 ^ v : Nat) : Int) := by
 intro v hv
 rcases (by omega : v = 0 ∨ v = 1 ∨ v = 2 ∨ v = 3 ∨ v = 4 ∨ v = 5 ∨ v = 6) with rfl | rfl | rfl | rfl | rfl | rfl | rfl <;> (unfold wrap64; decide)
theorem pow_wrap' (v : Nat) (h : v < 7) : IntKind.i64.wrap ((2 : Int) ^ v) = ((2 ^ v : Nat) : Int) := by
 have hb : 2 ^ v ≤ 64 := by
  rcases (by omega : v = 0 ∨ v = 1 ∨ v = 2 ∨ v = 3 ∨ v = 4 ∨ v = 5 ∨ v = 6) with rfl | rfl | rfl | rfl | rfl | rfl | rfl <;> decide
 rw [show ((2 : Int) ^ v) = ((2 ^ v : Nat) : Int) by simp]
 exact wrap_small (by omega)
theorem pow_bd (v : Nat) (h : v ≤ 5) : 2 ^ v ≤ 32 := by
 rcases (by omega : v = 0 ∨ v = 1 ∨ v = 2 ∨ v = 3 ∨ v = 4 ∨ v = 5) with rfl | rfl | rfl | rfl | rfl | rfl <;> decide
end Go.Proofs.YtomofijniefelaaGreat.H
