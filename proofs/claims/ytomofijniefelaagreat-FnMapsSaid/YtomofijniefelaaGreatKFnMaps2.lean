/- What is said of slices of int64 and of function values; worlds in which nothing old has turned. slices.IndexFunc, slices.ContainsFunc and areAll at []int64: whatever predicate that makes memory at the most. The laws' own helpers: copies of slices, equality, marks. What everything needs: within, isSize, length. Bits of small numbers, as the walk spells them. Faces found: binary search, has, full, and the reference's own. those: the complex of the sets that are as told. Sets that make a complex: plain word. slices.Backward over a slice of numbers: what it yields, and that it keeps what lay before. Faces of at most six vertices: their vertices and borders, by the program and by the reference. -/
import Derived.Test.YtomofijniefelaaGreatProg
import Derived.Below
import Derived.Deep.Draws
import Derived.OwnWalk
import Derived.Laws.MakeOwn
import Derived.Laws.OwnMore
import Derived.Tactics
import Derived.Laws.Slices
import Derived.WalkKit
import Derived.KernelRfl
import Derived.RowKit3
import Derived.Deep.LoopGhost
import Derived.Deep.QuietTactic
import Derived.BigQuiet
import Derived.WideLaws
import Derived.Laws.Rows
import Derived.RowKit
import Derived.RangeFuncBox
import Derived.RangeFuncLeaves
import Derived.RangeFuncNested
import Derived.Shelf.RegionOpen
import Derived.Shelf.Abstract
import Derived.OwnWalkIn
import Derived.TacticsInMore
import Derived.LoopNIn
import Derived.LoopIn
import Derived.Maps.AppendAt
import Derived.Test.YtomofijniefelaaGreatKFnMaps1

namespace Go.Proofs.YtomofijniefelaaGreat.H
open Go.RowKit Go.Proofs.YtomofijniefelaaGreatW.PrintWords Go.Proofs.YtomofijniefelaaGreatW.PrintLast
set_option linter.unusedVariables false
set_option linter.unusedSimpArgs false
theorem below_drewN {B : Nat} {w W : World} (h : Below B w W) (n : Nat) : Below B w (W.drewN n) := ⟨h.os, h.tape, h.output, h.size, h.block⟩
theorem info64 : (Tryz.prog.info? 2).map (fun i => (i.zero, i.size, i.bytes)) = some (some (.int .i64 0), 1, 8) := by kernel_rfl
/-- a slice of numbers that can be read -/
def ReadI (w : World) (v : Value) (xs : List Int) : Prop := ∃ A c, v = .slice A xs.length c ∧ xs.length ≤ c ∧ Kd.C (Kd.int .i64) w A xs.length xs
/-- a slice of numbers that lies in a block of its own, from block b on -/
def OwnI (b : Nat) (w : World) (v : Value) (xs : List Int) : Prop := Kd.R (Kd.int .i64) 2 w b (fun _ => True) v xs
theorem ReadI.below {w w' : World} {v : Value} {xs : List Int} (h : ReadI w v xs) (hb : Below w.heap.size w w') : ReadI w' v xs := by
 obtain ⟨A, c, rfl, hc, hr⟩ := h
 exact ⟨A, c, rfl, hc, Kd.C_below hr hb⟩
theorem ReadI.len {w : World} {v : Value} {xs : List Int} (h : ReadI w v xs) : xs.length ≤ 9223372036854775807 := by
 obtain ⟨A, c, rfl, hc, hr⟩ := h
 exact hr.2.1
theorem ReadI.at_ {w : World} {A : Option Addr} {xs : List Int} (h : Kd.C (Kd.int .i64) w A xs.length xs) {i : Nat} (hi : i < xs.length) :
  ∃ ad, A = some ad ∧ w.cell? (ad.add i) = some (.int .i64 (xs.getD i 0)) := by
 obtain ⟨ad, e, hc⟩ := Kd.at_int h (i : Int) (by omega) (by omega)
 exact ⟨ad, e, by simpa [rd] using hc⟩
theorem ReadI.get {w : World} {A : Option Addr} {xs : List Int} (h : Kd.C (Kd.int .i64) w A xs.length xs) {i : Nat} (hi : i < xs.length) :
  ∃ ad y, A = some ad ∧ w.cell? (ad.add i) = some (.int .i64 y) ∧ Aside0 (xs.getD i 0 = y) := by
 obtain ⟨ad, e, hc⟩ := ReadI.at_ h hi
 exact ⟨ad, _, e, hc, ⟨rfl⟩⟩
theorem take_get {xs : List Int} {i : Nat} {y : Int} (h : i < xs.length) (hy : xs.getD i 0 = y) : xs.take (i + 1) = xs.take i ++ [y] := by
 rw [List.take_succ_eq_append_getElem h, ← hy]; simp [List.getD_eq_getElem?_getD, h]
theorem OwnI.read {b : Nat} {w : World} {v : Value} {xs : List Int} (h : OwnI b w v xs) : ReadI w v xs := by
 obtain ⟨A, c, e, hl, hr⟩ := Kd.R_reads h
 exact ⟨A, c, e, hl, hr⟩
theorem OwnI.below {b : Nat} {w w' : World} {v : Value} {xs : List Int} (h : OwnI b w v xs) (hb : Below w.heap.size w w') : OwnI b w' v xs := Kd.R_below h hb
theorem OwnI.lower {b b' : Nat} {w : World} {v : Value} {xs : List Int} (h : OwnI b w v xs) (hb : b' ≤ b) : OwnI b' w v xs := Kd.R_lower h hb
theorem OwnI.nil (b : Nat) (w : World) : OwnI b w (.slice none 0 0) [] := Kd.R_nil _ _ _ _ _
theorem OwnI.base {b : Nat} {w : World} {v : Value} {xs : List Int} (h : OwnI b w v xs) : ∀ k, v.ownBlock = some k → b ≤ k := by
 obtain ⟨inner, ho⟩ := Kd.R_own h
 exact fun k hk => own_base ho k hk
theorem OwnI.lt {b : Nat} {w : World} {v : Value} {xs : List Int} (h : OwnI b w v xs) : ∀ k, v.ownBlock = some k → k < w.heap.size := by
 obtain ⟨inner, ho⟩ := Kd.R_own h
 exact fun k hk => own_lt ho k hk
/-- out of the kit's own word -/
theorem OwnI.of_row {b b' : Nat} {w : World} {v : Value} {xs : List Int} (h : w.ownsRow b 2 1 v xs.length (xs.map (Value.int .i64))) (hb : b' ≤ b) : OwnI b' w v xs := by
 refine ⟨fun _ _ => trivial, xs.map (Value.int .i64), own_less h hb, by rw [List.length_map]; exact (Nat.mul_one _).symm, fun j p hj => ?_⟩
 show ((xs.map (Value.int .i64)).drop (j * 1)).take 1 = [Value.int .i64 p]
 rw [Nat.mul_one, ← List.map_drop, ← List.map_take]
 have : xs.drop j = p :: xs.drop (j + 1) := by
  obtain ⟨hj', e⟩ := List.getElem?_eq_some_iff.1 hj
  rw [← e, List.getElem_cons_drop]
 rw [this]; rfl
/-- another block has been written -/
theorem OwnI.grown {b : Nat} {w w' : World} {v : Value} {xs : List Int} (h : OwnI b w v xs) {row : Option Nat} (hg : w.grownBy w' row) (hn : ∀ k, v.ownBlock = some k → some k ≠ row) : OwnI b w' v xs := by
 obtain ⟨h0, inner, ho, hr⟩ := h
 exact ⟨h0, inner, own_move ho (fun k hk => hg.block k (own_lt ho k hk) (hn k hk)), hr⟩
/-- its cells may be written -/
theorem OwnI.slot {b g n cap : Nat} {w : World} {xs : List Int} (h : OwnI b w (.slice (some ⟨g, 0, none⟩) n cap) xs) {i : Nat} (hi : i < n) : (∃ y, w.cell? ⟨g, i, none⟩ = some (.int .i64 y)) ∧ w.frozen? ⟨g, i, none⟩ = false := by
 have hc := Kd.R_celln (0 : Int) h (i : Int) (by omega) (by omega)
 simp only [Int.toNat_natCast] at hc
 exact ⟨⟨_, hc.1⟩, hc.2⟩
section
variable {P : Program} {ops : Array Oper} {rest : List Oper} {o : Oper} {a : Act} {Q : Exit → Act → World → Prop}
/-- append(v, p), v a slice of the call's own; the one-cell block of the variadic lies ahead -/
theorem app_own {w0 W : World} (base : Nat) (hgd : o.guard = none) (s x : Operand) (ho : o.op = .call { callee := .builtin .append, args := #[s, x], argTypes := #[24, 24] })
  (v : Value) (xs : List Int) (p : Int) (hs : a.eval s = v) (hx : a.eval x = .slice (some ⟨W.heap.size, 0, none⟩) 1 1)
  (HO : OwnI base W v xs) (HB : Below base w0 W) (hbase : base ≤ W.heap.size) (hl : xs.length < 17592186044416)
  (h : ∀ v1 w1, OwnI base w1 v1 (xs ++ [p]) → Below base w0 w1 → W.grownBy w1 v.ownBlock → (v1.ownBlock = v.ownBlock ∨ ∃ b, v1.ownBlock = some b ∧ W.heap.size ≤ b) → wpList Tryz.prog ops Q rest (a.put o.dst v1) w1) :
  wpList Tryz.prog ops Q (o :: rest) a (W.alloc (.cells #[.int .i64 p] 2)) :=
 Kd.R_append (Kd.int .i64) (w0 := w0) base hgd s x 24 2 (.int .i64 0) 8 ho Tryz.underlying24 info64 rfl (by decide) (by omega) v xs p [.int .i64 p] (fun _ => True) (fun _ => False) hs hx rfl (fun _ hk => hk.elim) (fun _ _ => trivial) HO HB hbase (by omega) h
/-- out[i] = x -/
theorem store_own {w0 W : World} {b g n cap : Nat} {xs : List Int} (hgd : o.guard = none) {p : Tmp} {v : Operand} (ho : o.op = .store 2 (.tmp p) v) (hN : o.dst = none)
  (i : Nat) (x : Int) (HO : OwnI b W (.slice (some ⟨g, 0, none⟩) n cap) xs) (hi : i < n) (hp : a.eval (.tmp p) = .pointer (some ⟨g, i, none⟩)) (hv : a.eval v = .int .i64 x)
  (h : ∀ w', OwnI b w' (.slice (some ⟨g, 0, none⟩) n cap) (xs.set i x) → W.grownBy w' (some g) → Below b W w' → wpList Tryz.prog ops Q rest a w') : wpList Tryz.prog ops Q (o :: rest) a W := by
 have hc := Kd.R_celln (0 : Int) HO (i : Int) (by omega) (by omega)
 simp only [Int.toNat_natCast] at hc
 have hp' := Kd.R_putg HO (i : Int) x
 simp only [Int.toNat_natCast] at hp'
 refine store_event (w1 := W.setCell ⟨g, i, none⟩ (.int .i64 x)) hgd ho hN ?_ (fun w' e => h w' ?_ ?_ ?_)
 ·obtain ⟨h1, h2⟩ := hc
  generalize a.eval = ρ at hp hv ⊢
  simp [execOp, ho, hp, hv, go_sem, h1, h2]
 ·rw [e]; exact hp'.1
 ·rw [e]; exact hp'.2
 ·rw [e]; exact Below.setCell (Below.refl _ _) (OwnI.base HO g (by simp [Value.ownBlock])) _
end
/-- worlds in which nothing that was there has turned -/
def Ext (w : World) := {w' : World // Below w.heap.size w w'}
instance (w : World) : Inhabited (Ext w) := ⟨⟨w, Below.refl _ _⟩⟩
theorem Ext.cell {w : World} {a : Addr} {v : Value} (h : w.cell? a = some v) (x : Ext w) : x.1.cell? a = some v := pw_cell_below x.2 h
theorem wp_region_ext {P : Program} {id : Nat} {Q : Exit → Act → World → Prop} {a : Act} {w : World} {l : List Oper} (hm : P.follows .mixedOrders = true) (hB : Region.lexB .any l.toArray = true)
  (h : wpQuiet P l.toArray (fun w' => ∃ x : Ext w, w' = x.1) (fun a' => ∀ w', (∃ x : Ext w, w' = x.1) → Q .normal a' w') l a) : (Code.region id l.toArray true).wp P Q a w :=
 wp_region_quiet (C := fun w' => ∃ x : Ext w, w' = x.1) hm hB ⟨⟨_, (Below.refl _ w).drew⟩, rfl⟩ (by simpa using h)
theorem Calls.ext_of {P : Program} {f : FuncId} {args : Array Value} {w : World} {x : Ext w} {v : Value}
  (h : Calls P f args x.1 fun e w' => e = .returned v ∧ Below x.1.heap.size x.1 w') : Calls P f args x.1 fun e w' => e = .returned v ∧ ∃ y : Ext w, w' = y.1 :=
 h.mono fun _ _ ⟨he, hb⟩ => ⟨he, ⟨⟨_, x.2.trans (hb.mono x.2.size)⟩, rfl⟩⟩
/-- a function with a body is entered -/
def Enters (g : FuncId) : Prop := ∀ (args : Array Value) (w : World), Sem.run Tryz.prog (callFunc g args) w = .ok (.enter g args) w
theorem Enters.mk' {g : FuncId} {fn : Func} (hf : Tryz.prog.funcs[g]? = some fn) (hn : (fn.name == "runtime.NumGoroutine") = false) (hb : fn.body.isNone = false) : Enters g := by
 intro args w
 have hn' : ¬ fn.name = "runtime.NumGoroutine" := by simpa using hn
 have hb' : ¬ fn.body = none := by intro h; rw [h] at hb; cases hb
 simp [callFunc, go_sem, hf, hn', hb']
/-- the least index at which p holds, -1 if there is none -/
def idx {α : Type} (p : α → Bool) (xs : List α) : Int := if xs.findIdx p < xs.length then (xs.findIdx p : Int) else -1
/-- a function value of one int that answers a bool, and makes memory at the most -/
def PredI (w : World) (fv : Value) (p : Int → Bool) (dom : Int → Prop) : Prop :=
 ∃ g first caps, fv = .func (.func g) first caps ∧ Enters g ∧ ∀ w1 x, Below w.heap.size w w1 → dom x → Calls Tryz.prog g (first ++ #[.int .i64 x] ++ caps) w1 fun e w2 => e = .returned (.bool (p x)) ∧ Below w1.heap.size w1 w2
theorem idx_found {p : Int → Bool} {xs : List Int} {i : Nat} (hi : i < xs.length) (h0 : ∀ j, j < i → p (xs.getD j 0) = false) (h1 : p (xs.getD i 0) = true) : idx p xs = i := by
 have e : xs.findIdx p = i := by
  rw [List.findIdx_eq hi]
  refine ⟨by simpa [List.getD_eq_getElem?_getD, hi] using h1, fun j hj => ?_⟩
  have := h0 j hj
  simpa [List.getD_eq_getElem?_getD, Nat.lt_trans hj hi] using this
 unfold idx; rw [e, if_pos hi]
theorem idx_none {p : Int → Bool} {xs : List Int} (h0 : ∀ j, j < xs.length → p (xs.getD j 0) = false) : idx p xs = -1 := by
 have e : ¬ xs.findIdx p < xs.length := by
  rw [List.findIdx_lt_length]
  rintro ⟨x, hx, hp⟩
  obtain ⟨j, hj, rfl⟩ := List.getElem_of_mem hx
  have := h0 j hj
  simp [List.getD_eq_getElem?_getD, hj] at this
  rw [this] at hp; cases hp
 unfold idx; rw [if_neg e]
set_option maxHeartbeats 1000000 in
theorem indexFunc (v : Value) (xs : List Int) (fv : Value) (p : Int → Bool) (dom : Int → Prop) (w : World)
  (hr : ReadI w v xs) (hp : PredI w fv p dom) (hd : ∀ x ∈ xs, dom x) :
  Calls Tryz.prog 271 #[v, fv] w fun e w' => e = .returned (.int .i64 (idx p xs)) ∧ Below w.heap.size w w' := by
 obtain ⟨g, first, caps, rfl, hent, hp⟩ := hp
 obtain ⟨A, c, rfl, hc, hr⟩ := hr
 have HR := Aside0.mk hr
 have HP := Aside0.mk hp
 have HD := Aside0.mk hd
 have hlen : xs.length ≤ 9223372036854775807 := hr.2.1
 unfold Enters at hent
 clear hr hc hp hd
 go_enter Tryz.func271, Tryz.ntmps271
 go_wp2
 go_loopw [8] (fun v wr => ∃ i : Nat, v = .int .i64 i ∧ i ≤ xs.length ∧ Aside0 (∀ j, j < i → p (xs.getD j 0) = false) ∧ Below w.heap.size w wr) (fun v _ => xs.length - (intOf v).toNat)
 case atStart => exact ⟨0, rfl, Nat.zero_le _, ⟨fun j hj => absurd hj (Nat.not_lt_zero _)⟩, Below.refl _ _⟩
 case round =>
  obtain ⟨i, rfl, hi, HN, hb⟩ := hrel
  have hR := Kd.C_below HR.out hb
  by_cases hlt : i < xs.length
  ·obtain ⟨ad, e1, hcell⟩ := Kd.at_int hR (i : Int) (by omega) (by omega)
   cases e1
   have hx : dom (xs.getD i 0) := HD.out _ (by simp [List.getD_eq_getElem?_getD, hlt])
   have hrd : rd xs (i : Int) = xs.getD i 0 := by simp [rd]
   rw [hrd] at hcell
   simp only [Int.toNat_natCast] at hcell
   have HX := Aside0.mk hx
   have HB := Aside0.mk hb
   clear hx hrd hb hR
   generalize hy : xs.getD i 0 = y at *
   have HY := Aside0.mk hy
   clear hy
   cases hpy : p y with
   | false =>
    go_wp2_with (first | (refine (HP.out _ _ HB.out HX.out).mono ?_; rintro e w' ⟨rfl, hb2⟩))
    go_roundw
    case rel => exact ⟨i + 1, by go_num, by omega, ⟨fun j hj => by
     rcases Nat.lt_succ_iff_lt_or_eq.1 hj with h | rfl
     ·exact HN.out j h
     ·rw [HY.out]; exact hpy⟩, HB.out.trans (hb2.mono HB.out.size)⟩
    case measure => simp [intOf]; omega
   | true =>
    go_wp2_with (first | (refine (HP.out _ _ HB.out HX.out).mono ?_; rintro e w' ⟨rfl, hb2⟩))
    go_ret
    exact ⟨by rw [idx_found hlt HN.out (by rw [HY.out]; exact hpy)]; rfl, HB.out.trans (hb2.mono HB.out.size)⟩
  ·go_wp2
   go_ret
   exact ⟨by rw [idx_none (fun j hj => HN.out j (by omega))]; rfl, hb⟩
theorem idx_any {p : Int → Bool} {xs : List Int} : decide (0 ≤ idx p xs) = xs.any p := by
 unfold idx
 cases h : xs.any p with
 | true =>
  have : xs.findIdx p < xs.length := by rw [List.findIdx_lt_length]; simpa using h
  rw [if_pos this]; simp
 | false =>
  have : ¬ xs.findIdx p < xs.length := by rw [List.findIdx_lt_length]; simpa using h
  rw [if_neg this]; simp
set_option maxHeartbeats 1000000 in
theorem containsFunc (v : Value) (xs : List Int) (fv : Value) (p : Int → Bool) (dom : Int → Prop) (w : World)
  (hr : ReadI w v xs) (hp : PredI w fv p dom) (hd : ∀ x ∈ xs, dom x) :
  Calls Tryz.prog 122 #[v, fv] w fun e w' => e = .returned (.bool (xs.any p)) ∧ Below w.heap.size w w' := by
 have HR := Aside0.mk hr
 have HP := Aside0.mk hp
 have HD := Aside0.mk hd
 clear hp hd
 obtain ⟨A, c, rfl, -⟩ := id hr
 clear hr
 go_enter Tryz.func122, Tryz.ntmps122
 go_wp2_with (first | (go_at_call 271; refine (indexFunc _ _ _ _ _ _ HR.out HP.out HD.out).mono ?_; rintro e w' ⟨rfl, hb2⟩))
 go_ret
 exact ⟨by simp [← idx_any], hb2⟩
/-- areAll's own closure -/
theorem areAll1 (w : World) (b : Nat) (fv : Value) (p : Int → Bool) (dom : Int → Prop) (hc : w.cell? ⟨b, 0, none⟩ = some fv) (hp : PredI w fv p dom) :
  PredI w (.func (.func 275) #[] #[.pointer (some ⟨b, 0, none⟩)]) (fun x => !p x) dom := by
 refine ⟨_, _, _, rfl, Enters.mk' Tryz.func275 rfl rfl, fun w1 x hb hx => ?_⟩
 obtain ⟨g, first, caps, rfl, hent, hp⟩ := hp
 have hcell : w1.cell? ⟨b, 0, none⟩ = some (.func (.func g) first caps) := pw_cell_below hb hc
 have H := Aside0.mk (hp w1 x hb hx)
 unfold Enters at hent
 clear hp hb hx hc
 show Calls _ _ #[_, _] _ _
 go_enter Tryz.func275, Tryz.ntmps275
 go_wp2_with (first | (refine H.out.mono ?_; rintro e w' ⟨rfl, hb2⟩))
 go_ret
 exact ⟨by simp, hb2⟩
theorem PredI.below {w w' : World} {fv : Value} {p : Int → Bool} {dom : Int → Prop} (h : PredI w fv p dom) (hb : Below w.heap.size w w') : PredI w' fv p dom := by
 obtain ⟨g, first, caps, rfl, hent, hp⟩ := h
 exact ⟨g, first, caps, rfl, hent, fun w1 x h1 hx => hp w1 x (hb.trans (h1.mono hb.size)) hx⟩
set_option maxHeartbeats 1000000 in
theorem areAll (v : Value) (xs : List Int) (fv : Value) (p : Int → Bool) (dom : Int → Prop) (w : World)
  (hr : ReadI w v xs) (hp : PredI w fv p dom) (hd : ∀ x ∈ xs, dom x) :
  Calls Tryz.prog 138 #[v, fv] w fun e w' => e = .returned (.bool (xs.all p)) ∧ Below w.heap.size w w' := by
 obtain ⟨g, first, caps, rfl, -⟩ := id hp
 have hba : Below w.heap.size w (w.alloc (.cells #[.func (.func g) first caps] 104)) := Below.alloc (Below.refl _ _) (Nat.le_refl _) _
 have HR := Aside0.mk (hr.below hba)
 have HP := Aside0.mk (areAll1 (w.alloc (.cells #[.func (.func g) first caps] 104)) w.heap.size _ p dom (by simp) (hp.below hba))
 have HD := Aside0.mk hd
 have HB := Aside0.mk hba
 obtain ⟨A, c, rfl, -⟩ := id hr
 clear hr hp hd hba
 go_enter Tryz.func138, Tryz.ntmps138
 go_wp2_with (first | (go_at_call 122; refine (containsFunc _ _ _ _ _ _ HR.out HP.out HD.out).mono ?_; rintro e w' ⟨rfl, hb2⟩))
 go_ret
 exact ⟨by simp [List.all_eq_not_any_not], HB.out.trans (hb2.mono HB.out.size)⟩
theorem add_mk (g i : Nat) : (⟨g, 0, none⟩ : Addr).add i = ⟨g, i, none⟩ := by
 unfold Addr.add
 split
 ·next h => subst h; rfl
 ·simp
theorem length_any (A : Option Addr) (n c : Nat) (w : World) :
  Calls Tryz.prog 281 #[.slice A n c] w fun e w' => e = .returned (.int .i64 n) ∧ Below w.heap.size w w' := by
 go_enter Tryz.func281, Tryz.ntmps281
 go_wp2
 go_ret
 exact ⟨rfl, Below.refl _ _⟩
theorem specIn (a b c : Int) (w : World) : Calls Tryz.prog 148 #[.int .i64 a, .int .i64 b, .int .i64 c] w fun e w' => e = .returned (.bool (decide (b ≤ a) && decide (a ≤ c))) ∧ Below w.heap.size w w' := by
 go_enter Tryz.func148, Tryz.ntmps148
 go_wp2
 all_goals go_ret
 all_goals exact ⟨by simp [*] <;> omega, Below.refl _ _⟩
theorem within (a b c : Int) (w : World) : Calls Tryz.prog 136 #[.int .i64 a, .int .i64 b, .int .i64 c] w fun e w' => e = .returned (.bool (decide (b ≤ a) && decide (a ≤ c))) ∧ Below w.heap.size w w' := by
 go_enter Tryz.func136, Tryz.ntmps136
 go_wp2
 all_goals go_ret
 all_goals exact ⟨by simp [*] <;> omega, Below.refl _ _⟩
theorem isSize (a : Int) (w : World) : Calls Tryz.prog 135 #[.int .i64 a] w fun e w' => e = .returned (.bool (decide (1 ≤ a) && decide (a ≤ 6))) ∧ Below w.heap.size w w' := by
 go_enter Tryz.func135, Tryz.ntmps135
 go_wp2_with (first | (go_at_call 136; refine (within _ _ _ _).mono ?_; rintro e w' ⟨rfl, hb⟩))
 go_ret
 exact ⟨rfl, hb⟩
theorem wrap_small {n : Nat} (h : n < 9223372036854775808) : IntKind.i64.wrap (n : Int) = n := IntWalk.i64_in _ (by omega)
theorem ofInt_nat {a : Nat} (h : a < 9223372036854775808) : (BitVec.ofInt 64 (a : Int)).toNat = a := by
 rw [BitVec.ofInt_natCast, BitVec.toNat_ofNat]; exact Nat.mod_eq_of_lt (by omega)
theorem and_i64 (a b : Nat) (ha : a < 9223372036854775808) (hb : b < 9223372036854775808) : bits .and .i64 (a : Int) (b : Int) = ((a &&& b : Nat) : Int) := by
 have hx : a &&& b < 2 ^ 63 := Nat.and_lt_two_pow _ (by omega)
 show IntKind.i64.wrap ((BitVec.ofInt 64 (a : Int) &&& BitVec.ofInt 64 (b : Int)).toNat : Int) = _
 rw [BitVec.toNat_and, ofInt_nat ha, ofInt_nat hb, wrap_small (by omega)]
theorem or_i64 (a b : Nat) (ha : a < 9223372036854775808) (hb : b < 9223372036854775808) : bits .or .i64 (a : Int) (b : Int) = ((a ||| b : Nat) : Int) := by
 have hx : a ||| b < 2 ^ 63 := Nat.or_lt_two_pow (by omega) (by omega)
 show IntKind.i64.wrap ((BitVec.ofInt 64 (a : Int) ||| BitVec.ofInt 64 (b : Int)).toNat : Int) = _
 rw [BitVec.toNat_or, ofInt_nat ha, ofInt_nat hb, wrap_small (by omega)]
theorem andNot_i64 (a b : Nat) (ha : a < 9223372036854775808) (hb : b < 9223372036854775808) : bits .andNot .i64 (a : Int) (b : Int) = ((a ^^^ (a &&& b) : Nat) : Int) := by
 have hx : a &&& b < 2 ^ 63 := Nat.and_lt_two_pow _ (by omega)
 have hy : a ^^^ (a &&& b) < 2 ^ 63 := Nat.xor_lt_two_pow (by omega) hx
 have e : (BitVec.ofInt 64 (a : Int) &&& ~~~ BitVec.ofInt 64 (b : Int)) = (BitVec.ofInt 64 (a : Int) ^^^ (BitVec.ofInt 64 (a : Int) &&& BitVec.ofInt 64 (b : Int))) := by
  apply BitVec.eq_of_getElem_eq
  intro i hi
  simp only [BitVec.getElem_and, BitVec.getElem_not, BitVec.getElem_xor]
  cases (BitVec.ofInt 64 (a : Int))[i] <;> cases (BitVec.ofInt 64 (b : Int))[i] <;> rfl
 show IntKind.i64.wrap ((BitVec.ofInt 64 (a : Int) &&& ~~~ BitVec.ofInt 64 (b : Int)).toNat : Int) = _
 rw [e, BitVec.toNat_xor, BitVec.toNat_and, ofInt_nat ha, ofInt_nat hb, wrap_small (by omega)]
/-- a digit in base 2 -/
theorem bit_of (f k : Nat) (hf : f < 9223372036854775808) : bits .and .i64 ((f : Int) / 2 ^ k) 1 = if f.testBit k then 1 else 0 := by
 have e : ((f : Int) / 2 ^ k) = ((f / 2 ^ k : Nat) : Int) := by simp
 have hd : f / 2 ^ k ≤ f := Nat.div_le_self _ _
 rw [e, show (1 : Int) = ((1 : Nat) : Int) from rfl, and_i64 _ _ (by omega) (by omega), Nat.and_one_is_mod, Nat.testBit_eq_decide_div_mod_eq]
 have : f / 2 ^ k % 2 = 0 ∨ f / 2 ^ k % 2 = 1 := by omega
 rcases this with h | h <;> simp [h]
theorem pow_wrap : ∀ v, v < 7 → wrap64 ((2 : Int) ^ v) = ((2 ^ v : Nat) : Int) := by
 intro v hv
 rcases (by omega : v = 0 ∨ v = 1 ∨ v = 2 ∨ v = 3 ∨ v = 4 ∨ v = 5 ∨ v = 6) with rfl | rfl | rfl | rfl | rfl | rfl | rfl <;> (unfold wrap64; decide)
theorem pow_wrap' (v : Nat) (h : v < 7) : IntKind.i64.wrap ((2 : Int) ^ v) = ((2 ^ v : Nat) : Int) := by
 have hb : 2 ^ v ≤ 64 := by
  rcases (by omega : v = 0 ∨ v = 1 ∨ v = 2 ∨ v = 3 ∨ v = 4 ∨ v = 5 ∨ v = 6) with rfl | rfl | rfl | rfl | rfl | rfl | rfl <;> decide
 rw [show ((2 : Int) ^ v) = ((2 ^ v : Nat) : Int) by simp]
 exact wrap_small (by omega)
theorem pow_bd (v : Nat) (h : v ≤ 5) : 2 ^ v ≤ 32 := by
 rcases (by omega : v = 0 ∨ v = 1 ∨ v = 2 ∨ v = 3 ∨ v = 4 ∨ v = 5) with rfl | rfl | rfl | rfl | rfl | rfl <;> decide
/-- the value of a complex -/
abbrev cx (a : Int) (u : Value) : Value := .agg #[.int .i64 a, u]
theorem cmpNaN (x : Int) (w : World) : Calls Tryz.prog 382 #[.int .i64 x] w fun e w' => e = .returned (.bool false) ∧ Below w.heap.size w w' := by
 go_enter Tryz.func382, Tryz.ntmps382
 go_wp2
 go_ret
 exact ⟨by simp, Below.refl _ _⟩
theorem slicesNaN (x : Int) (w : World) : Calls Tryz.prog 342 #[.int .i64 x] w fun e w' => e = .returned (.bool false) ∧ Below w.heap.size w w' := by
 go_enter Tryz.func342, Tryz.ntmps342
 go_wp2
 go_ret
 exact ⟨by simp, Below.refl _ _⟩
theorem cmpLess (x y : Int) (w : World) : Calls Tryz.prog 341 #[.int .i64 x, .int .i64 y] w fun e w' => e = .returned (.bool (decide (x < y))) ∧ Below w.heap.size w w' := by
 go_enter Tryz.func341, Tryz.ntmps341
 go_wp2_with (first | (go_at_call 382; refine (cmpNaN _ _).mono ?_; rintro e w' ⟨rfl, hb⟩))
 all_goals go_ret
 all_goals exact ⟨by simp [*] <;> omega, by (repeat (first | (with_reducible exact Below.refl _ _) | (with_reducible assumption) | (with_reducible refine below_step ?_ (by assumption)) | (with_reducible apply below_alloc) | (with_reducible apply below_drewN)))⟩
theorem asc_lt {xs : List Int} (hs : xs.Pairwise (· < ·)) {i j : Nat} (hij : i < j) (hj : j < xs.length) : xs.getD i 0 < xs.getD j 0 := by
 have := List.pairwise_iff_getElem.1 hs i j (by omega) hj hij
 simpa [List.getD_eq_getElem?_getD, hj, Nat.lt_trans hij hj] using this
theorem mem_at {xs : List Int} {i : Nat} {x : Int} (hi : i < xs.length) (h : xs.getD i 0 = x) : x ∈ xs := by
 rw [← h]; simp [List.getD_eq_getElem?_getD, hi]
theorem mem_none {xs : List Int} (hs : xs.Pairwise (· < ·)) {i : Nat} {x : Int} (hl : ∀ k, k < i → xs.getD k 0 < x) (hg : ∀ k, i ≤ k → k < xs.length → x < xs.getD k 0) : ¬ x ∈ xs := by
 intro hm
 obtain ⟨k, hk, rfl⟩ := List.getElem_of_mem hm
 have e : xs.getD k 0 = xs[k] := by simp [List.getD_eq_getElem?_getD, hk]
 by_cases h : k < i
 ·have := hl k h; omega
 ·have := hg k (by omega) hk; omega
set_option maxHeartbeats 1000000 in
theorem binarySearch (v : Value) (xs : List Int) (x : Int) (w : World) (hr : ReadI w v xs) (hs : xs.Pairwise (· < ·)) (hl : xs.length ≤ 1000) :
  Calls Tryz.prog 248 #[v, .int .i64 x] w fun e w' => ∃ j : Int, e = .returned (.tuple #[.int .i64 j, .bool (decide (x ∈ xs))]) ∧ Below w.heap.size w w' := by
 obtain ⟨A, c, rfl, hc, hr⟩ := hr
 have HR := Aside0.mk hr
 have HS := Aside0.mk hs
 clear hr hs
 go_enter Tryz.func248, Tryz.ntmps248
 go_wp2
 go_loopw [7, 8] (fun vi vj wr => ∃ i j : Nat, vi = .int .i64 i ∧ vj = .int .i64 j ∧ i ≤ j ∧ j ≤ xs.length ∧ Aside0 (∀ k, k < i → xs.getD k 0 < x) ∧ Aside0 (∀ k, j ≤ k → k < xs.length → x ≤ xs.getD k 0) ∧ Below w.heap.size w wr) (fun vi vj _ => (intOf vj).toNat - (intOf vi).toNat)
 case atStart => exact ⟨0, xs.length, rfl, rfl, Nat.zero_le _, Nat.le_refl _, ⟨fun j hj => absurd hj (Nat.not_lt_zero _)⟩, ⟨fun k h1 h2 => by omega⟩, Below.refl _ _⟩
 case round =>
  obtain ⟨i, j, rfl, rfl, hij, hj, HL, HG, hb⟩ := hrel
  have hR := Kd.C_below HR.out hb
  have HB := Aside0.mk hb
  clear hb
  by_cases hlt : i < j
  ·obtain ⟨ad, y, rfl, hcell, HY⟩ := ReadI.get hR (i := (i + j) / 2) (by omega)
   clear hR
   by_cases hyx : y < x
   ·go_wp2_with (first | (go_at_call 341; refine (cmpLess _ _ _).mono ?_; rintro e w' ⟨rfl, hb2⟩; rw [decide_eq_true hyx]))
    go_roundw
    case rel =>
     refine ⟨(i + j) / 2 + 1, j, by go_num, rfl, by omega, hj, ⟨fun k hk => ?_⟩, HG, HB.out.trans (hb2.mono HB.out.size)⟩
     by_cases hk2 : k = (i + j) / 2
     ·rw [hk2, HY.out]; exact hyx
     ·have := asc_lt HS.out (i := k) (j := (i + j) / 2) (by omega) (by omega)
      rw [HY.out] at this; omega
    case measure => simp [intOf]; omega
   ·go_wp2_with (first | (go_at_call 341; refine (cmpLess _ _ _).mono ?_; rintro e w' ⟨rfl, hb2⟩; rw [decide_eq_false hyx]))
    go_roundw
    case rel =>
     refine ⟨i, (i + j) / 2, rfl, by go_num, by omega, by omega, HL, ⟨fun k hk hk3 => ?_⟩, HB.out.trans (hb2.mono HB.out.size)⟩
     by_cases hk2 : k = (i + j) / 2
     ·rw [hk2, HY.out]; omega
     ·have := asc_lt HS.out (i := (i + j) / 2) (j := k) (by omega) (by omega)
      rw [HY.out] at this; omega
    case measure => simp [intOf]; omega
  ·have hij2 : j = i := by omega
   subst hij2
   by_cases hin : j < xs.length
   ·obtain ⟨ad, y, rfl, hcell, HY⟩ := ReadI.get hR hin
    clear hR
    by_cases hyx : y = x
    ·have hyb : (y == x) = true := by simpa using hyx
     go_wp2
     go_ret2
     exact ⟨_, by rw [decide_eq_true (mem_at hin (HY.out.trans hyx))]; rfl, HB.out⟩
    ·have hyb : (y == x) = false := by simpa using hyx
     have HNO : Aside0 (¬ x ∈ xs) := ⟨mem_none HS.out HL.out (fun k h1 h2 => by
      rcases Nat.eq_or_lt_of_le h1 with rfl | h3
      ·have := HG.out j (Nat.le_refl _) hin; rw [HY.out] at this ⊢; omega
      ·have := asc_lt HS.out h3 h2; have := HG.out j (Nat.le_refl _) hin; omega)⟩
     have hb := HB.out
     go_wp2_with (first | (go_at_call 342; refine (slicesNaN _ _).mono ?_; rintro e w' ⟨rfl, hb2⟩))
     go_ret2
     exact ⟨_, by rw [decide_eq_false HNO.out]; rfl, by (repeat (first | (with_reducible exact Below.refl _ _) | (with_reducible assumption) | (with_reducible refine below_step ?_ (by assumption)) | (with_reducible apply below_alloc) | (with_reducible apply below_drewN)))⟩
   ·go_wp2
    go_ret2
    exact ⟨_, by rw [decide_eq_false (mem_none HS.out HL.out (fun k h1 h2 => by omega))]; rfl, HB.out⟩
theorem has (a : Int) (u : Value) (l : List Int) (f : Int) (w : World) (hr : ReadI w u l) (hs : l.Pairwise (· < ·)) (hl : l.length ≤ 1000) :
  Calls Tryz.prog 129 #[cx a u, .int .i64 f] w fun e w' => e = .returned (.bool (decide (f ∈ l))) ∧ Below w.heap.size w w' := by
 have hba : Below w.heap.size w (w.alloc (.cells #[.int .i64 a, u] 26)) := Below.alloc (Below.refl _ _) (Nat.le_refl _) _
 have HR := Aside0.mk (hr.below hba)
 have HS := Aside0.mk hs
 have HB := Aside0.mk hba
 obtain ⟨A, c, rfl, -⟩ := id hr
 clear hr hs hba
 go_enter Tryz.func129, Tryz.ntmps129
 go_wp2_with (first | (go_at_call 248; refine (binarySearch _ _ _ _ HR.out HS.out hl).mono ?_; rintro e w' ⟨j, rfl, hb2⟩))
 go_ret
 exact ⟨rfl, HB.out.trans (hb2.mono HB.out.size)⟩
theorem full (n : Nat) (hn : n ≤ 6) (u : Value) (w : World) :
  Calls Tryz.prog 137 #[cx n u] w fun e w' => e = .returned (.int .i64 (((2 ^ n : Nat) : Int) - 1)) ∧ Below w.heap.size w w' := by
 have hsh := pow_wrap n (by omega)
 have hb : 2 ^ n ≤ 64 := by
  rcases (by omega : n = 0 ∨ n = 1 ∨ n = 2 ∨ n = 3 ∨ n = 4 ∨ n = 5 ∨ n = 6) with rfl | rfl | rfl | rfl | rfl | rfl | rfl <;> decide
 obtain ⟨N, hN⟩ : ∃ N : Nat, N = 2 ^ n := ⟨_, rfl⟩
 rw [← hN] at hsh hb ⊢
 clear hN
 go_enter Tryz.func137, Tryz.ntmps137
 go_wp2
 go_ret
 exact ⟨by simp, by (repeat (first | (with_reducible exact Below.refl _ _) | (with_reducible assumption) | (with_reducible refine below_step ?_ (by assumption)) | (with_reducible apply below_alloc) | (with_reducible apply below_drewN)))⟩
theorem specAll (n : Nat) (hn : n ≤ 6) (w : World) :
  Calls Tryz.prog 268 #[.int .i64 n] w fun e w' => e = .returned (.int .i64 (((2 ^ n : Nat) : Int) - 1)) ∧ Below w.heap.size w w' := by
 have hsh := pow_wrap n (by omega)
 have hb : 2 ^ n ≤ 64 := by
  rcases (by omega : n = 0 ∨ n = 1 ∨ n = 2 ∨ n = 3 ∨ n = 4 ∨ n = 5 ∨ n = 6) with rfl | rfl | rfl | rfl | rfl | rfl | rfl <;> decide
 obtain ⟨N, hN⟩ : ∃ N : Nat, N = 2 ^ n := ⟨_, rfl⟩
 rw [← hN] at hsh hb ⊢
 clear hN
 go_enter Tryz.func268, Tryz.ntmps268
 go_wp2
 go_ret
 exact ⟨by simp, by (repeat (first | (with_reducible exact Below.refl _ _) | (with_reducible assumption) | (with_reducible refine below_step ?_ (by assumption)) | (with_reducible apply below_alloc) | (with_reducible apply below_drewN)))⟩
set_option maxHeartbeats 1000000 in
theorem specHas (a : Int) (u : Value) (l : List Int) (f : Int) (w : World) (hr : ReadI w u l) :
  Calls Tryz.prog 154 #[cx a u, .int .i64 f] w fun e w' => e = .returned (.bool (decide (f ∈ l))) ∧ Below w.heap.size w w' := by
 have hba : Below w.heap.size w (w.alloc (.cells #[.int .i64 a, u] 26)) := Below.alloc (Below.refl _ _) (Nat.le_refl _) _
 have HB := Aside0.mk hba
 obtain ⟨A, c, rfl, hc, hr⟩ := id hr
 have HR := Aside0.mk (Kd.C_below hr hba)
 have hlen : l.length ≤ 9223372036854775807 := hr.2.1
 clear hr hba
 go_enter Tryz.func154, Tryz.ntmps154
 go_wp2
 obtain ⟨w1, hw1⟩ : ∃ w1, w1 = w.alloc (Obj.cells #[.int .i64 a, Value.slice A l.length c] 26) := ⟨_, rfl⟩
 have hc1 : w1.cell? ⟨w.heap.size, 1, none⟩ = some (Value.slice A l.length c) := by rw [hw1]; simp
 rw [← hw1] at HB HR ⊢
 clear hw1
 go_loopw [5] (fun v wr => ∃ i : Nat, v = .int .i64 i ∧ i ≤ l.length ∧ Aside0 (∀ k, k < i → l.getD k 0 ≠ f) ∧ Below w1.heap.size w1 wr) (fun v _ => l.length - (intOf v).toNat)
 case atStart => exact ⟨0, rfl, Nat.zero_le _, ⟨fun j hj => absurd hj (Nat.not_lt_zero _)⟩, Below.refl _ _⟩
 case round =>
  obtain ⟨i, rfl, hi, HN, hb⟩ := hrel
  have hR := Kd.C_below HR.out hb
  have hcr := pw_cell_below hb hc1
  have HB1 := Aside0.mk hb
  clear hb
  by_cases hlt : i < l.length
  ·obtain ⟨ad, y, rfl, hcell, HY⟩ := ReadI.get hR hlt
   clear hR
   by_cases hyf : y = f
   ·go_wp2
    go_ret
    exact ⟨by rw [decide_eq_true (mem_at hlt (HY.out.trans hyf))]; rfl, HB.out.trans (HB1.out.mono HB.out.size)⟩
   ·go_wp2
    go_roundw
    case rel =>
     refine ⟨i + 1, by go_num, by omega, ⟨fun k hk => ?_⟩, HB1.out⟩
     rcases Nat.lt_succ_iff_lt_or_eq.1 hk with h | rfl
     ·exact HN.out k h
     ·rw [HY.out]; exact hyf
    case measure => simp [intOf]; omega
  ·go_wp2
   go_ret
   refine ⟨?_, HB.out.trans (HB1.out.mono HB.out.size)⟩
   rw [decide_eq_false]
   ·rfl
   ·intro hm
    obtain ⟨k, hk, rfl⟩ := List.getElem_of_mem hm
    exact HN.out k (by omega) (by simp [List.getD_eq_getElem?_getD, hk])
/-- those of 1 .. k - 1 that are as told -/
def thL (p : Int → Bool) (k : Nat) : List Int := (List.range k).filterMap fun (f : Nat) => if decide (1 ≤ f) && p (f : Int) then some (f : Int) else none
theorem thL_hit {p : Int → Bool} {k : Nat} (h1 : 1 ≤ k) (h : p k = true) : thL p (k + 1) = thL p k ++ [(k : Int)] := by
 unfold thL
 rw [List.range_succ, List.filterMap_append]
 simp [h, h1]
theorem thL_miss {p : Int → Bool} {k : Nat} (h : p k = false) : thL p (k + 1) = thL p k := by
 unfold thL
 rw [List.range_succ, List.filterMap_append]
 simp [h]
theorem thL_len (p : Int → Bool) (k : Nat) : (thL p k).length ≤ k := by
 unfold thL
 exact Nat.le_trans (List.length_filterMap_le _ _) (by simp)
theorem thL_one (p : Int → Bool) : thL p 1 = [] := by simp [thL]
theorem set_grown' (w : World) (b i : Nat) (v : Value) : w.grownBy (w.setCell ⟨b, i, none⟩ v) (some b) :=
 ⟨rfl, rfl, rfl, by simp, fun k _ hne => Below.heap_setCell w ⟨b, i, none⟩ v k (fun e => hne (by rw [e]))⟩
set_option maxHeartbeats 2000000 in
theorem those (n : Nat) (hn : n ≤ 6) (fv : Value) (p : Int → Bool) (w : World) (hp : PredI w fv p (fun f => 1 ≤ f ∧ f < ((2 ^ n : Nat) : Int))) :
  Calls Tryz.prog 120 #[.int .i64 n, fv] w fun e w' => ∃ u, e = .returned (.agg #[.int .i64 n, u]) ∧ OwnI w.heap.size w' u (thL p (2 ^ n)) ∧ Below w.heap.size w w' := by
 obtain ⟨g, first, caps, rfl, hent, hp⟩ := hp
 have HP := Aside0.mk hp
 unfold Enters at hent
 have hsh := pow_wrap n (by omega)
 have hb64 : 1 ≤ 2 ^ n ∧ 2 ^ n ≤ 64 := by
  rcases (by omega : n = 0 ∨ n = 1 ∨ n = 2 ∨ n = 3 ∨ n = 4 ∨ n = 5 ∨ n = 6) with rfl | rfl | rfl | rfl | rfl | rfl | rfl <;> decide
 obtain ⟨N, hN⟩ : ∃ N : Nat, N = 2 ^ n := ⟨_, rfl⟩
 rw [← hN] at hsh hb64 HP ⊢
 clear hp hN
 obtain ⟨w0, hw0⟩ : ∃ w0, w0 = (w.alloc (Obj.cells #[Value.int IntKind.i64 0, Value.slice none 0 0] 26)).alloc (Obj.cells #[Value.int IntKind.i64 n, Value.slice none 0 0] 26) := ⟨_, rfl⟩
 have hs0 : w0.heap.size = w.heap.size + 1 + 1 := by rw [hw0]; simp
 have hb1 : w0.heap[w.heap.size]? = some (Obj.cells #[Value.int IntKind.i64 0, Value.slice none 0 0] 26) := by
  rw [hw0]; exact blk_alloc (blk_new w _) _
 have hb2 : w0.heap[w.heap.size + 1]? = some (Obj.cells #[Value.int IntKind.i64 n, Value.slice none 0 0] 26) := by
  rw [hw0]
  have := blk_new (w.alloc (Obj.cells #[Value.int IntKind.i64 0, Value.slice none 0 0] 26)) (Obj.cells #[Value.int IntKind.i64 n, Value.slice none 0 0] 26)
  rwa [World.size_alloc] at this
 have hB0 : Below w.heap.size w w0 := by rw [hw0]; exact ((Below.refl _ w).alloc (Nat.le_refl _) _).alloc (by simp) _
 have HB0 := Aside0.mk hB0
 have HK1 := Aside0.mk hb1
 have HK2 := Aside0.mk hb2
 have HS0 := Aside0.mk hs0
 clear hB0 hb1 hb2 hs0
 go_enter Tryz.func120, Tryz.ntmps120
 go_wp2
 rw [← hw0]
 clear hw0
 go_loopw [6] (fun s wr => ∃ k : Nat, s = .int .i64 k ∧ 1 ≤ k ∧ k ≤ N ∧ (∃ v, Aside0 (wr.heap[w.heap.size + 1]? = some (Obj.cells #[.int .i64 n, v] 26)) ∧ Aside0 (OwnI w0.heap.size wr v (thL p k))) ∧ Aside0 (wr.heap[w.heap.size]? = some (Obj.cells #[.int .i64 0, .slice none 0 0] 26)) ∧ Aside0 (Below w.heap.size w wr)) (fun s _ => N - (intOf s).toNat)
 case atStart => exact ⟨1, rfl, by omega, hb64.1, ⟨_, HK2, ⟨by rw [thL_one]; exact OwnI.nil _ _⟩⟩, HK1, HB0⟩
 case round =>
  obtain ⟨k, rfl, hk1, hkN, ⟨v, HKb, HO⟩, HKa, HB⟩ := hrel
  obtain ⟨Av, cv, rfl, -⟩ := HO.out.read
  by_cases hlt : k < N
  ·have hdom : 1 ≤ (k : Int) ∧ (k : Int) < N := by omega
   have HD := Aside0.mk hdom
   have hll := thL_len p k
   clear hdom
   cases hpk : p k with
   | true =>
    have HH := Aside0.mk (thL_hit hk1 hpk)
    go_wp2_with (first | (refine (HP.out _ _ HB.out HD.out).mono ?_; rintro e w5 ⟨rfl, hb⟩; have HKb5 := Aside0.mk (blk_below HKb.out hb); have HKa5 := Aside0.mk (blk_below HKa.out hb); have HO5 := Aside0.mk (OwnI.below HO.out hb); have HB5 := Aside0.mk (HB.out.trans (hb.mono HB.out.size)); have c51 : w5.cell? ⟨w.heap.size + 1, 1, none⟩ = some (.slice Av (thL p k).length cv) := blk_cell HKb5.out 1; have hz5 : w0.heap.size ≤ w5.heap.size := (by have := HS0.out; have := blk_lt HKb5.out; omega); clear hb) | (at_builtin; refine app_own (w0 := w5) w0.heap.size rfl (.tmp 19) (.tmp 21) rfl _ (thL p k) k rfl rfl HO5.out (Below.refl _ _) hz5 ?hl ?_; (case hl => omega); intro v1 w6 ho hb2 hg hat; have hne : some (w.heap.size + 1) ≠ (Value.slice Av (thL p k).length cv).ownBlock := (fun e => by have := HO5.out.base _ e.symm; have := HS0.out; omega); have hne2 : some w.heap.size ≠ (Value.slice Av (thL p k).length cv).ownBlock := (fun e => by have := HO5.out.base _ e.symm; have := HS0.out; omega); have HKb6 := Aside0.mk ((hg.block _ (blk_lt HKb5.out) hne).trans HKb5.out); have HKa6 := Aside0.mk ((hg.block _ (blk_lt HKa5.out) hne2).trans HKa5.out); have HO6 := Aside0.mk ho; have HB6 := Aside0.mk (HB5.out.trans (hb2.mono (by have := HS0.out; omega))); have c61 : w6.cell? ⟨w.heap.size + 1, 1, none⟩ = some (.slice Av (thL p k).length cv) := blk_cell HKb6.out 1; have f61 : w6.frozen? ⟨w.heap.size + 1, 1, none⟩ = false := blk_frozen HKb6.out 1; obtain ⟨A6, d6, rfl, -⟩ := ho.read; clear ho hb2 hg hat hne hne2))
    go_roundw
    case rel =>
     refine ⟨k + 1, by go_num, by omega, by omega, ⟨_, ⟨blk_put HKb6.out 1 _ rfl⟩, ⟨?_⟩⟩, ⟨blk_far HKa6.out (by simp) _⟩, ⟨HB6.out.setCell (by simp) _⟩⟩
     rw [HH.out]
     have h6 := HO6.out
     rw [List.length_append, List.length_singleton] at h6
     exact h6.grown (set_grown' _ (w.heap.size + 1) _ _) (fun j hj e => by have := h6.base _ hj; have := HS0.out; cases e; omega)
    case measure => simp [intOf]; omega
   | false =>
    have HH := Aside0.mk (thL_miss hpk)
    go_wp2_with (first | (refine (HP.out _ _ HB.out HD.out).mono ?_; rintro e w5 ⟨rfl, hb⟩))
    go_roundw
    case rel => exact ⟨k + 1, by go_num, by omega, by omega, ⟨_, ⟨blk_below HKb.out hb⟩, ⟨by rw [HH.out]; exact OwnI.below HO.out hb⟩⟩, ⟨blk_below HKa.out hb⟩, ⟨HB.out.trans (hb.mono HB.out.size)⟩⟩
    case measure => simp [intOf]; omega
  ·have e : k = N := by omega
   have HE := Aside0.mk e
   have c10 : wr.cell? ⟨w.heap.size + 1, 0, none⟩ = some (.int .i64 n) := blk_cell HKb.out 0
   have c11 : wr.cell? ⟨w.heap.size + 1, 1, none⟩ = some (.slice Av (thL p k).length cv) := blk_cell HKb.out 1
   have c00 : wr.cell? ⟨w.heap.size, 0, none⟩ = some (.int .i64 0) := blk_cell HKa.out 0
   have c01 : wr.cell? ⟨w.heap.size, 1, none⟩ = some (.slice none 0 0) := blk_cell HKa.out 1
   have f00 : wr.frozen? ⟨w.heap.size, 0, none⟩ = false := blk_frozen HKa.out 0
   have f01 : wr.frozen? ⟨w.heap.size, 1, none⟩ = false := blk_frozen HKa.out 1
   clear e
   go_wp2
   refine bodyPost_ret (results_cell_row rfl _ _ w.heap.size 26 #[.int .i64 n, .slice Av (thL p k).length cv] (0, 0) _ rfl (by refine blk_put (cs := #[.int .i64 n, .slice none 0 0]) ?_ 1 _ rfl; refine blk_put (cs := #[.int .i64 0, .slice none 0 0]) ?_ 0 _ rfl; exact HKa.out) Tryz.underlying26 rfl (by kernel_rfl)) rfl ?_
   refine ⟨_, rfl, ?_, (HB.out.setCell (by simp) _).setCell (by simp) _⟩
   rw [← HE.out]
   have hn := HO.out.base
   have hs := HS0.out
   have ho := HO.out.lower (b' := w.heap.size) (by omega)
   exact (ho.grown (set_grown' _ w.heap.size _ _) (fun j hj e => by have := hn _ hj; cases e; omega)).grown (set_grown' _ w.heap.size _ _) (fun j hj e => by have := hn _ hj; cases e; omega)
/-- it lies in one of these -/
def madeAt (ss : List Int) (g : Int) : Bool := ss.any fun s => decide (g.toNat &&& s.toNat = g.toNat)
end Go.Proofs.YtomofijniefelaaGreat.H

namespace Go.Proofs.YtomofijniefelaaGreat.H
open Go.Shelf
open Go.RowKit Go.Proofs.YtomofijniefelaaGreatW.PrintWords Go.Proofs.YtomofijniefelaaGreatW.PrintLast
set_option linter.unusedVariables false
set_option linter.unusedSimpArgs false
attribute [local go_sem] Oper.semAt_some
/-- the blocks from lo up to hi have not turned -/
def Mid (lo hi : Nat) (W W' : World) : Prop := ∀ k, lo ≤ k → k < hi → W'.heap[k]? = W.heap[k]?
theorem Mid.refl (lo hi : Nat) (W : World) : Mid lo hi W W := fun _ _ _ => rfl
theorem Mid.trans {lo hi : Nat} {A B C : World} (h : Mid lo hi A B) (h' : Mid lo hi B C) : Mid lo hi A C := fun k a b => (h' k a b).trans (h k a b)
theorem Mid.cell {lo hi : Nat} {W W' : World} (h : Mid lo hi W W') {p : Addr} (h1 : lo ≤ p.block) (h2 : p.block < hi) : W'.cell? p = W.cell? p := by
 simp only [World.cell?, h p.block h1 h2]
theorem Mid.of_below {lo hi : Nat} {W W' : World} (h : Below hi W W') : Mid lo hi W W' := fun k _ hk => h.block k hk
/-- what has come when k rounds are over -/
def upto {α : Type} (g : Nat → α) (k : Nat) : List α := (List.range k).map g
theorem upto_succ {α : Type} (g : Nat → α) (k : Nat) : upto g (k + 1) = upto g k ++ [g k] := by simp [upto, List.range_succ]
theorem upto_length {α : Type} (g : Nat → α) (k : Nat) : (upto g k).length = k := by simp [upto]
set_option maxRecDepth 100000 in
set_option maxHeartbeats 2000000 in
theorem back1_in {α : Type} (encs : α → Array Value) (g : Nat → α) (F : Fence) (n : Nat) (h8 : F.fn 356) (hro : F.round = none) (hn : 1 ≤ n) (l Bs lo hi b off cap : Nat) (zs : List Int) (hreach : zs.length * 8 ≤ 140737488351232) (hb : lo ≤ b ∧ b < hi) (J Jx : List α → World → Prop)
  (hg : ∀ k, k < zs.length → encs (g k) = #[.int .i64 ((zs.length : Int) - 1 - k), .int .i64 (zs[zs.length - 1 - k]?.getD 0)])
  (hY : ∀ pre x W, J pre W → pre.length < zs.length → YieldAt F (n - 1) Tryz.prog l (encs x) W fun e W' =>
   (e = .returned (.bool true) ∧ J (pre ++ [x]) W' ∧ Mid lo hi W W') ∨ (e = .returned (.bool false) ∧ Jx (pre ++ [x]) W'))
  (W : World) (hBb : lo ≤ Bs ∧ Bs < hi) (hBs : W.cell? ⟨Bs, 0, none⟩ = some (.slice (some ⟨b, off, none⟩) zs.length cap)) (hc : ∀ j, j < zs.length → W.cell? ⟨b, off + j, none⟩ = some (.int .i64 (zs[j]?.getD 0))) (h0 : J [] W) :
  CallsIn F n Tryz.prog 356 #[.func (.yield l) #[] #[], .pointer (some ⟨Bs, 0, none⟩)] W fun e W' => (∃ v, e = .returned v) ∧
   ((∃ ys, ys = upto g zs.length ∧ J ys W') ∨ (∃ pre, (∃ k, k ≤ zs.length ∧ pre = upto g k) ∧ Jx pre W')) := by
 refine callsIn_of_wp Tryz.func356 rfl h8 ?_ hro
 simp only [Tryz.ntmps356, List.size_toArray, List.length_cons, List.length_nil, Nat.reduceAdd, Nat.reduceSub, Array.replicate_succ, Array.replicate_zero, List.push_toArray, List.append_toArray, List.nil_append, List.cons_append]
 gi_wp2
 gi_loopw [3] (fun i wr => ∃ k : Nat, k ≤ zs.length ∧ i = .int .i64 ((zs.length : Int) - 1 - k) ∧ J (upto g k) wr ∧ Mid lo hi W wr)
  (fun i _ => (intOf i + 1).toNat)
 case atStart => exact ⟨0, Nat.zero_le _, by simp, h0, Mid.refl _ _ _⟩
 case round =>
  obtain ⟨k, hk, rfl, hJs, hnx⟩ := hrel
  have hbs := (hnx.cell (p := ⟨Bs, 0, none⟩) hBb.1 hBb.2).trans hBs
  by_cases hlt : k < zs.length
  ·have hcx' : wr.cell? ⟨b, off + (zs.length - 1 - k), none⟩ = some (.int .i64 (zs[zs.length - 1 - k]?.getD 0)) := (hnx.cell (p := ⟨b, _, none⟩) hb.1 hb.2).trans (hc _ (by omega))
   obtain ⟨fn, tmps, assign, body, hy, hR⟩ := hY _ (g k) wr hJs (by rw [upto_length]; exact hlt)
   rw [hg k hlt] at hy
   have hi0 : (0 : Int) ≤ (zs.length : Int) - 1 - k := by omega
   have hi1 : (zs.length : Int) - 1 - k < zs.length := by omega
   have hi2 : ((zs.length : Int) - 1 - k).toNat = zs.length - 1 - k := by omega
   gi_wp2
   refine hR.mono ?_
   rintro e W3 (⟨rfl, hJ3, hk3⟩ | ⟨rfl, hJx3⟩)
   ·gi_wp2
    go_roundw
    case rel => exact ⟨k + 1, by omega, by go_num, by rw [upto_succ]; exact hJ3, hnx.trans hk3⟩
    case measure => simp [intOf]; omega
   ·gi_wp2
    refine bodyPost_ret (results_none rfl _ _ _) rfl ?_
    exact ⟨⟨_, rfl⟩, .inr ⟨_, ⟨k + 1, by omega, (upto_succ _ _).symm⟩, hJx3⟩⟩
  ·obtain rfl : k = zs.length := by omega
   gi_wp2
   go_end0
   exact ⟨⟨_, rfl⟩, .inl ⟨_, rfl, hJs⟩⟩
set_option maxRecDepth 100000 in
set_option maxHeartbeats 1000000 in
theorem back1_nil_in {α : Type} (F : Fence) (n : Nat) (h8 : F.fn 356) (hro : F.round = none) (l Bs : Nat) (A : Option Addr) (c : Nat) (J : List α → World → Prop) (W : World) (hBs : W.cell? ⟨Bs, 0, none⟩ = some (.slice A 0 c)) (h0 : J [] W) :
  CallsIn F n Tryz.prog 356 #[.func (.yield l) #[] #[], .pointer (some ⟨Bs, 0, none⟩)] W fun e W' => (∃ v, e = .returned v) ∧ J [] W' := by
 refine callsIn_of_wp Tryz.func356 rfl h8 ?_ hro
 simp only [Tryz.ntmps356, List.size_toArray, List.length_cons, List.length_nil, Nat.reduceAdd, Nat.reduceSub, Array.replicate_succ, Array.replicate_zero, List.push_toArray, List.append_toArray, List.nil_append, List.cons_append]
 gi_wp2
 gi_loopw [3] (fun i wr => i = .int .i64 (-1) ∧ J [] wr) (fun _ _ => 0)
 case atStart => exact ⟨rfl, h0⟩
 case round =>
  obtain ⟨rfl, hJs⟩ := hrel
  gi_wp2
  go_end0
  exact ⟨⟨_, rfl⟩, hJs⟩
theorem back_in (F : Fence) (n : Nat) (h6 : F.fn 276) (hro : F.round = none) (a : Option Addr) (len cap : Nat) (w : World) :
  CallsIn F n Tryz.prog 276 #[.slice a len cap] w fun e w' => e = .returned (.func (.func 356) #[] #[.pointer (some ⟨w.heap.size, 0, none⟩)]) ∧ w' = w.alloc (.cells #[.slice a len cap] 24) := by
 refine callsIn_of_wp Tryz.func276 rfl h6 ?_ hro
 simp only [Tryz.ntmps276, List.size_toArray, List.length_cons, List.length_nil, Nat.reduceAdd, Nat.reduceSub, Array.replicate_succ, Array.replicate_zero, List.push_toArray, List.append_toArray, List.nil_append, List.cons_append]
 gi_wp2
 go_ret
 exact ⟨rfl, rfl⟩
/-- slices.Backward(s): the pairs from the last one to the first one, or the first k of them. sv lies in a block that the call made. -/
theorem back_stops {α : Type} (encs : α → Array Value) (g : Nat → α) (F : Fence) (n : Nat) (h8 : F.fn 356) (hro : F.round = none) (hn : 1 ≤ n) (Bs lo hi : Nat) (sv : Value) (zs : List Int) (hreach : zs.length * 8 ≤ 140737488351232) (w : World) (b0 : Nat) (hBs : lo ≤ Bs ∧ Bs < hi) (hn₀ : hi ≤ w.heap.size)
  (hc : w.cell? ⟨Bs, 0, none⟩ = some sv) (hI : OwnI b0 w sv zs) (hg : ∀ k, k < zs.length → encs (g k) = #[.int .i64 ((zs.length : Int) - 1 - k), .int .i64 (zs[zs.length - 1 - k]?.getD 0)]) (hlt : ∀ k, sv.ownBlock = some k → lo ≤ k ∧ k < hi) :
  SeqStopsK F n Tryz.prog 356 #[.pointer (some ⟨Bs, 0, none⟩)] encs (Mid lo hi) (fun ys => ys = upto g zs.length)
   (fun pre => ∃ k, k ≤ zs.length ∧ pre = upto g k) zs.length w := fun l J Jx W hW _ _ hY h0 => by
 have hc' := (hW.cell (p := ⟨Bs, 0, none⟩) (Nat.lt_of_lt_of_le hBs.2 hn₀)).trans hc
 by_cases hz : 0 < zs.length
 ·obtain ⟨gb, cap, rfl, hg1, hg2, -⟩ := Kd.R_form hI hz
  have hgb : lo ≤ gb ∧ gb < hi := hlt gb (by simp [Value.ownBlock])
  refine back1_in encs g F n h8 hro hn l Bs lo hi gb 0 cap zs hreach hgb J Jx hg hY W hBs hc' (fun j hj => ?_) h0
  obtain ⟨A, c, e, -, hr⟩ := OwnI.read hI
  injection e with e1 e2 e3
  obtain ⟨ad, e4, hcell⟩ := ReadI.at_ hr hj
  rw [e4] at e1
  injection e1 with e1
  subst e1
  have h2 : w.cell? ⟨gb, 0 + j, none⟩ = some (.int .i64 (zs.getD j 0)) := by
   have e5 : (⟨gb, 0, none⟩ : Addr).add j = ⟨gb, 0 + j, none⟩ := by
    unfold Addr.add
    split
    ·rename_i h; subst h; rfl
    ·rfl
   rw [e5] at hcell
   exact hcell
  rw [List.getD_eq_getElem?_getD] at h2
  exact (hW.cell (p := ⟨gb, 0 + j, none⟩) (Nat.lt_of_lt_of_le hgb.2 hn₀)).trans h2
 ·obtain rfl : zs = [] := List.eq_nil_of_length_eq_zero (by omega)
  obtain ⟨A, c, rfl, -, hr⟩ := OwnI.read hI
  exact (back1_nil_in F n h8 hro l Bs A c J W hc' h0).mono fun e W' ⟨he, hj⟩ => ⟨he, .inl ⟨_, rfl, hj⟩⟩
end Go.Proofs.YtomofijniefelaaGreat.H

namespace Go.Proofs.YtomofijniefelaaGreat.H
open Go.RowKit Go.Proofs.YtomofijniefelaaGreatW.PrintWords Go.Proofs.YtomofijniefelaaGreatW.PrintLast
set_option linter.unusedVariables false
set_option linter.unusedSimpArgs false
/-- the vertices of a face -/
def vs (f : Nat) : List Int := ((List.range 6).filter fun v => f.testBit v).map fun (v : Nat) => (v : Int)
def vsTo (f k : Nat) : List Int := ((List.range k).filter fun v => f.testBit v).map fun (v : Nat) => (v : Int)
theorem vsTo_succ (f k : Nat) : vsTo f (k + 1) = if f.testBit k then vsTo f k ++ [(k : Int)] else vsTo f k := by
 unfold vsTo
 rw [List.range_succ, List.filter_append, List.map_append]
 by_cases h : f.testBit k <;> simp [h]
theorem vsTo_len (f k : Nat) : (vsTo f k).length ≤ k := by
 unfold vsTo
 rw [List.length_map]
 exact Nat.le_trans (List.length_filter_le _ _) (by simp)
set_option maxHeartbeats 1000000 in
theorem vertices (f : Nat) (hf : f ≤ 63) (w : World) :
  Calls Tryz.prog 272 #[.int .i64 f] w fun e w' => ∃ v, e = .returned v ∧ OwnI w.heap.size w' v (vs f) ∧ Below w.heap.size w w' := by
 go_enter Tryz.func272, Tryz.ntmps272
 go_wp2
 go_loopw [3, 5] (fun v i wr => ∃ k : Nat, i = .int .i64 k ∧ k ≤ 6 ∧ Aside0 (OwnI w.heap.size wr v (vsTo f k)) ∧ Aside0 (Below w.heap.size w wr)) (fun _ i _ => 6 - (intOf i).toNat)
 case atStart => exact ⟨0, rfl, by omega, ⟨OwnI.nil _ _⟩, ⟨Below.refl _ _⟩⟩
 case round =>
  obtain ⟨k, rfl, hk, HO, HB⟩ := hrel
  by_cases hlt : k < 6
  ·have hb2 : Aside0 (vsTo f (k + 1) = if f.testBit k then vsTo f k ++ [(k : Int)] else vsTo f k) := ⟨vsTo_succ f k⟩
   have hbit := bit_of f k (by omega)
   cases ht : f.testBit k with
   | true =>
    rw [ht, if_pos rfl] at hbit
    have HT := Aside0.mk ht
    clear ht
    go_wp2_with (first | (at_builtin; refine app_own (w0 := w) w.heap.size rfl (.tmp 13) (.tmp 15) rfl _ (vsTo f k) k rfl rfl HO.out HB.out HB.out.size ?hl ?_; (case hl => have := vsTo_len f k; omega); intro v1 w1 ho hb hg hat; have HO1 := Aside0.mk ho; have HB1 := Aside0.mk hb; clear ho hb hg hat))
    go_roundw
    case rel => exact ⟨k + 1, by go_num, by omega, ⟨by rw [hb2.out, HT.out, if_pos rfl]; exact HO1.out⟩, HB1⟩
    case measure => simp [intOf]; omega
   | false =>
    rw [ht, if_neg (by decide)] at hbit
    have HT := Aside0.mk ht
    clear ht
    go_wp2
    go_roundw
    case rel => exact ⟨k + 1, by go_num, by omega, ⟨by rw [hb2.out, HT.out, if_neg (by decide)]; exact HO.out⟩, HB⟩
    case measure => simp [intOf]; omega
  ·obtain rfl : k = 6 := by omega
   go_wp2
   go_ret
   exact ⟨_, rfl, HO.out, HB.out⟩
end Go.Proofs.YtomofijniefelaaGreat.H
