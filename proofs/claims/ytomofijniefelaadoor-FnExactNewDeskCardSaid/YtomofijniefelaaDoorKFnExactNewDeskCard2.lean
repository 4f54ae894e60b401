/- Bits of small numbers, as the walk spells them. Faces found: binary search, has, full, and the reference's own. those: the complex of the sets that are as told. Sets that make a complex: plain word. slices.Backward over a slice of numbers: what it yields, and that it keeps what lay before. Faces of at most six vertices: their vertices and borders, by the program and by the reference. borders(f): the sets with one vertex less, ascending. What a complex is: of the program and of the reference. Words (printed by a tool of the kit; of them, what is used). A region of open order: each operation is shown once; what holds of its value stays as memory grows. The laws' helpers over complexes, and the marks. What is known of a world is carried to the next one: the words of the printed laws. ImageComplex of the reference. Names of complexes: what lies at l01Names and l01Known (cut out of XDw4). Names of complexes, exactly: l01Split, l01Set. setOf of the program: the set of a text of digits. Names of complexes, exactly: l01Set, l01Named. -/
import Derived.RangeFuncBox
import Derived.RangeFuncLeaves
import Derived.RangeFuncNested
import Derived.Shelf.RegionOpen
import Derived.Shelf.Abstract
import Derived.WalkKit
import Derived.OwnWalkIn
import Derived.TacticsInMore
import Derived.LoopNIn
import Derived.LoopIn
import Derived.Maps.AppendAt
import Derived.Deep.DeepMust
import Derived.Laws.IdiomStrings
import Derived.Test.YtomofijniefelaaDoorKFnExactNewDeskCard1

namespace Go.Proofs.YtomofijniefelaaDoor.H
open Go.RowKit Go.Proofs.YtomofijniefelaaDoorW.PrintWords
set_option linter.unusedVariables false
set_option linter.unusedSimpArgs false
theorem wrap_small {n : Nat} (h : n < 9223372036854775808) : IntKind.i64.wrap (n : Int) = n := IntWalk.i64_in _ (by omega)
theorem ofInt_nat {a : Nat} (h : a < 9223372036854775808) : (BitVec.ofInt 64 (a : Int)).toNat = a := by
 rw [BitVec.ofInt_natCast, BitVec.toNat_ofNat]; exact Nat.mod_eq_of_lt (by omega)
theorem and_i64 (a b : Nat) (ha : a < 9223372036854775808) (hb : b < 9223372036854775808) : bits .and .i64 (a : Int) (b : Int) = ((a &&& b : Nat) : Int) := by
 have hx : a &&& b < 2 ^ 63 := Nat.and_lt_two_pow _ (by omega)
 show IntKind.i64.wrap ((BitVec.ofInt 64 (a : Int) &&& BitVec.ofInt 64 (b : Int)).toNat : Int) = _
 rw [BitVec.toNat_and, ofInt_nat ha, ofInt_nat hb, wrap_small (by omega)]
theorem or_i64 (a b : Nat) (ha : a < 9223372036854775808) (hb : b < 9223372036854775808) : bits .or .i64 (a : Int) (b : Int) = ((a ||| b : Nat) : Int) := by
 have hx : a ||| b < 2 ^ 63 := Nat.or_lt_two_pow (by omega) (by omega)
 show IntKind.i64.wrap ((BitVec.ofInt 64 (a : Int) ||| BitVec.ofInt 64 (b : Int)).toNat : Int) = _
 rw [BitVec.toNat_or, ofInt_nat ha, ofInt_nat hb, wrap_small (by omega)]
theorem andNot_i64 (a b : Nat) (ha : a < 9223372036854775808) (hb : b < 9223372036854775808) : bits .andNot .i64 (a : Int) (b : Int) = ((a ^^^ (a &&& b) : Nat) : Int) := by
 have hx : a &&& b < 2 ^ 63 := Nat.and_lt_two_pow _ (by omega)
 have hy : a ^^^ (a &&& b) < 2 ^ 63 := Nat.xor_lt_two_pow (by omega) hx
 have e : (BitVec.ofInt 64 (a : Int) &&& ~~~ BitVec.ofInt 64 (b : Int)) = (BitVec.ofInt 64 (a : Int) ^^^ (BitVec.ofInt 64 (a : Int) &&& BitVec.ofInt 64 (b : Int))) := by
  apply BitVec.eq_of_getElem_eq
  intro i hi
  simp only [BitVec.getElem_and, BitVec.getElem_not, BitVec.getElem_xor]
  cases (BitVec.ofInt 64 (a : Int))[i] <;> cases (BitVec.ofInt 64 (b : Int))[i] <;> rfl
 show IntKind.i64.wrap ((BitVec.ofInt 64 (a : Int) &&& ~~~ BitVec.ofInt 64 (b : Int)).toNat : Int) = _
 rw [e, BitVec.toNat_xor, BitVec.toNat_and, ofInt_nat ha, ofInt_nat hb, wrap_small (by omega)]
theorem pow_wrap : ∀ v, v < 7 → wrap64 ((2 : Int) ^ v) = ((2 ^ v : Nat) : Int) := by
 intro v hv
 rcases (by omega : v = 0 ∨ v = 1 ∨ v = 2 ∨ v = 3 ∨ v = 4 ∨ v = 5 ∨ v = 6) with rfl | rfl | rfl | rfl | rfl | rfl | rfl <;> (unfold wrap64; decide)
theorem pow_bd (v : Nat) (h : v ≤ 5) : 2 ^ v ≤ 32 := by
 rcases (by omega : v = 0 ∨ v = 1 ∨ v = 2 ∨ v = 3 ∨ v = 4 ∨ v = 5) with rfl | rfl | rfl | rfl | rfl | rfl <;> decide
theorem mem_at {xs : List Int} {i : Nat} {x : Int} (hi : i < xs.length) (h : xs.getD i 0 = x) : x ∈ xs := by
 rw [← h]; simp [List.getD_eq_getElem?_getD, hi]
theorem specAll (n : Nat) (hn : n ≤ 6) (w : World) :
  Calls Tryd.prog 39 #[.int .i64 n] w fun e w' => e = .returned (.int .i64 (((2 ^ n : Nat) : Int) - 1)) ∧ Below w.heap.size w w' := by
 have hsh := pow_wrap n (by omega)
 have hb : 2 ^ n ≤ 64 := by
  rcases (by omega : n = 0 ∨ n = 1 ∨ n = 2 ∨ n = 3 ∨ n = 4 ∨ n = 5 ∨ n = 6) with rfl | rfl | rfl | rfl | rfl | rfl | rfl <;> decide
 obtain ⟨N, hN⟩ : ∃ N : Nat, N = 2 ^ n := ⟨_, rfl⟩
 rw [← hN] at hsh hb ⊢
 clear hN
 go_enter Tryd.func39, Tryd.ntmps39
 go_wp2
 go_ret
 exact ⟨by simp, by (repeat (first | (with_reducible exact Below.refl _ _) | (with_reducible assumption) | (with_reducible refine below_step ?_ (by assumption)) | (with_reducible apply below_alloc) | (with_reducible apply below_drewN)))⟩
/-- those of 1 .. k - 1 that are as told -/
def thL (p : Int → Bool) (k : Nat) : List Int := (List.range k).filterMap fun (f : Nat) => if decide (1 ≤ f) && p (f : Int) then some (f : Int) else none
theorem thL_hit {p : Int → Bool} {k : Nat} (h1 : 1 ≤ k) (h : p k = true) : thL p (k + 1) = thL p k ++ [(k : Int)] := by
 unfold thL
 rw [List.range_succ, List.filterMap_append]
 simp [h, h1]
theorem thL_miss {p : Int → Bool} {k : Nat} (h : p k = false) : thL p (k + 1) = thL p k := by
 unfold thL
 rw [List.range_succ, List.filterMap_append]
 simp [h]
theorem thL_len (p : Int → Bool) (k : Nat) : (thL p k).length ≤ k := by
 unfold thL
 exact Nat.le_trans (List.length_filterMap_le _ _) (by simp)
theorem thL_one (p : Int → Bool) : thL p 1 = [] := by simp [thL]
theorem set_grown' (w : World) (b i : Nat) (v : Value) : w.grownBy (w.setCell ⟨b, i, none⟩ v) (some b) :=
 ⟨rfl, rfl, rfl, by simp, fun k _ hne => Below.heap_setCell w ⟨b, i, none⟩ v k (fun e => hne (by rw [e]))⟩
set_option maxHeartbeats 2000000 in
theorem those (n : Nat) (hn : n ≤ 6) (fv : Value) (p : Int → Bool) (w : World) (hp : PredI w fv p (fun f => 1 ≤ f ∧ f < ((2 ^ n : Nat) : Int))) :
  Calls Tryd.prog 33 #[.int .i64 n, fv] w fun e w' => ∃ u, e = .returned (.agg #[.int .i64 n, u]) ∧ OwnI w.heap.size w' u (thL p (2 ^ n)) ∧ Below w.heap.size w w' := by
 obtain ⟨g, first, caps, rfl, hent, hp⟩ := hp
 have HP := Aside0.mk hp
 unfold Enters at hent
 have hsh := pow_wrap n (by omega)
 have hb64 : 1 ≤ 2 ^ n ∧ 2 ^ n ≤ 64 := by
  rcases (by omega : n = 0 ∨ n = 1 ∨ n = 2 ∨ n = 3 ∨ n = 4 ∨ n = 5 ∨ n = 6) with rfl | rfl | rfl | rfl | rfl | rfl | rfl <;> decide
 obtain ⟨N, hN⟩ : ∃ N : Nat, N = 2 ^ n := ⟨_, rfl⟩
 rw [← hN] at hsh hb64 HP ⊢
 clear hp hN
 obtain ⟨w0, hw0⟩ : ∃ w0, w0 = (w.alloc (Obj.cells #[Value.int IntKind.i64 0, Value.slice none 0 0] 24)).alloc (Obj.cells #[Value.int IntKind.i64 n, Value.slice none 0 0] 24) := ⟨_, rfl⟩
 have hs0 : w0.heap.size = w.heap.size + 1 + 1 := by rw [hw0]; simp
 have hb1 : w0.heap[w.heap.size]? = some (Obj.cells #[Value.int IntKind.i64 0, Value.slice none 0 0] 24) := by
  rw [hw0]; exact blk_alloc (blk_new w _) _
 have hb2 : w0.heap[w.heap.size + 1]? = some (Obj.cells #[Value.int IntKind.i64 n, Value.slice none 0 0] 24) := by
  rw [hw0]
  have := blk_new (w.alloc (Obj.cells #[Value.int IntKind.i64 0, Value.slice none 0 0] 24)) (Obj.cells #[Value.int IntKind.i64 n, Value.slice none 0 0] 24)
  rwa [World.size_alloc] at this
 have hB0 : Below w.heap.size w w0 := by rw [hw0]; exact ((Below.refl _ w).alloc (Nat.le_refl _) _).alloc (by simp) _
 have HB0 := Aside0.mk hB0
 have HK1 := Aside0.mk hb1
 have HK2 := Aside0.mk hb2
 have HS0 := Aside0.mk hs0
 clear hB0 hb1 hb2 hs0
 go_enter Tryd.func33, Tryd.ntmps33
 go_wp2
 rw [← hw0]
 clear hw0
 go_loopw [6] (fun s wr => ∃ k : Nat, s = .int .i64 k ∧ 1 ≤ k ∧ k ≤ N ∧ (∃ v, Aside0 (wr.heap[w.heap.size + 1]? = some (Obj.cells #[.int .i64 n, v] 24)) ∧ Aside0 (OwnI w0.heap.size wr v (thL p k))) ∧ Aside0 (wr.heap[w.heap.size]? = some (Obj.cells #[.int .i64 0, .slice none 0 0] 24)) ∧ Aside0 (Below w.heap.size w wr)) (fun s _ => N - (intOf s).toNat)
 case atStart => exact ⟨1, rfl, by omega, hb64.1, ⟨_, HK2, ⟨by rw [thL_one]; exact OwnI.nil _ _⟩⟩, HK1, HB0⟩
 case round =>
  obtain ⟨k, rfl, hk1, hkN, ⟨v, HKb, HO⟩, HKa, HB⟩ := hrel
  obtain ⟨Av, cv, rfl, -⟩ := HO.out.read
  by_cases hlt : k < N
  ·have hdom : 1 ≤ (k : Int) ∧ (k : Int) < N := by omega
   have HD := Aside0.mk hdom
   have hll := thL_len p k
   clear hdom
   cases hpk : p k with
   | true =>
    have HH := Aside0.mk (thL_hit hk1 hpk)
    go_wp2_with (first | (refine (HP.out _ _ HB.out HD.out).mono ?_; rintro e w5 ⟨rfl, hb⟩; have HKb5 := Aside0.mk (blk_below HKb.out hb); have HKa5 := Aside0.mk (blk_below HKa.out hb); have HO5 := Aside0.mk (OwnI.below HO.out hb); have HB5 := Aside0.mk (HB.out.trans (hb.mono HB.out.size)); have c51 : w5.cell? ⟨w.heap.size + 1, 1, none⟩ = some (.slice Av (thL p k).length cv) := blk_cell HKb5.out 1; have hz5 : w0.heap.size ≤ w5.heap.size := (by have := HS0.out; have := blk_lt HKb5.out; omega); clear hb) | (at_builtin; refine app_own (w0 := w5) w0.heap.size rfl (.tmp 19) (.tmp 21) rfl _ (thL p k) k rfl rfl HO5.out (Below.refl _ _) hz5 ?hl ?_; (case hl => omega); intro v1 w6 ho hb2 hg hat; have hne : some (w.heap.size + 1) ≠ (Value.slice Av (thL p k).length cv).ownBlock := (fun e => by have := HO5.out.base _ e.symm; have := HS0.out; omega); have hne2 : some w.heap.size ≠ (Value.slice Av (thL p k).length cv).ownBlock := (fun e => by have := HO5.out.base _ e.symm; have := HS0.out; omega); have HKb6 := Aside0.mk ((hg.block _ (blk_lt HKb5.out) hne).trans HKb5.out); have HKa6 := Aside0.mk ((hg.block _ (blk_lt HKa5.out) hne2).trans HKa5.out); have HO6 := Aside0.mk ho; have HB6 := Aside0.mk (HB5.out.trans (hb2.mono (by have := HS0.out; omega))); have c61 : w6.cell? ⟨w.heap.size + 1, 1, none⟩ = some (.slice Av (thL p k).length cv) := blk_cell HKb6.out 1; have f61 : w6.frozen? ⟨w.heap.size + 1, 1, none⟩ = false := blk_frozen HKb6.out 1; obtain ⟨A6, d6, rfl, -⟩ := ho.read; clear ho hb2 hg hat hne hne2))
    go_roundw
    case rel =>
     refine ⟨k + 1, by go_num, by omega, by omega, ⟨_, ⟨blk_put HKb6.out 1 _ rfl⟩, ⟨?_⟩⟩, ⟨blk_far HKa6.out (by simp) _⟩, ⟨HB6.out.setCell (by simp) _⟩⟩
     rw [HH.out]
     have h6 := HO6.out
     rw [List.length_append, List.length_singleton] at h6
     exact h6.grown (set_grown' _ (w.heap.size + 1) _ _) (fun j hj e => by have := h6.base _ hj; have := HS0.out; cases e; omega)
    case measure => simp [intOf]; omega
   | false =>
    have HH := Aside0.mk (thL_miss hpk)
    go_wp2_with (first | (refine (HP.out _ _ HB.out HD.out).mono ?_; rintro e w5 ⟨rfl, hb⟩))
    go_roundw
    case rel => exact ⟨k + 1, by go_num, by omega, by omega, ⟨_, ⟨blk_below HKb.out hb⟩, ⟨by rw [HH.out]; exact OwnI.below HO.out hb⟩⟩, ⟨blk_below HKa.out hb⟩, ⟨HB.out.trans (hb.mono HB.out.size)⟩⟩
    case measure => simp [intOf]; omega
  ·have e : k = N := by omega
   have HE := Aside0.mk e
   have c10 : wr.cell? ⟨w.heap.size + 1, 0, none⟩ = some (.int .i64 n) := blk_cell HKb.out 0
   have c11 : wr.cell? ⟨w.heap.size + 1, 1, none⟩ = some (.slice Av (thL p k).length cv) := blk_cell HKb.out 1
   have c00 : wr.cell? ⟨w.heap.size, 0, none⟩ = some (.int .i64 0) := blk_cell HKa.out 0
   have c01 : wr.cell? ⟨w.heap.size, 1, none⟩ = some (.slice none 0 0) := blk_cell HKa.out 1
   have f00 : wr.frozen? ⟨w.heap.size, 0, none⟩ = false := blk_frozen HKa.out 0
   have f01 : wr.frozen? ⟨w.heap.size, 1, none⟩ = false := blk_frozen HKa.out 1
   clear e
   go_wp2
   refine bodyPost_ret (results_cell_row rfl _ _ w.heap.size 24 #[.int .i64 n, .slice Av (thL p k).length cv] (0, 0) _ rfl (by refine blk_put (cs := #[.int .i64 n, .slice none 0 0]) ?_ 1 _ rfl; refine blk_put (cs := #[.int .i64 0, .slice none 0 0]) ?_ 0 _ rfl; exact HKa.out) Tryd.underlying24 rfl (by kernel_rfl)) rfl ?_
   refine ⟨_, rfl, ?_, (HB.out.setCell (by simp) _).setCell (by simp) _⟩
   rw [← HE.out]
   have hn := HO.out.base
   have hs := HS0.out
   have ho := HO.out.lower (b' := w.heap.size) (by omega)
   exact (ho.grown (set_grown' _ w.heap.size _ _) (fun j hj e => by have := hn _ hj; cases e; omega)).grown (set_grown' _ w.heap.size _ _) (fun j hj e => by have := hn _ hj; cases e; omega)
/-- it lies in one of these -/
def madeAt (ss : List Int) (g : Int) : Bool := ss.any fun s => decide (g.toNat &&& s.toNat = g.toNat)
end Go.Proofs.YtomofijniefelaaDoor.H

namespace Go.Proofs.YtomofijniefelaaDoor.H
open Go.Shelf
open Go.RowKit Go.Proofs.YtomofijniefelaaDoorW.PrintWords
set_option linter.unusedVariables false
set_option linter.unusedSimpArgs false
attribute [local go_sem] Oper.semAt_some
/-- the blocks from lo up to hi have not turned -/
def Mid (lo hi : Nat) (W W' : World) : Prop := ∀ k, lo ≤ k → k < hi → W'.heap[k]? = W.heap[k]?
theorem Mid.refl (lo hi : Nat) (W : World) : Mid lo hi W W := fun _ _ _ => rfl
theorem Mid.trans {lo hi : Nat} {A B C : World} (h : Mid lo hi A B) (h' : Mid lo hi B C) : Mid lo hi A C := fun k a b => (h' k a b).trans (h k a b)
theorem Mid.cell {lo hi : Nat} {W W' : World} (h : Mid lo hi W W') {p : Addr} (h1 : lo ≤ p.block) (h2 : p.block < hi) : W'.cell? p = W.cell? p := by
 simp only [World.cell?, h p.block h1 h2]
theorem Mid.of_below {lo hi : Nat} {W W' : World} (h : Below hi W W') : Mid lo hi W W' := fun k _ hk => h.block k hk
end Go.Proofs.YtomofijniefelaaDoor.H

namespace Go.Proofs.YtomofijniefelaaDoor.H
open Go.RowKit Go.Proofs.YtomofijniefelaaDoorW.PrintWords
set_option linter.unusedVariables false
set_option linter.unusedSimpArgs false
end Go.Proofs.YtomofijniefelaaDoor.H

namespace Go.Proofs.YtomofijniefelaaDoor.H
open Go.Shelf
open Go.RowKit Go.Proofs.YtomofijniefelaaDoorW.PrintWords
set_option linter.unusedVariables false
set_option linter.unusedSimpArgs false
attribute [local go_sem] Oper.semAt_some
end Go.Proofs.YtomofijniefelaaDoor.H

namespace Go.Proofs.YtomofijniefelaaDoor.H
open Go.RowKit Go.Proofs.YtomofijniefelaaDoorW.PrintWords
set_option linter.unusedVariables false
set_option linter.unusedSimpArgs false
theorem OwnI.empty {b : Nat} (w : World) (hb : b ≤ w.heap.size) : OwnI b (w.alloc (.cells #[] 2)) (.slice (some ⟨w.heap.size, 0, none⟩) 0 0) [] :=
 OwnI.of_row (xs := []) ⟨rfl, .inr ⟨w.heap.size, 0, #[], rfl, hb, World.alloc_heap_new _ _, Nat.le_refl _, by decide, rfl, rfl⟩⟩ (Nat.le_refl _)
theorem pw6 {n : Nat} (h : n ≤ 6) : 1 ≤ 2 ^ n ∧ 2 ^ n ≤ 64 := by
 rcases (by omega : n = 0 ∨ n = 1 ∨ n = 2 ∨ n = 3 ∨ n = 4 ∨ n = 5 ∨ n = 6) with rfl | rfl | rfl | rfl | rfl | rfl | rfl <;> decide
theorem grown_trans {a b c : World} {r : Option Nat} (h : a.grownBy b r) (h' : b.grownBy c r) : a.grownBy c r :=
 ⟨h'.os.trans h.os, h'.tape.trans h.tape, h'.output.trans h.output, Nat.le_trans h.size h'.size, fun k hk hne => (h'.block k (Nat.lt_of_lt_of_le hk h.size) hne).trans (h.block k hk hne)⟩
set_option maxHeartbeats 1000000 in
theorem eqComplex (a b : Int) (u v : Value) (xs ys : List Int) (w : World) (hu : ReadI w u xs) (hv : ReadI w v ys) :
  Calls Tryd.prog 11 #[.agg #[.int .i64 a, u], .agg #[.int .i64 b, v]] w fun e w' => e = .returned (.bool (decide (a = b) && (xs == ys))) ∧ Below w.heap.size w w' := by
 have HU := Aside0.mk hu
 have HV := Aside0.mk hv
 obtain ⟨A, c, rfl, -⟩ := id hu
 obtain ⟨A', c', rfl, -⟩ := id hv
 clear hu hv
 by_cases hab : a = b
 ·have h1 : (a != b) = false := by simp [hab]
  have HA := Aside0.mk hab
  clear hab
  cases hq : (xs == ys) with
  | true =>
   go_enter Tryd.func11, Tryd.ntmps11
   go_wp2_with (first | (go_at_call 22; refine (eqInt64S _ _ xs ys _ (ReadI.below HU.out ?hx) (ReadI.below HV.out ?hy)).mono ?_; (case hx => (repeat (first | (with_reducible exact Below.refl _ _) | (with_reducible assumption) | (with_reducible refine below_step ?_ (by assumption)) | (with_reducible apply below_alloc) | (with_reducible apply below_drewN)))); (case hy => (repeat (first | (with_reducible exact Below.refl _ _) | (with_reducible assumption) | (with_reducible refine below_step ?_ (by assumption)) | (with_reducible apply below_alloc) | (with_reducible apply below_drewN)))); rintro e w1 ⟨rfl, hb⟩; rw [hq]))
   go_ret
   exact ⟨by rw [HA.out, decide_eq_true rfl]; rfl, by (repeat (first | (with_reducible exact Below.refl _ _) | (with_reducible assumption) | (with_reducible refine below_step ?_ (by assumption)) | (with_reducible apply below_alloc) | (with_reducible apply below_drewN)))⟩
  | false =>
   go_enter Tryd.func11, Tryd.ntmps11
   go_wp2_with (first | (go_at_call 22; refine (eqInt64S _ _ xs ys _ (ReadI.below HU.out ?hx) (ReadI.below HV.out ?hy)).mono ?_; (case hx => (repeat (first | (with_reducible exact Below.refl _ _) | (with_reducible assumption) | (with_reducible refine below_step ?_ (by assumption)) | (with_reducible apply below_alloc) | (with_reducible apply below_drewN)))); (case hy => (repeat (first | (with_reducible exact Below.refl _ _) | (with_reducible assumption) | (with_reducible refine below_step ?_ (by assumption)) | (with_reducible apply below_alloc) | (with_reducible apply below_drewN)))); rintro e w1 ⟨rfl, hb⟩; rw [hq]))
   go_ret
   exact ⟨by rw [Bool.and_false]; rfl, by (repeat (first | (with_reducible exact Below.refl _ _) | (with_reducible assumption) | (with_reducible refine below_step ?_ (by assumption)) | (with_reducible apply below_alloc) | (with_reducible apply below_drewN)))⟩
 ·have h1 : (a != b) = true := by simpa using hab
  have HA := Aside0.mk hab
  clear hab
  go_enter Tryd.func11, Tryd.ntmps11
  go_wp2
  go_ret
  exact ⟨by rw [decide_eq_false HA.out]; rfl, by (repeat (first | (with_reducible exact Below.refl _ _) | (with_reducible assumption) | (with_reducible refine below_step ?_ (by assumption)) | (with_reducible apply below_alloc) | (with_reducible apply below_drewN)))⟩
/-- marked from k on -/
def marks (k : Int) (n : Nat) : List Int := (List.range n).map fun i : Nat => k + i
theorem marks_succ (k : Int) (n : Nat) : marks k (n + 1) = marks k n ++ [k + n] := by simp [marks, List.range_succ]
theorem marks_len (k : Int) (n : Nat) : (marks k n).length = n := by simp [marks]
theorem marks_set {k : Int} {xs : List Int} {i : Nat} (h : i < xs.length) : (marks k i ++ xs.drop i).set i (k + i) = marks k (i + 1) ++ xs.drop (i + 1) := by
 rw [List.set_append_right _ _ (by rw [marks_len]; exact Nat.le_refl _), marks_len, Nat.sub_self, List.drop_eq_getElem_cons h, List.set_cons_zero, marks_succ]
 simp
theorem marks_at (k : Int) {n i : Nat} (h : i < n) : (marks k n).getD i 0 = k + i := by
 simp [marks, List.getD_eq_getElem?_getD, h]
set_option maxHeartbeats 1000000 in
theorem markInt64S (b : Nat) (v : Value) (xs : List Int) (k : Nat) (w : World) (ho : OwnI b w v xs) (hk : k ≤ 1073741824) (hl : xs.length ≤ 1073741824) :
  Calls Tryd.prog 24 #[v, .int .i64 k] w fun e w' => e = .returned (.int .i64 ((k : Int) + xs.length)) ∧ OwnI b w' v (marks k xs.length) ∧ w.grownBy w' v.ownBlock ∧ Below b w w' := by
 have HO := Aside0.mk ho
 obtain ⟨A, c, rfl, -⟩ := ho.read
 clear ho
 go_enter Tryd.func24, Tryd.ntmps24
 go_wp2
 go_loopw [1, 5] (fun vk vi wr => ∃ i : Nat, vi = .int .i64 i ∧ vk = .int .i64 ((k : Int) + i) ∧ i ≤ xs.length ∧ Aside0 (OwnI b wr (.slice A xs.length c) (marks k i ++ xs.drop i)) ∧ Aside0 (w.grownBy wr (Value.slice A xs.length c).ownBlock) ∧ Aside0 (Below b w wr)) (fun _ vi _ => xs.length - (intOf vi).toNat)
 case atStart => exact ⟨0, rfl, by simp, Nat.zero_le _, by simpa [marks] using HO, ⟨⟨rfl, rfl, rfl, Nat.le_refl _, fun _ _ _ => rfl⟩⟩, ⟨Below.refl _ _⟩⟩
 case round =>
  obtain ⟨i, rfl, rfl, hi, HI, HG, HB⟩ := hrel
  by_cases hlt : i < xs.length
  ·obtain ⟨g, cap, e2, -⟩ := Kd.R_form HI.out (by simp [marks_len]; omega)
   have el : (marks k i ++ xs.drop i).length = xs.length := by rw [List.length_append, marks_len, List.length_drop]; omega
   rw [el] at e2
   cases e2
   obtain ⟨⟨y0, hcell2⟩, hf2⟩ := OwnI.slot HI.out (i := i) (by omega)
   have HM := Aside0.mk (marks_set (k := (k : Int)) hlt)
   clear el
   go_wp2_with (first | ((with_reducible refine gate_store (t := 2) (p := 15) rfl ?_); refine store_own (w0 := w) rfl (p := 15) rfl rfl i ((k : Int) + i) HI.out ?ha ?hb ?hc ?_; (case ha => omega); (case hb => rfl); (case hc => rfl); intro w' ho hg hb; have HO2 := Aside0.mk ho; have HB3 := Aside0.mk (HB.out.trans hb); have HG3 := Aside0.mk (grown_trans HG.out hg); clear ho hg hb))
   go_roundw
   case rel => exact ⟨i + 1, by go_num, by go_num, by omega, ⟨by rw [← HM.out]; exact HO2.out⟩, HG3, HB3⟩
   case measure => simp [intOf]; omega
  ·have e : i = xs.length := by omega
   have HE := Aside0.mk e
   clear e
   go_wp2
   go_ret
   exact ⟨by rw [HE.out]; rfl, by have := HI.out; rw [HE.out, List.drop_length, List.append_nil] at this; exact this, HG.out, HB.out⟩
set_option maxHeartbeats 1000000 in
theorem heldInt64S (v : Value) (k n : Nat) (w : World) (hr : ReadI w v (marks k n)) (hk : k ≤ 1073741824) (hl : n ≤ 1073741824) :
  Calls Tryd.prog 25 #[v, .int .i64 k] w fun e w' => e = .returned (.int .i64 ((k : Int) + n)) ∧ Below w.heap.size w w' := by
 obtain ⟨A, c, rfl, hc, hr⟩ := hr
 have HR := Aside0.mk hr
 rw [marks_len]
 have hlen := marks_len (k : Int) n
 rw [marks_len] at hc
 clear hr
 go_enter Tryd.func25, Tryd.ntmps25
 go_wp2
 go_loopw [1, 5] (fun vk vi wr => ∃ i : Nat, vi = .int .i64 i ∧ vk = .int .i64 ((k : Int) + i) ∧ i ≤ n ∧ Aside0 (Below w.heap.size w wr)) (fun _ vi _ => n - (intOf vi).toNat)
 case atStart => exact ⟨0, rfl, by simp, Nat.zero_le _, ⟨Below.refl _ _⟩⟩
 case round =>
  obtain ⟨i, rfl, rfl, hi, HB⟩ := hrel
  by_cases hlt : i < n
  ·obtain ⟨ad, y, e1, hcell, HY⟩ := ReadI.get (Kd.C_below HR.out HB.out) (i := i) (by omega)
   cases e1
   have hy := HY.out
   rw [marks_at _ hlt] at hy
   rw [← hy] at hcell
   clear hy
   go_wp2
   go_roundw
   case rel => exact ⟨i + 1, by go_num, by go_num, by omega, HB⟩
   case measure => simp [intOf]; omega
  ·have e : i = n := by omega
   have HE := Aside0.mk e
   clear e
   go_wp2
   go_ret
   exact ⟨by rw [HE.out]; rfl, HB.out⟩
theorem new_cell (W : World) (cs : Array Value) (t : TypeId) (i : Nat) (v : Value) (h : cs[i]? = some v) : (W.alloc (.cells cs t)).cell? ⟨W.heap.size, i, none⟩ = some v := by
 rw [blk_cell (blk_new W _) i, h]
theorem made_hit {ss : List Int} {t : Nat} {k z : Nat} (ht : t < ss.length) (hz : ss.getD t 0 = z) (h : k &&& z = k) : madeAt ss k = true := by
 unfold madeAt
 rw [List.any_eq_true]
 exact ⟨z, mem_at ht hz, by simp [h]⟩
theorem made_miss {ss : List Int} {k : Nat} (h : ∀ t, t < ss.length → ∀ z : Nat, ss.getD t 0 = z → k &&& z ≠ k) (hn : ∀ s ∈ ss, ∃ z : Nat, s = z ∧ z < 64) : madeAt ss k = false := by
 unfold madeAt
 rw [List.any_eq_false]
 intro s hs
 obtain ⟨z, rfl, -⟩ := hn s hs
 obtain ⟨t, ht, e⟩ := List.getElem_of_mem hs
 have := h t ht z (by rw [List.getD_eq_getElem?_getD, List.getElem?_eq_getElem ht]; simpa using e)
 simpa using this
set_option maxRecDepth 100000 in
set_option maxHeartbeats 2000000 in
theorem specMade (n : Nat) (hn : n ≤ 6) (v : Value) (ss : List Int) (w : World) (hv : ReadI w v ss) (hss : ∀ s ∈ ss, ∃ z : Nat, s = z ∧ z < 64) :
  Calls Tryd.prog 30 #[.int .i64 n, v] w fun e w' => ∃ u, e = .returned (.agg #[.int .i64 n, u]) ∧ OwnI w.heap.size w' u (thL (madeAt ss) (2 ^ n)) ∧ Below w.heap.size w w' := by
 have hb64 : 1 ≤ 2 ^ n ∧ 2 ^ n ≤ 64 := by
  rcases (by omega : n = 0 ∨ n = 1 ∨ n = 2 ∨ n = 3 ∨ n = 4 ∨ n = 5 ∨ n = 6) with rfl | rfl | rfl | rfl | rfl | rfl | rfl <;> decide
 obtain ⟨N, hN⟩ : ∃ N : Nat, N = 2 ^ n := ⟨_, rfl⟩
 have HALL : Aside0 (∀ W : World, Calls Tryd.prog 39 #[.int .i64 n] W fun e w' => e = .returned (.int .i64 ((N : Int) - 1)) ∧ Below W.heap.size W w') := ⟨fun W => by rw [hN]; exact specAll n hn W⟩
 rw [← hN] at hb64 ⊢
 clear hN
 have hlen := hv.len
 obtain ⟨A1, d1, rfl, hcc, hr⟩ := hv
 have HR := Aside0.mk hr
 have HSS := Aside0.mk hss
 obtain ⟨wb, hwb⟩ : ∃ wb, wb = (w.alloc (.cells #[.int .i64 0, .slice none 0 0] 24)).alloc (.cells #[] 2) := ⟨_, rfl⟩
 obtain ⟨w0, hw0⟩ : ∃ w0, w0 = wb.alloc (.cells #[.int .i64 n, .slice (some ⟨w.heap.size + 1, 0, none⟩) 0 0] 24) := ⟨_, rfl⟩
 have hsb : wb.heap.size = w.heap.size + 1 + 1 := by rw [hwb]; simp
 have hbb : Below w.heap.size w wb := by rw [hwb]; exact ((Below.refl _ w).alloc (Nat.le_refl _) _).alloc (by simp) _
 have hb0 : Below wb.heap.size wb w0 := by rw [hw0]; exact Below.alloc (Below.refl _ _) (Nat.le_refl _) _
 have hB0 : Below w.heap.size w w0 := hbb.trans (hb0.mono hbb.size)
 have hk1 : w0.heap[w.heap.size]? = some (.cells #[.int .i64 0, .slice none 0 0] 24) := by rw [hw0]; refine blk_alloc ?_ _; rw [hwb]; exact blk_alloc (blk_new w _) _
 have hk2 : w0.heap[w.heap.size + 1 + 1]? = some (.cells #[.int .i64 n, .slice (some ⟨w.heap.size + 1, 0, none⟩) 0 0] 24) := by rw [hw0, ← hsb]; exact blk_new _ _
 have ho0 : OwnI (w.heap.size + 1) w0 (.slice (some ⟨w.heap.size + 1, 0, none⟩) 0 0) [] := by
  have h1 := (OwnI.empty (b := w.heap.size + 1) (w.alloc (.cells #[.int .i64 0, .slice none 0 0] 24)) (by simp))
  rw [← hwb] at h1
  rw [World.size_alloc] at h1
  exact h1.below hb0
 have HB0 := Aside0.mk hB0
 have HK1 := Aside0.mk hk1
 have HK2 := Aside0.mk hk2
 have HO0 := Aside0.mk ho0
 clear hB0 hk1 hk2 ho0 hb0 hbb hsb hcc hr hss
 subst hwb
 go_enter Tryd.func30, Tryd.ntmps30
 go_wp2
 rw [← hw0]
 clear hw0
 go_loopw [6] (fun s wr => ∃ k : Nat, s = .int .i64 k ∧ 1 ≤ k ∧ k ≤ N ∧ (∃ v, Aside0 (wr.heap[w.heap.size + 1 + 1]? = some (Obj.cells #[.int .i64 n, v] 24)) ∧ Aside0 (OwnI (w.heap.size + 1) wr v (thL (madeAt ss) k)) ∧ Aside0 (∀ j, v.ownBlock = some j → j ≠ w.heap.size + 1 + 1)) ∧ Aside0 (wr.heap[w.heap.size]? = some (Obj.cells #[.int .i64 0, .slice none 0 0] 24)) ∧ Aside0 (Below w.heap.size w wr)) (fun s _ => N - (intOf s).toNat)
 case atStart =>
  refine ⟨1, rfl, by omega, hb64.1, ⟨_, HK2, ⟨by rw [thL_one]; exact HO0.out⟩, ⟨fun j hj e => ?_⟩⟩, HK1, HB0⟩
  have : w.heap.size + 1 = j := by simpa [Value.ownBlock] using hj
  omega
 case round =>
  obtain ⟨k, rfl, hk1, hkN, ⟨v, HKb, HO, HNE⟩, HKa, HB⟩ := hrel
  obtain ⟨Av, cv, rfl, -⟩ := HO.out.read
  by_cases hlt : k < N
  ·have hle : (k : Int) ≤ (N : Int) - 1 := by omega
   have hll := thL_len (madeAt ss) k
   go_wp2_with (first | (go_at_call 39; refine (HALL.out _).mono ?_; rintro e w5 ⟨rfl, hb⟩; have HKb5 := Aside0.mk (blk_below HKb.out hb); have HKa5 := Aside0.mk (blk_below HKa.out hb); have HO5 := Aside0.mk (OwnI.below HO.out hb); have HB5 := Aside0.mk (HB.out.trans (hb.mono HB.out.size)); clear hb HKb HKa HO HB))
   go_loopw [7] (fun s wr => ∃ j : Nat, s = .int .i64 j ∧ j ≤ ss.length ∧ Aside0 (∀ t, t < j → ∀ z : Nat, ss.getD t 0 = z → k &&& z ≠ k) ∧ wr = w5) (fun s _ => ss.length - (intOf s).toNat)
   case atStart => exact ⟨0, rfl, Nat.zero_le _, ⟨fun t h => absurd h (Nat.not_lt_zero _)⟩, rfl⟩
   case round =>
    obtain ⟨j, rfl, hj, HJ, rfl⟩ := hrel
    obtain ⟨w6, hw6⟩ : ∃ w6, w6 = wr := ⟨_, rfl⟩
    subst hw6
    by_cases hlt2 : j < ss.length
    ·obtain ⟨ad, y, rfl, hcell, HY⟩ := ReadI.get (Kd.C_below HR.out HB5.out) hlt2
     obtain ⟨z, rfl, hz⟩ := HSS.out y (mem_at hlt2 HY.out)
     have hand := and_i64 k z (by omega) (by omega)
     cases hh : (((k &&& z : Nat) : Int) == (k : Int)) with
     | true =>
      have HH := Aside0.mk (thL_hit hk1 (made_hit hlt2 HY.out (by have := beq_iff_eq.1 hh; omega)))
      have c51 := blk_cell HKb5.out 1
      go_wp2_with (first | (at_builtin; refine app_own (w0 := w6) (w.heap.size + 1) rfl (.tmp 32) (.tmp 34) rfl _ (thL (madeAt ss) k) k rfl rfl HO5.out (Below.refl _ _) (by have := blk_lt HKb5.out; omega) ?hl ?_; (case hl => omega); intro v1 w7 ho hb2 hg hat; have hne : some (w.heap.size + 1 + 1) ≠ (Value.slice Av (thL (madeAt ss) k).length cv).ownBlock := (fun e => HNE.out _ e.symm rfl); have hne2 : some w.heap.size ≠ (Value.slice Av (thL (madeAt ss) k).length cv).ownBlock := (fun e => by have := HO5.out.base _ e.symm; omega); have HKb6 := Aside0.mk ((hg.block _ (blk_lt HKb5.out) hne).trans HKb5.out); have HKa6 := Aside0.mk ((hg.block _ (blk_lt HKa5.out) hne2).trans HKa5.out); have HO6 := Aside0.mk ho; have HB6 := Aside0.mk (HB5.out.trans (hb2.mono (by omega))); have HNE6 : Aside0 (∀ i, v1.ownBlock = some i → i ≠ w.heap.size + 1 + 1) := ⟨(fun i hi => by rcases hat with hat | ⟨b, hb, hlb⟩; (rw [hat] at hi; exact HNE.out i hi); (rw [hb] at hi; have := blk_lt HKb5.out; cases hi; omega))⟩; have c61 := blk_cell HKb6.out 1; have f61 := blk_frozen HKb6.out 1; obtain ⟨A6, d6, rfl, -⟩ := ho.read; clear ho hb2 hg hat hne hne2))
      go_roundw
      case rel =>
       have h6 := HO6.out
       have h7 := HNE6.out
       rw [List.length_append, List.length_singleton] at h6 h7
       refine ⟨k + 1, by go_num, by omega, by omega, ⟨_, ⟨blk_put HKb6.out 1 _ rfl⟩, ⟨?_⟩, ⟨h7⟩⟩, ⟨blk_far HKa6.out (by simp <;> omega) _⟩, ⟨HB6.out.setCell (by simp; omega) _⟩⟩
       rw [HH.out]
       exact h6.grown (set_grown' _ (w.heap.size + 1 + 1) _ _) (fun i hi e => by have := h7 i hi; cases e; omega)
      case measure => simp [intOf]; omega
     | false =>
      have hh' : k &&& z ≠ k := fun e => by rw [e] at hh; simp at hh
      go_wp2
      go_roundw
      case rel =>
       refine ⟨j + 1, by go_num, by omega, ⟨fun t ht z' hz' => ?_⟩, trivial⟩
       rcases Nat.lt_succ_iff_lt_or_eq.1 ht with h2 | rfl
       ·exact HJ.out t h2 z' hz'
       ·have e := HY.out.symm.trans hz'
        have : z = z' := by omega
        rw [← this]; exact hh'
      case measure => simp [intOf]; omega
    ·have HH := Aside0.mk (thL_miss (made_miss (k := k) (fun t ht => HJ.out t (by omega)) HSS.out))
     go_wp2
     go_roundw
     case rel => exact ⟨k + 1, by go_num, by omega, by omega, ⟨_, HKb5, ⟨by rw [HH.out]; exact HO5.out⟩, HNE⟩, HKa5, HB5⟩
     case measure => simp [intOf]; omega
  ·have e : k = N := by omega
   have HE := Aside0.mk e
   have hle : ¬ (k : Int) ≤ (N : Int) - 1 := by omega
   clear e
   go_wp2_with (first | (go_at_call 39; refine (HALL.out _).mono ?_; rintro e w5 ⟨rfl, hb⟩; have HKb5 := Aside0.mk (blk_below HKb.out hb); have HKa5 := Aside0.mk (blk_below HKa.out hb); have HO5 := Aside0.mk (OwnI.below HO.out hb); have HB5 := Aside0.mk (HB.out.trans (hb.mono HB.out.size)); have c10 : w5.cell? ⟨w.heap.size + 1 + 1, 0, none⟩ = some (.int .i64 n) := blk_cell HKb5.out 0; have c11 : w5.cell? ⟨w.heap.size + 1 + 1, 1, none⟩ = some (.slice Av (thL (madeAt ss) k).length cv) := blk_cell HKb5.out 1; have c00 : w5.cell? ⟨w.heap.size, 0, none⟩ = some (.int .i64 0) := blk_cell HKa5.out 0; have c01 : w5.cell? ⟨w.heap.size, 1, none⟩ = some (.slice none 0 0) := blk_cell HKa5.out 1; have f00 : w5.frozen? ⟨w.heap.size, 0, none⟩ = false := blk_frozen HKa5.out 0; have f01 : w5.frozen? ⟨w.heap.size, 1, none⟩ = false := blk_frozen HKa5.out 1; clear hb HKb HKa HO HB))
   refine bodyPost_ret (results_cell_row rfl _ _ w.heap.size 24 #[.int .i64 n, .slice Av (thL (madeAt ss) k).length cv] (0, 0) _ rfl (by refine blk_put (cs := #[.int .i64 n, .slice none 0 0]) ?_ 1 _ rfl; refine blk_put (cs := #[.int .i64 0, .slice none 0 0]) ?_ 0 _ rfl; exact HKa5.out) Tryd.underlying24 rfl (by kernel_rfl)) rfl ?_
   refine ⟨_, rfl, ?_, (HB5.out.setCell (by simp) _).setCell (by simp) _⟩
   have ho := HO5.out
   have hbs := ho.base
   have ho := ho.lower (b' := w.heap.size) (by omega)
   rw [← HE.out]
   exact (ho.grown (set_grown' _ w.heap.size _ _) (fun j hj e => by have := hbs _ hj; cases e; omega)).grown (set_grown' _ w.heap.size _ _) (fun j hj e => by have := hbs _ hj; cases e; omega)
abbrev C0 : Obj := .cells #[.int .i64 0, .slice none 0 0] 24
theorem infoT : (Tryd.prog.info? 9).map (fun i => (i.zero, i.size, i.bytes)) = some (some (.string { data := #[] }), 1, 16) := by kernel_rfl
/-! the names -/
def namesL : List ByteArray := [{ data := #[112, 111, 105, 110, 116] }, { data := #[99, 105, 114, 99, 108, 101] }, { data := #[115, 113, 117, 97, 114, 101] }, { data := #[115, 112, 104, 101, 114, 101] }, { data := #[98, 97, 108, 108] }, { data := #[98, 105, 112, 121, 114, 97, 109, 105, 100] }, { data := #[111, 99, 116, 97, 104, 101, 100, 114, 111, 110] }, { data := #[109, 111, 101, 98, 105, 117, 115] }, { data := #[112, 114, 111, 106, 101, 99, 116, 105, 118, 101] }, { data := #[119, 101, 100, 103, 101] }, { data := #[116, 114, 101, 101] }]
def knownL : List ByteArray := [{ data := #[49, 58, 48] }, { data := #[51, 58, 48, 49, 44, 48, 50, 44, 49, 50] }, { data := #[52, 58, 48, 49, 44, 49, 50, 44, 50, 51, 44, 48, 51] }, { data := #[52, 58, 48, 49, 50, 44, 48, 49, 51, 44, 48, 50, 51, 44, 49, 50, 51] }, { data := #[52, 58, 48, 49, 50, 51] }, { data := #[53, 58, 48, 49, 51, 44, 48, 49, 52, 44, 48, 50, 51, 44, 48, 50, 52, 44, 49, 50, 51, 44, 49, 50, 52] }, { data := #[54, 58, 48, 50, 52, 44, 48, 50, 53, 44, 48, 51, 52, 44, 48, 51, 53, 44, 49, 50, 52, 44, 49, 50, 53, 44, 49, 51, 52, 44, 49, 51, 53] }, { data := #[53, 58, 48, 49, 50, 44, 49, 50, 51, 44, 50, 51, 52, 44, 48, 51, 52, 44, 48, 49, 52] }, { data := #[54, 58, 48, 49, 50, 44, 48, 50, 51, 44, 48, 51, 52, 44, 48, 52, 53, 44, 48, 49, 53, 44, 49, 50, 52, 44, 50, 51, 53, 44, 49, 51, 52, 44, 50, 52, 53, 44, 49, 51, 53] }, { data := #[53, 58, 48, 49, 44, 48, 50, 44, 49, 50, 44, 48, 51, 44, 48, 52, 44, 51, 52] }, { data := #[54, 58, 48, 49, 44, 49, 50, 44, 49, 51, 44, 51, 52, 44, 51, 53] }]
def RowT (w : World) (b : Nat) (ls : List ByteArray) : Prop := w.heap[b]? = some (.cells (ls.map Value.string).toArray 9)
theorem RowT.cell {w : World} {b : Nat} {ls : List ByteArray} (h : RowT w b ls) {i : Nat} {s : ByteArray} (hi : ls[i]? = some s) : w.cell? ⟨b, i, none⟩ = some (.string s) := by
 have h1 : ((ls.map Value.string).toArray)[i]? = some (.string s) := by simp [hi]
 exact (blk_cell h i).trans h1
set_option maxRecDepth 100000 in
theorem names (w : World) : Calls Tryd.prog 26 #[] w fun e w' => e = .returned (.slice (some ⟨w.heap.size, 0, none⟩) 11 11) ∧ RowT w' w.heap.size namesL ∧ Below w.heap.size w w' := by
 go_enter Tryd.func26, Tryd.ntmps26
 go_wp2
 go_ret
 exact ⟨rfl, heap_alloc_new w _, Below.alloc (Below.refl _ _) (Nat.le_refl _) _⟩
set_option maxRecDepth 100000 in
theorem known (w : World) : Calls Tryd.prog 27 #[] w fun e w' => e = .returned (.slice (some ⟨w.heap.size, 0, none⟩) 11 11) ∧ RowT w' w.heap.size knownL ∧ Below w.heap.size w w' := by
 go_enter Tryd.func27, Tryd.ntmps27
 go_wp2
 go_ret
 exact ⟨rfl, heap_alloc_new w _, Below.alloc (Below.refl _ _) (Nat.le_refl _) _⟩
/-- rows of texts, told -/
def OwnX (b : Nat) (w : World) (v : Value) (ss : List ByteArray) : Prop := w.ownsRow b 9 1 v ss.length (ss.map Value.string)
theorem OwnX.empty {b : Nat} (w : World) (hb : b ≤ w.heap.size) : OwnX b (w.alloc (.cells #[] 9)) (.slice (some ⟨w.heap.size, 0, none⟩) 0 0) [] := ⟨rfl, .inr ⟨w.heap.size, 0, #[], rfl, hb, heap_alloc_new w _, Nat.le_refl _, by decide, rfl, rfl⟩⟩
theorem add_blk (ad : Addr) (i : Nat) : (ad.add i).block = ad.block := by unfold Addr.add; split <;> rfl
theorem OwnX.form {b : Nat} {w : World} {v : Value} {ss : List ByteArray} (h : OwnX b w v ss) : ∃ A c, v = .slice A ss.length c ∧ ∀ i s, ss[i]? = some s → ∃ ad : Addr, A = some ad ∧ (b ≤ ad.block ∧ ad.block < w.heap.size) ∧ w.cell? (ad.add i) = some (.string s) := by
 rcases h.2 with ⟨rfl, h0⟩ | ⟨g, cap, cur, rfl, -⟩
 ·have : ss = [] := List.eq_nil_of_length_eq_zero h0
  subst this
  exact ⟨none, 0, rfl, fun i s hi => by simp at hi⟩
 ·refine ⟨_, _, rfl, fun i s hi => ⟨_, rfl, ⟨own_base h g rfl, own_lt h g rfl⟩, ?_⟩⟩
  exact World.ownsRow.cells h (g := g) rfl i _ (by rw [List.getElem?_map, hi]; rfl)
section
variable {P : Program} {ops : Array Oper} {rest : List Oper} {o : Oper} {a : Act} {Q : Exit → Act → World → Prop}
theorem app_x {w0 W : World} (base : Nat) (hgd : o.guard = none) (s x : Operand) (ho : o.op = .call { callee := .builtin .append, args := #[s, x], argTypes := #[51, 51] })
  (v : Value) (ss : List ByteArray) (p : ByteArray) (hs : a.eval s = v) (hx : a.eval x = .slice (some ⟨W.heap.size, 0, none⟩) 1 1)
  (HO : OwnX base W v ss) (HB : Below base w0 W) (hbase : base ≤ W.heap.size) (hl : ss.length < 1000000)
  (h : ∀ v1 w1, OwnX base w1 v1 (ss ++ [p]) → Below base w0 w1 → wpList Tryd.prog ops Q rest (a.put o.dst v1) w1) :
  wpList Tryd.prog ops Q (o :: rest) a (W.alloc (.cells #[.string p] 9)) := by
 refine print_append_cells base hgd s x 51 9 (.string { data := #[] }) 1 16 ho Tryd.underlying51 infoT rfl (by decide) (by decide) v ss.length (ss.map Value.string) [.string p] hs hx rfl (fun u hu => ?_) HO HB hbase (by omega) ?_
 ·rw [List.mem_singleton] at hu; subst hu; rfl
 ·intro v1 w1 k1 k2 k3 k4
  refine h v1 w1 ?_ k2
  unfold OwnX
  rw [List.map_append, List.length_append]
  exact k1
end
/-- the parts of a text: from a on, looked at from i on, n places left -/
def splitX (s : ByteArray) (c : Nat) : Nat → Nat → Nat → List ByteArray
 | 0, a, _ => [s.extract a s.size]
 | n + 1, a, i => if (s.data[i]?.map UInt8.toNat) = some c then s.extract a i :: splitX s c n (i + 1) (i + 1) else splitX s c n a (i + 1)
set_option maxRecDepth 100000 in
set_option maxHeartbeats 2000000 in
theorem splitIs (s : ByteArray) (hs : s.size ≤ 100000) (c : Nat) (w : World) :
  Calls Tryd.prog 28 #[.string s, .int .u8 c] w fun e w' => ∃ u, e = .returned u ∧ OwnX w.heap.size w' u (splitX s c s.size 0 0) ∧ Below w.heap.size w w' := by
 obtain ⟨w1, hw1⟩ : ∃ w1, w1 = w.alloc (.cells #[] 9) := ⟨_, rfl⟩
 have HB1 : Aside0 (Below w.heap.size w w1) := ⟨by rw [hw1]; exact Below.alloc (Below.refl _ _) (Nat.le_refl _) _⟩
 have HO1 : Aside0 (OwnX w.heap.size w1 (.slice (some ⟨w.heap.size, 0, none⟩) 0 0) []) := ⟨by rw [hw1]; exact OwnX.empty w (Nat.le_refl _)⟩
 go_enter Tryd.func28, Tryd.ntmps28
 go_wp2
 rw [← hw1]
 clear hw1
 go_loopw [5, 6, 7] (fun s5 s6 s7 wr => ∃ (a i : Nat) (ss : List ByteArray), s6 = .int .i64 a ∧ s7 = .int .i64 i ∧ a ≤ i ∧ i ≤ s.size ∧ Aside0 (ss.length ≤ i) ∧ Aside0 (ss ++ splitX s c (s.size - i) a i = splitX s c s.size 0 0) ∧ Aside0 (OwnX w.heap.size wr s5 ss) ∧ Aside0 (Below w.heap.size w wr)) (fun _ _ s7 _ => s.size - (intOf s7).toNat)
 case atStart => exact ⟨0, 0, [], rfl, rfl, Nat.le_refl _, Nat.zero_le _, ⟨Nat.le_refl _⟩, ⟨rfl⟩, HO1, HB1⟩
 case round =>
  obtain ⟨a, i, ss, rfl, rfl, ha, hi, HL, HE, HO, HBr⟩ := hrel
  obtain ⟨A5, c5, e5, -⟩ := HO.out.form
  subst e5
  obtain ⟨L5, hL5⟩ : ∃ L, L = ss.length := ⟨_, rfl⟩
  rw [← hL5] at HO ⊢
  clear hL5
  by_cases hlt : i < s.size
  ·have hltI : (i : Int) < (s.size : Int) := by omega
   have haI : (a : Int) ≤ (i : Int) := by omega
   have hiI : (i : Int) ≤ (s.size : Int) := by omega
   obtain ⟨y, hyy⟩ : ∃ y : Nat, (s[i]'hlt).toNat = y := ⟨_, rfl⟩
   have hdi : s.data[i]?.map UInt8.toNat = some y := by
    have : s.data[i]? = some (s[i]'hlt) := by rw [ByteArray.getElem_eq_getElem_data]; exact Array.getElem?_eq_getElem hlt
    rw [this, Option.map_some, hyy]
   have HU : Aside0 (splitX s c (s.size - i) a i = if y = c then s.extract a i :: splitX s c (s.size - (i + 1)) (i + 1) (i + 1) else splitX s c (s.size - (i + 1)) a (i + 1)) := ⟨by
    rw [show s.size - i = (s.size - (i + 1)) + 1 by omega]
    show (if s.data[i]?.map UInt8.toNat = some c then _ else _) = _
    rw [hdi]
    by_cases h : y = c
    ·rw [if_pos h, if_pos (by rw [h])]
    ·rw [if_neg h, if_neg (fun e => h (Option.some.inj e))]⟩
   clear hdi
   by_cases hq : y = c
   ·have hqI : ((y : Int) == (c : Int)) = true := by rw [beq_iff_eq]; omega
    have HE2 : Aside0 ((ss ++ [s.extract a i]) ++ splitX s c (s.size - (i + 1)) (i + 1) (i + 1) = splitX s c s.size 0 0) := ⟨by rw [← HE.out, HU.out, if_pos hq, List.append_assoc]; rfl⟩
    clear hq
    go_wp2_with (first | (at_builtin; refine app_x (w0 := wr) w.heap.size rfl (.tmp 20) (.tmp 25) rfl _ ss _ rfl rfl HO.out (Below.refl _ _) HBr.out.size ?hl ?_; (case hl => (have := HL.out; omega)); intro v1 w6 ho hb; have HO6 := Aside0.mk ho; have HB6 := Aside0.mk (HBr.out.trans hb); clear ho hb))
    go_roundw
    case rel => exact ⟨i + 1, i + 1, _, by go_num, by go_num, by omega, by omega, ⟨by rw [List.length_append, List.length_singleton]; have := HL.out; omega⟩, HE2, HO6, HB6⟩
    case measure => simp [intOf]; omega
   ·have hqI : ((y : Int) == (c : Int)) = false := by rw [beq_eq_false_iff_ne]; omega
    have HE2 : Aside0 (ss ++ splitX s c (s.size - (i + 1)) a (i + 1) = splitX s c s.size 0 0) := ⟨by rw [← HE.out, HU.out, if_neg hq]⟩
    clear hq
    go_wp2
    go_roundw
    case rel => exact ⟨a, i + 1, ss, rfl, by go_num, by omega, by omega, ⟨Nat.le_succ_of_le HL.out⟩, HE2, HO, HBr⟩
    case measure => simp [intOf]; omega
  ·have hltI : ¬ (i : Int) < (s.size : Int) := by omega
   have haI : (a : Int) ≤ (s.size : Int) := by omega
   have HE2 : Aside0 (ss ++ [s.extract a s.size] = splitX s c s.size 0 0) := ⟨by rw [← HE.out, show s.size - i = 0 by omega]; rfl⟩
   go_wp2_with (first | (at_builtin; refine app_x (w0 := wr) w.heap.size rfl (.tmp 29) (.tmp 33) rfl _ ss _ rfl rfl HO.out (Below.refl _ _) HBr.out.size ?hl ?_; (case hl => (have := HL.out; omega)); intro v1 w6 ho hb; have HO6 := Aside0.mk ho; have HB6 := Aside0.mk (HBr.out.trans hb); clear ho hb))
   go_ret
   exact ⟨_, rfl, by rw [← HE2.out]; exact HO6.out, HB6.out⟩
/-- the digits of a set, ascending -/
def setGo : List UInt8 → Nat → Option Nat
 | [], a => some a
 | c :: r, a => if 48 ≤ c.toNat ∧ c.toNat ≤ 53 ∧ a / 2 ^ (c.toNat - 48) = 0 then setGo r (a ||| 2 ^ (c.toNat - 48)) else none
/-- what setOf answers -/
def ansSetOf (s : ByteArray) : Int × Bool := match setGo s.data.toList 0 with | some a => ((a : Int), !decide (a = 0)) | none => (0, false)
theorem setGo_drop {s : ByteArray} {i : Nat} (hlt : i < s.size) (a : Nat) : setGo (s.data.toList.drop i) a = if 48 ≤ (s[i]'hlt).toNat ∧ (s[i]'hlt).toNat ≤ 53 ∧ a / 2 ^ ((s[i]'hlt).toNat - 48) = 0 then setGo (s.data.toList.drop (i + 1)) (a ||| 2 ^ ((s[i]'hlt).toNat - 48)) else none := by
 have hl : i < s.data.toList.length := by simpa using hlt
 rw [List.drop_eq_getElem_cons hl]
 have e : s.data.toList[i] = s[i]'hlt := by simp [ByteArray.getElem_eq_getElem_data]
 rw [e]
 rfl
theorem bytesRow_get (s : ByteArray) (c : Nat) {i : Nat} (hlt : i < s.size) : (bytesRow s c)[i]? = some (.int .u8 ((s[i]'hlt).toNat : Nat)) := by
 unfold bytesRow
 have hl : i < s.data.size := hlt
 rw [Array.getElem?_append_left (by simpa using hl)]
 simp [hl, ByteArray.getElem_eq_getElem_data]
 exact ⟨_, Array.getElem?_eq_getElem hl, rfl⟩
theorem wrapU {v : Nat} (h : v < 64) : IntKind.u64.wrap (v : Int) = (v : Int) := by
 show ((v : Int) % 18446744073709551616) = v
 omega
set_option maxRecDepth 100000 in
set_option maxHeartbeats 4000000 in
theorem setOf (s : ByteArray) (w : World) (hs : s.size ≤ 1000000) :
  Calls Tryd.prog 32 #[.string s] w fun e w' => e = .returned (.tuple #[.int .i64 (ansSetOf s).1, .bool (ansSetOf s).2]) ∧ Below w.heap.size w w' := by
 obtain ⟨c, w1, hcv, hB1, hc1⟩ : ∃ c w1, (convert 9 66 (.string s)).run Tryd.prog w = .ok (.slice (some ⟨w.heap.size, 0, none⟩) s.size c) w1 ∧ Below w.heap.size w w1 ∧ ∀ i (hlt : i < s.size), w1.cell? ⟨w.heap.size, i, none⟩ = some (.int .u8 ((s[i]'hlt).toNat : Nat)) := by
  refine ⟨_, _, run_bytes_of_string (P := Tryd.prog) w 9 66 5 s Tryd.underlying9 Tryd.underlying66 Tryd.underlying5, ?_, ?_⟩
  ·exact Below.alloc (Below.refl _ _).drew (Nat.le_refl _) _
  ·intro i hlt
   exact (cell_of_row _ _ i _ _ _ (blk_new w.drew _)).trans (bytesRow_get s _ hlt)
 have HB1 := Aside0.mk hB1
 have HC1 := Aside0.mk hc1
 clear hB1 hc1
 go_enter Tryd.func32, Tryd.ntmps32
 go_wp2
 go_loopw [4, 11] (fun s4 s11 wr => ∃ o i : Nat, s4 = .int .i64 o ∧ o < 64 ∧ s11 = .int .i64 i ∧ i ≤ s.size ∧ Aside0 (setGo (s.data.toList.drop i) o = setGo s.data.toList 0) ∧ Aside0 (Below w1.heap.size w1 wr)) (fun _ s11 _ => s.size - (intOf s11).toNat)
 case atStart => exact ⟨0, 0, rfl, by decide, rfl, Nat.zero_le _, ⟨rfl⟩, ⟨Below.refl _ _⟩⟩
 case round =>
  obtain ⟨o, i, rfl, ho, rfl, hi, HS, HBr⟩ := hrel
  by_cases hlt : i < s.size
  ·have hltI : (i : Int) < (s.size : Int) := by omega
   obtain ⟨y, hyy, hy256⟩ : ∃ y : Nat, (s[i]'hlt).toNat = y ∧ y < 256 := ⟨_, rfl, UInt8.toNat_lt (s[i]'hlt)⟩
   have hcell := pw_cell_below HBr.out (HC1.out i hlt)
   rw [hyy] at hcell
   have HG := Aside0.mk (setGo_drop hlt o)
   rw [hyy] at HG
   clear hyy
   by_cases hr : 48 ≤ y ∧ y ≤ 53
   ·obtain ⟨v, rfl⟩ : ∃ v, y = v + 48 := ⟨y - 48, by omega⟩
    have hv5 : v ≤ 5 := by omega
    have hcv' : IntKind.i64.wrap (((v + 48 : Nat) : Int) - 48) = (v : Int) := by rw [IntWalk.i64_in _ (by omega)]; omega
    have hcv2 : (((v + 48 : Nat) : Int) - 48) = (v : Int) := by omega
    have h0v : (0 : Int) ≤ (v : Int) := by omega
    have h5v : (v : Int) ≤ 5 := by omega
    have hvu : IntKind.u64.wrap (v : Int) = (v : Int) := wrapU (by omega)
    have hmin : min v 64 = v := by omega
    have hsh := pow_wrap v (by omega)
    have hpp := pow_bd v hv5
    by_cases h0 : o / 2 ^ v = 0
    ·have hdv : (((o : Int) / 2 ^ v) != 0) = false := by rw [show ((o : Int) / 2 ^ v) = ((o / 2 ^ v : Nat) : Int) by simp, h0]; rfl
     have HE : Aside0 (setGo (s.data.toList.drop (i + 1)) (o ||| 2 ^ v) = setGo s.data.toList 0) := ⟨by
      rw [← HS.out, HG.out, if_pos ⟨by omega, by omega, by rw [Nat.add_sub_cancel]; exact h0⟩, Nat.add_sub_cancel]⟩
     clear h0
     obtain ⟨P, hP⟩ : ∃ P, P = 2 ^ v := ⟨_, rfl⟩
     rw [← hP] at hsh hpp HE
     clear hP
     have hor := or_i64 o P (by omega) (by omega)
     have HO := Aside0.mk (Nat.or_lt_two_pow (n := 6) ho (show P < 64 by omega))
     go_wp2
     go_roundw
     case rel => exact ⟨o ||| P, i + 1, by first | rfl | (congr 1), HO.out, by go_num, by omega, HE, HBr⟩
     case measure => simp [intOf]; omega
    ·have hdv : (((o : Int) / 2 ^ v) != 0) = true := by rw [show ((o : Int) / 2 ^ v) = ((o / 2 ^ v : Nat) : Int) by simp, bne_iff_ne]; omega
     have HA : Aside0 (ansSetOf s = (0, false)) := ⟨by
      unfold ansSetOf
      rw [← HS.out, HG.out, if_neg (fun h => h0 (by have := h.2.2; rwa [Nat.add_sub_cancel] at this))]⟩
     clear h0
     go_wp2
     go_ret2
     exact ⟨by rw [HA.out]; rfl, HB1.out.trans (HBr.out.mono HB1.out.size)⟩
   ·have HA : Aside0 (ansSetOf s = (0, false)) := ⟨by
     unfold ansSetOf
     rw [← HS.out, HG.out, if_neg (fun h => hr ⟨h.1, h.2.1⟩)]⟩
    obtain ⟨x, hby, hx1, hx2⟩ : ∃ x : Int, (y : Int) = x + 48 ∧ -48 ≤ x ∧ x ≤ 300 := ⟨(y : Int) - 48, by omega, by omega, by omega⟩
    rw [hby] at hcell
    have hcv' : IntKind.i64.wrap ((x + 48) - 48) = x := by rw [IntWalk.i64_in _ (by omega)]; omega
    have hcv2 : ((x + 48) - 48 : Int) = x := by omega
    by_cases h0 : 0 ≤ x
    ·have h5 : ¬ x ≤ 5 := by omega
     clear hr hby
     go_wp2
     go_ret2
     exact ⟨by rw [HA.out]; rfl, HB1.out.trans (HBr.out.mono HB1.out.size)⟩
    ·clear hr hby
     go_wp2
     go_ret2
     exact ⟨by rw [HA.out]; rfl, HB1.out.trans (HBr.out.mono HB1.out.size)⟩
  ·have hltI : ¬ (i : Int) < (s.size : Int) := by omega
   obtain rfl : i = s.size := by omega
   have HA : Aside0 (ansSetOf s = ((o : Int), !decide (o = 0))) := ⟨by
    unfold ansSetOf
    rw [← HS.out, List.drop_of_length_le (by simp)]
    rfl⟩
   by_cases h0 : o = 0
   ·subst h0
    go_wp2
    go_ret2
    exact ⟨by rw [HA.out]; rfl, HB1.out.trans (HBr.out.mono HB1.out.size)⟩
   ·have hoI : ((o : Int) != 0) = true := by rw [bne_iff_ne]; omega
    have HA2 : Aside0 (ansSetOf s = ((o : Int), true)) := ⟨by rw [HA.out, decide_eq_false h0]; rfl⟩
    clear h0
    go_wp2
    go_ret2
    exact ⟨by rw [HA2.out]; rfl, HB1.out.trans (HBr.out.mono HB1.out.size)⟩
/-- ascending digits less than n -/
def set1 (n : Nat) : List UInt8 → Nat → Int → Int × Bool
 | [], o, _ => ((o : Int), decide (0 < o))
 | c :: r, o, b => if decide (b + 1 ≤ (c.toNat : Int) - 48) && decide ((c.toNat : Int) - 48 ≤ (n : Int) - 1) then set1 n r (o ||| 2 ^ ((c.toNat : Int) - 48).toNat) ((c.toNat : Int) - 48) else (0, false)
theorem set1_drop {s : ByteArray} {n i : Nat} (hlt : i < s.size) (o : Nat) (b x : Int) (hx : ((s[i]'hlt).toNat : Int) = x + 48) : set1 n (s.data.toList.drop i) o b = if decide (b + 1 ≤ x) && decide (x ≤ (n : Int) - 1) then set1 n (s.data.toList.drop (i + 1)) (o ||| 2 ^ x.toNat) x else (0, false) := by
 have hl : i < s.data.toList.length := by simpa using hlt
 rw [List.drop_eq_getElem_cons hl]
 have e : s.data.toList[i] = s[i]'hlt := by simp [ByteArray.getElem_eq_getElem_data]
 rw [e]
 have e2 : ((s[i]'hlt).toNat : Int) - 48 = x := by omega
 show (if decide (b + 1 ≤ ((s[i]'hlt).toNat : Int) - 48) && decide (((s[i]'hlt).toNat : Int) - 48 ≤ (n : Int) - 1) then set1 n (s.data.toList.drop (i + 1)) (o ||| 2 ^ (((s[i]'hlt).toNat : Int) - 48).toNat) (((s[i]'hlt).toNat : Int) - 48) else (0, false)) = _
 rw [e2]
set_option maxRecDepth 100000 in
set_option maxHeartbeats 2000000 in
theorem setIs (s : ByteArray) (hs : s.size ≤ 100000) (n : Nat) (hn1 : 1 ≤ n) (hn : n ≤ 6) (w : World) :
  Calls Tryd.prog 29 #[.string s, .int .i64 n] w fun e w' => e = .returned (.tuple #[.int .i64 (set1 n s.data.toList 0 (-1)).1, .bool (set1 n s.data.toList 0 (-1)).2]) ∧ Below w.heap.size w w' := by
 go_enter Tryd.func29, Tryd.ntmps29
 go_wp2
 go_loopw [6, 7, 8] (fun s6 s7 s8 wr => ∃ (o i : Nat) (b : Int), s6 = .int .i64 o ∧ o < 64 ∧ s7 = .int .i64 b ∧ -1 ≤ b ∧ b ≤ 5 ∧ s8 = .int .i64 i ∧ i ≤ s.size ∧ Aside0 (set1 n (s.data.toList.drop i) o b = set1 n s.data.toList 0 (-1)) ∧ Aside0 (Below w.heap.size w wr)) (fun _ _ s8 _ => s.size - (intOf s8).toNat)
 case atStart => exact ⟨0, 0, -1, rfl, by decide, rfl, by decide, by decide, rfl, Nat.zero_le _, ⟨rfl⟩, ⟨Below.refl _ _⟩⟩
 case round =>
  obtain ⟨o, i, b, rfl, ho, rfl, hb1, hb2, rfl, hi, HS, HBr⟩ := hrel
  by_cases hlt : i < s.size
  ·have hltI : (i : Int) < (s.size : Int) := by omega
   obtain ⟨y, hyy, hy256⟩ : ∃ y : Nat, (s[i]'hlt).toNat = y ∧ y < 256 := ⟨_, rfl, UInt8.toNat_lt (s[i]'hlt)⟩
   have HYY := Aside0.mk hyy
   clear hyy
   obtain ⟨x, hby, hx1, hx2⟩ : ∃ x : Int, (y : Int) = x + 48 ∧ -48 ≤ x ∧ x ≤ 300 := ⟨(y : Int) - 48, by omega, by omega, by omega⟩
   have HBY : Aside0 ((((s[i]'hlt).toNat : Nat) : Int) = x + 48) := ⟨by rw [HYY.out]; exact hby⟩
   have HD := Aside0.mk (set1_drop (n := n) hlt o b x HBY.out)
   clear hby hy256 HYY
   obtain ⟨q, hq⟩ : ∃ q, q = (decide (b + 1 ≤ x) && decide (x ≤ (n : Int) - 1)) := ⟨_, rfl⟩
   rw [← hq] at HD
   cases q with
   | true =>
    have hqq : b + 1 ≤ x ∧ x ≤ (n : Int) - 1 := by
     have := hq.symm
     rw [Bool.and_eq_true, decide_eq_true_eq, decide_eq_true_eq] at this
     exact this
    obtain ⟨v, rfl⟩ : ∃ v : Nat, x = v := ⟨x.toNat, by omega⟩
    have HQ := Aside0.mk hq
    have hv5 : v ≤ 5 := by omega
    have hvu : IntKind.u64.wrap (v : Int) = (v : Int) := wrapU (by omega)
    have hmin : min v 64 = v := by omega
    have HF := Aside0.mk hqq
    have HE : Aside0 (set1 n (s.data.toList.drop (i + 1)) (o ||| 2 ^ v) v = set1 n s.data.toList 0 (-1)) := ⟨by rw [← HS.out, HD.out, if_pos rfl, Int.toNat_natCast]⟩
    clear hqq hq hx1 hx2
    have hsh := pow_wrap v (by omega)
    have hpp := pow_bd v hv5
    obtain ⟨P, hP⟩ : ∃ P, P = 2 ^ v := ⟨_, rfl⟩
    rw [← hP] at hsh hpp HE
    clear hP
    have hor := or_i64 o P (by omega) (by omega)
    have HO := Aside0.mk (Nat.or_lt_two_pow (n := 6) ho (show P < 64 by omega))
    have hby := HBY.out
    go_wp2_with (first | (go_at_call 38; refine (specIn _ _ _ _).mono ?_; rintro e w2 ⟨rfl, hb⟩; rw [← HQ.out]; have HB2 := Aside0.mk (HBr.out.trans (hb.mono HBr.out.size)); clear hb))
    go_roundw
    case rel => exact ⟨o ||| P, i + 1, v, by first | rfl | (congr 1), HO.out, rfl, by omega, by omega, by go_num, by omega, HE, HB2⟩
    case measure => simp [intOf]; omega
   | false =>
    have HQ := Aside0.mk hq
    have HA : Aside0 (set1 n s.data.toList 0 (-1) = (0, false)) := ⟨by rw [← HS.out, HD.out]; rfl⟩
    clear hq
    have hby := HBY.out
    go_wp2_with (first | (go_at_call 38; refine (specIn _ _ _ _).mono ?_; rintro e w2 ⟨rfl, hb⟩; rw [← HQ.out]; have HB2 := Aside0.mk (HBr.out.trans (hb.mono HBr.out.size)); clear hb))
    go_ret2
    exact ⟨by rw [HA.out]; rfl, HB2.out⟩
  ·have hltI : ¬ (i : Int) < (s.size : Int) := by omega
   have HA : Aside0 (set1 n s.data.toList 0 (-1) = ((o : Int), decide (0 < o))) := ⟨by rw [← HS.out, List.drop_of_length_le (by simp; omega)]; rfl⟩
   go_wp2
   go_ret2
   exact ⟨by rw [HA.out]; rfl, HBr.out⟩
end Go.Proofs.YtomofijniefelaaDoor.H
