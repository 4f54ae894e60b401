/- The laws' eqPairS, markPairS, heldPairS. What the arguments of the laws read as. Slices of arrays of two numbers, as a law's arguments have them; pairs out of them. The laws' toPair, toPairS. The laws' helpers over desks. Marks over complexes. Marks over desks without pairs. The law FnExactNewDesk: the walk (printed by gennl.py). -/
import Derived.WalkKit
import Derived.ProofKit
import Derived.OpenShut
import Derived.ShutString
import Derived.ChangeOld
import Derived.Lib.SmallJoins
import Derived.Deep.Slices
import Derived.Test.YtomofijniefelaaDoorKFnExactNewDeskCard1
import Derived.Test.YtomofijniefelaaDoorKFnExactNewDeskCard2
import Derived.Test.YtomofijniefelaaDoorKFnExactNewDeskCard3

namespace Go.Proofs.YtomofijniefelaaDoor.H
open Go.RowKit Go.Proofs.YtomofijniefelaaDoorW.PrintWords
set_option linter.unusedVariables false
set_option linter.unusedSimpArgs false
set_option maxRecDepth 100000 in
set_option maxHeartbeats 1000000 in
theorem eqPairS (u v : Value) (ps : List (Int × Int)) (w : World) (hu : ReadP w u ps) (hv : ReadP w v ps) :
  Calls Tryd.prog 12 #[u, v] w fun e w' => e = .returned (.bool true) ∧ Below w.heap.size w w' := by
 have HU := Aside0.mk hu
 have HV := Aside0.mk hv
 obtain ⟨A, c, rfl, hl, -⟩ := id hu
 obtain ⟨A', c', rfl, -⟩ := id hv
 clear hu hv
 go_enter Tryd.func12, Tryd.ntmps12
 go_wp2
 go_loopw [5] (fun s wr => ∃ i : Nat, s = .int .i64 i ∧ i ≤ ps.length ∧ Aside0 (Below w.heap.size w wr)) (fun s _ => ps.length - (intOf s).toNat)
 case atStart => exact ⟨0, rfl, Nat.zero_le _, ⟨Below.refl _ _⟩⟩
 case round =>
  obtain ⟨i, rfl, hi, HB⟩ := hrel
  by_cases hlt : i < ps.length
  ·obtain ⟨g, x, y, e1, hxy, hc0, hc1⟩ := ReadP.get (HU.out.below HB.out) hlt
   cases e1
   obtain ⟨g', x', y', e1, hxy', hc0', hc1'⟩ := ReadP.get (HV.out.below HB.out) hlt
   cases e1
   rw [hxy] at hxy'
   cases hxy'
   have hiI : (i : Int) < (ps.length : Int) := by omega
   have x0 : ∀ z : Ext wr, z.1.cell? ⟨g, i * 2, none⟩ = some (.int .i64 x) := fun z => Ext.cell hc0 z
   have x1 : ∀ z : Ext wr, z.1.cell? ⟨g, i * 2 + 1, none⟩ = some (.int .i64 y) := fun z => Ext.cell hc1 z
   have x2 : ∀ z : Ext wr, z.1.cell? ⟨g', i * 2, none⟩ = some (.int .i64 x) := fun z => Ext.cell hc0' z
   have x3 : ∀ z : Ext wr, z.1.cell? ⟨g', i * 2 + 1, none⟩ = some (.int .i64 y) := fun z => Ext.cell hc1' z
   have HI : Aside0 (∀ z : Ext wr, Calls Tryd.prog 23 #[.agg #[.int .i64 x, .int .i64 y], .agg #[.int .i64 x, .int .i64 y]] z.1 fun e w' => e = .returned (.bool true) ∧ Below z.1.heap.size z.1 w') := ⟨fun z => by have := eqPair x y x y z.1; simpa using this⟩
   clear hc0 hc1 hc0' hc1' hxy
   go_wp2
   refine wp_region_ext (by kernel_rfl) (by kernel_rfl) ?_
   repeat (go_big_quiet_step ((first | (go_at_call 23; exact Calls.ext_of (HI.out _)))))
   refine wpQuiet_nil ?_
   rintro _ ⟨z, rfl⟩
   have hbz := z.2
   go_wp2
   go_roundw
   case rel => exact ⟨i + 1, by go_num, by omega, ⟨HB.out.trans (hbz.mono HB.out.size)⟩⟩
   case measure => simp [intOf]; omega
  ·go_wp2
   go_ret
   exact ⟨rfl, HB.out⟩
/-- a row of pairs by its cells -/
def RowP (b : Nat) (w : World) (v : Value) (n : Nat) (xs : List Int) : Prop := w.ownsRow b 49 2 v n (xs.map (Value.int .i64))
section
variable {P : Program} {ops : Array Oper} {rest : List Oper} {o : Oper} {a : Act} {Q : Exit → Act → World → Prop}
theorem store_row {W : World} {b g n cap : Nat} {xs : List Int} (hgd : o.guard = none) {p : Tmp} {v : Operand} (ho : o.op = .store 2 (.tmp p) v) (hN : o.dst = none)
  (i : Nat) (x : Int) (HO : RowP b W (.slice (some ⟨g, 0, none⟩) n cap) n xs) (hi : i < xs.length) (hp : a.eval (.tmp p) = .pointer (some ⟨g, i, none⟩)) (hv : a.eval v = .int .i64 x)
  (h : ∀ w', RowP b w' (.slice (some ⟨g, 0, none⟩) n cap) n (xs.set i x) → W.grownBy w' (some g) → Below b W w' → wpList Tryd.prog ops Q rest a w') : wpList Tryd.prog ops Q (o :: rest) a W := by
 have hc : W.cell? ⟨g, i, none⟩ = some (.int .i64 xs[i]) ∧ W.frozen? ⟨g, i, none⟩ = false := by
  constructor
  ·have hc := World.ownsRow.cells HO (g := g) rfl i (.int .i64 xs[i]) (by rw [List.getElem?_map, List.getElem?_eq_getElem hi]; rfl)
   rwa [add_plain] at hc
  ·rcases HO.2 with ⟨h', _⟩ | ⟨g', cap', cur, h', _, hh, _⟩
   ·cases h'
   ·have : g = g' := by injection h' with h'; injection h' with h'; injection h' with h'
    subst this
    simp [World.frozen?, hh]
 have hs := World.ownsRow.stored HO i (.int .i64 x)
 have he : (xs.map (Value.int .i64)).set i (.int .i64 x) = (xs.set i x).map (Value.int .i64) := by simp [List.map_set]
 rw [he] at hs
 refine store_event (w1 := W.setCell ⟨g, i, none⟩ (.int .i64 x)) hgd ho hN ?_ (fun w' e => h w' ?_ ?_ ?_)
 ·obtain ⟨h1, h2⟩ := hc
  generalize a.eval = ρ at hp hv ⊢
  simp [execOp, ho, hp, hv, go_sem, h1, h2]
 ·rw [e]; exact hs.1
 ·rw [e]; exact hs.2
 ·rw [e]; exact Below.setCell (Below.refl _ _) (own_base HO g (by simp [Value.ownBlock])) _
end
set_option maxRecDepth 100000 in
set_option maxHeartbeats 2000000 in
theorem markPairS (b : Nat) (v : Value) (ps : List (Int × Int)) (k : Nat) (w : World) (ho : OwnP b w v ps) (hk : k ≤ 1073741824) (hl : ps.length ≤ 1073741824) :
  Calls Tryd.prog 14 #[v, .int .i64 k] w fun e w' => e = .returned (.int .i64 ((k : Int) + (ps.length * 2 : Nat))) ∧ RowP b w' v ps.length (marks k (ps.length * 2)) ∧ w.grownBy w' v.ownBlock ∧ Below b w w' := by
 have HO : Aside0 (RowP b w v ps.length (flat ps)) := ⟨ho⟩
 have hfl := flat_len ps
 obtain ⟨xs, hxs⟩ : ∃ xs, xs = flat ps := ⟨_, rfl⟩
 rw [← hxs] at HO hfl
 obtain ⟨A, c, rfl, -⟩ := ho.read
 clear ho hxs
 obtain ⟨n, hn⟩ : ∃ n, n = ps.length := ⟨_, rfl⟩
 rw [← hn] at HO hfl hl ⊢
 clear hn
 go_enter Tryd.func14, Tryd.ntmps14
 go_wp2
 go_loopw [1, 5] (fun vk vi wr => ∃ i : Nat, vi = .int .i64 i ∧ vk = .int .i64 ((k : Int) + (i * 2 : Nat)) ∧ i ≤ n ∧ Aside0 (RowP b wr (.slice A n c) n (marks k (i * 2) ++ xs.drop (i * 2))) ∧ Aside0 (w.grownBy wr (Value.slice A n c).ownBlock) ∧ Aside0 (Below b w wr)) (fun _ vi _ => n - (intOf vi).toNat)
 case atStart => exact ⟨0, rfl, by simp, Nat.zero_le _, by simpa [marks] using HO, ⟨⟨rfl, rfl, rfl, Nat.le_refl _, fun _ _ _ => rfl⟩⟩, ⟨Below.refl _ _⟩⟩
 case round =>
  obtain ⟨i, rfl, rfl, hi, HI, HG, HB⟩ := hrel
  by_cases hlt : i < n
  ·obtain ⟨g, cap, e2⟩ : ∃ g cap, Value.slice A n c = .slice (some ⟨g, 0, none⟩) n cap := by
    rcases HI.out.2 with ⟨_, h0⟩ | ⟨g, cap, cur, e, _⟩
    ·omega
    ·exact ⟨g, cap, e⟩
   cases e2
   obtain ⟨wo, rfl⟩ : ∃ wo, wo = wr := ⟨_, rfl⟩
   go_wp2
   go_loopw [1, 6] (fun vk vj wr => ∃ j : Nat, vj = .int .i64 j ∧ vk = .int .i64 ((k : Int) + (i * 2 + j : Nat)) ∧ j ≤ 2 ∧ Aside0 (RowP b wr (.slice (some ⟨g, 0, none⟩) n c) n (marks k (i * 2 + j) ++ xs.drop (i * 2 + j))) ∧ Aside0 (w.grownBy wr (Value.slice (some ⟨g, 0, none⟩) n c).ownBlock) ∧ Aside0 (Below b w wr)) (fun _ vj _ => 2 - (intOf vj).toNat)
   case atStart => exact ⟨0, rfl, by simp, by decide, HI, HG, HB⟩
   case round =>
    obtain ⟨j, rfl, rfl, hj, HJ, HG2, HB2⟩ := hrel
    by_cases hlt2 : j < 2
    ·have el : (marks (k : Int) (i * 2 + j) ++ xs.drop (i * 2 + j)).length = n * 2 := by rw [List.length_append, marks_len, List.length_drop]; omega
     have HM := Aside0.mk (marks_set (k := (k : Int)) (xs := xs) (i := i * 2 + j) (by omega))
     have hjI : (j : Int) < 2 := by omega
     have hiI : (i : Int) < (n : Int) := by omega
     go_wp2_with (first | ((with_reducible refine gate_store (t := 2) (p := 22) rfl ?_); refine store_row (W := wr) rfl (p := 22) rfl rfl (i * 2 + j) ((k : Int) + (i * 2 + j : Nat)) HJ.out ?ha ?hb ?hc ?_; (case ha => omega); (case hb => rfl); (case hc => rfl); intro w' ho hg hb; have HO2 := Aside0.mk ho; have HB3 := Aside0.mk (HB2.out.trans hb); have HG3 := Aside0.mk (grown_trans HG2.out hg); clear ho hg hb))
     go_roundw
     case rel => exact ⟨j + 1, by go_num, by rw [show i * 2 + (j + 1) = i * 2 + j + 1 by omega]; go_num, by omega, ⟨by rw [show i * 2 + (j + 1) = i * 2 + j + 1 by omega, ← HM.out]; exact HO2.out⟩, HG3, HB3⟩
     case measure => simp [intOf]; omega
    ·have e : j = 2 := by omega
     subst e
     go_wp2
     go_roundw
     case rel => exact ⟨i + 1, by go_num, by rw [show (i + 1) * 2 = i * 2 + 2 by omega], by omega, by rw [show (i + 1) * 2 = i * 2 + 2 by omega]; exact HJ, HG2, HB2⟩
     case measure => simp [intOf]; omega
  ·have e : i = n := by omega
   have HE := Aside0.mk e
   clear e
   go_wp2
   go_ret
   exact ⟨by rw [HE.out]; rfl, by have := HI.out; rw [HE.out, List.drop_eq_nil_of_le (by omega), List.append_nil] at this; exact this, HG.out, HB.out⟩
set_option maxRecDepth 100000 in
set_option maxHeartbeats 2000000 in
theorem heldPairS (b : Nat) (v : Value) (k n : Nat) (w : World) (ho : RowP b w v n (marks k (n * 2))) (hk : k ≤ 1073741824) (hl : n ≤ 1073741824) :
  Calls Tryd.prog 16 #[v, .int .i64 k] w fun e w' => e = .returned (.int .i64 ((k : Int) + (n * 2 : Nat))) ∧ Below w.heap.size w w' := by
 have hrd : ∃ A c, v = .slice A n c ∧ (0 < n → ∃ g, A = some ⟨g, 0, none⟩ ∧ ∀ m, m < n * 2 → w.cell? ⟨g, m, none⟩ = some (.int .i64 ((k : Int) + m))) := by
  rcases ho.2 with ⟨rfl, rfl⟩ | ⟨g, cap, cur, rfl, hb, hg, hnc, hcm, hcs, ht⟩
  ·exact ⟨_, _, rfl, fun h => absurd h (by decide)⟩
  ·refine ⟨_, _, rfl, fun _ => ⟨g, rfl, fun m hm => ?_⟩⟩
   have hc := World.ownsRow.cells ho (g := g) rfl m (.int .i64 ((k : Int) + m)) (by
    have h1 := marks_at (k : Int) hm
    rw [List.getD_eq_getElem?_getD] at h1
    rw [List.getElem?_map]
    have h2 : m < (marks (k : Int) (n * 2)).length := by rw [marks_len]; exact hm
    rw [List.getElem?_eq_getElem h2] at h1 ⊢
    rw [Option.getD_some] at h1
    rw [h1]; rfl)
   rwa [add_plain] at hc
 obtain ⟨A, c, rfl, hr⟩ := hrd
 have HR := Aside0.mk hr
 clear ho hr
 go_enter Tryd.func16, Tryd.ntmps16
 go_wp2
 go_loopw [1, 5] (fun vk vi wr => ∃ i : Nat, vi = .int .i64 i ∧ vk = .int .i64 ((k : Int) + (i * 2 : Nat)) ∧ i ≤ n ∧ wr = w) (fun _ vi _ => n - (intOf vi).toNat)
 case atStart => exact ⟨0, rfl, by simp, Nat.zero_le _, rfl⟩
 case round =>
  obtain ⟨i, rfl, rfl, hi, rfl⟩ := hrel
  by_cases hlt : i < n
  ·obtain ⟨g, rfl, hcell⟩ := HR.out (by omega)
   have HC := Aside0.mk hcell
   clear hcell
   obtain ⟨wo, hwo⟩ : ∃ wo, wo = wr := ⟨_, rfl⟩
   subst hwo
   go_wp2
   go_loopw [1, 6] (fun vk vj wr => ∃ j : Nat, vj = .int .i64 j ∧ vk = .int .i64 ((k : Int) + (i * 2 + j : Nat)) ∧ j ≤ 2 ∧ wr = wo) (fun _ vj _ => 2 - (intOf vj).toNat)
   case atStart => exact ⟨0, rfl, by simp, by decide, rfl⟩
   case round =>
    obtain ⟨j, rfl, rfl, hj, rfl⟩ := hrel
    by_cases hlt2 : j < 2
    ·have hcell := HC.out (i * 2 + j) (by omega)
     have hjI : (j : Int) < 2 := by omega
     have hiI : (i : Int) < (n : Int) := by omega
     go_wp2
     go_roundw
     case rel => exact ⟨j + 1, by go_num, by rw [show i * 2 + (j + 1) = i * 2 + j + 1 by omega]; go_num, by omega, trivial⟩
     case measure => simp [intOf]; omega
    ·have e : j = 2 := by omega
     subst e
     go_wp2
     go_roundw
     case rel => exact ⟨i + 1, by go_num, by rw [show (i + 1) * 2 = i * 2 + 2 by omega], by omega, trivial⟩
     case measure => simp [intOf]; omega
  ·have e : i = n := by omega
   have HE := Aside0.mk e
   clear e
   go_wp2
   go_ret
   exact ⟨by rw [HE.out]; rfl, Below.refl _ _⟩
end Go.Proofs.YtomofijniefelaaDoor.H

namespace Go.Proofs.YtomofijniefelaaDoor.H
open Go.ChangeShapes Go.WideShapes Go.ChangeAt
open Go.RowKit Go.Proofs.YtomofijniefelaaDoorW.PrintWords
set_option linter.unusedVariables false
set_option linter.unusedSimpArgs false
end Go.Proofs.YtomofijniefelaaDoor.H

namespace Go.Proofs.YtomofijniefelaaDoor.H
open Go.ChangeShapes Go.WideShapes Go.ChangeAt Go.Deep
open Go.RowKit Go.Proofs.YtomofijniefelaaDoorW.PrintWords
set_option linter.unusedVariables false
set_option linter.unusedSimpArgs false
end Go.Proofs.YtomofijniefelaaDoor.H

namespace Go.Proofs.YtomofijniefelaaDoor.H
open Go.RowKit Go.Proofs.YtomofijniefelaaDoorW.PrintWords
set_option linter.unusedVariables false
set_option linter.unusedSimpArgs false
section
variable {P : Program} {ops : Array Oper} {rest : List Oper} {o : Oper} {a : Act} {Q : Exit → Act → World → Prop}
end
set_option maxRecDepth 100000 in
set_option maxHeartbeats 1000000 in
theorem eqDesk (a : Int) (u u' : Value) (l : List Int) (x x' : Value) (ps : List (Int × Int)) (w : World) (hu : ReadI w u l) (hu' : ReadI w u' l) (hx : ReadP w x ps) (hx' : ReadP w x' ps) :
  Calls Tryd.prog 6 #[.agg #[.int .i64 a, u, x], .agg #[.int .i64 a, u', x']] w fun e w' => e = .returned (.bool true) ∧ Below w.heap.size w w' := by
 obtain ⟨wb, hwb⟩ : ∃ wb, wb = w.alloc (.cells #[.int .i64 a, u, x] 27) := ⟨_, rfl⟩
 obtain ⟨w1, hw1⟩ : ∃ w1, w1 = wb.alloc (.cells #[.int .i64 a, u', x'] 27) := ⟨_, rfl⟩
 have hsb : wb.heap.size = w.heap.size + 1 := by rw [hwb]; simp
 have hBb : Below w.heap.size w wb := by rw [hwb]; exact Below.alloc (Below.refl _ _) (Nat.le_refl _) _
 have hB1 : Below wb.heap.size wb w1 := by rw [hw1]; exact Below.alloc (Below.refl _ _) (Nat.le_refl _) _
 have hB : Below w.heap.size w w1 := hBb.trans (hB1.mono hBb.size)
 have c2 : w1.cell? ⟨w.heap.size, 2, none⟩ = some x := pw_cell_below hB1 (by rw [hwb]; simp)
 have d2 : w1.cell? ⟨w.heap.size + 1, 2, none⟩ = some x' := by rw [hw1, ← hsb]; exact new_cell _ _ _ 2 _ rfl
 have HB := Aside0.mk hB
 have HM := Aside0.mk (eqComplex a a u u' l l w1 (hu.below hB) (hu'.below hB))
 rw [decide_eq_true rfl, beq_self_eq_true, Bool.and_self] at HM
 have HP := Aside0.mk (fun W (h : Below w1.heap.size w1 W) => eqPairS x x' ps W ((hx.below hB).below h) ((hx'.below hB).below h))
 obtain ⟨A1, e1, rfl, -⟩ := id hu
 obtain ⟨A2, e2, rfl, -⟩ := id hu'
 obtain ⟨A3, e3, rfl, -⟩ := id hx
 obtain ⟨A4, e4, rfl, -⟩ := id hx'
 have y0 : wb.cell? ⟨w.heap.size, 0, none⟩ = some (.int .i64 a) := by rw [hwb]; simp
 have y1 : wb.cell? ⟨w.heap.size, 1, none⟩ = some (.slice A1 l.length e1) := by rw [hwb]; simp
 subst hwb
 clear hu hu' hx hx' hBb hB1 hB
 go_enter Tryd.func6, Tryd.ntmps6
 go_wp2_with (first | (go_at_call 11; rw [← hw1]; clear hw1; refine HM.out.mono ?_; rintro e w2 ⟨rfl, hb⟩; replace c2 := pw_cell_below hb c2; replace d2 := pw_cell_below hb d2; have HB2 := Aside0.mk hb; clear hb) | (go_at_call 12; refine (HP.out _ HB2.out).mono ?_; rintro e w3 ⟨rfl, hb⟩; have HB3 := Aside0.mk (HB2.out.trans (hb.mono HB2.out.size)); clear hb))
 go_ret
 exact ⟨rfl, HB.out.trans (HB3.out.mono HB.out.size)⟩
theorem grown_alloc {w w' : World} {o : Obj} {r : Option Nat} (h : (w.alloc o).grownBy w' r) : w.grownBy w' r :=
 ⟨h.os, h.tape, h.output, Nat.le_trans (by simp) h.size, fun k hk hne => (h.block k (by simp; omega) hne).trans ((World.grownBy_alloc w o none).block k hk (by simp))⟩
set_option maxRecDepth 100000 in
set_option maxHeartbeats 1000000 in
theorem markComplex (b : Nat) (a : Int) (v : Value) (xs : List Int) (k : Nat) (w : World) (ho : OwnI b w v xs) (hk : k ≤ 1073741824) (hl : xs.length ≤ 1073741824) (hbw : b ≤ w.heap.size) :
  Calls Tryd.prog 13 #[.agg #[.int .i64 a, v], .int .i64 k] w fun e w' => e = .returned (.int .i64 ((k : Int) + xs.length)) ∧ OwnI b w' v (marks k xs.length) ∧ w.grownBy w' v.ownBlock ∧ Below b w w' := by
 have hba : Below w.heap.size w (w.alloc (.cells #[.int .i64 a, v] 24)) := Below.alloc (Below.refl _ _) (Nat.le_refl _) _
 have HO := Aside0.mk (OwnI.below ho hba)
 have HB := Aside0.mk (hba.mono hbw)
 obtain ⟨A, c, rfl, -⟩ := ho.read
 clear ho hba
 go_enter Tryd.func13, Tryd.ntmps13
 go_wp2_with (first | (go_at_call 24; refine (markInt64S b _ xs k _ HO.out hk hl).mono ?_; rintro e w2 ⟨rfl, ho, hg, hb⟩; have HO2 := Aside0.mk ho; have HG2 := Aside0.mk hg; have HB2 := Aside0.mk hb; clear ho hg hb))
 go_ret
 exact ⟨rfl, HO2.out, grown_alloc HG2.out, HB.out.trans HB2.out⟩
set_option maxRecDepth 100000 in
set_option maxHeartbeats 1000000 in
theorem heldComplex (a : Int) (v : Value) (k n : Nat) (w : World) (hr : ReadI w v (marks k n)) (hk : k ≤ 1073741824) (hl : n ≤ 1073741824) :
  Calls Tryd.prog 15 #[.agg #[.int .i64 a, v], .int .i64 k] w fun e w' => e = .returned (.int .i64 ((k : Int) + n)) ∧ Below w.heap.size w w' := by
 have hba : Below w.heap.size w (w.alloc (.cells #[.int .i64 a, v] 24)) := Below.alloc (Below.refl _ _) (Nat.le_refl _) _
 have HR := Aside0.mk (hr.below hba)
 have HB := Aside0.mk hba
 obtain ⟨A, c, rfl, -⟩ := id hr
 clear hr hba
 rw [marks_len] at HR ⊢
 go_enter Tryd.func15, Tryd.ntmps15
 go_wp2_with (first | (go_at_call 25; refine (heldInt64S _ k n _ HR.out hk hl).mono ?_; rintro e w2 ⟨rfl, hb⟩))
 go_ret
 exact ⟨rfl, by have := HB.out; (repeat (first | (with_reducible exact Below.refl _ _) | (with_reducible assumption) | (with_reducible refine below_step ?_ (by assumption)) | (with_reducible apply below_alloc) | (with_reducible apply below_drewN)))⟩
theorem grown_then {a b c : World} {r : Option Nat} (h : a.grownBy b r) (h' : b.grownBy c none) : a.grownBy c r :=
 ⟨h'.os.trans h.os, h'.tape.trans h.tape, h'.output.trans h.output, Nat.le_trans h.size h'.size, fun k hk hne => (h'.block k (Nat.lt_of_lt_of_le hk h.size) (by simp)).trans (h.block k hk hne)⟩
set_option maxRecDepth 100000 in
set_option maxHeartbeats 1000000 in
theorem markDesk (b : Nat) (a : Int) (z : Value) (xs : List Int) (k : Nat) (w : World) (ho : OwnI b w z xs) (hk : k ≤ 1073740000) (hl : xs.length ≤ 1000) (hbw : b ≤ w.heap.size) :
  Calls Tryd.prog 7 #[.agg #[.int .i64 a, z, .slice none 0 0], .int .i64 k] w fun e w' => e = .returned (.int .i64 ((k : Int) + xs.length)) ∧ OwnI b w' z (marks k xs.length) ∧ w.grownBy w' z.ownBlock ∧ Below b w w' := by
 obtain ⟨w1, hw1⟩ : ∃ w1, w1 = w.alloc (.cells #[.int .i64 a, z, .slice none 0 0] 27) := ⟨_, rfl⟩
 have hb1 : Below w.heap.size w w1 := by rw [hw1]; exact Below.alloc (Below.refl _ _) (Nat.le_refl _) _
 have c2 : w1.cell? ⟨w.heap.size, 2, none⟩ = some (.slice none 0 0) := by rw [hw1]; simp
 have HG1 : Aside0 (∀ W, w1.grownBy W z.ownBlock → w.grownBy W z.ownBlock) := ⟨fun W h => by rw [hw1] at h; exact grown_alloc h⟩
 have hzo : ∀ j, z.ownBlock = some j → j < w.heap.size := ho.lt
 have HMC := Aside0.mk (markComplex b a z xs k w1 (ho.below hb1) (by omega) (by omega) (Nat.le_trans hbw hb1.size))
 have HB1 := Aside0.mk (hb1.mono hbw)
 have HNE : Aside0 (∀ j, z.ownBlock = some j → j ≠ w.heap.size) := ⟨fun j hj e => by have := hzo j hj; omega⟩
 have HSW : Aside0 (b ≤ w.heap.size) := ⟨hbw⟩
 obtain ⟨A, c, rfl, -⟩ := id ho.read
 obtain ⟨n, hn⟩ : ∃ n, n = xs.length := ⟨_, rfl⟩
 rw [← hn] at HMC HG1 hw1 HNE ⊢
 have HN := Aside0.mk hn
 clear hb1 hzo ho hn
 have HMP : Aside0 (∀ W : World, b ≤ W.heap.size → Calls Tryd.prog 14 #[.slice none 0 0, .int .i64 ((k : Int) + n)] W fun e w' => e = .returned (.int .i64 ((k : Int) + n)) ∧ W.grownBy w' none ∧ Below b W w') := ⟨fun W hW => by
  have h := markPairS W.heap.size (.slice none 0 0) [] (k + n) W (OwnP.nil _ _) (by have := HN.out; omega) (by decide)
  rw [Int.natCast_add] at h
  refine h.mono ?_
  rintro e w' ⟨rfl, -, hg, hb⟩
  exact ⟨by simp, hg, hb.mono hW⟩⟩
 have hkn : IntKind.i64.wrap ((k : Int) + n) = (k : Int) + n := IntWalk.i64_in _ (by have := HN.out; omega)
 go_enter Tryd.func7, Tryd.ntmps7
 go_wp2_with (first | (go_at_call 13; refine Aside0.out ?_))
 refine Aside0.mk ?_
 rw [← hw1]
 clear hw1
 refine HMC.out.mono ?_
 rintro e w2 ⟨rfl, ho, hg, hb⟩
 have HO2 := Aside0.mk ho
 have HG2 := Aside0.mk (HG1.out _ hg)
 have HB2 := Aside0.mk (HB1.out.trans hb)
 replace c2 : w2.cell? ⟨w.heap.size, 2, none⟩ = some (.slice none 0 0) := hg.cell c2 (fun e => HNE.out _ e.symm rfl)
 clear ho hg hb
 go_wp2_with (first | (go_at_call 14; refine Aside0.out ?_))
 refine Aside0.mk ?_
 refine (HMP.out _ (Nat.le_trans HSW.out HB2.out.size)).mono ?_
 rintro e w3 ⟨rfl, hg, hb⟩; have HG3 := Aside0.mk hg; have HB3 := Aside0.mk (HB2.out.trans hb); clear hg hb
 go_wp2
 go_ret
 exact ⟨rfl, HO2.out.grown HG3.out (fun k _ e => by cases e), grown_then HG2.out HG3.out, HB3.out⟩
set_option maxRecDepth 100000 in
set_option maxHeartbeats 1000000 in
theorem heldDesk (a : Int) (z : Value) (k n : Nat) (w : World) (hr : ReadI w z (marks k n)) (hk : k ≤ 1073740000) (hl : n ≤ 1000) :
  Calls Tryd.prog 8 #[.agg #[.int .i64 a, z, .slice none 0 0], .int .i64 k] w fun e w' => e = .returned (.int .i64 ((k : Int) + n)) ∧ Below w.heap.size w w' := by
 obtain ⟨w1, hw1⟩ : ∃ w1, w1 = w.alloc (.cells #[.int .i64 a, z, .slice none 0 0] 27) := ⟨_, rfl⟩
 have hb1 : Below w.heap.size w w1 := by rw [hw1]; exact Below.alloc (Below.refl _ _) (Nat.le_refl _) _
 have c2 : w1.cell? ⟨w.heap.size, 2, none⟩ = some (.slice none 0 0) := by rw [hw1]; simp
 have HHC := Aside0.mk (heldComplex a z k n w1 (hr.below hb1) (by omega) (by omega))
 have HB1 := Aside0.mk hb1
 obtain ⟨A, c, rfl, -⟩ := id hr
 obtain ⟨m, hm⟩ : ∃ m, m = (marks k n).length := ⟨_, rfl⟩
 rw [← hm] at HHC hw1 ⊢
 clear hb1 hr hm
 have HHP : Aside0 (∀ W : World, Calls Tryd.prog 16 #[.slice none 0 0, .int .i64 ((k : Int) + n)] W fun e w' => e = .returned (.int .i64 ((k : Int) + n)) ∧ Below W.heap.size W w') := ⟨fun W => by
  have h := heldPairS W.heap.size (.slice none 0 0) (k + n) 0 W (OwnP.nil _ _) (by omega) (by decide)
  rw [Int.natCast_add] at h
  refine h.mono ?_
  rintro e w' ⟨rfl, hb⟩
  exact ⟨by simp, hb⟩⟩
 have hk0 : ¬ ((k : Int) + n < 0) := by omega
 go_enter Tryd.func8, Tryd.ntmps8
 go_wp2_with (first | (go_at_call 15; refine Aside0.out ?_))
 refine Aside0.mk ?_
 rw [← hw1]
 clear hw1
 refine HHC.out.mono ?_
 rintro e w2 ⟨rfl, hb⟩
 replace c2 := pw_cell_below hb c2
 have HB2 := Aside0.mk (HB1.out.trans (hb.mono HB1.out.size))
 clear hb
 go_wp2_with (first | (go_at_call 16; refine Aside0.out ?_))
 refine Aside0.mk ?_
 refine (HHP.out _).mono ?_
 rintro e w3 ⟨rfl, hb⟩
 have HB3 := Aside0.mk (HB2.out.trans (hb.mono HB2.out.size))
 clear hb
 go_wp2
 go_ret
 exact ⟨rfl, HB3.out⟩
set_option maxRecDepth 100000 in
set_option maxHeartbeats 8000000 in
theorem lawFnExactNewDesk (w : World) (hm : MaxL w) :
  Calls Tryd.prog 3 #[] w fun e w' => e = .returned (.bool true) ∧ Below w.heap.size w w' := by
 have HM := Aside0.mk hm
 clear hm
 go_enter Tryd.func3, Tryd.ntmps3
 go_wp2_with (first | (go_at_call 4; refine Aside0.out ?_))
 refine Aside0.mk ?_
 refine (specNewDesk w).mono ?_
 rintro e w1 ⟨z1, p1, rfl, ho, hp, hb⟩
 obtain ⟨A1, d1, rfl, -⟩ := id ho.read
 obtain ⟨Ap, dp, ep, -⟩ := id hp.read
 replace ep : p1 = .slice Ap 0 dp := ep
 subst ep
 have HB := Aside0.mk hb
 have HO1 := Aside0.mk ho
 have HP1 := Aside0.mk hp
 clear ho hp hb
 go_wp2_with (first | (go_at_call 5; refine Aside0.out ?_))
 refine Aside0.mk ?_
 obtain ⟨w2, hw2⟩ : ∃ w2, w2 = w1.alloc (.cells #[.int .i64 3, .slice A1 circleX.length d1, .slice Ap 0 dp] 27) := ⟨_, rfl⟩
 rw [← hw2]
 have hb : Below w1.heap.size w1 w2 := by rw [hw2]; exact Below.alloc (Below.refl _ _) (Nat.le_refl _) _
 have hk : w2.heap[w1.heap.size]? = some (.cells #[.int .i64 3, .slice A1 circleX.length d1, .slice Ap 0 dp] 27) := by rw [hw2]; exact heap_alloc_new w1 _
 clear hw2
 have K1 := Aside0.mk hk
 have HS12 : Aside0 (w1.heap.size < w2.heap.size) := ⟨blk_lt hk⟩
 replace HB := Aside0.mk (HB.out.trans (hb.mono HB.out.size))
 have HS1w : Aside0 (w.heap.size ≤ w2.heap.size) := ⟨HB.out.size⟩
 have HLT1 : Aside0 (∀ k, (Value.slice A1 circleX.length d1).ownBlock = some k → k < w1.heap.size) := ⟨fun k hk => HO1.out.lt k hk⟩
 have HLP1 : Aside0 (∀ k, (Value.slice Ap 0 dp).ownBlock = some k → k < w1.heap.size) := ⟨fun k hk => HP1.out.lt k hk⟩
 replace HO1 := Aside0.mk (HO1.out.below hb)
 replace HP1 := Aside0.mk (HP1.out.below hb)
 clear hb hk
 refine (implNewDesk w2 (HM.out.below HB.out)).mono ?_
 rintro e w3 ⟨z2, rfl, ho, hb⟩
 obtain ⟨A2, d2, rfl, -⟩ := id ho.read
 have HO2 := Aside0.mk ho
 have HLT2 : Aside0 (∀ k, (Value.slice A2 circleX.length d2).ownBlock = some k → w2.heap.size ≤ k ∧ k < w3.heap.size) := ⟨fun k hk => ⟨ho.base k hk, ho.lt k hk⟩⟩
 have HS2 : Aside0 (w2.heap.size ≤ w3.heap.size) := ⟨hb.size⟩
 replace HB := Aside0.mk (HB.out.trans (hb.mono HB.out.size))
 replace HO1 := Aside0.mk (HO1.out.below hb)
 replace HP1 := Aside0.mk (HP1.out.below hb)
 replace K1 : Aside0 (w3.heap[w1.heap.size]? = some (.cells #[.int .i64 3, .slice A1 circleX.length d1, .slice Ap 0 dp] 27)) := ⟨by rw [hb.block _ (blk_lt K1.out)]; exact K1.out⟩
 clear hb ho
 have k10 : w3.cell? ⟨w1.heap.size, 0, none⟩ = some (.int .i64 3) := blk_cell K1.out 0
 have k11 : w3.cell? ⟨w1.heap.size, 1, none⟩ = some (.slice A1 circleX.length d1) := blk_cell K1.out 1
 have k12 : w3.cell? ⟨w1.heap.size, 2, none⟩ = some (.slice Ap 0 dp) := blk_cell K1.out 2
 have HX4 : Aside0 (Below w3.heap.size w3 (w3.alloc (.cells #[.int .i64 3, .slice A2 circleX.length d2, .slice none 0 0] 27))) := ⟨Below.alloc (Below.refl _ _) (Nat.le_refl _) _⟩
 have m10 := pw_cell_below HX4.out k10
 have m11 := pw_cell_below HX4.out k11
 have m12 := pw_cell_below HX4.out k12
 go_wp2_with (first | (go_at_call 6; refine Aside0.out ?_))
 refine Aside0.mk ?_
 obtain ⟨w4, hw4⟩ : ∃ w4, w4 = w3.alloc (.cells #[.int .i64 3, .slice A2 circleX.length d2, .slice none 0 0] 27) := ⟨_, rfl⟩
 rw [← hw4]
 have hb : Below w3.heap.size w3 w4 := by rw [hw4]; exact Below.alloc (Below.refl _ _) (Nat.le_refl _) _
 have hk : w4.heap[w3.heap.size]? = some (.cells #[.int .i64 3, .slice A2 circleX.length d2, .slice none 0 0] 27) := by rw [hw4]; exact heap_alloc_new w3 _
 clear hw4 m10 m11 m12 k10 k11 k12 HX4
 have K2 := Aside0.mk hk
 replace HB := Aside0.mk (HB.out.trans (hb.mono HB.out.size))
 replace HO1 := Aside0.mk (HO1.out.below hb)
 replace HP1 := Aside0.mk (HP1.out.below hb)
 replace HO2 := Aside0.mk (HO2.out.below hb)
 replace K1 : Aside0 (w4.heap[w1.heap.size]? = some (.cells #[.int .i64 3, .slice A1 circleX.length d1, .slice Ap 0 dp] 27)) := ⟨by rw [hb.block _ (blk_lt K1.out)]; exact K1.out⟩
 clear hb hk
 refine (eqDesk 3 _ _ circleX _ _ [] w4 HO2.out.read HO1.out.read (OwnP.nil 0 w4).read HP1.out.read).mono ?_
 rintro e w5 ⟨rfl, hb⟩
 replace HB := Aside0.mk (HB.out.trans (hb.mono HB.out.size))
 replace HO1 := Aside0.mk (HO1.out.below hb)
 replace HP1 := Aside0.mk (HP1.out.below hb)
 replace HO2 := Aside0.mk (HO2.out.below hb)
 have HS5 : Aside0 (w2.heap.size ≤ w5.heap.size) := ⟨by have := blk_lt K2.out; have := hb.size; have := HS2.out; omega⟩
 replace K1 : Aside0 (w5.heap[w1.heap.size]? = some (.cells #[.int .i64 3, .slice A1 circleX.length d1, .slice Ap 0 dp] 27)) := ⟨by rw [hb.block _ (blk_lt K1.out)]; exact K1.out⟩
 replace K2 : Aside0 (w5.heap[w3.heap.size]? = some (.cells #[.int .i64 3, .slice A2 circleX.length d2, .slice none 0 0] 27)) := ⟨by rw [hb.block _ (blk_lt K2.out)]; exact K2.out⟩
 clear hb
 have K20_5 : w5.cell? ⟨w3.heap.size, 0, none⟩ = some (.int .i64 3) := blk_cell K2.out 0
 have K21_5 : w5.cell? ⟨w3.heap.size, 1, none⟩ = some (.slice A2 circleX.length d2) := blk_cell K2.out 1
 have K22_5 : w5.cell? ⟨w3.heap.size, 2, none⟩ = some (.slice none 0 0) := blk_cell K2.out 2
 go_wp2_with (first | (go_at_call 7; refine Aside0.out ?_))
 refine Aside0.mk ?_
 refine (markDesk w2.heap.size 3 _ circleX 1 w5 HO2.out (by decide) (by decide) HS5.out).mono ?_
 rintro e w6 ⟨he, ho, hg, hb⟩
 obtain rfl : e = .returned (.int .i64 7) := he.trans rfl
 have HNE : (Value.slice A2 circleX.length d2).ownBlock ≠ some w3.heap.size := fun e => by have := (HLT2.out _ e).2; omega
 have hk2 := (hg.block _ (blk_lt K2.out) (fun e => HNE e.symm)).trans K2.out
 have hk1 := (hb.block w1.heap.size HS12.out).trans K1.out
 replace K1 := Aside0.mk hk1
 replace K2 := Aside0.mk hk2
 have HO2m := Aside0.mk ho
 replace HB := Aside0.mk (HB.out.trans (hb.mono HS1w.out))
 replace HO1 := Aside0.mk (HO1.out.grown hg (fun k hk e => by have h1 := HLT1.out k hk; have h2 := (HLT2.out k e.symm).1; have := HS12.out; omega))
 replace HP1 := Aside0.mk (HP1.out.grown hg (fun k hk e => by have h1 := HLP1.out k hk; have h2 := (HLT2.out k e.symm).1; have := HS12.out; omega))
 clear K20_5 K21_5 K22_5
 have K20_6 : w6.cell? ⟨w3.heap.size, 0, none⟩ = some (.int .i64 3) := blk_cell K2.out 0
 have K21_6 : w6.cell? ⟨w3.heap.size, 1, none⟩ = some (.slice A2 circleX.length d2) := blk_cell K2.out 1
 have K22_6 : w6.cell? ⟨w3.heap.size, 2, none⟩ = some (.slice none 0 0) := blk_cell K2.out 2
 clear ho hg hb hk1 hk2 HNE he HO2
 go_wp2_with (first | (go_at_call 8; refine Aside0.out ?_))
 refine Aside0.mk ?_
 refine (heldDesk 3 _ 1 circleX.length w6 HO2m.out.read (by decide) (by decide)).mono ?_
 rintro e w7 ⟨he, hb⟩
 obtain rfl : e = .returned (.int .i64 7) := he.trans rfl
 replace HB := Aside0.mk (HB.out.trans (hb.mono HB.out.size))
 replace HO1 := Aside0.mk (HO1.out.below hb)
 replace HP1 := Aside0.mk (HP1.out.below hb)
 replace HO2m := Aside0.mk (HO2m.out.below hb)
 replace K1 : Aside0 (w7.heap[w1.heap.size]? = some (.cells #[.int .i64 3, .slice A1 circleX.length d1, .slice Ap 0 dp] 27)) := ⟨by rw [hb.block _ (blk_lt K1.out)]; exact K1.out⟩
 replace K2 : Aside0 (w7.heap[w3.heap.size]? = some (.cells #[.int .i64 3, .slice A2 circleX.length d2, .slice none 0 0] 27)) := ⟨by rw [hb.block _ (blk_lt K2.out)]; exact K2.out⟩
 clear K20_6 K21_6 K22_6
 clear hb he
 go_wp2_with (first | (go_at_call 5; refine Aside0.out ?_))
 refine Aside0.mk ?_
 refine (implNewDesk w7 (HM.out.below HB.out)).mono ?_
 rintro e w8 ⟨z3, rfl, ho, hb⟩
 obtain ⟨A3, d3, rfl, -⟩ := id ho.read
 have HO3 := Aside0.mk ho
 replace HB := Aside0.mk (HB.out.trans (hb.mono HB.out.size))
 replace HO1 := Aside0.mk (HO1.out.below hb)
 replace HP1 := Aside0.mk (HP1.out.below hb)
 replace HO2m := Aside0.mk (HO2m.out.below hb)
 replace K1 : Aside0 (w8.heap[w1.heap.size]? = some (.cells #[.int .i64 3, .slice A1 circleX.length d1, .slice Ap 0 dp] 27)) := ⟨by rw [hb.block _ (blk_lt K1.out)]; exact K1.out⟩
 replace K2 : Aside0 (w8.heap[w3.heap.size]? = some (.cells #[.int .i64 3, .slice A2 circleX.length d2, .slice none 0 0] 27)) := ⟨by rw [hb.block _ (blk_lt K2.out)]; exact K2.out⟩
 clear hb ho
 have HX9 : Aside0 (Below w8.heap.size w8 (w8.alloc (.cells #[.int .i64 3, .slice A3 circleX.length d3, .slice none 0 0] 27))) := ⟨Below.alloc (Below.refl _ _) (Nat.le_refl _) _⟩
 have m10 := pw_cell_below HX9.out (blk_cell K1.out 0)
 have m11 := pw_cell_below HX9.out (blk_cell K1.out 1)
 have m12 := pw_cell_below HX9.out (blk_cell K1.out 2)
 have n10 : w8.cell? ⟨w1.heap.size, 0, none⟩ = some (.int .i64 3) := blk_cell K1.out 0
 have n11 : w8.cell? ⟨w1.heap.size, 1, none⟩ = some (.slice A1 circleX.length d1) := blk_cell K1.out 1
 have n12 : w8.cell? ⟨w1.heap.size, 2, none⟩ = some (.slice Ap 0 dp) := blk_cell K1.out 2
 go_wp2_with (first | (go_at_call 6; refine Aside0.out ?_))
 refine Aside0.mk ?_
 obtain ⟨w9, hw9⟩ : ∃ w9, w9 = w8.alloc (.cells #[.int .i64 3, .slice A3 circleX.length d3, .slice none 0 0] 27) := ⟨_, rfl⟩
 rw [← hw9]
 have hb : Below w8.heap.size w8 w9 := by rw [hw9]; exact Below.alloc (Below.refl _ _) (Nat.le_refl _) _
 have hk : w9.heap[w8.heap.size]? = some (.cells #[.int .i64 3, .slice A3 circleX.length d3, .slice none 0 0] 27) := by rw [hw9]; exact heap_alloc_new w8 _
 clear hw9 m10 m11 m12 n10 n11 n12 HX9
 replace HB := Aside0.mk (HB.out.trans (hb.mono HB.out.size))
 replace HO1 := Aside0.mk (HO1.out.below hb)
 replace HP1 := Aside0.mk (HP1.out.below hb)
 replace HO2m := Aside0.mk (HO2m.out.below hb)
 replace HO3 := Aside0.mk (HO3.out.below hb)
 replace K2 : Aside0 (w9.heap[w3.heap.size]? = some (.cells #[.int .i64 3, .slice A2 circleX.length d2, .slice none 0 0] 27)) := ⟨by rw [hb.block _ (blk_lt K2.out)]; exact K2.out⟩
 clear hb hk
 refine (eqDesk 3 _ _ circleX _ _ [] w9 HO3.out.read HO1.out.read (OwnP.nil 0 w9).read HP1.out.read).mono ?_
 rintro e w10 ⟨rfl, hb⟩
 replace HB := Aside0.mk (HB.out.trans (hb.mono HB.out.size))
 replace HO2m := Aside0.mk (HO2m.out.below hb)
 replace K2 : Aside0 (w10.heap[w3.heap.size]? = some (.cells #[.int .i64 3, .slice A2 circleX.length d2, .slice none 0 0] 27)) := ⟨by rw [hb.block _ (blk_lt K2.out)]; exact K2.out⟩
 clear hb HO1 HP1 HO3
 have K20_10 : w10.cell? ⟨w3.heap.size, 0, none⟩ = some (.int .i64 3) := blk_cell K2.out 0
 have K21_10 : w10.cell? ⟨w3.heap.size, 1, none⟩ = some (.slice A2 circleX.length d2) := blk_cell K2.out 1
 have K22_10 : w10.cell? ⟨w3.heap.size, 2, none⟩ = some (.slice none 0 0) := blk_cell K2.out 2
 go_wp2_with (first | (go_at_call 8; refine Aside0.out ?_))
 refine Aside0.mk ?_
 refine (heldDesk 3 _ 1 circleX.length w10 HO2m.out.read (by decide) (by decide)).mono ?_
 rintro e w11 ⟨he, hb⟩
 obtain rfl : e = .returned (.int .i64 7) := he.trans rfl
 replace HB := Aside0.mk (HB.out.trans (hb.mono HB.out.size))
 clear hb he
 go_wp2
 go_ret
 exact ⟨rfl, HB.out⟩
end Go.Proofs.YtomofijniefelaaDoor.H
