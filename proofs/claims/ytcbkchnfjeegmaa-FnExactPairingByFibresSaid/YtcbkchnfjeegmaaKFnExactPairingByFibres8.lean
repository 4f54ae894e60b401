/- What is known of a world is carried to the next one: the words of the printed laws. The laws' eqPairS, markPairS, heldPairS. Marks over complexes. What the arguments of the laws read as. -/
import Derived.WalkKit
import Derived.ProofKit
import Derived.OpenShut
import Derived.ShutString
import Derived.ChangeOld
import Derived.Lib.SmallJoins
import Derived.Test.YtcbkchnfjeegmaaKFnExactPairingByFibres1
import Derived.Test.YtcbkchnfjeegmaaKFnExactPairingByFibres2
import Derived.Test.YtcbkchnfjeegmaaKFnExactPairingByFibres3
import Derived.Test.YtcbkchnfjeegmaaKFnExactPairingByFibres4
import Derived.Test.YtcbkchnfjeegmaaKFnExactPairingByFibres5
import Derived.Test.YtcbkchnfjeegmaaKFnExactPairingByFibres6
import Derived.Test.YtcbkchnfjeegmaaKFnExactPairingByFibres7

namespace Go.Proofs.Ytcbkchnfjeegmaa.H
open Go.RowKit Go.Proofs.YtcbkchnfjeegmaaW.PrintWords Go.Proofs.YtcbkchnfjeegmaaW.PrintLast Go.Proofs.YtcbkchnfjeegmaaW.PrintMore
set_option linter.unusedVariables false
set_option linter.unusedSimpArgs false

/-- where a walk stands -/
structure Stg (n : Nat) : Prop where
theorem stg_next (k k' : Nat) (h : Stg k) : Stg k' := ⟨⟩
theorem new_cell (W : World) (cs : Array Value) (t : TypeId) (i : Nat) (v : Value) (h : cs[i]? = some v) : (W.alloc (.cells cs t)).cell? ⟨W.heap.size, i, none⟩ = some v := by
  rw [blk_cell (blk_new W _) i, h]
theorem below_unalloc {W W' : World} {o : Obj} (h : Below (W.alloc o).heap.size (W.alloc o) W') : Below W.heap.size W W' :=
  (Below.alloc (Below.refl _ _) (Nat.le_refl _) o).trans (h.mono (by simp))
theorem alloc_size {W W' : World} {o : Obj} (h : Below (W.alloc o).heap.size (W.alloc o) W') : W.heap.size + 1 ≤ W'.heap.size := by
  have := h.size
  rwa [World.size_alloc] at this
theorem Aside0.own {b : Nat} {w w' : World} {v : Value} {xs : List Int} (h : Aside0 (OwnI b w v xs)) (hb : Below w.heap.size w w') : Aside0 (OwnI b w' v xs) := ⟨OwnI.below h.out hb⟩
theorem Aside0.belowC {w w1 w' : World} (h : Aside0 (Below w.heap.size w w1)) (hb : Below w1.heap.size w1 w') : Aside0 (Below w.heap.size w w') := ⟨h.out.trans (hb.mono h.out.size)⟩
theorem cell_ahead {W : World} {a : Addr} {v : Value} (h : W.cell? a = some v) (o : Obj) : (W.alloc o).cell? a = some v := pw_cell_below (Below.alloc (Below.refl _ _) (Nat.le_refl _) o) h
theorem cell_grown {W W' : World} {v u : Value} {a : Addr} {lo hi : Nat} (hg : W.grownBy W' v.ownBlock) (hr : ∀ k, v.ownBlock = some k → lo ≤ k ∧ k < hi) (hn : a.block < lo ∨ hi ≤ a.block) (hc : W.cell? a = some u) : W'.cell? a = some u := by
  rw [World.cell?_of_block (hg.block a.block (World.block_lt_of_cell? _ _ hc) (fun e => by have := hr _ e.symm; omega))]
  exact hc
theorem own_grown {W W' : World} {v u : Value} {b lo hi lo' hi' : Nat} {xs : List Int} (hg : W.grownBy W' v.ownBlock) (hr : ∀ k, v.ownBlock = some k → lo ≤ k ∧ k < hi) (hr' : ∀ k, u.ownBlock = some k → lo' ≤ k ∧ k < hi') (hn : hi' ≤ lo ∨ hi ≤ lo') (ho : OwnI b W u xs) : OwnI b W' u xs :=
  ho.grown hg (fun k hk e => by have h1 := hr _ e.symm; have h2 := hr' _ hk; omega)
end Go.Proofs.Ytcbkchnfjeegmaa.H

namespace Go.Proofs.Ytcbkchnfjeegmaa.H
open Go.RowKit Go.Proofs.YtcbkchnfjeegmaaW.PrintWords Go.Proofs.YtcbkchnfjeegmaaW.PrintLast Go.Proofs.YtcbkchnfjeegmaaW.PrintMore
set_option linter.unusedVariables false
set_option linter.unusedSimpArgs false

set_option maxRecDepth 100000 in
set_option maxHeartbeats 1000000 in
theorem eqPairS (u v : Value) (ps : List (Int × Int)) (w : World) (hu : ReadP w u ps) (hv : ReadP w v ps) :
    Calls Try.prog 34 #[u, v] w fun e w' => e = .returned (.bool true) ∧ Below w.heap.size w w' := by
  have HU := Aside0.mk hu
  have HV := Aside0.mk hv
  obtain ⟨A, c, rfl, hl, -⟩ := id hu
  obtain ⟨A', c', rfl, -⟩ := id hv
  clear hu hv
  go_enter Try.func34, Try.ntmps34
  go_wp2
  go_loopw [5] (fun s wr => ∃ i : Nat, s = .int .i64 i ∧ i ≤ ps.length ∧ Aside0 (Below w.heap.size w wr)) (fun s _ => ps.length - (intOf s).toNat)
  case atStart => exact ⟨0, rfl, Nat.zero_le _, ⟨Below.refl _ _⟩⟩
  case round =>
    obtain ⟨i, rfl, hi, HB⟩ := hrel
    by_cases hlt : i < ps.length
    · obtain ⟨g, x, y, e1, hxy, hc0, hc1⟩ := ReadP.get (HU.out.below HB.out) hlt
      cases e1
      obtain ⟨g', x', y', e1, hxy', hc0', hc1'⟩ := ReadP.get (HV.out.below HB.out) hlt
      cases e1
      rw [hxy] at hxy'
      cases hxy'
      have hiI : (i : Int) < (ps.length : Int) := by omega
      have x0 : ∀ z : Ext wr, z.1.cell? ⟨g, i * 2, none⟩ = some (.int .i64 x) := fun z => Ext.cell hc0 z
      have x1 : ∀ z : Ext wr, z.1.cell? ⟨g, i * 2 + 1, none⟩ = some (.int .i64 y) := fun z => Ext.cell hc1 z
      have x2 : ∀ z : Ext wr, z.1.cell? ⟨g', i * 2, none⟩ = some (.int .i64 x) := fun z => Ext.cell hc0' z
      have x3 : ∀ z : Ext wr, z.1.cell? ⟨g', i * 2 + 1, none⟩ = some (.int .i64 y) := fun z => Ext.cell hc1' z
      have HI : Aside0 (∀ z : Ext wr, Calls Try.prog 72 #[.agg #[.int .i64 x, .int .i64 y], .agg #[.int .i64 x, .int .i64 y]] z.1 fun e w' => e = .returned (.bool true) ∧ Below z.1.heap.size z.1 w') := ⟨fun z => by have := eqPair x y x y z.1; simpa using this⟩
      clear hc0 hc1 hc0' hc1' hxy
      go_wp2
      refine wp_region_ext (by kernel_rfl) (by kernel_rfl) ?_
      repeat (go_big_quiet_step ((first | (go_at_call 72; exact Calls.ext_of (HI.out _)))))
      refine wpQuiet_nil ?_
      rintro _ ⟨z, rfl⟩
      have hbz := z.2
      go_wp2
      go_roundw
      case rel => exact ⟨i + 1, by go_num, by omega, ⟨HB.out.trans (hbz.mono HB.out.size)⟩⟩
      case measure => simp [intOf]; omega
    · go_wp2
      go_ret
      exact ⟨rfl, HB.out⟩

/-- a row of pairs by its cells -/
def RowP (b : Nat) (w : World) (v : Value) (n : Nat) (xs : List Int) : Prop := w.ownsRow b 83 2 v n (xs.map (Value.int .i64))
section
variable {P : Program} {ops : Array Oper} {rest : List Oper} {o : Oper} {a : Act} {Q : Exit → Act → World → Prop}
theorem store_row {W : World} {b g n cap : Nat} {xs : List Int} (hgd : o.guard = none) {p : Tmp} {v : Operand} (ho : o.op = .store 2 (.tmp p) v) (hN : o.dst = none)
    (i : Nat) (x : Int) (HO : RowP b W (.slice (some ⟨g, 0, none⟩) n cap) n xs) (hi : i < xs.length) (hp : a.eval (.tmp p) = .pointer (some ⟨g, i, none⟩)) (hv : a.eval v = .int .i64 x)
    (h : ∀ w', RowP b w' (.slice (some ⟨g, 0, none⟩) n cap) n (xs.set i x) → W.grownBy w' (some g) → Below b W w' → wpList Try.prog ops Q rest a w') : wpList Try.prog ops Q (o :: rest) a W := by
  have hc : W.cell? ⟨g, i, none⟩ = some (.int .i64 xs[i]) ∧ W.frozen? ⟨g, i, none⟩ = false := by
    constructor
    · have hc := World.ownsRow.cells HO (g := g) rfl i (.int .i64 xs[i]) (by rw [List.getElem?_map, List.getElem?_eq_getElem hi]; rfl)
      rwa [add_plain] at hc
    · rcases HO.2 with ⟨h', _⟩ | ⟨g', cap', cur, h', _, hh, _⟩
      · cases h'
      · have : g = g' := by injection h' with h'; injection h' with h'; injection h' with h'
        subst this
        simp [World.frozen?, hh]
  have hs := World.ownsRow.stored HO i (.int .i64 x)
  have he : (xs.map (Value.int .i64)).set i (.int .i64 x) = (xs.set i x).map (Value.int .i64) := by simp [List.map_set]
  rw [he] at hs
  refine store_event (w1 := W.setCell ⟨g, i, none⟩ (.int .i64 x)) hgd ho hN ?_ (fun w' e => h w' ?_ ?_ ?_)
  · obtain ⟨h1, h2⟩ := hc
    generalize a.eval = ρ at hp hv ⊢
    simp [execOp, ho, hp, hv, go_sem, h1, h2]
  · rw [e]; exact hs.1
  · rw [e]; exact hs.2
  · rw [e]; exact Below.setCell (Below.refl _ _) (own_base HO g (by simp [Value.ownBlock])) _
end

set_option maxRecDepth 100000 in
set_option maxHeartbeats 2000000 in
theorem markPairS (b : Nat) (v : Value) (ps : List (Int × Int)) (k : Nat) (w : World) (ho : OwnP b w v ps) (hk : k ≤ 1073741824) (hl : ps.length ≤ 1073741824) :
    Calls Try.prog 35 #[v, .int .i64 k] w fun e w' => e = .returned (.int .i64 ((k : Int) + (ps.length * 2 : Nat))) ∧ RowP b w' v ps.length (marks k (ps.length * 2)) ∧ w.grownBy w' v.ownBlock ∧ Below b w w' := by
  have HO : Aside0 (RowP b w v ps.length (flat ps)) := ⟨ho⟩
  have hfl := flat_len ps
  obtain ⟨xs, hxs⟩ : ∃ xs, xs = flat ps := ⟨_, rfl⟩
  rw [← hxs] at HO hfl
  obtain ⟨A, c, rfl, -⟩ := ho.read
  clear ho hxs
  obtain ⟨n, hn⟩ : ∃ n, n = ps.length := ⟨_, rfl⟩
  rw [← hn] at HO hfl hl ⊢
  clear hn
  go_enter Try.func35, Try.ntmps35
  go_wp2
  go_loopw [1, 5] (fun vk vi wr => ∃ i : Nat, vi = .int .i64 i ∧ vk = .int .i64 ((k : Int) + (i * 2 : Nat)) ∧ i ≤ n ∧ Aside0 (RowP b wr (.slice A n c) n (marks k (i * 2) ++ xs.drop (i * 2))) ∧ Aside0 (w.grownBy wr (Value.slice A n c).ownBlock) ∧ Aside0 (Below b w wr)) (fun _ vi _ => n - (intOf vi).toNat)
  case atStart => exact ⟨0, rfl, by simp, Nat.zero_le _, by simpa [marks] using HO, ⟨⟨rfl, rfl, rfl, Nat.le_refl _, fun _ _ _ => rfl⟩⟩, ⟨Below.refl _ _⟩⟩
  case round =>
    obtain ⟨i, rfl, rfl, hi, HI, HG, HB⟩ := hrel
    by_cases hlt : i < n
    · obtain ⟨g, cap, e2⟩ : ∃ g cap, Value.slice A n c = .slice (some ⟨g, 0, none⟩) n cap := by
        rcases HI.out.2 with ⟨_, h0⟩ | ⟨g, cap, cur, e, _⟩
        · omega
        · exact ⟨g, cap, e⟩
      cases e2
      obtain ⟨wo, rfl⟩ : ∃ wo, wo = wr := ⟨_, rfl⟩
      go_wp2
      go_loopw [1, 6] (fun vk vj wr => ∃ j : Nat, vj = .int .i64 j ∧ vk = .int .i64 ((k : Int) + (i * 2 + j : Nat)) ∧ j ≤ 2 ∧ Aside0 (RowP b wr (.slice (some ⟨g, 0, none⟩) n c) n (marks k (i * 2 + j) ++ xs.drop (i * 2 + j))) ∧ Aside0 (w.grownBy wr (Value.slice (some ⟨g, 0, none⟩) n c).ownBlock) ∧ Aside0 (Below b w wr)) (fun _ vj _ => 2 - (intOf vj).toNat)
      case atStart => exact ⟨0, rfl, by simp, by decide, HI, HG, HB⟩
      case round =>
        obtain ⟨j, rfl, rfl, hj, HJ, HG2, HB2⟩ := hrel
        by_cases hlt2 : j < 2
        · have el : (marks (k : Int) (i * 2 + j) ++ xs.drop (i * 2 + j)).length = n * 2 := by rw [List.length_append, marks_len, List.length_drop]; omega
          have HM := Aside0.mk (marks_set (k := (k : Int)) (xs := xs) (i := i * 2 + j) (by omega))
          have hjI : (j : Int) < 2 := by omega
          have hiI : (i : Int) < (n : Int) := by omega
          go_wp2_with (first | ((with_reducible refine gate_store (t := 2) (p := 22) rfl ?_); refine store_row (W := wr) rfl (p := 22) rfl rfl (i * 2 + j) ((k : Int) + (i * 2 + j : Nat)) HJ.out ?ha ?hb ?hc ?_; (case ha => omega); (case hb => rfl); (case hc => rfl); intro w' ho hg hb; have HO2 := Aside0.mk ho; have HB3 := Aside0.mk (HB2.out.trans hb); have HG3 := Aside0.mk (grown_trans HG2.out hg); clear ho hg hb))
          go_roundw
          case rel => exact ⟨j + 1, by go_num, by rw [show i * 2 + (j + 1) = i * 2 + j + 1 by omega]; go_num, by omega, ⟨by rw [show i * 2 + (j + 1) = i * 2 + j + 1 by omega, ← HM.out]; exact HO2.out⟩, HG3, HB3⟩
          case measure => simp [intOf]; omega
        · have e : j = 2 := by omega
          subst e
          go_wp2
          go_roundw
          case rel => exact ⟨i + 1, by go_num, by rw [show (i + 1) * 2 = i * 2 + 2 by omega], by omega, by rw [show (i + 1) * 2 = i * 2 + 2 by omega]; exact HJ, HG2, HB2⟩
          case measure => simp [intOf]; omega
    · have e : i = n := by omega
      have HE := Aside0.mk e
      clear e
      go_wp2
      go_ret
      exact ⟨by rw [HE.out]; rfl, by have := HI.out; rw [HE.out, List.drop_eq_nil_of_le (by omega), List.append_nil] at this; exact this, HG.out, HB.out⟩

set_option maxRecDepth 100000 in
set_option maxHeartbeats 2000000 in
theorem heldPairS (b : Nat) (v : Value) (k n : Nat) (w : World) (ho : RowP b w v n (marks k (n * 2))) (hk : k ≤ 1073741824) (hl : n ≤ 1073741824) :
    Calls Try.prog 46 #[v, .int .i64 k] w fun e w' => e = .returned (.int .i64 ((k : Int) + (n * 2 : Nat))) ∧ Below w.heap.size w w' := by
  have hrd : ∃ A c, v = .slice A n c ∧ (0 < n → ∃ g, A = some ⟨g, 0, none⟩ ∧ ∀ m, m < n * 2 → w.cell? ⟨g, m, none⟩ = some (.int .i64 ((k : Int) + m))) := by
    rcases ho.2 with ⟨rfl, rfl⟩ | ⟨g, cap, cur, rfl, hb, hg, hnc, hcm, hcs, ht⟩
    · exact ⟨_, _, rfl, fun h => absurd h (by decide)⟩
    · refine ⟨_, _, rfl, fun _ => ⟨g, rfl, fun m hm => ?_⟩⟩
      have hc := World.ownsRow.cells ho (g := g) rfl m (.int .i64 ((k : Int) + m)) (by
        have h1 := marks_at (k : Int) hm
        rw [List.getD_eq_getElem?_getD] at h1
        rw [List.getElem?_map]
        have h2 : m < (marks (k : Int) (n * 2)).length := by rw [marks_len]; exact hm
        rw [List.getElem?_eq_getElem h2] at h1 ⊢
        rw [Option.getD_some] at h1
        rw [h1]; rfl)
      rwa [add_plain] at hc
  obtain ⟨A, c, rfl, hr⟩ := hrd
  have HR := Aside0.mk hr
  clear ho hr
  go_enter Try.func46, Try.ntmps46
  go_wp2
  go_loopw [1, 5] (fun vk vi wr => ∃ i : Nat, vi = .int .i64 i ∧ vk = .int .i64 ((k : Int) + (i * 2 : Nat)) ∧ i ≤ n ∧ wr = w) (fun _ vi _ => n - (intOf vi).toNat)
  case atStart => exact ⟨0, rfl, by simp, Nat.zero_le _, rfl⟩
  case round =>
    obtain ⟨i, rfl, rfl, hi, rfl⟩ := hrel
    by_cases hlt : i < n
    · obtain ⟨g, rfl, hcell⟩ := HR.out (by omega)
      have HC := Aside0.mk hcell
      clear hcell
      obtain ⟨wo, hwo⟩ : ∃ wo, wo = wr := ⟨_, rfl⟩
      subst hwo
      go_wp2
      go_loopw [1, 6] (fun vk vj wr => ∃ j : Nat, vj = .int .i64 j ∧ vk = .int .i64 ((k : Int) + (i * 2 + j : Nat)) ∧ j ≤ 2 ∧ wr = wo) (fun _ vj _ => 2 - (intOf vj).toNat)
      case atStart => exact ⟨0, rfl, by simp, by decide, rfl⟩
      case round =>
        obtain ⟨j, rfl, rfl, hj, rfl⟩ := hrel
        by_cases hlt2 : j < 2
        · have hcell := HC.out (i * 2 + j) (by omega)
          have hjI : (j : Int) < 2 := by omega
          have hiI : (i : Int) < (n : Int) := by omega
          go_wp2
          go_roundw
          case rel => exact ⟨j + 1, by go_num, by rw [show i * 2 + (j + 1) = i * 2 + j + 1 by omega]; go_num, by omega, trivial⟩
          case measure => simp [intOf]; omega
        · have e : j = 2 := by omega
          subst e
          go_wp2
          go_roundw
          case rel => exact ⟨i + 1, by go_num, by rw [show (i + 1) * 2 = i * 2 + 2 by omega], by omega, trivial⟩
          case measure => simp [intOf]; omega
    · have e : i = n := by omega
      have HE := Aside0.mk e
      clear e
      go_wp2
      go_ret
      exact ⟨by rw [HE.out]; rfl, Below.refl _ _⟩

theorem Aside0.ownP {b : Nat} {w w' : World} {v : Value} {ps : List (Int × Int)} (h : Aside0 (OwnP b w v ps)) (hb : Below w.heap.size w w') : Aside0 (OwnP b w' v ps) := ⟨OwnP.below h.out hb⟩
theorem Aside0.rowP {b n : Nat} {w w' : World} {v : Value} {xs : List Int} (h : Aside0 (RowP b w v n xs)) (hb : Below w.heap.size w w') : Aside0 (RowP b w' v n xs) := ⟨own_move h.out (fun k hk => hb.block k (own_lt h.out k hk))⟩
theorem own_grownP {W W' : World} {v u : Value} {b lo hi lo' hi' : Nat} {ps : List (Int × Int)} (hg : W.grownBy W' v.ownBlock) (hr : ∀ k, v.ownBlock = some k → lo ≤ k ∧ k < hi) (hr' : ∀ k, u.ownBlock = some k → lo' ≤ k ∧ k < hi') (hn : hi' ≤ lo ∨ hi ≤ lo') (ho : OwnP b W u ps) : OwnP b W' u ps :=
  ho.grown hg (fun k hk e => by have h1 := hr _ e.symm; have h2 := hr' _ hk; omega)
end Go.Proofs.Ytcbkchnfjeegmaa.H

namespace Go.Proofs.Ytcbkchnfjeegmaa.H
open Go.RowKit Go.Proofs.YtcbkchnfjeegmaaW.PrintWords Go.Proofs.YtcbkchnfjeegmaaW.PrintLast Go.Proofs.YtcbkchnfjeegmaaW.PrintMore
set_option linter.unusedVariables false
set_option linter.unusedSimpArgs false

theorem grown_alloc {w w' : World} {o : Obj} {r : Option Nat} (h : (w.alloc o).grownBy w' r) : w.grownBy w' r :=
  ⟨h.os, h.tape, h.output, Nat.le_trans (by simp) h.size, fun k hk hne => (h.block k (by simp; omega) hne).trans ((World.grownBy_alloc w o none).block k hk (by simp))⟩

set_option maxRecDepth 100000 in
set_option maxHeartbeats 1000000 in
theorem markComplex (b : Nat) (a : Int) (v : Value) (xs : List Int) (k : Nat) (w : World) (ho : OwnI b w v xs) (hk : k ≤ 1073741824) (hl : xs.length ≤ 1073741824) (hbw : b ≤ w.heap.size) :
    Calls Try.prog 20 #[.agg #[.int .i64 a, v], .int .i64 k] w fun e w' => e = .returned (.int .i64 ((k : Int) + xs.length)) ∧ OwnI b w' v (marks k xs.length) ∧ w.grownBy w' v.ownBlock ∧ Below b w w' := by
  have hba : Below w.heap.size w (w.alloc (.cells #[.int .i64 a, v] 28)) := Below.alloc (Below.refl _ _) (Nat.le_refl _) _
  have HO := Aside0.mk (OwnI.below ho hba)
  have HB := Aside0.mk (hba.mono hbw)
  obtain ⟨A, c, rfl, -⟩ := ho.read
  clear ho hba
  go_enter Try.func20, Try.ntmps20
  go_wp2_with (first | (go_at_call 21; refine (markInt64S b _ xs k _ HO.out hk hl).mono ?_; rintro e w2 ⟨rfl, ho, hg, hb⟩; have HO2 := Aside0.mk ho; have HG2 := Aside0.mk hg; have HB2 := Aside0.mk hb; clear ho hg hb))
  go_ret
  exact ⟨rfl, HO2.out, grown_alloc HG2.out, HB.out.trans HB2.out⟩

end Go.Proofs.Ytcbkchnfjeegmaa.H

namespace Go.Proofs.Ytcbkchnfjeegmaa.H
open Go.ChangeShapes Go.WideShapes Go.ChangeAt
open Go.RowKit Go.Proofs.YtcbkchnfjeegmaaW.PrintWords Go.Proofs.YtcbkchnfjeegmaaW.PrintLast Go.Proofs.YtcbkchnfjeegmaaW.PrintMore
set_option linter.unusedVariables false
set_option linter.unusedSimpArgs false

/-- an int64 -/
def W64 (a : Int) : Prop := (Lit.int .i64 a).wf = true
theorem W64.bd {a : Int} (h : W64 a) : -9223372036854775808 ≤ a ∧ a ≤ 9223372036854775807 := by
  simpa [W64, Lit.wf, IntKind.min, IntKind.max, IntKind.signed, IntKind.bits] using h

set_option maxRecDepth 100000 in
theorem read_list {H : Type} {enc : TypeId × Value → H} {W : World} {fuel : Nat} {v : Value} {y : DataW H × List MemPlace}
    (hf : DataW.trod enc Try.prog W 0 (fun _ => true) true fuel 22 [v] = some y) : ∃ l : List Int, ReadI W v l ∧ ∀ x ∈ l, W64 x := by
  rcases open_ints Try.underlying22 Try.underlying2 (by kernel_rfl) hf with ⟨hcs, _⟩ | ⟨x, l, c, zs, hcs, _, hl, hm, hz, _, hcell, hwz⟩
  · simp at hcs
    subst hcs
    exact ⟨[], ReadI.nil _, fun x hx => by cases hx⟩
  · simp at hcs
    subst hcs
    obtain ⟨l, rfl, hr, hm, hw, hc⟩ := ReadsInt.ofRowC (k := .i64) (w := W) (.inr ⟨_, rfl, hl, hm, by simpa using hz, hcell, hwz⟩)
    exact ⟨l, ⟨_, _, rfl, hc, Kd.C_of_reads (d := (0 : Int)) (h1 := fun _ => rfl) hr⟩, hw⟩
set_option maxRecDepth 100000 in
theorem open_list {H : Type} {enc : TypeId × Value → H} {W : World} {base : Nat} {v : Value} {d : DataW H} {p : List MemPlace}
    (hv : Value.okWide Try.prog W .any base 22 v) (h : DataW.Trod enc Try.prog W 0 (fun _ => true) true 22 v d p) : ∃ l : List Int, ReadI W v l ∧ ∀ x ∈ l, W64 x := by
  obtain ⟨a1, len1, cap1, rfl⟩ := okWide_slice Try.underlying22 hv
  obtain ⟨fuel, hf⟩ := h
  exact read_list hf
set_option maxRecDepth 100000 in
theorem open_complex {H : Type} {enc : TypeId × Value → H} {W : World} {base : Nat} {v : Value} {d : DataW H} {p : List MemPlace}
    (hv : Value.okWide Try.prog W .any base 24 v) (h : DataW.Trod enc Try.prog W 0 (fun _ => true) true 24 v d p) : ∃ (a : Int) (u : Value) (l : List Int), v = .agg #[.int .i64 a, u] ∧ W64 a ∧ ReadI W u l ∧ ∀ x ∈ l, W64 x := by
  obtain ⟨c0, c1, y0, y1, m, rfl, rfl, rfl, hy0, hy1⟩ := Joins.open_agg2 Try.underlying24 (by kernel_rfl) (by kernel_rfl) hv h
  obtain ⟨a, e0, rfl, wa⟩ := DataW.trod_int Try.underlying2 hy0
  simp at e0
  subst e0
  obtain ⟨l, hr, hw⟩ := read_list hy1
  exact ⟨a, c1, l, rfl, wa, hr, hw⟩
end Go.Proofs.Ytcbkchnfjeegmaa.H
