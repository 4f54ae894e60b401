/- The laws' eqPairS, markPairS, heldPairS. What the arguments of the laws read as. Slices of arrays of two numbers, as a law's arguments have them; pairs out of them. The laws' toPair, toPairS. -/
import Derived.WalkKit
import Derived.ProofKit
import Derived.OpenShut
import Derived.ShutString
import Derived.ChangeOld
import Derived.Lib.SmallJoins
import Derived.Deep.Slices
import Derived.Test.YtcbkchnfjeegmaaKFnExactCriticalChain1
import Derived.Test.YtcbkchnfjeegmaaKFnExactCriticalChain2
import Derived.Test.YtcbkchnfjeegmaaKFnExactCriticalChain3
import Derived.Test.YtcbkchnfjeegmaaKFnExactCriticalChain4
import Derived.Test.YtcbkchnfjeegmaaKFnExactCriticalChain5
import Derived.Test.YtcbkchnfjeegmaaKFnExactCriticalChain6
import Derived.Test.YtcbkchnfjeegmaaKFnExactCriticalChain7
import Derived.Test.YtcbkchnfjeegmaaKFnExactCriticalChain8
import Derived.Test.YtcbkchnfjeegmaaKFnExactCriticalChain9
import Derived.Test.YtcbkchnfjeegmaaKFnExactCriticalChain10
import Derived.Test.YtcbkchnfjeegmaaKFnExactCriticalChain11
import Derived.Test.YtcbkchnfjeegmaaKFnExactCriticalChain12
import Derived.Test.YtcbkchnfjeegmaaKFnExactCriticalChain13

namespace Go.Proofs.Ytcbkchnfjeegmaa.H
open Go.RowKit Go.Proofs.YtcbkchnfjeegmaaW.PrintWords Go.Proofs.YtcbkchnfjeegmaaW.PrintLast Go.Proofs.YtcbkchnfjeegmaaW.PrintMore
set_option linter.unusedVariables false
set_option linter.unusedSimpArgs false

set_option maxRecDepth 100000 in
set_option maxHeartbeats 1000000 in
theorem eqPairS (u v : Value) (ps : List (Int × Int)) (w : World) (hu : ReadP w u ps) (hv : ReadP w v ps) :
    Calls Try.prog 34 #[u, v] w fun e w' => e = .returned (.bool true) ∧ Below w.heap.size w w' := by
  have HU := Aside0.mk hu
  have HV := Aside0.mk hv
  obtain ⟨A, c, rfl, hl, -⟩ := id hu
  obtain ⟨A', c', rfl, -⟩ := id hv
  clear hu hv
  go_enter Try.func34, Try.ntmps34
  go_wp2
  go_loopw [5] (fun s wr => ∃ i : Nat, s = .int .i64 i ∧ i ≤ ps.length ∧ Aside0 (Below w.heap.size w wr)) (fun s _ => ps.length - (intOf s).toNat)
  case atStart => exact ⟨0, rfl, Nat.zero_le _, ⟨Below.refl _ _⟩⟩
  case round =>
    obtain ⟨i, rfl, hi, HB⟩ := hrel
    by_cases hlt : i < ps.length
    · obtain ⟨g, x, y, e1, hxy, hc0, hc1⟩ := ReadP.get (HU.out.below HB.out) hlt
      cases e1
      obtain ⟨g', x', y', e1, hxy', hc0', hc1'⟩ := ReadP.get (HV.out.below HB.out) hlt
      cases e1
      rw [hxy] at hxy'
      cases hxy'
      have hiI : (i : Int) < (ps.length : Int) := by omega
      have x0 : ∀ z : Ext wr, z.1.cell? ⟨g, i * 2, none⟩ = some (.int .i64 x) := fun z => Ext.cell hc0 z
      have x1 : ∀ z : Ext wr, z.1.cell? ⟨g, i * 2 + 1, none⟩ = some (.int .i64 y) := fun z => Ext.cell hc1 z
      have x2 : ∀ z : Ext wr, z.1.cell? ⟨g', i * 2, none⟩ = some (.int .i64 x) := fun z => Ext.cell hc0' z
      have x3 : ∀ z : Ext wr, z.1.cell? ⟨g', i * 2 + 1, none⟩ = some (.int .i64 y) := fun z => Ext.cell hc1' z
      have HI : Aside0 (∀ z : Ext wr, Calls Try.prog 72 #[.agg #[.int .i64 x, .int .i64 y], .agg #[.int .i64 x, .int .i64 y]] z.1 fun e w' => e = .returned (.bool true) ∧ Below z.1.heap.size z.1 w') := ⟨fun z => by have := eqPair x y x y z.1; simpa using this⟩
      clear hc0 hc1 hc0' hc1' hxy
      go_wp2
      refine wp_region_ext (by kernel_rfl) (by kernel_rfl) ?_
      repeat (go_big_quiet_step ((first | (go_at_call 72; exact Calls.ext_of (HI.out _)))))
      refine wpQuiet_nil ?_
      rintro _ ⟨z, rfl⟩
      have hbz := z.2
      go_wp2
      go_roundw
      case rel => exact ⟨i + 1, by go_num, by omega, ⟨HB.out.trans (hbz.mono HB.out.size)⟩⟩
      case measure => simp [intOf]; omega
    · go_wp2
      go_ret
      exact ⟨rfl, HB.out⟩

/-- a row of pairs by its cells -/
def RowP (b : Nat) (w : World) (v : Value) (n : Nat) (xs : List Int) : Prop := w.ownsRow b 83 2 v n (xs.map (Value.int .i64))
section
variable {P : Program} {ops : Array Oper} {rest : List Oper} {o : Oper} {a : Act} {Q : Exit → Act → World → Prop}
theorem store_row {W : World} {b g n cap : Nat} {xs : List Int} (hgd : o.guard = none) {p : Tmp} {v : Operand} (ho : o.op = .store 2 (.tmp p) v) (hN : o.dst = none)
    (i : Nat) (x : Int) (HO : RowP b W (.slice (some ⟨g, 0, none⟩) n cap) n xs) (hi : i < xs.length) (hp : a.eval (.tmp p) = .pointer (some ⟨g, i, none⟩)) (hv : a.eval v = .int .i64 x)
    (h : ∀ w', RowP b w' (.slice (some ⟨g, 0, none⟩) n cap) n (xs.set i x) → W.grownBy w' (some g) → Below b W w' → wpList Try.prog ops Q rest a w') : wpList Try.prog ops Q (o :: rest) a W := by
  have hc : W.cell? ⟨g, i, none⟩ = some (.int .i64 xs[i]) ∧ W.frozen? ⟨g, i, none⟩ = false := by
    constructor
    · have hc := World.ownsRow.cells HO (g := g) rfl i (.int .i64 xs[i]) (by rw [List.getElem?_map, List.getElem?_eq_getElem hi]; rfl)
      rwa [add_plain] at hc
    · rcases HO.2 with ⟨h', _⟩ | ⟨g', cap', cur, h', _, hh, _⟩
      · cases h'
      · have : g = g' := by injection h' with h'; injection h' with h'; injection h' with h'
        subst this
        simp [World.frozen?, hh]
  have hs := World.ownsRow.stored HO i (.int .i64 x)
  have he : (xs.map (Value.int .i64)).set i (.int .i64 x) = (xs.set i x).map (Value.int .i64) := by simp [List.map_set]
  rw [he] at hs
  refine store_event (w1 := W.setCell ⟨g, i, none⟩ (.int .i64 x)) hgd ho hN ?_ (fun w' e => h w' ?_ ?_ ?_)
  · obtain ⟨h1, h2⟩ := hc
    generalize a.eval = ρ at hp hv ⊢
    simp [execOp, ho, hp, hv, go_sem, h1, h2]
  · rw [e]; exact hs.1
  · rw [e]; exact hs.2
  · rw [e]; exact Below.setCell (Below.refl _ _) (own_base HO g (by simp [Value.ownBlock])) _
end

set_option maxRecDepth 100000 in
set_option maxHeartbeats 2000000 in
theorem markPairS (b : Nat) (v : Value) (ps : List (Int × Int)) (k : Nat) (w : World) (ho : OwnP b w v ps) (hk : k ≤ 1073741824) (hl : ps.length ≤ 1073741824) :
    Calls Try.prog 35 #[v, .int .i64 k] w fun e w' => e = .returned (.int .i64 ((k : Int) + (ps.length * 2 : Nat))) ∧ RowP b w' v ps.length (marks k (ps.length * 2)) ∧ w.grownBy w' v.ownBlock ∧ Below b w w' := by
  have HO : Aside0 (RowP b w v ps.length (flat ps)) := ⟨ho⟩
  have hfl := flat_len ps
  obtain ⟨xs, hxs⟩ : ∃ xs, xs = flat ps := ⟨_, rfl⟩
  rw [← hxs] at HO hfl
  obtain ⟨A, c, rfl, -⟩ := ho.read
  clear ho hxs
  obtain ⟨n, hn⟩ : ∃ n, n = ps.length := ⟨_, rfl⟩
  rw [← hn] at HO hfl hl ⊢
  clear hn
  go_enter Try.func35, Try.ntmps35
  go_wp2
  go_loopw [1, 5] (fun vk vi wr => ∃ i : Nat, vi = .int .i64 i ∧ vk = .int .i64 ((k : Int) + (i * 2 : Nat)) ∧ i ≤ n ∧ Aside0 (RowP b wr (.slice A n c) n (marks k (i * 2) ++ xs.drop (i * 2))) ∧ Aside0 (w.grownBy wr (Value.slice A n c).ownBlock) ∧ Aside0 (Below b w wr)) (fun _ vi _ => n - (intOf vi).toNat)
  case atStart => exact ⟨0, rfl, by simp, Nat.zero_le _, by simpa [marks] using HO, ⟨⟨rfl, rfl, rfl, Nat.le_refl _, fun _ _ _ => rfl⟩⟩, ⟨Below.refl _ _⟩⟩
  case round =>
    obtain ⟨i, rfl, rfl, hi, HI, HG, HB⟩ := hrel
    by_cases hlt : i < n
    · obtain ⟨g, cap, e2⟩ : ∃ g cap, Value.slice A n c = .slice (some ⟨g, 0, none⟩) n cap := by
        rcases HI.out.2 with ⟨_, h0⟩ | ⟨g, cap, cur, e, _⟩
        · omega
        · exact ⟨g, cap, e⟩
      cases e2
      obtain ⟨wo, rfl⟩ : ∃ wo, wo = wr := ⟨_, rfl⟩
      go_wp2
      go_loopw [1, 6] (fun vk vj wr => ∃ j : Nat, vj = .int .i64 j ∧ vk = .int .i64 ((k : Int) + (i * 2 + j : Nat)) ∧ j ≤ 2 ∧ Aside0 (RowP b wr (.slice (some ⟨g, 0, none⟩) n c) n (marks k (i * 2 + j) ++ xs.drop (i * 2 + j))) ∧ Aside0 (w.grownBy wr (Value.slice (some ⟨g, 0, none⟩) n c).ownBlock) ∧ Aside0 (Below b w wr)) (fun _ vj _ => 2 - (intOf vj).toNat)
      case atStart => exact ⟨0, rfl, by simp, by decide, HI, HG, HB⟩
      case round =>
        obtain ⟨j, rfl, rfl, hj, HJ, HG2, HB2⟩ := hrel
        by_cases hlt2 : j < 2
        · have el : (marks (k : Int) (i * 2 + j) ++ xs.drop (i * 2 + j)).length = n * 2 := by rw [List.length_append, marks_len, List.length_drop]; omega
          have HM := Aside0.mk (marks_set (k := (k : Int)) (xs := xs) (i := i * 2 + j) (by omega))
          have hjI : (j : Int) < 2 := by omega
          have hiI : (i : Int) < (n : Int) := by omega
          go_wp2_with (first | ((with_reducible refine gate_store (t := 2) (p := 22) rfl ?_); refine store_row (W := wr) rfl (p := 22) rfl rfl (i * 2 + j) ((k : Int) + (i * 2 + j : Nat)) HJ.out ?ha ?hb ?hc ?_; (case ha => omega); (case hb => rfl); (case hc => rfl); intro w' ho hg hb; have HO2 := Aside0.mk ho; have HB3 := Aside0.mk (HB2.out.trans hb); have HG3 := Aside0.mk (grown_trans HG2.out hg); clear ho hg hb))
          go_roundw
          case rel => exact ⟨j + 1, by go_num, by rw [show i * 2 + (j + 1) = i * 2 + j + 1 by omega]; go_num, by omega, ⟨by rw [show i * 2 + (j + 1) = i * 2 + j + 1 by omega, ← HM.out]; exact HO2.out⟩, HG3, HB3⟩
          case measure => simp [intOf]; omega
        · have e : j = 2 := by omega
          subst e
          go_wp2
          go_roundw
          case rel => exact ⟨i + 1, by go_num, by rw [show (i + 1) * 2 = i * 2 + 2 by omega], by omega, by rw [show (i + 1) * 2 = i * 2 + 2 by omega]; exact HJ, HG2, HB2⟩
          case measure => simp [intOf]; omega
    · have e : i = n := by omega
      have HE := Aside0.mk e
      clear e
      go_wp2
      go_ret
      exact ⟨by rw [HE.out]; rfl, by have := HI.out; rw [HE.out, List.drop_eq_nil_of_le (by omega), List.append_nil] at this; exact this, HG.out, HB.out⟩

set_option maxRecDepth 100000 in
set_option maxHeartbeats 2000000 in
theorem heldPairS (b : Nat) (v : Value) (k n : Nat) (w : World) (ho : RowP b w v n (marks k (n * 2))) (hk : k ≤ 1073741824) (hl : n ≤ 1073741824) :
    Calls Try.prog 46 #[v, .int .i64 k] w fun e w' => e = .returned (.int .i64 ((k : Int) + (n * 2 : Nat))) ∧ Below w.heap.size w w' := by
  have hrd : ∃ A c, v = .slice A n c ∧ (0 < n → ∃ g, A = some ⟨g, 0, none⟩ ∧ ∀ m, m < n * 2 → w.cell? ⟨g, m, none⟩ = some (.int .i64 ((k : Int) + m))) := by
    rcases ho.2 with ⟨rfl, rfl⟩ | ⟨g, cap, cur, rfl, hb, hg, hnc, hcm, hcs, ht⟩
    · exact ⟨_, _, rfl, fun h => absurd h (by decide)⟩
    · refine ⟨_, _, rfl, fun _ => ⟨g, rfl, fun m hm => ?_⟩⟩
      have hc := World.ownsRow.cells ho (g := g) rfl m (.int .i64 ((k : Int) + m)) (by
        have h1 := marks_at (k : Int) hm
        rw [List.getD_eq_getElem?_getD] at h1
        rw [List.getElem?_map]
        have h2 : m < (marks (k : Int) (n * 2)).length := by rw [marks_len]; exact hm
        rw [List.getElem?_eq_getElem h2] at h1 ⊢
        rw [Option.getD_some] at h1
        rw [h1]; rfl)
      rwa [add_plain] at hc
  obtain ⟨A, c, rfl, hr⟩ := hrd
  have HR := Aside0.mk hr
  clear ho hr
  go_enter Try.func46, Try.ntmps46
  go_wp2
  go_loopw [1, 5] (fun vk vi wr => ∃ i : Nat, vi = .int .i64 i ∧ vk = .int .i64 ((k : Int) + (i * 2 : Nat)) ∧ i ≤ n ∧ wr = w) (fun _ vi _ => n - (intOf vi).toNat)
  case atStart => exact ⟨0, rfl, by simp, Nat.zero_le _, rfl⟩
  case round =>
    obtain ⟨i, rfl, rfl, hi, rfl⟩ := hrel
    by_cases hlt : i < n
    · obtain ⟨g, rfl, hcell⟩ := HR.out (by omega)
      have HC := Aside0.mk hcell
      clear hcell
      obtain ⟨wo, hwo⟩ : ∃ wo, wo = wr := ⟨_, rfl⟩
      subst hwo
      go_wp2
      go_loopw [1, 6] (fun vk vj wr => ∃ j : Nat, vj = .int .i64 j ∧ vk = .int .i64 ((k : Int) + (i * 2 + j : Nat)) ∧ j ≤ 2 ∧ wr = wo) (fun _ vj _ => 2 - (intOf vj).toNat)
      case atStart => exact ⟨0, rfl, by simp, by decide, rfl⟩
      case round =>
        obtain ⟨j, rfl, rfl, hj, rfl⟩ := hrel
        by_cases hlt2 : j < 2
        · have hcell := HC.out (i * 2 + j) (by omega)
          have hjI : (j : Int) < 2 := by omega
          have hiI : (i : Int) < (n : Int) := by omega
          go_wp2
          go_roundw
          case rel => exact ⟨j + 1, by go_num, by rw [show i * 2 + (j + 1) = i * 2 + j + 1 by omega]; go_num, by omega, trivial⟩
          case measure => simp [intOf]; omega
        · have e : j = 2 := by omega
          subst e
          go_wp2
          go_roundw
          case rel => exact ⟨i + 1, by go_num, by rw [show (i + 1) * 2 = i * 2 + 2 by omega], by omega, trivial⟩
          case measure => simp [intOf]; omega
    · have e : i = n := by omega
      have HE := Aside0.mk e
      clear e
      go_wp2
      go_ret
      exact ⟨by rw [HE.out]; rfl, Below.refl _ _⟩

theorem Aside0.ownP {b : Nat} {w w' : World} {v : Value} {ps : List (Int × Int)} (h : Aside0 (OwnP b w v ps)) (hb : Below w.heap.size w w') : Aside0 (OwnP b w' v ps) := ⟨OwnP.below h.out hb⟩
theorem Aside0.rowP {b n : Nat} {w w' : World} {v : Value} {xs : List Int} (h : Aside0 (RowP b w v n xs)) (hb : Below w.heap.size w w') : Aside0 (RowP b w' v n xs) := ⟨own_move h.out (fun k hk => hb.block k (own_lt h.out k hk))⟩
theorem own_grownP {W W' : World} {v u : Value} {b lo hi lo' hi' : Nat} {ps : List (Int × Int)} (hg : W.grownBy W' v.ownBlock) (hr : ∀ k, v.ownBlock = some k → lo ≤ k ∧ k < hi) (hr' : ∀ k, u.ownBlock = some k → lo' ≤ k ∧ k < hi') (hn : hi' ≤ lo ∨ hi ≤ lo') (ho : OwnP b W u ps) : OwnP b W' u ps :=
  ho.grown hg (fun k hk e => by have h1 := hr _ e.symm; have h2 := hr' _ hk; omega)
end Go.Proofs.Ytcbkchnfjeegmaa.H

namespace Go.Proofs.Ytcbkchnfjeegmaa.H
open Go.ChangeShapes Go.WideShapes Go.ChangeAt
open Go.RowKit Go.Proofs.YtcbkchnfjeegmaaW.PrintWords Go.Proofs.YtcbkchnfjeegmaaW.PrintLast Go.Proofs.YtcbkchnfjeegmaaW.PrintMore
set_option linter.unusedVariables false
set_option linter.unusedSimpArgs false

/-- an int64 -/
def W64 (a : Int) : Prop := (Lit.int .i64 a).wf = true
theorem W64.bd {a : Int} (h : W64 a) : -9223372036854775808 ≤ a ∧ a ≤ 9223372036854775807 := by
  simpa [W64, Lit.wf, IntKind.min, IntKind.max, IntKind.signed, IntKind.bits] using h

set_option maxRecDepth 100000 in
theorem read_list {H : Type} {enc : TypeId × Value → H} {W : World} {fuel : Nat} {v : Value} {y : DataW H × List MemPlace}
    (hf : DataW.trod enc Try.prog W 0 (fun _ => true) true fuel 22 [v] = some y) : ∃ l : List Int, ReadI W v l ∧ ∀ x ∈ l, W64 x := by
  rcases open_ints Try.underlying22 Try.underlying2 (by kernel_rfl) hf with ⟨hcs, _⟩ | ⟨x, l, c, zs, hcs, _, hl, hm, hz, _, hcell, hwz⟩
  · simp at hcs
    subst hcs
    exact ⟨[], ReadI.nil _, fun x hx => by cases hx⟩
  · simp at hcs
    subst hcs
    obtain ⟨l, rfl, hr, hm, hw, hc⟩ := ReadsInt.ofRowC (k := .i64) (w := W) (.inr ⟨_, rfl, hl, hm, by simpa using hz, hcell, hwz⟩)
    exact ⟨l, ⟨_, _, rfl, hc, Kd.C_of_reads (d := (0 : Int)) (h1 := fun _ => rfl) hr⟩, hw⟩
set_option maxRecDepth 100000 in
theorem open_list {H : Type} {enc : TypeId × Value → H} {W : World} {base : Nat} {v : Value} {d : DataW H} {p : List MemPlace}
    (hv : Value.okWide Try.prog W .any base 22 v) (h : DataW.Trod enc Try.prog W 0 (fun _ => true) true 22 v d p) : ∃ l : List Int, ReadI W v l ∧ ∀ x ∈ l, W64 x := by
  obtain ⟨a1, len1, cap1, rfl⟩ := okWide_slice Try.underlying22 hv
  obtain ⟨fuel, hf⟩ := h
  exact read_list hf
set_option maxRecDepth 100000 in
theorem open_complex {H : Type} {enc : TypeId × Value → H} {W : World} {base : Nat} {v : Value} {d : DataW H} {p : List MemPlace}
    (hv : Value.okWide Try.prog W .any base 24 v) (h : DataW.Trod enc Try.prog W 0 (fun _ => true) true 24 v d p) : ∃ (a : Int) (u : Value) (l : List Int), v = .agg #[.int .i64 a, u] ∧ W64 a ∧ ReadI W u l ∧ ∀ x ∈ l, W64 x := by
  obtain ⟨c0, c1, y0, y1, m, rfl, rfl, rfl, hy0, hy1⟩ := Joins.open_agg2 Try.underlying24 (by kernel_rfl) (by kernel_rfl) hv h
  obtain ⟨a, e0, rfl, wa⟩ := DataW.trod_int Try.underlying2 hy0
  simp at e0
  subst e0
  obtain ⟨l, hr, hw⟩ := read_list hy1
  exact ⟨a, c1, l, rfl, wa, hr, hw⟩
end Go.Proofs.Ytcbkchnfjeegmaa.H

namespace Go.Proofs.Ytcbkchnfjeegmaa.H
open Go.ChangeShapes Go.WideShapes Go.ChangeAt Go.Deep
open Go.RowKit Go.Proofs.YtcbkchnfjeegmaaW.PrintWords Go.Proofs.YtcbkchnfjeegmaaW.PrintLast Go.Proofs.YtcbkchnfjeegmaaW.PrintMore
set_option linter.unusedVariables false
set_option linter.unusedSimpArgs false

/-- v is a slice of arrays that read as these pairs -/
def ReadA (w : World) (v : Value) (ps : List (Int × Int)) : Prop := ∃ A c, v = .slice A ps.length c ∧ ps.length ≤ 9223372036854775807 ∧
  (0 < ps.length → ∃ g o, A = some ⟨g, o, none⟩ ∧ ∀ i x y, ps[i]? = some (x, y) → w.cell? ⟨g, o + i * 2, none⟩ = some (.int .i64 x) ∧ w.cell? ⟨g, o + i * 2 + 1, none⟩ = some (.int .i64 y))
theorem ReadA.below {w w' : World} {v : Value} {ps : List (Int × Int)} (h : ReadA w v ps) (hb : Below w.heap.size w w') : ReadA w' v ps := by
  obtain ⟨A, c, rfl, hl, hr⟩ := h
  refine ⟨A, c, rfl, hl, fun h0 => ?_⟩
  obtain ⟨g, o, e, hc⟩ := hr h0
  exact ⟨g, o, e, fun i x y hj => ⟨pw_cell_below hb (hc i x y hj).1, pw_cell_below hb (hc i x y hj).2⟩⟩
theorem ReadA.nil (w : World) : ReadA w (.slice none 0 0) [] := ⟨none, 0, rfl, by decide, fun h => absurd h (by decide)⟩
theorem ReadA.get {w : World} {A : Option Addr} {c : Nat} {ps : List (Int × Int)} (h : ReadA w (.slice A ps.length c) ps) {i : Nat} (hi : i < ps.length) :
    ∃ g o x y, A = some ⟨g, o, none⟩ ∧ ps[i]? = some (x, y) ∧ w.cell? ⟨g, o + i * 2, none⟩ = some (.int .i64 x) ∧ w.cell? ⟨g, o + i * 2 + 1, none⟩ = some (.int .i64 y) := by
  obtain ⟨A', c', e, _, hr⟩ := h
  cases e
  obtain ⟨g, o, rfl, hc⟩ := hr (by omega)
  have h1 := List.getElem?_eq_getElem hi
  obtain ⟨h2, h3⟩ := hc i _ _ h1
  exact ⟨g, o, ps[i].1, ps[i].2, rfl, h1, h2, h3⟩

set_option maxRecDepth 100000 in
theorem read_pairs {H : Type} {enc : TypeId × Value → H} {W : World} {fuel : Nat} {v : Value} {y : DataW H × List MemPlace}
    (hf : DataW.trod enc Try.prog W 0 (fun _ => true) true fuel 38 [v] = some y) : ∃ ps : List (Int × Int), ReadA W v ps := by
  rcases open_slice Try.underlying38 hf with ⟨hcs, _⟩ | ⟨a, len, cap, m, n, D, Pl, hcs, _, hl, hm, hmm, _, hx⟩
  · simp at hcs
    subst hcs
    exact ⟨[], ReadA.nil _⟩
  · simp at hcs
    subst hcs
    have hlm : len ≤ m := by rw [hmm]; split <;> omega
    have ce : Try.prog.cellsOf 82 = 2 := by kernel_rfl
    have c1 : Try.prog.cellsOf 2 = 1 := by kernel_rfl
    have each : ∀ i, i < len → ∃ q : Int × Int, W.cell? (a.add (i * 2)) = some (.int .i64 q.1) ∧ W.cell? (a.add (i * 2 + 1)) = some (.int .i64 q.2) := by
      intro i hi
      obtain ⟨cs', h1, h2⟩ := hx i (by omega)
      rw [ce] at h1
      obtain ⟨_, hlen, hcell⟩ := World.cells?_some h1
      obtain ⟨xs, k, _, _, _, hxl, hf⟩ := DataW.trod_array Try.underlying82 h2
      match xs, hxl, cs', hlen with
      | [y0, y1], _, [v0, v1], _ =>
        have g0 := hf 0 (by decide)
        have g1 := hf 1 (by decide)
        rw [c1] at g0 g1
        simp at g0 g1
        have e0 := hcell 0 (by omega)
        have e1 := hcell 1 (by omega)
        rw [Go.Deep.add_add] at e0 e1
        obtain ⟨p, ep, -, -⟩ := DataW.trod_int Try.underlying2 g0
        obtain ⟨q, eq, -, -⟩ := DataW.trod_int Try.underlying2 g1
        simp at ep eq
        subst ep eq
        exact ⟨(p, q), by simpa using e0, by simpa using e1⟩
    obtain ⟨q, hq⟩ := choose_lt each
    have hL : ((List.range len).map q).length = len := by simp
    refine ⟨(List.range len).map q, some a, cap, by rw [hL], by rw [hL]; simp only [maxLen] at hm; omega, fun h0 => ?_⟩
    rw [hL] at h0
    obtain ⟨g, o, sp⟩ := a
    have hsp : sp = none := by
      have h1 := (hq 0 h0).1
      cases sp with
      | none => rfl
      | some s =>
        exfalso
        unfold Addr.add World.cell? at h1
        simp at h1
        split at h1
        · first | cases h1 | (split at h1 <;> simp at h1)
        · cases h1
    subst hsp
    refine ⟨g, o, rfl, fun i x y hi => ?_⟩
    rw [List.getElem?_map] at hi
    obtain ⟨j, hj, e⟩ := Option.map_eq_some_iff.1 hi
    have hjl := (List.getElem?_eq_some_iff.1 hj).1
    rw [List.length_range] at hjl
    rw [List.getElem?_range hjl] at hj
    cases hj
    have h1 := hq i hjl
    rw [e] at h1
    have ea : ∀ k, (⟨g, o, none⟩ : Addr).add k = ⟨g, o + k, none⟩ := fun k => by
      unfold Addr.add
      split
      · next h => subst h; rfl
      · rfl
    rw [ea, ea] at h1
    rw [Nat.add_assoc]
    exact h1
set_option maxRecDepth 100000 in
theorem open_pairs {H : Type} {enc : TypeId × Value → H} {W : World} {base : Nat} {v : Value} {d : DataW H} {p : List MemPlace}
    (hv : Value.okWide Try.prog W .any base 38 v) (h : DataW.Trod enc Try.prog W 0 (fun _ => true) true 38 v d p) : ∃ ps : List (Int × Int), ReadA W v ps ∧ True := by
  obtain ⟨a1, len1, cap1, rfl⟩ := okWide_slice Try.underlying38 hv
  obtain ⟨fuel, hf⟩ := h
  obtain ⟨ps, h⟩ := read_pairs hf
  exact ⟨ps, h, trivial⟩
set_option maxRecDepth 100000 in
theorem open_desk {H : Type} {enc : TypeId × Value → H} {W : World} {base : Nat} {v : Value} {d : DataW H} {p : List MemPlace}
    (hv : Value.okWide Try.prog W .any base 40 v) (h : DataW.Trod enc Try.prog W 0 (fun _ => true) true 40 v d p) :
    ∃ (a : Int) (u : Value) (l : List Int) (x : Value) (m : List (Int × Int)), v = .agg #[.int .i64 a, u, x] ∧ W64 a ∧ ReadI W u l ∧ (∀ x ∈ l, W64 x) ∧ ReadA W x m ∧ True := by
  obtain ⟨cs, rfl, hsz⟩ := okWide_struct Try.underlying40 hv
  have hC : Try.prog.cellsOf 40 = 3 := by kernel_rfl
  obtain ⟨c0, c1, c2, rfl⟩ := Joins.array3 (hsz.trans hC)
  obtain ⟨fuel, hf⟩ := h
  obtain ⟨y0, y1, n, hx, _, h0, h1⟩ := trod_struct2 Try.underlying40 hf
  have k2 : Try.prog.cellsOf 24 = 2 := by kernel_rfl
  have k1 : Try.prog.cellsOf 38 = 1 := by kernel_rfl
  simp [Value.cells, k1, k2] at h0 h1
  obtain ⟨ps, hp⟩ := read_pairs h1
  obtain ⟨z0, z1, n2, hx2, _, j0, j1⟩ := trod_struct2 Try.underlying24 h0
  have e1 : Try.prog.cellsOf 2 = 1 := by kernel_rfl
  have e2 : Try.prog.cellsOf 22 = 1 := by kernel_rfl
  simp [e1, e2] at j0 j1
  obtain ⟨a, q0, -, wa⟩ := DataW.trod_int Try.underlying2 j0
  simp at q0
  subst q0
  obtain ⟨l, hr, hw⟩ := read_list j1
  exact ⟨a, c1, l, c2, ps, rfl, wa, hr, hw, hp, trivial⟩

theorem szPairS (A : Option Addr) (n c : Nat) (left : Int) (w : World) (h0 : 0 ≤ left) (h1 : left ≤ 1048576) (hn : n ≤ 9223372036854775807) :
    Calls Try.prog 30 #[.slice A n c, .int .i64 left] w fun e w' => e = .returned (.int .i64 (szAns left n)) ∧ Below w.heap.size w w' := by
  by_cases h : left - n < 0
  · have HA : Aside0 (szAns left n = -1) := ⟨by unfold szAns; rw [if_pos h]⟩
    go_enter Try.func30, Try.ntmps30
    go_wp2
    go_ret
    exact ⟨by rw [HA.out]; rfl, Below.refl _ _⟩
  · have HA : Aside0 (szAns left n = left - n) := ⟨by unfold szAns; rw [if_neg h]⟩
    go_enter Try.func30, Try.ntmps30
    go_wp2
    go_ret
    exact ⟨by rw [HA.out]; rfl, Below.refl _ _⟩
end Go.Proofs.Ytcbkchnfjeegmaa.H

namespace Go.Proofs.Ytcbkchnfjeegmaa.H
open Go.RowKit Go.Proofs.YtcbkchnfjeegmaaW.PrintWords Go.Proofs.YtcbkchnfjeegmaaW.PrintLast Go.Proofs.YtcbkchnfjeegmaaW.PrintMore
set_option linter.unusedVariables false
set_option linter.unusedSimpArgs false

set_option maxRecDepth 100000 in
set_option maxHeartbeats 2000000 in
theorem toPair (x y : Int) (w : World) : Calls Try.prog 69 #[.agg #[.int .i64 x, .int .i64 y]] w fun e w' => e = .returned (.agg #[.int .i64 x, .int .i64 y]) ∧ Below w.heap.size w w' := by
  obtain ⟨w0, hw0⟩ : ∃ w0, w0 = ((w.alloc (.cells #[.int .i64 x, .int .i64 y] 82)).alloc (.cells #[.int .i64 0, .int .i64 0] 83)).alloc (.cells #[.int .i64 0, .int .i64 0] 83) := ⟨_, rfl⟩
  have hs0 : w0.heap.size = w.heap.size + 1 + 1 + 1 := by rw [hw0]; simp
  have hb1 : w0.heap[w.heap.size]? = some (.cells #[.int .i64 x, .int .i64 y] 82) := by
    rw [hw0, (World.grownBy_alloc _ _ none).block _ (by simp; omega) (by simp), (World.grownBy_alloc _ _ none).block _ (by simp) (by simp)]
    exact heap_alloc_new w _
  have hb2 : w0.heap[w.heap.size + 1]? = some (.cells #[.int .i64 0, .int .i64 0] 83) := by
    rw [hw0, (World.grownBy_alloc _ _ none).block _ (by simp) (by simp)]
    have := heap_alloc_new (w.alloc (.cells #[.int .i64 x, .int .i64 y] 82)) (.cells #[.int .i64 0, .int .i64 0] 83)
    rwa [World.size_alloc] at this
  have hb3 : w0.heap[w.heap.size + 1 + 1]? = some (.cells #[.int .i64 0, .int .i64 0] 83) := by
    rw [hw0]
    have := heap_alloc_new ((w.alloc (.cells #[.int .i64 x, .int .i64 y] 82)).alloc (.cells #[.int .i64 0, .int .i64 0] 83)) (.cells #[.int .i64 0, .int .i64 0] 83)
    rwa [World.size_alloc, World.size_alloc] at this
  have hB0 : Below w.heap.size w w0 := by rw [hw0]; exact (((Below.refl _ w).alloc (Nat.le_refl _) _).alloc (by simp) _).alloc (by simp; omega) _
  have HB0 := Aside0.mk hB0
  have HB1 := Aside0.mk hb1
  have HB2 := Aside0.mk hb2
  have HB3 := Aside0.mk hb3
  clear hB0 hb1 hb2 hb3
  go_enter Try.func69, Try.ntmps69
  go_wp2
  rw [← hw0]
  clear hw0
  go_loopw [4] (fun s4 wr => ∃ i : Nat, s4 = .int .i64 i ∧ i ≤ 2 ∧ Aside0 (wr.heap[w.heap.size]? = some (.cells #[.int .i64 x, .int .i64 y] 82)) ∧ Aside0 (wr.heap[w.heap.size + 1]? = some (.cells #[.int .i64 0, .int .i64 0] 83)) ∧ Aside0 (wr.heap[w.heap.size + 1 + 1]? = some (.cells #[.int .i64 (if 0 < i then x else 0), .int .i64 (if 1 < i then y else 0)] 83)) ∧ Aside0 (Below w.heap.size w wr)) (fun s4 _ => 2 - (intOf s4).toNat)
  case atStart => exact ⟨0, rfl, by decide, HB1, HB2, HB3, HB0⟩
  case round =>
    obtain ⟨i, rfl, hi, H1, H2, H3, HB⟩ := hrel
    have c10 := (blk_cell H1.out 0)
    have c11 := (blk_cell H1.out 1)
    have c30 := (blk_cell H3.out 0)
    have c31 := (blk_cell H3.out 1)
    have f30 := (blk_frozen H3.out 0)
    have f31 := (blk_frozen H3.out 1)
    have c20 := (blk_cell H2.out 0)
    have c21 := (blk_cell H2.out 1)
    have f20 := (blk_frozen H2.out 0)
    have f21 := (blk_frozen H2.out 1)
    rcases (by omega : i = 0 ∨ i = 1 ∨ i = 2) with rfl | rfl | rfl
    · simp only [Nat.lt_irrefl, if_false, if_neg (by decide : ¬ (1 : Nat) < 0)] at c30 c31 H3
      go_wp2
      go_roundw
      case rel => exact ⟨1, by go_num, by decide, ⟨blk_far H1.out (by simp; omega) _⟩, ⟨blk_far H2.out (by simp) _⟩, ⟨blk_put (cs := #[.int .i64 0, .int .i64 0]) H3.out 0 _ rfl⟩, ⟨HB.out.setCell (by simp; omega) _⟩⟩
      case measure => simp [intOf]
    · simp only [if_pos (by decide : (0 : Nat) < 1), Nat.lt_irrefl, if_false] at c30 c31 H3
      go_wp2
      go_roundw
      case rel => exact ⟨2, by go_num, by decide, ⟨blk_far H1.out (by simp; omega) _⟩, ⟨blk_far H2.out (by simp) _⟩, ⟨blk_put (cs := #[.int .i64 x, .int .i64 0]) H3.out 1 _ rfl⟩, ⟨HB.out.setCell (by simp; omega) _⟩⟩
      case measure => simp [intOf]
    · simp only [if_pos (by decide : (0 : Nat) < 2), if_pos (by decide : (1 : Nat) < 2)] at c30 c31 H3
      go_wp2
      refine bodyPost_ret (results_cell_row rfl _ _ (w.heap.size + 1) 83 #[.int .i64 x, .int .i64 y] (0, 0) _ rfl (by refine blk_put (cs := #[.int .i64 x, .int .i64 0]) ?_ 1 _ rfl; exact blk_put (cs := #[.int .i64 0, .int .i64 0]) H2.out 0 _ rfl) Try.underlying83 rfl (by kernel_rfl)) rfl ?_
      exact ⟨rfl, (HB.out.setCell (by simp) _).setCell (by simp) _⟩

theorem infoPr : (Try.prog.info? 83).map (fun i => (i.zero, i.size, i.bytes)) = some (some (.agg #[.int .i64 0, .int .i64 0]), 2, 16) := by kernel_rfl
theorem run_makeP (n : Nat) (hn : n ≤ 1048576) (W : World) : (Instr.makeSlice 43 (.int .i64 (n : Int)) (.int .i64 (n : Int))).run Try.prog W = .ok (.slice (some ⟨W.heap.size, 0, none⟩) n n) (W.alloc (.cells (madeCells #[.int .i64 0, .int .i64 0] (n * 2)) 83)) := by
  obtain ⟨i0, hi, hzz⟩ := Option.map_eq_some_iff.1 infoPr
  simp only [Prod.mk.injEq] at hzz
  obtain ⟨hz0, hz1, hz2⟩ := hzz
  have h := run_make (P := Try.prog) (w := W) 43 83 i0 _ Try.underlying43 hi hz0 .i64 .i64 (n : Int) (n : Int) (by omega) (by omega) (by rw [hz2]; omega) (by omega)
  rw [hz1] at h
  simpa [Value.cells] using h
theorem made_zero (m : Nat) : (madeCells #[Value.int .i64 0, .int .i64 0] m).toList = (List.replicate m (0 : Int)).map (Value.int .i64) := by
  apply List.ext_getElem
  · simp [madeCells]
  · intro i h1 h2
    simp only [madeCells, List.map_replicate, List.getElem_replicate]
    simp
    have : i % 2 = 0 ∨ i % 2 = 1 := by omega
    rcases this with h | h <;> rw [h] <;> rfl
theorem rowP_made (W : World) (n : Nat) (hn : n ≤ 1048576) : RowP W.heap.size (W.alloc (.cells (madeCells #[.int .i64 0, .int .i64 0] (n * 2)) 83)) (.slice (some ⟨W.heap.size, 0, none⟩) n n) n (List.replicate (n * 2) 0) := by
  have h := World.ownsRow_lit (base := W.heap.size) (e := 83) (size := 2) W (madeCells #[.int .i64 0, .int .i64 0] (n * 2)) n (Nat.le_refl _) (by simp [maxLen]; omega) (by simp [size_madeCells])
  rw [made_zero] at h
  exact h
section
variable {P : Program} {ops : Array Oper} {rest : List Oper} {o : Oper} {a : Act} {Q : Exit → Act → World → Prop}
theorem row_at {W : World} {b g n cap : Nat} {xs : List Int} (HO : RowP b W (.slice (some ⟨g, 0, none⟩) n cap) n xs) {i : Nat} (hi : i < xs.length) : W.cell? ⟨g, i, none⟩ = some (.int .i64 xs[i]) ∧ W.frozen? ⟨g, i, none⟩ = false := by
  constructor
  · have hc := World.ownsRow.cells HO (g := g) rfl i (.int .i64 xs[i]) (by rw [List.getElem?_map, List.getElem?_eq_getElem hi]; rfl)
    rwa [add_plain] at hc
  · rcases HO.2 with ⟨h', _⟩ | ⟨g', cap', cur', h', _, hh, _⟩
    · cases h'
    · have : g = g' := by injection h' with h'; injection h' with h'; injection h' with h'
      subst this
      simp [World.frozen?, hh]
theorem row_set {W : World} {b g n cap : Nat} {xs : List Int} (HO : RowP b W (.slice (some ⟨g, 0, none⟩) n cap) n xs) (i : Nat) (x : Int) : RowP b (W.setCell ⟨g, i, none⟩ (.int .i64 x)) (.slice (some ⟨g, 0, none⟩) n cap) n (xs.set i x) ∧ W.grownBy (W.setCell ⟨g, i, none⟩ (.int .i64 x)) (some g) := by
  have hs := World.ownsRow.stored HO i (.int .i64 x)
  have he : (xs.map (Value.int .i64)).set i (.int .i64 x) = (xs.set i x).map (Value.int .i64) := by simp [List.map_set]
  rw [he] at hs
  exact hs
/-- out[i] = Pair{x, y} -/
theorem store_pair {W : World} {b g n cap : Nat} {xs : List Int} (hgd : o.guard = none) {p : Tmp} {v : Operand} (ho : o.op = .store 83 (.tmp p) v) (hN : o.dst = none)
    (i : Nat) (x y : Int) (HO : RowP b W (.slice (some ⟨g, 0, none⟩) n cap) n xs) (hi : i * 2 + 1 < xs.length) (hp : a.eval (.tmp p) = .pointer (some ⟨g, i * 2, none⟩)) (hv : a.eval v = .agg #[.int .i64 x, .int .i64 y])
    (h : ∀ w', RowP b w' (.slice (some ⟨g, 0, none⟩) n cap) n ((xs.set (i * 2) x).set (i * 2 + 1) y) → W.grownBy w' (some g) → Below b W w' → wpList Try.prog ops Q rest a w') : wpList Try.prog ops Q (o :: rest) a W := by
  have h1 := row_at HO (i := i * 2) (by omega)
  have r1 := row_set HO (i * 2) x
  have h2 := row_at r1.1 (i := i * 2 + 1) (by rw [List.length_set]; exact hi)
  have r2 := row_set r1.1 (i * 2 + 1) y
  have hg := grown_trans r1.2 r2.2
  have hge : b ≤ g := own_base HO g (by simp [Value.ownBlock])
  refine store_event (w1 := (W.setCell ⟨g, i * 2, none⟩ (.int .i64 x)).setCell ⟨g, i * 2 + 1, none⟩ (.int .i64 y)) hgd ho hN ?_ (fun w' e => h w' (by rw [e]; exact r2.1) (by rw [e]; exact hg) (by rw [e]; exact ((Below.refl _ _).setCell hge _).setCell hge _))
  obtain ⟨h1, h1f⟩ := h1
  obtain ⟨h2, h2f⟩ := h2
  generalize a.eval = ρ at hp hv ⊢
  simp [execOp, ho, hp, hv, go_sem, h1, h1f, h2, h2f]
end
theorem flat_take : ∀ (ps : List (Int × Int)) (i : Nat) (x y : Int), ps[i]? = some (x, y) → flat (ps.take (i + 1)) = flat (ps.take i) ++ [x, y]
  | [], i, x, y, h => by simp at h
  | q :: r, 0, x, y, h => by simp at h; subst h; simp [flat]
  | q :: r, i + 1, x, y, h => by
    have := flat_take r i x y (by simpa using h)
    simp only [List.take_succ_cons, flat, List.cons_append, this]
theorem flat_put {ps : List (Int × Int)} {i : Nat} {x y : Int} (h : ps[i]? = some (x, y)) : ((flat (ps.take i) ++ List.replicate ((ps.length - i) * 2) 0).set (i * 2) x).set (i * 2 + 1) y = flat (ps.take (i + 1)) ++ List.replicate ((ps.length - (i + 1)) * 2) 0 := by
  have hlt := (List.getElem?_eq_some_iff.1 h).1
  have hl : (flat (ps.take i)).length = i * 2 := by rw [flat_len, List.length_take, Nat.min_eq_left (by omega)]
  rw [show (ps.length - i) * 2 = (ps.length - (i + 1)) * 2 + 1 + 1 by omega, List.replicate_succ, List.replicate_succ]
  rw [List.set_append_right _ _ (by omega), hl, Nat.sub_self, List.set_cons_zero]
  rw [List.set_append_right _ _ (by omega), hl, show i * 2 + 1 - i * 2 = 1 by omega, List.set_cons_succ, List.set_cons_zero]
  rw [flat_take ps i x y h, List.append_assoc]
  rfl

set_option maxRecDepth 100000 in
set_option maxHeartbeats 2000000 in
theorem toPairS (v : Value) (ps : List (Int × Int)) (w : World) (hv : ReadA w v ps) (hl : ps.length ≤ 1048576) :
    Calls Try.prog 32 #[v] w fun e w' => ∃ u, e = .returned u ∧ OwnP w.heap.size w' u ps ∧ Below w.heap.size w w' := by
  have HV := Aside0.mk hv
  obtain ⟨A, d, rfl, -⟩ := id hv
  obtain ⟨n, hn⟩ : ∃ n, n = ps.length := ⟨_, rfl⟩
  obtain ⟨w1, hw1⟩ : ∃ w1, w1 = w.alloc (.cells (madeCells #[.int .i64 0, .int .i64 0] (n * 2)) 83) := ⟨_, rfl⟩
  have HB1 : Aside0 (Below w.heap.size w w1) := ⟨by rw [hw1]; exact Below.alloc (Below.refl _ _) (Nat.le_refl _) _⟩
  have HR1 : Aside0 (RowP w.heap.size w1 (.slice (some ⟨w.heap.size, 0, none⟩) n n) n (List.replicate (n * 2) 0)) := ⟨by rw [hw1]; exact rowP_made w n (by omega)⟩
  have hmk := run_makeP n (by omega)
  rw [← hn] at hl ⊢
  have HN := Aside0.mk hn
  clear hv hn
  go_enter Try.func32, Try.ntmps32
  go_wp2
  rw [← hw1]
  clear hw1
  go_loopw [4] (fun s4 wr => ∃ i : Nat, s4 = .int .i64 i ∧ i ≤ n ∧ Aside0 (RowP w.heap.size wr (.slice (some ⟨w.heap.size, 0, none⟩) n n) n (flat (ps.take i) ++ List.replicate ((ps.length - i) * 2) 0)) ∧ Aside0 (Below w.heap.size w wr)) (fun s4 _ => n - (intOf s4).toNat)
  case atStart => exact ⟨0, rfl, Nat.zero_le _, ⟨by rw [← HN.out]; simpa [flat] using HR1.out⟩, HB1⟩
  case round =>
    obtain ⟨i, rfl, hi, HR, HB⟩ := hrel
    by_cases hlt : i < n
    · obtain ⟨g, o, x, y, rfl, hxy, hc0, hc1⟩ := ReadA.get (HV.out.below HB.out) (i := i) (by rw [← HN.out]; exact hlt)
      have hiI : (i : Int) < (n : Int) := by omega
      have HX := Aside0.mk hxy
      have HP := Aside0.mk (flat_put hxy)
      have HLN : Aside0 (i * 2 + 1 < (flat (ps.take i) ++ List.replicate ((ps.length - i) * 2) 0).length) := ⟨by rw [List.length_append, List.length_replicate, flat_len, List.length_take]; have := HN.out; omega⟩
      clear hxy
      go_wp2_with (first | (go_at_call 69; refine (toPair x y _).mono ?_; rintro e w5 ⟨rfl, hb⟩; have HR5 : Aside0 (RowP w.heap.size w5 (.slice (some ⟨w.heap.size, 0, none⟩) n n) n (flat (ps.take i) ++ List.replicate ((ps.length - i) * 2) 0)) := ⟨own_move HR.out (fun k hk => hb.block k (own_lt HR.out k hk))⟩; have HB5 := Aside0.mk (HB.out.trans (hb.mono HB.out.size)); clear hb) | ((with_reducible refine gate_store (t := 83) (p := 21) rfl ?_); refine store_pair rfl (p := 21) rfl rfl i x y HR5.out HLN.out rfl rfl ?_; intro w6 ho6 hg6 hb6; have HR6 := Aside0.mk ho6; have HB6 := Aside0.mk (HB5.out.trans hb6); clear ho6 hg6 hb6))
      go_roundw
      case rel => exact ⟨i + 1, by go_num, by omega, ⟨by rw [← HP.out]; exact HR6.out⟩, HB6⟩
      case measure => simp [intOf]; omega
    · have e : i = n := by omega
      have HE := Aside0.mk e
      clear e
      go_wp2
      go_ret
      refine ⟨_, rfl, ?_, HB.out⟩
      have h1 := HR.out
      rw [HE.out, HN.out, Nat.sub_self, Nat.zero_mul, List.take_length] at h1
      rw [HN.out]
      unfold OwnP
      simpa [RowP] using h1
end Go.Proofs.Ytcbkchnfjeegmaa.H
