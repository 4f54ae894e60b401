/- Slices of arrays of two numbers, as a law's arguments have them; pairs out of them. The laws' toPair, toPairS. The laws' helpers over desks. The law of IsDesk. -/
import Derived.Deep.Slices
import Derived.Test.YtcbkchnfjeegmaaKFnExactIsDesk1
import Derived.Test.YtcbkchnfjeegmaaKFnExactIsDesk2
import Derived.Test.YtcbkchnfjeegmaaKFnExactIsDesk3
import Derived.Test.YtcbkchnfjeegmaaKFnExactIsDesk4
import Derived.Test.YtcbkchnfjeegmaaKFnExactIsDesk5
import Derived.Test.YtcbkchnfjeegmaaKFnExactIsDesk6
import Derived.Test.YtcbkchnfjeegmaaKFnExactIsDesk7
import Derived.Test.YtcbkchnfjeegmaaKFnExactIsDesk8
import Derived.Test.YtcbkchnfjeegmaaKFnExactIsDesk9
import Derived.Test.YtcbkchnfjeegmaaKFnExactIsDesk10

namespace Go.Proofs.Ytcbkchnfjeegmaa.H
open Go.ChangeShapes Go.WideShapes Go.ChangeAt Go.Deep
open Go.RowKit Go.Proofs.YtcbkchnfjeegmaaW.PrintWords Go.Proofs.YtcbkchnfjeegmaaW.PrintLast Go.Proofs.YtcbkchnfjeegmaaW.PrintMore
set_option linter.unusedVariables false
set_option linter.unusedSimpArgs false

/-- v is a slice of arrays that read as these pairs -/
def ReadA (w : World) (v : Value) (ps : List (Int × Int)) : Prop := ∃ A c, v = .slice A ps.length c ∧ ps.length ≤ 9223372036854775807 ∧
  (0 < ps.length → ∃ g o, A = some ⟨g, o, none⟩ ∧ ∀ i x y, ps[i]? = some (x, y) → w.cell? ⟨g, o + i * 2, none⟩ = some (.int .i64 x) ∧ w.cell? ⟨g, o + i * 2 + 1, none⟩ = some (.int .i64 y))
theorem ReadA.below {w w' : World} {v : Value} {ps : List (Int × Int)} (h : ReadA w v ps) (hb : Below w.heap.size w w') : ReadA w' v ps := by
  obtain ⟨A, c, rfl, hl, hr⟩ := h
  refine ⟨A, c, rfl, hl, fun h0 => ?_⟩
  obtain ⟨g, o, e, hc⟩ := hr h0
  exact ⟨g, o, e, fun i x y hj => ⟨pw_cell_below hb (hc i x y hj).1, pw_cell_below hb (hc i x y hj).2⟩⟩
theorem ReadA.nil (w : World) : ReadA w (.slice none 0 0) [] := ⟨none, 0, rfl, by decide, fun h => absurd h (by decide)⟩
theorem ReadA.get {w : World} {A : Option Addr} {c : Nat} {ps : List (Int × Int)} (h : ReadA w (.slice A ps.length c) ps) {i : Nat} (hi : i < ps.length) :
    ∃ g o x y, A = some ⟨g, o, none⟩ ∧ ps[i]? = some (x, y) ∧ w.cell? ⟨g, o + i * 2, none⟩ = some (.int .i64 x) ∧ w.cell? ⟨g, o + i * 2 + 1, none⟩ = some (.int .i64 y) := by
  obtain ⟨A', c', e, _, hr⟩ := h
  cases e
  obtain ⟨g, o, rfl, hc⟩ := hr (by omega)
  have h1 := List.getElem?_eq_getElem hi
  obtain ⟨h2, h3⟩ := hc i _ _ h1
  exact ⟨g, o, ps[i].1, ps[i].2, rfl, h1, h2, h3⟩

set_option maxRecDepth 100000 in
theorem read_pairs {H : Type} {enc : TypeId × Value → H} {W : World} {fuel : Nat} {v : Value} {y : DataW H × List MemPlace}
    (hf : DataW.trod enc Try.prog W 0 (fun _ => true) true fuel 38 [v] = some y) : ∃ ps : List (Int × Int), ReadA W v ps := by
  rcases open_slice Try.underlying38 hf with ⟨hcs, _⟩ | ⟨a, len, cap, m, n, D, Pl, hcs, _, hl, hm, hmm, _, hx⟩
  · simp at hcs
    subst hcs
    exact ⟨[], ReadA.nil _⟩
  · simp at hcs
    subst hcs
    have hlm : len ≤ m := by rw [hmm]; split <;> omega
    have ce : Try.prog.cellsOf 82 = 2 := by kernel_rfl
    have c1 : Try.prog.cellsOf 2 = 1 := by kernel_rfl
    have each : ∀ i, i < len → ∃ q : Int × Int, W.cell? (a.add (i * 2)) = some (.int .i64 q.1) ∧ W.cell? (a.add (i * 2 + 1)) = some (.int .i64 q.2) := by
      intro i hi
      obtain ⟨cs', h1, h2⟩ := hx i (by omega)
      rw [ce] at h1
      obtain ⟨_, hlen, hcell⟩ := World.cells?_some h1
      obtain ⟨xs, k, _, _, _, hxl, hf⟩ := DataW.trod_array Try.underlying82 h2
      match xs, hxl, cs', hlen with
      | [y0, y1], _, [v0, v1], _ =>
        have g0 := hf 0 (by decide)
        have g1 := hf 1 (by decide)
        rw [c1] at g0 g1
        simp at g0 g1
        have e0 := hcell 0 (by omega)
        have e1 := hcell 1 (by omega)
        rw [Go.Deep.add_add] at e0 e1
        obtain ⟨p, ep, -, -⟩ := DataW.trod_int Try.underlying2 g0
        obtain ⟨q, eq, -, -⟩ := DataW.trod_int Try.underlying2 g1
        simp at ep eq
        subst ep eq
        exact ⟨(p, q), by simpa using e0, by simpa using e1⟩
    obtain ⟨q, hq⟩ := choose_lt each
    have hL : ((List.range len).map q).length = len := by simp
    refine ⟨(List.range len).map q, some a, cap, by rw [hL], by rw [hL]; simp only [maxLen] at hm; omega, fun h0 => ?_⟩
    rw [hL] at h0
    obtain ⟨g, o, sp⟩ := a
    have hsp : sp = none := by
      have h1 := (hq 0 h0).1
      cases sp with
      | none => rfl
      | some s =>
        exfalso
        unfold Addr.add World.cell? at h1
        simp at h1
        split at h1
        · first | cases h1 | (split at h1 <;> simp at h1)
        · cases h1
    subst hsp
    refine ⟨g, o, rfl, fun i x y hi => ?_⟩
    rw [List.getElem?_map] at hi
    obtain ⟨j, hj, e⟩ := Option.map_eq_some_iff.1 hi
    have hjl := (List.getElem?_eq_some_iff.1 hj).1
    rw [List.length_range] at hjl
    rw [List.getElem?_range hjl] at hj
    cases hj
    have h1 := hq i hjl
    rw [e] at h1
    have ea : ∀ k, (⟨g, o, none⟩ : Addr).add k = ⟨g, o + k, none⟩ := fun k => by
      unfold Addr.add
      split
      · next h => subst h; rfl
      · rfl
    rw [ea, ea] at h1
    rw [Nat.add_assoc]
    exact h1
set_option maxRecDepth 100000 in
theorem open_pairs {H : Type} {enc : TypeId × Value → H} {W : World} {base : Nat} {v : Value} {d : DataW H} {p : List MemPlace}
    (hv : Value.okWide Try.prog W .any base 38 v) (h : DataW.Trod enc Try.prog W 0 (fun _ => true) true 38 v d p) : ∃ ps : List (Int × Int), ReadA W v ps ∧ True := by
  obtain ⟨a1, len1, cap1, rfl⟩ := okWide_slice Try.underlying38 hv
  obtain ⟨fuel, hf⟩ := h
  obtain ⟨ps, h⟩ := read_pairs hf
  exact ⟨ps, h, trivial⟩
set_option maxRecDepth 100000 in
theorem open_desk {H : Type} {enc : TypeId × Value → H} {W : World} {base : Nat} {v : Value} {d : DataW H} {p : List MemPlace}
    (hv : Value.okWide Try.prog W .any base 40 v) (h : DataW.Trod enc Try.prog W 0 (fun _ => true) true 40 v d p) :
    ∃ (a : Int) (u : Value) (l : List Int) (x : Value) (m : List (Int × Int)), v = .agg #[.int .i64 a, u, x] ∧ W64 a ∧ ReadI W u l ∧ (∀ x ∈ l, W64 x) ∧ ReadA W x m ∧ True := by
  obtain ⟨cs, rfl, hsz⟩ := okWide_struct Try.underlying40 hv
  have hC : Try.prog.cellsOf 40 = 3 := by kernel_rfl
  obtain ⟨c0, c1, c2, rfl⟩ := Joins.array3 (hsz.trans hC)
  obtain ⟨fuel, hf⟩ := h
  obtain ⟨y0, y1, n, hx, _, h0, h1⟩ := trod_struct2 Try.underlying40 hf
  have k2 : Try.prog.cellsOf 24 = 2 := by kernel_rfl
  have k1 : Try.prog.cellsOf 38 = 1 := by kernel_rfl
  simp [Value.cells, k1, k2] at h0 h1
  obtain ⟨ps, hp⟩ := read_pairs h1
  obtain ⟨z0, z1, n2, hx2, _, j0, j1⟩ := trod_struct2 Try.underlying24 h0
  have e1 : Try.prog.cellsOf 2 = 1 := by kernel_rfl
  have e2 : Try.prog.cellsOf 22 = 1 := by kernel_rfl
  simp [e1, e2] at j0 j1
  obtain ⟨a, q0, -, wa⟩ := DataW.trod_int Try.underlying2 j0
  simp at q0
  subst q0
  obtain ⟨l, hr, hw⟩ := read_list j1
  exact ⟨a, c1, l, c2, ps, rfl, wa, hr, hw, hp, trivial⟩

theorem szPairS (A : Option Addr) (n c : Nat) (left : Int) (w : World) (h0 : 0 ≤ left) (h1 : left ≤ 1048576) (hn : n ≤ 9223372036854775807) :
    Calls Try.prog 30 #[.slice A n c, .int .i64 left] w fun e w' => e = .returned (.int .i64 (szAns left n)) ∧ Below w.heap.size w w' := by
  by_cases h : left - n < 0
  · have HA : Aside0 (szAns left n = -1) := ⟨by unfold szAns; rw [if_pos h]⟩
    go_enter Try.func30, Try.ntmps30
    go_wp2
    go_ret
    exact ⟨by rw [HA.out]; rfl, Below.refl _ _⟩
  · have HA : Aside0 (szAns left n = left - n) := ⟨by unfold szAns; rw [if_neg h]⟩
    go_enter Try.func30, Try.ntmps30
    go_wp2
    go_ret
    exact ⟨by rw [HA.out]; rfl, Below.refl _ _⟩
end Go.Proofs.Ytcbkchnfjeegmaa.H

namespace Go.Proofs.Ytcbkchnfjeegmaa.H
open Go.RowKit Go.Proofs.YtcbkchnfjeegmaaW.PrintWords Go.Proofs.YtcbkchnfjeegmaaW.PrintLast Go.Proofs.YtcbkchnfjeegmaaW.PrintMore
set_option linter.unusedVariables false
set_option linter.unusedSimpArgs false

set_option maxRecDepth 100000 in
set_option maxHeartbeats 2000000 in
theorem toPair (x y : Int) (w : World) : Calls Try.prog 69 #[.agg #[.int .i64 x, .int .i64 y]] w fun e w' => e = .returned (.agg #[.int .i64 x, .int .i64 y]) ∧ Below w.heap.size w w' := by
  obtain ⟨w0, hw0⟩ : ∃ w0, w0 = ((w.alloc (.cells #[.int .i64 x, .int .i64 y] 82)).alloc (.cells #[.int .i64 0, .int .i64 0] 83)).alloc (.cells #[.int .i64 0, .int .i64 0] 83) := ⟨_, rfl⟩
  have hs0 : w0.heap.size = w.heap.size + 1 + 1 + 1 := by rw [hw0]; simp
  have hb1 : w0.heap[w.heap.size]? = some (.cells #[.int .i64 x, .int .i64 y] 82) := by
    rw [hw0, (World.grownBy_alloc _ _ none).block _ (by simp; omega) (by simp), (World.grownBy_alloc _ _ none).block _ (by simp) (by simp)]
    exact heap_alloc_new w _
  have hb2 : w0.heap[w.heap.size + 1]? = some (.cells #[.int .i64 0, .int .i64 0] 83) := by
    rw [hw0, (World.grownBy_alloc _ _ none).block _ (by simp) (by simp)]
    have := heap_alloc_new (w.alloc (.cells #[.int .i64 x, .int .i64 y] 82)) (.cells #[.int .i64 0, .int .i64 0] 83)
    rwa [World.size_alloc] at this
  have hb3 : w0.heap[w.heap.size + 1 + 1]? = some (.cells #[.int .i64 0, .int .i64 0] 83) := by
    rw [hw0]
    have := heap_alloc_new ((w.alloc (.cells #[.int .i64 x, .int .i64 y] 82)).alloc (.cells #[.int .i64 0, .int .i64 0] 83)) (.cells #[.int .i64 0, .int .i64 0] 83)
    rwa [World.size_alloc, World.size_alloc] at this
  have hB0 : Below w.heap.size w w0 := by rw [hw0]; exact (((Below.refl _ w).alloc (Nat.le_refl _) _).alloc (by simp) _).alloc (by simp; omega) _
  have HB0 := Aside0.mk hB0
  have HB1 := Aside0.mk hb1
  have HB2 := Aside0.mk hb2
  have HB3 := Aside0.mk hb3
  clear hB0 hb1 hb2 hb3
  go_enter Try.func69, Try.ntmps69
  go_wp2
  rw [← hw0]
  clear hw0
  go_loopw [4] (fun s4 wr => ∃ i : Nat, s4 = .int .i64 i ∧ i ≤ 2 ∧ Aside0 (wr.heap[w.heap.size]? = some (.cells #[.int .i64 x, .int .i64 y] 82)) ∧ Aside0 (wr.heap[w.heap.size + 1]? = some (.cells #[.int .i64 0, .int .i64 0] 83)) ∧ Aside0 (wr.heap[w.heap.size + 1 + 1]? = some (.cells #[.int .i64 (if 0 < i then x else 0), .int .i64 (if 1 < i then y else 0)] 83)) ∧ Aside0 (Below w.heap.size w wr)) (fun s4 _ => 2 - (intOf s4).toNat)
  case atStart => exact ⟨0, rfl, by decide, HB1, HB2, HB3, HB0⟩
  case round =>
    obtain ⟨i, rfl, hi, H1, H2, H3, HB⟩ := hrel
    have c10 := (blk_cell H1.out 0)
    have c11 := (blk_cell H1.out 1)
    have c30 := (blk_cell H3.out 0)
    have c31 := (blk_cell H3.out 1)
    have f30 := (blk_frozen H3.out 0)
    have f31 := (blk_frozen H3.out 1)
    have c20 := (blk_cell H2.out 0)
    have c21 := (blk_cell H2.out 1)
    have f20 := (blk_frozen H2.out 0)
    have f21 := (blk_frozen H2.out 1)
    rcases (by omega : i = 0 ∨ i = 1 ∨ i = 2) with rfl | rfl | rfl
    · simp only [Nat.lt_irrefl, if_false, if_neg (by decide : ¬ (1 : Nat) < 0)] at c30 c31 H3
      go_wp2
      go_roundw
      case rel => exact ⟨1, by go_num, by decide, ⟨blk_far H1.out (by simp; omega) _⟩, ⟨blk_far H2.out (by simp) _⟩, ⟨blk_put (cs := #[.int .i64 0, .int .i64 0]) H3.out 0 _ rfl⟩, ⟨HB.out.setCell (by simp; omega) _⟩⟩
      case measure => simp [intOf]
    · simp only [if_pos (by decide : (0 : Nat) < 1), Nat.lt_irrefl, if_false] at c30 c31 H3
      go_wp2
      go_roundw
      case rel => exact ⟨2, by go_num, by decide, ⟨blk_far H1.out (by simp; omega) _⟩, ⟨blk_far H2.out (by simp) _⟩, ⟨blk_put (cs := #[.int .i64 x, .int .i64 0]) H3.out 1 _ rfl⟩, ⟨HB.out.setCell (by simp; omega) _⟩⟩
      case measure => simp [intOf]
    · simp only [if_pos (by decide : (0 : Nat) < 2), if_pos (by decide : (1 : Nat) < 2)] at c30 c31 H3
      go_wp2
      refine bodyPost_ret (results_cell_row rfl _ _ (w.heap.size + 1) 83 #[.int .i64 x, .int .i64 y] (0, 0) _ rfl (by refine blk_put (cs := #[.int .i64 x, .int .i64 0]) ?_ 1 _ rfl; exact blk_put (cs := #[.int .i64 0, .int .i64 0]) H2.out 0 _ rfl) Try.underlying83 rfl (by kernel_rfl)) rfl ?_
      exact ⟨rfl, (HB.out.setCell (by simp) _).setCell (by simp) _⟩

theorem infoPr : (Try.prog.info? 83).map (fun i => (i.zero, i.size, i.bytes)) = some (some (.agg #[.int .i64 0, .int .i64 0]), 2, 16) := by kernel_rfl
theorem run_makeP (n : Nat) (hn : n ≤ 1048576) (W : World) : (Instr.makeSlice 43 (.int .i64 (n : Int)) (.int .i64 (n : Int))).run Try.prog W = .ok (.slice (some ⟨W.heap.size, 0, none⟩) n n) (W.alloc (.cells (madeCells #[.int .i64 0, .int .i64 0] (n * 2)) 83)) := by
  obtain ⟨i0, hi, hzz⟩ := Option.map_eq_some_iff.1 infoPr
  simp only [Prod.mk.injEq] at hzz
  obtain ⟨hz0, hz1, hz2⟩ := hzz
  have h := run_make (P := Try.prog) (w := W) 43 83 i0 _ Try.underlying43 hi hz0 .i64 .i64 (n : Int) (n : Int) (by omega) (by omega) (by rw [hz2]; omega) (by omega)
  rw [hz1] at h
  simpa [Value.cells] using h
theorem made_zero (m : Nat) : (madeCells #[Value.int .i64 0, .int .i64 0] m).toList = (List.replicate m (0 : Int)).map (Value.int .i64) := by
  apply List.ext_getElem
  · simp [madeCells]
  · intro i h1 h2
    simp only [madeCells, List.map_replicate, List.getElem_replicate]
    simp
    have : i % 2 = 0 ∨ i % 2 = 1 := by omega
    rcases this with h | h <;> rw [h] <;> rfl
theorem rowP_made (W : World) (n : Nat) (hn : n ≤ 1048576) : RowP W.heap.size (W.alloc (.cells (madeCells #[.int .i64 0, .int .i64 0] (n * 2)) 83)) (.slice (some ⟨W.heap.size, 0, none⟩) n n) n (List.replicate (n * 2) 0) := by
  have h := World.ownsRow_lit (base := W.heap.size) (e := 83) (size := 2) W (madeCells #[.int .i64 0, .int .i64 0] (n * 2)) n (Nat.le_refl _) (by simp [maxLen]; omega) (by simp [size_madeCells])
  rw [made_zero] at h
  exact h
section
variable {P : Program} {ops : Array Oper} {rest : List Oper} {o : Oper} {a : Act} {Q : Exit → Act → World → Prop}
theorem row_at {W : World} {b g n cap : Nat} {xs : List Int} (HO : RowP b W (.slice (some ⟨g, 0, none⟩) n cap) n xs) {i : Nat} (hi : i < xs.length) : W.cell? ⟨g, i, none⟩ = some (.int .i64 xs[i]) ∧ W.frozen? ⟨g, i, none⟩ = false := by
  constructor
  · have hc := World.ownsRow.cells HO (g := g) rfl i (.int .i64 xs[i]) (by rw [List.getElem?_map, List.getElem?_eq_getElem hi]; rfl)
    rwa [add_plain] at hc
  · rcases HO.2 with ⟨h', _⟩ | ⟨g', cap', cur', h', _, hh, _⟩
    · cases h'
    · have : g = g' := by injection h' with h'; injection h' with h'; injection h' with h'
      subst this
      simp [World.frozen?, hh]
theorem row_set {W : World} {b g n cap : Nat} {xs : List Int} (HO : RowP b W (.slice (some ⟨g, 0, none⟩) n cap) n xs) (i : Nat) (x : Int) : RowP b (W.setCell ⟨g, i, none⟩ (.int .i64 x)) (.slice (some ⟨g, 0, none⟩) n cap) n (xs.set i x) ∧ W.grownBy (W.setCell ⟨g, i, none⟩ (.int .i64 x)) (some g) := by
  have hs := World.ownsRow.stored HO i (.int .i64 x)
  have he : (xs.map (Value.int .i64)).set i (.int .i64 x) = (xs.set i x).map (Value.int .i64) := by simp [List.map_set]
  rw [he] at hs
  exact hs
/-- out[i] = Pair{x, y} -/
theorem store_pair {W : World} {b g n cap : Nat} {xs : List Int} (hgd : o.guard = none) {p : Tmp} {v : Operand} (ho : o.op = .store 83 (.tmp p) v) (hN : o.dst = none)
    (i : Nat) (x y : Int) (HO : RowP b W (.slice (some ⟨g, 0, none⟩) n cap) n xs) (hi : i * 2 + 1 < xs.length) (hp : a.eval (.tmp p) = .pointer (some ⟨g, i * 2, none⟩)) (hv : a.eval v = .agg #[.int .i64 x, .int .i64 y])
    (h : ∀ w', RowP b w' (.slice (some ⟨g, 0, none⟩) n cap) n ((xs.set (i * 2) x).set (i * 2 + 1) y) → W.grownBy w' (some g) → Below b W w' → wpList Try.prog ops Q rest a w') : wpList Try.prog ops Q (o :: rest) a W := by
  have h1 := row_at HO (i := i * 2) (by omega)
  have r1 := row_set HO (i * 2) x
  have h2 := row_at r1.1 (i := i * 2 + 1) (by rw [List.length_set]; exact hi)
  have r2 := row_set r1.1 (i * 2 + 1) y
  have hg := grown_trans r1.2 r2.2
  have hge : b ≤ g := own_base HO g (by simp [Value.ownBlock])
  refine store_event (w1 := (W.setCell ⟨g, i * 2, none⟩ (.int .i64 x)).setCell ⟨g, i * 2 + 1, none⟩ (.int .i64 y)) hgd ho hN ?_ (fun w' e => h w' (by rw [e]; exact r2.1) (by rw [e]; exact hg) (by rw [e]; exact ((Below.refl _ _).setCell hge _).setCell hge _))
  obtain ⟨h1, h1f⟩ := h1
  obtain ⟨h2, h2f⟩ := h2
  generalize a.eval = ρ at hp hv ⊢
  simp [execOp, ho, hp, hv, go_sem, h1, h1f, h2, h2f]
end
theorem flat_take : ∀ (ps : List (Int × Int)) (i : Nat) (x y : Int), ps[i]? = some (x, y) → flat (ps.take (i + 1)) = flat (ps.take i) ++ [x, y]
  | [], i, x, y, h => by simp at h
  | q :: r, 0, x, y, h => by simp at h; subst h; simp [flat]
  | q :: r, i + 1, x, y, h => by
    have := flat_take r i x y (by simpa using h)
    simp only [List.take_succ_cons, flat, List.cons_append, this]
theorem flat_put {ps : List (Int × Int)} {i : Nat} {x y : Int} (h : ps[i]? = some (x, y)) : ((flat (ps.take i) ++ List.replicate ((ps.length - i) * 2) 0).set (i * 2) x).set (i * 2 + 1) y = flat (ps.take (i + 1)) ++ List.replicate ((ps.length - (i + 1)) * 2) 0 := by
  have hlt := (List.getElem?_eq_some_iff.1 h).1
  have hl : (flat (ps.take i)).length = i * 2 := by rw [flat_len, List.length_take, Nat.min_eq_left (by omega)]
  rw [show (ps.length - i) * 2 = (ps.length - (i + 1)) * 2 + 1 + 1 by omega, List.replicate_succ, List.replicate_succ]
  rw [List.set_append_right _ _ (by omega), hl, Nat.sub_self, List.set_cons_zero]
  rw [List.set_append_right _ _ (by omega), hl, show i * 2 + 1 - i * 2 = 1 by omega, List.set_cons_succ, List.set_cons_zero]
  rw [flat_take ps i x y h, List.append_assoc]
  rfl

set_option maxRecDepth 100000 in
set_option maxHeartbeats 2000000 in
theorem toPairS (v : Value) (ps : List (Int × Int)) (w : World) (hv : ReadA w v ps) (hl : ps.length ≤ 1048576) :
    Calls Try.prog 32 #[v] w fun e w' => ∃ u, e = .returned u ∧ OwnP w.heap.size w' u ps ∧ Below w.heap.size w w' := by
  have HV := Aside0.mk hv
  obtain ⟨A, d, rfl, -⟩ := id hv
  obtain ⟨n, hn⟩ : ∃ n, n = ps.length := ⟨_, rfl⟩
  obtain ⟨w1, hw1⟩ : ∃ w1, w1 = w.alloc (.cells (madeCells #[.int .i64 0, .int .i64 0] (n * 2)) 83) := ⟨_, rfl⟩
  have HB1 : Aside0 (Below w.heap.size w w1) := ⟨by rw [hw1]; exact Below.alloc (Below.refl _ _) (Nat.le_refl _) _⟩
  have HR1 : Aside0 (RowP w.heap.size w1 (.slice (some ⟨w.heap.size, 0, none⟩) n n) n (List.replicate (n * 2) 0)) := ⟨by rw [hw1]; exact rowP_made w n (by omega)⟩
  have hmk := run_makeP n (by omega)
  rw [← hn] at hl ⊢
  have HN := Aside0.mk hn
  clear hv hn
  go_enter Try.func32, Try.ntmps32
  go_wp2
  rw [← hw1]
  clear hw1
  go_loopw [4] (fun s4 wr => ∃ i : Nat, s4 = .int .i64 i ∧ i ≤ n ∧ Aside0 (RowP w.heap.size wr (.slice (some ⟨w.heap.size, 0, none⟩) n n) n (flat (ps.take i) ++ List.replicate ((ps.length - i) * 2) 0)) ∧ Aside0 (Below w.heap.size w wr)) (fun s4 _ => n - (intOf s4).toNat)
  case atStart => exact ⟨0, rfl, Nat.zero_le _, ⟨by rw [← HN.out]; simpa [flat] using HR1.out⟩, HB1⟩
  case round =>
    obtain ⟨i, rfl, hi, HR, HB⟩ := hrel
    by_cases hlt : i < n
    · obtain ⟨g, o, x, y, rfl, hxy, hc0, hc1⟩ := ReadA.get (HV.out.below HB.out) (i := i) (by rw [← HN.out]; exact hlt)
      have hiI : (i : Int) < (n : Int) := by omega
      have HX := Aside0.mk hxy
      have HP := Aside0.mk (flat_put hxy)
      have HLN : Aside0 (i * 2 + 1 < (flat (ps.take i) ++ List.replicate ((ps.length - i) * 2) 0).length) := ⟨by rw [List.length_append, List.length_replicate, flat_len, List.length_take]; have := HN.out; omega⟩
      clear hxy
      go_wp2_with (first | (go_at_call 69; refine (toPair x y _).mono ?_; rintro e w5 ⟨rfl, hb⟩; have HR5 : Aside0 (RowP w.heap.size w5 (.slice (some ⟨w.heap.size, 0, none⟩) n n) n (flat (ps.take i) ++ List.replicate ((ps.length - i) * 2) 0)) := ⟨own_move HR.out (fun k hk => hb.block k (own_lt HR.out k hk))⟩; have HB5 := Aside0.mk (HB.out.trans (hb.mono HB.out.size)); clear hb) | ((with_reducible refine gate_store (t := 83) (p := 21) rfl ?_); refine store_pair rfl (p := 21) rfl rfl i x y HR5.out HLN.out rfl rfl ?_; intro w6 ho6 hg6 hb6; have HR6 := Aside0.mk ho6; have HB6 := Aside0.mk (HB5.out.trans hb6); clear ho6 hg6 hb6))
      go_roundw
      case rel => exact ⟨i + 1, by go_num, by omega, ⟨by rw [← HP.out]; exact HR6.out⟩, HB6⟩
      case measure => simp [intOf]; omega
    · have e : i = n := by omega
      have HE := Aside0.mk e
      clear e
      go_wp2
      go_ret
      refine ⟨_, rfl, ?_, HB.out⟩
      have h1 := HR.out
      rw [HE.out, HN.out, Nat.sub_self, Nat.zero_mul, List.take_length] at h1
      rw [HN.out]
      unfold OwnP
      simpa [RowP] using h1
end Go.Proofs.Ytcbkchnfjeegmaa.H

namespace Go.Proofs.Ytcbkchnfjeegmaa.H
open Go.RowKit Go.Proofs.YtcbkchnfjeegmaaW.PrintWords Go.Proofs.YtcbkchnfjeegmaaW.PrintLast Go.Proofs.YtcbkchnfjeegmaaW.PrintMore
set_option linter.unusedVariables false
set_option linter.unusedSimpArgs false

/-- what is left of a size, a desk taken off -/
def deskSz (left : Int) (n m : Nat) : Int := if left - n < 0 then -1 else if left - n - m < 0 then -1 else left - n - m

set_option maxRecDepth 100000 in
set_option maxHeartbeats 1000000 in
theorem szDesk (a : Int) (u : Value) (l : List Int) (x : Value) (ps : List (Int × Int)) (left : Int) (w : World) (hr : ReadI w u l) (hx : ReadA w x ps) (h0 : 0 ≤ left) (h1 : left ≤ 1048576) :
    Calls Try.prog 25 #[.agg #[.int .i64 a, u, x], .int .i64 left] w fun e w' => e = .returned (.int .i64 (deskSz left l.length ps.length)) ∧ Below w.heap.size w w' := by
  obtain ⟨w1, hw1⟩ : ∃ w1, w1 = w.alloc (.cells #[.int .i64 a, u, x] 40) := ⟨_, rfl⟩
  have hB : Below w.heap.size w w1 := by rw [hw1]; exact Below.alloc (Below.refl _ _) (Nat.le_refl _) _
  have c0 : w1.cell? ⟨w.heap.size, 0, none⟩ = some (.int .i64 a) := by rw [hw1]; simp
  have c1 : w1.cell? ⟨w.heap.size, 1, none⟩ = some u := by rw [hw1]; simp
  have c2 : w1.cell? ⟨w.heap.size, 2, none⟩ = some x := by rw [hw1]; simp
  have HB := Aside0.mk hB
  have HR := Aside0.mk (hr.below hB)
  have hll := hr.len
  obtain ⟨A, c, rfl, -⟩ := id hr
  obtain ⟨A2, c2', rfl, hl2, -⟩ := id hx
  clear hr hx hB
  by_cases h : left - l.length < 0
  · have HA : Aside0 (deskSz left l.length ps.length = -1) := ⟨by unfold deskSz; rw [if_pos h]⟩
    have HS : Aside0 (szAns left l.length = -1) := ⟨by unfold szAns; rw [if_pos h]⟩
    clear h
    go_enter Try.func25, Try.ntmps25
    go_wp2_with (first | (go_at_call 13; rw [← hw1]; clear hw1; refine (szComplex _ _ l _ _ HR.out h0 h1).mono ?_; rintro e w2 ⟨rfl, hb⟩; rw [HS.out]; have HB2 := Aside0.mk hb; clear hb))
    go_ret
    exact ⟨by rw [HA.out]; rfl, HB.out.trans (HB2.out.mono HB.out.size)⟩
  · have HS : Aside0 (szAns left l.length = left - l.length) := ⟨by unfold szAns; rw [if_neg h]⟩
    by_cases h2 : left - l.length - ps.length < 0
    · have HA : Aside0 (deskSz left l.length ps.length = -1) := ⟨by unfold deskSz; rw [if_neg h, if_pos h2]⟩
      have HS2 : Aside0 (szAns (left - l.length) ps.length = -1) := ⟨by unfold szAns; rw [if_pos h2]⟩
      go_enter Try.func25, Try.ntmps25
      go_wp2_with (first | (go_at_call 13; rw [← hw1]; clear hw1; refine (szComplex _ _ l _ _ HR.out h0 h1).mono ?_; rintro e w2 ⟨rfl, hb⟩; rw [HS.out]; have HB2 := Aside0.mk hb; replace c2 := pw_cell_below hb c2; clear hb) | (go_at_call 30; refine (szPairS _ _ _ _ _ (by omega) (by omega) hl2).mono ?_; rintro e w3 ⟨rfl, hb⟩; rw [HS2.out]; have HB3 := Aside0.mk (HB2.out.trans (hb.mono HB2.out.size)); clear hb))
      go_ret
      exact ⟨by rw [HA.out]; rfl, HB.out.trans (HB3.out.mono HB.out.size)⟩
    · have HA : Aside0 (deskSz left l.length ps.length = left - l.length - ps.length) := ⟨by unfold deskSz; rw [if_neg h, if_neg h2]⟩
      have HS2 : Aside0 (szAns (left - l.length) ps.length = left - l.length - ps.length) := ⟨by unfold szAns; rw [if_neg h2]⟩
      go_enter Try.func25, Try.ntmps25
      go_wp2_with (first | (go_at_call 13; rw [← hw1]; clear hw1; refine (szComplex _ _ l _ _ HR.out h0 h1).mono ?_; rintro e w2 ⟨rfl, hb⟩; rw [HS.out]; have HB2 := Aside0.mk hb; replace c2 := pw_cell_below hb c2; clear hb) | (go_at_call 30; refine (szPairS _ _ _ _ _ (by omega) (by omega) hl2).mono ?_; rintro e w3 ⟨rfl, hb⟩; rw [HS2.out]; have HB3 := Aside0.mk (HB2.out.trans (hb.mono HB2.out.size)); clear hb))
      go_ret
      exact ⟨by rw [HA.out]; rfl, HB.out.trans (HB3.out.mono HB.out.size)⟩

set_option maxRecDepth 100000 in
set_option maxHeartbeats 2000000 in
theorem toDesk (a : Int) (u : Value) (l : List Int) (x : Value) (ps : List (Int × Int)) (w : World) (hr : ReadI w u l) (hx : ReadA w x ps) (hl : l.length ≤ 1048576) (hp : ps.length ≤ 1048576) :
    Calls Try.prog 27 #[.agg #[.int .i64 a, u, x]] w fun e w' => ∃ u' x', e = .returned (.agg #[.int .i64 a, u', x']) ∧ OwnI w.heap.size w' u' l ∧ OwnP w.heap.size w' x' ps ∧ Below w.heap.size w w' := by
  have HR := Aside0.mk hr
  have HX := Aside0.mk hx
  obtain ⟨A, c, rfl, -⟩ := id hr
  obtain ⟨A2, c2, rfl, -⟩ := id hx
  clear hr hx
  obtain ⟨w0, hw0⟩ : ∃ w0, w0 = ((w.alloc (.cells #[.int .i64 a, .slice A l.length c, .slice A2 ps.length c2] 40)).alloc (.cells #[.int .i64 0, .slice none 0 0, .slice none 0 0] 45)).alloc (.cells #[.int .i64 0, .slice none 0 0, .slice none 0 0] 45) := ⟨_, rfl⟩
  have hs0 : w0.heap.size = w.heap.size + 1 + 1 + 1 := by rw [hw0]; simp
  have hb1 : w0.heap[w.heap.size]? = some (.cells #[.int .i64 a, .slice A l.length c, .slice A2 ps.length c2] 40) := by
    rw [hw0, (World.grownBy_alloc _ _ none).block _ (by simp; omega) (by simp), (World.grownBy_alloc _ _ none).block _ (by simp) (by simp)]
    exact heap_alloc_new w _
  have hb2 : w0.heap[w.heap.size + 1]? = some (.cells #[.int .i64 0, .slice none 0 0, .slice none 0 0] 45) := by
    rw [hw0, (World.grownBy_alloc _ _ none).block _ (by simp) (by simp)]
    have := heap_alloc_new (w.alloc (.cells #[.int .i64 a, .slice A l.length c, .slice A2 ps.length c2] 40)) (.cells #[.int .i64 0, .slice none 0 0, .slice none 0 0] 45)
    rwa [World.size_alloc] at this
  have hb3 : w0.heap[w.heap.size + 1 + 1]? = some (.cells #[.int .i64 0, .slice none 0 0, .slice none 0 0] 45) := by
    rw [hw0]
    have := heap_alloc_new ((w.alloc (.cells #[.int .i64 a, .slice A l.length c, .slice A2 ps.length c2] 40)).alloc (.cells #[.int .i64 0, .slice none 0 0, .slice none 0 0] 45)) (.cells #[.int .i64 0, .slice none 0 0, .slice none 0 0] 45)
    rwa [World.size_alloc, World.size_alloc] at this
  have hB0 : Below w.heap.size w w0 := by rw [hw0]; exact (((Below.refl _ w).alloc (Nat.le_refl _) _).alloc (by simp) _).alloc (by simp; omega) _
  have HB0 := Aside0.mk hB0
  have c10 := blk_cell hb1 0
  have c11 := blk_cell hb1 1
  have c12 := blk_cell hb1 2
  clear hB0
  go_enter Try.func27, Try.ntmps27
  go_wp2_with (first | (rw [← hw0]; clear hw0; go_at_call 15; refine (toComplex _ _ l _ (ReadI.below HR.out HB0.out) (by omega)).mono ?_; rintro e w1 ⟨u', rfl, ho, hb⟩; obtain ⟨A', c', rfl, -⟩ := ho.read; have hk1 := (hb.block w.heap.size (by omega)).trans hb1; have hk2 := (hb.block (w.heap.size + 1) (by omega)).trans hb2; have hk3 := (hb.block (w.heap.size + 1 + 1) (by omega)).trans hb3; have k10 := blk_cell hk1 0; have k11 := blk_cell hk1 1; have k12 := blk_cell hk1 2; have k30 := blk_cell hk3 0; have k31 := blk_cell hk3 1; have k32 := blk_cell hk3 2; have f30 := blk_frozen hk3 0; have f31 := blk_frozen hk3 1; have HO := Aside0.mk (show OwnI w0.heap.size w1 (.slice A' l.length c') l from ho); have HB1 := Aside0.mk hb; have HK1 := Aside0.mk hk1; have HK2 := Aside0.mk hk2; have HK3 := Aside0.mk hk3; clear ho hb hk1 hk2 hk3 hb1 hb2 hb3 c10 c11 c12) | (go_at_call 32; generalize hw5 : World.setCell (World.setCell w1 _ _) _ _ = w5; have HG5 : Aside0 (w1.grownBy w5 (some (w.heap.size + 1 + 1))) := ⟨by rw [← hw5]; exact grown_trans (set_grown _ _ _ _) (set_grown _ _ _ _)⟩; have HK5 : Aside0 (w5.heap[w.heap.size + 1 + 1]? = some (.cells #[.int .i64 a, .slice A' l.length c', .slice none 0 0] 45)) := ⟨by rw [← hw5]; refine blk_put (cs := #[.int .i64 a, .slice none 0 0, .slice none 0 0]) ?_ 1 _ rfl; exact blk_put (cs := #[.int .i64 0, .slice none 0 0, .slice none 0 0]) HK3.out 0 _ rfl⟩; have HB5 : Aside0 (Below w.heap.size w w5) := ⟨(HB0.out.trans (HB1.out.mono (by omega))).trans (below_grown HG5.out (by omega) (by have := HB1.out.size; omega))⟩; clear hw5 k10 k11 k12 k30 k31 k32 f30 f31; refine (toPairS _ ps _ (ReadA.below HX.out HB5.out) hp).mono ?_; rintro e w6 ⟨x', rfl, hop, hb6⟩; obtain ⟨A6, c6, rfl, -⟩ := hop.read; have hk3 := blk_below HK5.out hb6; have hk2 := blk_below (blk_grown HK2.out HG5.out (by simp)) hb6; have k30 := blk_cell hk3 0; have k31 := blk_cell hk3 1; have k32 := blk_cell hk3 2; have f32 := blk_frozen hk3 2; have k20 := blk_cell hk2 0; have k21 := blk_cell hk2 1; have k22 := blk_cell hk2 2; have f20 := blk_frozen hk2 0; have f21 := blk_frozen hk2 1; have f22 := blk_frozen hk2 2; have HOP := Aside0.mk hop; have HB6 := Aside0.mk hb6; have HK62 := Aside0.mk hk2; have HK63 := Aside0.mk hk3; clear hop hb6 hk2 hk3))
  refine bodyPost_ret (results_cell_row rfl _ _ (w.heap.size + 1) 45 #[.int .i64 a, .slice A' l.length c', .slice A6 ps.length c6] (0, 0) _ rfl (by refine blk_put (cs := #[.int .i64 a, .slice A' l.length c', .slice none 0 0]) ?_ 2 _ rfl; refine blk_put (cs := #[.int .i64 a, .slice none 0 0, .slice none 0 0]) ?_ 1 _ rfl; refine blk_put (cs := #[.int .i64 0, .slice none 0 0, .slice none 0 0]) ?_ 0 _ rfl; refine blk_far HK62.out ?_ _; simp) Try.underlying45 rfl (by kernel_rfl)) rfl ?_
  have hz1 := HB1.out.size
  have hz5 := HG5.out.size
  have hz6 := HB6.out.size
  have hb := HB5.out.trans (HB6.out.mono HB5.out.size)
  refine ⟨_, _, rfl, ?_, ?_, (((hb.setCell (by simp; omega) _).setCell (by simp) _).setCell (by simp) _).setCell (by simp) _⟩
  · have hn := HO.out.base
    have hlt := HO.out.lt
    have ho := ((HO.out.grown HG5.out (fun k hk e => by have := hn k hk; injection e with e; omega)).below HB6.out).lower (b' := w.heap.size) (by omega)
    exact ((((ho.grown (set_grown _ _ _ _) (fun k hk e => by have := hn k hk; injection e with e; omega)).grown (set_grown _ _ _ _) (fun k hk e => by have := hn k hk; injection e with e; omega)).grown (set_grown _ _ _ _) (fun k hk e => by have := hn k hk; injection e with e; omega)).grown (set_grown _ _ _ _) (fun k hk e => by have := hn k hk; injection e with e; omega))
  · have hn := HOP.out.base
    have ho := HOP.out.lower (b' := w.heap.size) (by omega)
    exact ((((ho.grown (set_grown _ _ _ _) (fun k hk e => by have := hn k hk; injection e with e; omega)).grown (set_grown _ _ _ _) (fun k hk e => by have := hn k hk; injection e with e; omega)).grown (set_grown _ _ _ _) (fun k hk e => by have := hn k hk; injection e with e; omega)).grown (set_grown _ _ _ _) (fun k hk e => by have := hn k hk; injection e with e; omega))

set_option maxRecDepth 100000 in
set_option maxHeartbeats 1000000 in
theorem eqDesk (a : Int) (u u' : Value) (l : List Int) (x x' : Value) (ps : List (Int × Int)) (w : World) (hu : ReadI w u l) (hu' : ReadI w u' l) (hx : ReadP w x ps) (hx' : ReadP w x' ps) :
    Calls Try.prog 29 #[.agg #[.int .i64 a, u, x], .agg #[.int .i64 a, u', x']] w fun e w' => e = .returned (.bool true) ∧ Below w.heap.size w w' := by
  obtain ⟨wb, hwb⟩ : ∃ wb, wb = w.alloc (.cells #[.int .i64 a, u, x] 45) := ⟨_, rfl⟩
  obtain ⟨w1, hw1⟩ : ∃ w1, w1 = wb.alloc (.cells #[.int .i64 a, u', x'] 45) := ⟨_, rfl⟩
  have hsb : wb.heap.size = w.heap.size + 1 := by rw [hwb]; simp
  have hBb : Below w.heap.size w wb := by rw [hwb]; exact Below.alloc (Below.refl _ _) (Nat.le_refl _) _
  have hB1 : Below wb.heap.size wb w1 := by rw [hw1]; exact Below.alloc (Below.refl _ _) (Nat.le_refl _) _
  have hB : Below w.heap.size w w1 := hBb.trans (hB1.mono hBb.size)
  have c2 : w1.cell? ⟨w.heap.size, 2, none⟩ = some x := pw_cell_below hB1 (by rw [hwb]; simp)
  have d2 : w1.cell? ⟨w.heap.size + 1, 2, none⟩ = some x' := by rw [hw1, ← hsb]; exact new_cell _ _ _ 2 _ rfl
  have HB := Aside0.mk hB
  have HM := Aside0.mk (eqComplex a a u u' l l w1 (hu.below hB) (hu'.below hB))
  rw [decide_eq_true rfl, beq_self_eq_true, Bool.and_self] at HM
  have HP := Aside0.mk (fun W (h : Below w1.heap.size w1 W) => eqPairS x x' ps W ((hx.below hB).below h) ((hx'.below hB).below h))
  obtain ⟨A1, e1, rfl, -⟩ := id hu
  obtain ⟨A2, e2, rfl, -⟩ := id hu'
  obtain ⟨A3, e3, rfl, -⟩ := id hx
  obtain ⟨A4, e4, rfl, -⟩ := id hx'
  have y0 : wb.cell? ⟨w.heap.size, 0, none⟩ = some (.int .i64 a) := by rw [hwb]; simp
  have y1 : wb.cell? ⟨w.heap.size, 1, none⟩ = some (.slice A1 l.length e1) := by rw [hwb]; simp
  subst hwb
  clear hu hu' hx hx' hBb hB1 hB
  go_enter Try.func29, Try.ntmps29
  go_wp2_with (first | (go_at_call 19; rw [← hw1]; clear hw1; refine HM.out.mono ?_; rintro e w2 ⟨rfl, hb⟩; replace c2 := pw_cell_below hb c2; replace d2 := pw_cell_below hb d2; have HB2 := Aside0.mk hb; clear hb) | (go_at_call 34; refine (HP.out _ HB2.out).mono ?_; rintro e w3 ⟨rfl, hb⟩; have HB3 := Aside0.mk (HB2.out.trans (hb.mono HB2.out.size)); clear hb))
  go_ret
  exact ⟨rfl, HB.out.trans (HB3.out.mono HB.out.size)⟩
end Go.Proofs.Ytcbkchnfjeegmaa.H

namespace Go.Proofs.Ytcbkchnfjeegmaa.H
open Go.RowKit Go.Proofs.YtcbkchnfjeegmaaW.PrintWords Go.Proofs.YtcbkchnfjeegmaaW.PrintLast Go.Proofs.YtcbkchnfjeegmaaW.PrintMore
set_option linter.unusedVariables false
set_option linter.unusedSimpArgs false

set_option maxRecDepth 1000000 in
set_option maxHeartbeats 4000000 in
theorem lawFnExactIsDesk (w : World) (a0 : Int) (ga0 : W64 a0) (u0 : Value) (l0 : List Int) (h0 : ReadI w u0 l0) (g0 : ∀ x ∈ l0, W64 x) (x0 : Value) (m0 : List (Int × Int)) (f0 : ReadA w x0 m0) (j0 : True) :
    Calls Try.prog 5 #[.agg #[.int .i64 a0, u0, x0]] w fun e w' => e = .returned (.bool true) ∧ Below w.heap.size w w' := by
  obtain ⟨w1, hw1⟩ : ∃ w1, w1 = w.alloc (.cells #[.int .i64 a0, u0, x0] 40) := ⟨_, rfl⟩
  have hB : Below w.heap.size w w1 := by rw [hw1]; exact Below.alloc (Below.refl _ _) (Nat.le_refl _) _
  have c0 : w1.cell? ⟨w.heap.size, 0, none⟩ = some (.int .i64 a0) := by rw [hw1]; simp
  have c1 : w1.cell? ⟨w.heap.size, 1, none⟩ = some u0 := by rw [hw1]; simp
  have c2 : w1.cell? ⟨w.heap.size, 2, none⟩ = some x0 := by rw [hw1]; simp
  have HB0 := Aside0.mk hB
  have H0 := Aside0.mk (h0.below hB)
  have HP0 := Aside0.mk (f0.below hB)
  obtain ⟨A1, d1, rfl, -⟩ := id h0
  obtain ⟨A2, d2, rfl, hl2, -⟩ := id f0
  clear hB h0 f0 ga0 g0 j0
  obtain ⟨z, hz⟩ : ∃ z, z = deskSz 1048576 l0.length m0.length := ⟨_, rfl⟩
  have HZ := Aside0.mk hz
  by_cases q0 : l0.length + m0.length ≤ 1048576
  · have hz0 : z = 1048576 - l0.length - m0.length := by rw [hz]; unfold deskSz; rw [if_neg (by omega), if_neg (by omega)]
    have hzz : 0 ≤ z := by omega
    obtain ⟨r, hr⟩ : ∃ r, r = deskOk a0 l0 m0 := ⟨_, rfl⟩
    have HR := Aside0.mk hr
    have hmx : Try.prog.follows .mixedOrders = true := by kernel_rfl
    clear hz hz0 hr
    go_enter Try.func5, Try.ntmps5
    go_wp2_with (first | (go_at_call 25; rw [← hw1]; clear hw1; refine (szDesk a0 _ l0 _ m0 _ _ H0.out HP0.out (by omega) (by omega)).mono ?_; rintro e w2 ⟨rfl, hb⟩; rw [← HZ.out]; replace c0 := pw_cell_below hb c0; replace c1 := pw_cell_below hb c1; replace c2 := pw_cell_below hb c2; have HB2 := Aside0.mk hb; clear hb) | (go_at_call 27; refine Aside0.out ?_))
    refine Aside0.mk ?_
    refine (toDesk a0 _ l0 _ m0 _ (H0.out.below HB2.out) (HP0.out.below HB2.out) (by omega) (by omega)).mono ?_
    rintro e w3 ⟨u3, x3, rfl, ho, hp, hb⟩
    obtain ⟨A3, d3, rfl, -⟩ := ho.read
    obtain ⟨A4, d4, rfl, -⟩ := hp.read
    have HO3 := Aside0.mk ho
    have HP3 := Aside0.mk hp
    replace c0 := pw_cell_below hb c0
    replace c1 := pw_cell_below hb c1
    replace c2 := pw_cell_below hb c2
    have HB3 := Aside0.mk (HB2.out.trans (hb.mono HB2.out.size))
    clear ho hp hb
    go_wp2_with (first | (go_at_call 26; refine (specIsDesk a0 _ l0 _ m0 _ HO3.out.read HP3.out.read).mono ?_; rintro e w4 ⟨rfl, hb⟩; rw [← HR.out]; replace c0 := pw_cell_below hb c0; replace c1 := pw_cell_below hb c1; replace c2 := pw_cell_below hb c2; have HB4 := Aside0.mk (HB3.out.trans (hb.mono HB3.out.size)); clear hb) | (go_at_call 27; refine Aside0.out ?_))
    refine Aside0.mk ?_
    refine (toDesk a0 _ l0 _ m0 _ (H0.out.below HB4.out) (HP0.out.below HB4.out) (by omega) (by omega)).mono ?_
    rintro e w5 ⟨u5, x5, rfl, ho, hp, hb⟩
    obtain ⟨A5, d5, rfl, -⟩ := ho.read
    obtain ⟨A6, d6, rfl, -⟩ := hp.read
    have HB5 := Aside0.mk (HB4.out.trans (hb.mono HB4.out.size))
    obtain ⟨w6, hw6⟩ : ∃ w6, w6 = w5.alloc (.cells #[.int .i64 a0, .slice A5 l0.length d5, .slice A6 m0.length d6] 45) := ⟨_, rfl⟩
    have hb6 : Below w5.heap.size w5 w6 := by rw [hw6]; exact Below.alloc (Below.refl _ _) (Nat.le_refl _) _
    have hk6 : w6.heap[w5.heap.size]? = some (.cells #[.int .i64 a0, .slice A5 l0.length d5, .slice A6 m0.length d6] 45) := by rw [hw6]; exact blk_new w5 _
    have k0 := blk_cell hk6 0
    have k1 := blk_cell hk6 1
    have k2 := blk_cell hk6 2
    replace c0 := pw_cell_below hb6 (pw_cell_below hb c0)
    replace c1 := pw_cell_below hb6 (pw_cell_below hb c1)
    replace c2 := pw_cell_below hb6 (pw_cell_below hb c2)
    have HO6 := Aside0.mk (OwnI.below ho hb6)
    have HP6 := Aside0.mk (OwnP.below hp hb6)
    have HB6 := Aside0.mk (HB5.out.trans (hb6.mono HB5.out.size))
    clear ho hp hb hb6 hk6
    go_wp2_with (first | (go_at_call 28; rw [← hw6]; clear hw6; refine (isDesk a0 _ l0 _ m0 _ HO6.out.read HP6.out.read).mono ?_; rintro e w7 ⟨rfl, hb⟩; rw [← HR.out]; replace c0 := pw_cell_below hb c0; replace c1 := pw_cell_below hb c1; replace c2 := pw_cell_below hb c2; replace k0 := pw_cell_below hb k0; replace k1 := pw_cell_below hb k1; replace k2 := pw_cell_below hb k2; have HO7 := Aside0.mk (OwnI.below HO6.out hb); have HP7 := Aside0.mk (OwnP.below HP6.out hb); have HB7 := Aside0.mk (HB6.out.trans (hb.mono HB6.out.size)); clear hb) | fail)
    have HB8 := HB7
    refine wp_region_g Bl (fun w => (Below.refl _ w).drew) (fun _ _ _ => Bl.trans) (fun i => match i with | 0 => fun v _ => v = .agg #[.int .i64 a0, .slice A5 l0.length d5, .slice A6 m0.length d6] | 1 => fun v _ => v = .agg #[.int .i64 a0, .slice A1 l0.length d1, .slice A2 m0.length d2] | 2 => fun v W => ∃ u x, v = .agg #[.int .i64 a0, u, x] ∧ OwnI 0 W u l0 ∧ OwnP 0 W x m0 | 3 => fun v _ => v = .bool true | 4 => fun v _ => v = .bool false | _ => fun _ _ => True)
      [0, 0, 2, 7, 15] hmx (by kernel_rfl) ?st ?steps ?rest
    case st =>
      intro i v w1_ w2_ hb
      match i with
      | 0 | 1 | 3 | 4 => exact id
      | 2 => exact fun ⟨u, x, e, h, k⟩ => ⟨u, x, e, h.below hb, k.below hb⟩
      | n + 5 => exact id
    case steps =>
      refine ⟨?_, ?_, ?_, ?_, ?_, trivial⟩
      · intro s w_ hb hd hq R hR
        generalize hA : putAll _ 0 s _ = A
        clear hq
        have k0_ := pw_cell_below hb k0
        have k1_ := pw_cell_below hb k1
        have k2_ := pw_cell_below hb k2
        have hR' := hR (.agg #[.int .i64 a0, .slice A5 l0.length d5, .slice A6 m0.length d6]) _ (Below.refl _ _) rfl
        clear hR hd
        refine opGives_value ?_ hR'
        subst hA
        simp only [dsOf, List.map_cons, List.map_nil, Option.getD_some, putAll, Act.put, List.setIfInBounds_toArray, List.set_cons_zero, List.set_cons_succ]
        go_simp
      · intro s w_ hb hd hq R hR
        generalize hA : putAll _ 0 s _ = A
        clear hq
        have c0_ := pw_cell_below hb c0
        have c1_ := pw_cell_below hb c1
        have c2_ := pw_cell_below hb c2
        have hR' := hR (.agg #[.int .i64 a0, .slice A1 l0.length d1, .slice A2 m0.length d2]) _ (Below.refl _ _) rfl
        clear hR hd
        refine opGives_value ?_ hR'
        subst hA
        simp only [dsOf, List.map_cons, List.map_nil, Option.getD_some, putAll, Act.put, List.setIfInBounds_toArray, List.set_cons_zero, List.set_cons_succ]
        go_simp
      · intro s w_ hb hd hq R hR
        generalize hA : putAll _ 0 s _ = A
        have e1 : s 1 = _ := hd 1 (by kernel_rfl)
        clear hq
        refine opGives_call (f := 27) (args := #[.agg #[.int .i64 a0, .slice A1 l0.length d1, .slice A2 m0.length d2]]) ?_ ?_
        · subst hA
          clear hR hd
          simp only [dsOf, List.map_cons, List.map_nil, Option.getD_some, putAll, Act.put, List.setIfInBounds_toArray, List.set_cons_zero, List.set_cons_succ]
          go_simp
        clear hA A hd
        refine (toDesk a0 _ l0 _ m0 _ (H0.out.below (HB8.out.trans (hb.mono HB8.out.size))) (HP0.out.below (HB8.out.trans (hb.mono HB8.out.size))) (by omega) (by omega)).mono ?_
        rintro e w3_ ⟨u, x, rfl, ho, hop, hb3⟩
        exact ⟨_, rfl, hR _ _ hb3 ⟨u, x, rfl, OwnI.lower ho (Nat.zero_le _), OwnP.lower hop (Nat.zero_le _)⟩⟩
      · intro s w_ hb hd hq R hR
        generalize hA : putAll _ 0 s _ = A
        have e0 : s 0 = _ := hd 0 (by kernel_rfl)
        obtain ⟨u2_, x2_, e2, hu2_, hx2_⟩ : ∃ u x, s 2 = .agg #[.int .i64 a0, u, x] ∧ OwnI 0 w_ u l0 ∧ OwnP 0 w_ x m0 := hd 2 (by kernel_rfl)
        clear hq
        refine opGives_call (f := 29) (args := #[.agg #[.int .i64 a0, .slice A5 l0.length d5, .slice A6 m0.length d6], .agg #[.int .i64 a0, u2_, x2_]]) ?_ ?_
        · subst hA
          clear hR hd
          simp only [dsOf, List.map_cons, List.map_nil, Option.getD_some, putAll, Act.put, List.setIfInBounds_toArray, List.set_cons_zero, List.set_cons_succ]
          go_simp
        clear hA A hd
        refine (eqDesk a0 _ _ l0 _ _ m0 _ (ReadI.below HO7.out.read hb) hu2_.read (ReadP.below HP7.out.read hb) hx2_.read).mono ?_
        rintro e w3_ ⟨rfl, hb3⟩
        exact ⟨_, rfl, hR _ _ hb3 rfl⟩
      · intro s w_ hb hd hq R hR
        generalize hA : putAll _ 0 s _ = A
        have e3 : s 3 = _ := hd 3 (by kernel_rfl)
        clear hq
        have hR' := hR (.bool false) _ (Below.refl _ _) rfl
        clear hR hd
        refine opGives_value ?_ hR'
        subst hA
        simp only [dsOf, List.map_cons, List.map_nil, Option.getD_some, putAll, Act.put, List.setIfInBounds_toArray, List.set_cons_zero, List.set_cons_succ]
        go_simp
    case rest =>
      intro s9 w9 hb hv
      have e4_ : s9 4 = _ := hv 4 (by decide)
      simp only [dsOf, List.map_cons, List.map_nil, Option.getD_some, putAll, Act.put, List.setIfInBounds_toArray, List.set_cons_zero, List.set_cons_succ]
      rw [e4_]
      clear hv e4_
      go_wp2
      go_ret
      exact ⟨rfl, HB0.out.trans ((HB8.out.trans (Below.mono hb HB8.out.size)).mono HB0.out.size)⟩
  · have hzz : z = -1 := by
      rw [hz]; unfold deskSz
      by_cases h : (1048576 : Int) - l0.length < 0
      · rw [if_pos h]
      · rw [if_neg h, if_pos (by omega)]
    rw [hzz] at HZ
    clear hz hzz
    go_enter Try.func5, Try.ntmps5
    go_wp2_with (first | (go_at_call 25; rw [← hw1]; clear hw1; refine (szDesk a0 _ l0 _ m0 _ _ H0.out HP0.out (by omega) (by omega)).mono ?_; rintro e w2 ⟨rfl, hb⟩; rw [← HZ.out]; have HB2 := Aside0.mk hb; clear hb))
    go_ret
    exact ⟨rfl, HB0.out.trans (HB2.out.mono HB0.out.size)⟩
end Go.Proofs.Ytcbkchnfjeegmaa.H
