/- Rows of pairs: what is said of them; the laws' eqPairS. -/
import Derived.Test.YtllmbbaffhpheaaLaws
import Derived.Test.YtllmbbaffhpheaaLawB
namespace Go.Proofs.Ytllmbbaffhpheaa.H
open Go.RowKit Go.Proofs.YtllmbbaffhpheaaW.PrintWords Go.Proofs.YtllmbbaffhpheaaW.PrintLast Go.Proofs.YtllmbbaffhpheaaW.PrintMore
set_option linter.unusedVariables false
set_option linter.unusedSimpArgs false

/-- the cells of pairs -/
def flat : List (Int × Int) → List Int
  | [] => []
  | p :: r => p.1 :: p.2 :: flat r
theorem flat_len : ∀ ps : List (Int × Int), (flat ps).length = ps.length * 2
  | [] => rfl
  | p :: r => by simp only [flat, List.length_cons, flat_len r]; omega
theorem flat_snoc : ∀ (ps : List (Int × Int)) (p : Int × Int), flat (ps ++ [p]) = flat ps ++ [p.1, p.2]
  | [], p => rfl
  | q :: r, p => by simp only [List.cons_append, flat, flat_snoc r p]
theorem flat_get : ∀ (ps : List (Int × Int)) (i : Nat) (p : Int × Int), ps[i]? = some p → (flat ps)[i * 2]? = some p.1 ∧ (flat ps)[i * 2 + 1]? = some p.2
  | [], i, p, h => by simp at h
  | q :: r, 0, p, h => by simp at h; subst h; simp [flat]
  | q :: r, i + 1, p, h => by
    have := flat_get r i p (by simpa using h)
    rw [show (i + 1) * 2 = i * 2 + 1 + 1 by omega]
    simp only [flat, List.getElem?_cons_succ]
    exact this
/-- v is a slice that reads these pairs -/
def ReadP (w : World) (v : Value) (ps : List (Int × Int)) : Prop := ∃ A c, v = .slice A ps.length c ∧ ps.length ≤ 9223372036854775807 ∧ (0 < ps.length → ∃ g, A = some ⟨g, 0, none⟩ ∧ ∀ j x, (flat ps)[j]? = some x → w.cell? ⟨g, j, none⟩ = some (.int .i64 x))
/-- v is a slice of pairs of the call's own -/
def OwnP (b : Nat) (w : World) (v : Value) (ps : List (Int × Int)) : Prop := w.ownsRow b 76 2 v ps.length ((flat ps).map (Value.int .i64))
theorem ReadP.below {w w' : World} {v : Value} {ps : List (Int × Int)} (h : ReadP w v ps) (hb : Below w.heap.size w w') : ReadP w' v ps := by
  obtain ⟨A, c, rfl, hl, hr⟩ := h
  refine ⟨A, c, rfl, hl, fun h0 => ?_⟩
  obtain ⟨ad, e, hc⟩ := hr h0
  exact ⟨ad, e, fun j x hj => pw_cell_below hb (hc j x hj)⟩
theorem ReadP.nil (w : World) : ReadP w (.slice none 0 0) [] := ⟨none, 0, rfl, by decide, fun h => absurd h (by decide)⟩
theorem ReadP.get {w : World} {A : Option Addr} {c : Nat} {ps : List (Int × Int)} (h : ReadP w (.slice A ps.length c) ps) {i : Nat} (hi : i < ps.length) :
    ∃ g x y, A = some ⟨g, 0, none⟩ ∧ ps[i]? = some (x, y) ∧ w.cell? ⟨g, i * 2, none⟩ = some (.int .i64 x) ∧ w.cell? ⟨g, i * 2 + 1, none⟩ = some (.int .i64 y) := by
  obtain ⟨A', c', e, _, hr⟩ := h
  cases e
  obtain ⟨ad, rfl, hc⟩ := hr (by omega)
  have h1 := List.getElem?_eq_getElem hi
  obtain ⟨h2, h3⟩ := flat_get ps i _ h1
  exact ⟨ad, ps[i].1, ps[i].2, rfl, h1, hc _ _ h2, hc _ _ h3⟩
theorem OwnP.read {b : Nat} {w : World} {v : Value} {ps : List (Int × Int)} (h : OwnP b w v ps) : ReadP w v ps := by
  rcases h.2 with ⟨rfl, h0⟩ | ⟨g, cap, cur, rfl, hb, hg, hnc, hcm, hcs, ht⟩
  · obtain rfl : ps = [] := List.eq_nil_of_length_eq_zero h0
    exact ReadP.nil w
  · refine ⟨_, _, rfl, by simp only [maxLen] at hcm; omega, fun _ => ⟨_, rfl, fun j x hj => ?_⟩⟩
    have hc := World.ownsRow.cells h (g := g) rfl j (.int .i64 x) (by rw [List.getElem?_map, hj]; rfl)
    rwa [add_plain] at hc
theorem OwnP.below {b : Nat} {w w' : World} {v : Value} {ps : List (Int × Int)} (h : OwnP b w v ps) (hb : Below w.heap.size w w') : OwnP b w' v ps := own_move h (fun k hk => hb.block k (own_lt h k hk))
theorem OwnP.lower {b b' : Nat} {w : World} {v : Value} {ps : List (Int × Int)} (h : OwnP b w v ps) (hb : b' ≤ b) : OwnP b' w v ps := own_weaken h hb
theorem OwnP.nil (b : Nat) (w : World) : OwnP b w (.slice none 0 0) [] := own_nil _ _ _ _
theorem OwnP.empty {b : Nat} (w : World) (hb : b ≤ w.heap.size) : OwnP b (w.alloc (.cells #[] 76)) (.slice (some ⟨w.heap.size, 0, none⟩) 0 0) [] := ⟨rfl, .inr ⟨w.heap.size, 0, #[], rfl, hb, heap_alloc_new w _, Nat.le_refl _, by decide, rfl, rfl⟩⟩
theorem OwnP.base {b : Nat} {w : World} {v : Value} {ps : List (Int × Int)} (h : OwnP b w v ps) : ∀ k, v.ownBlock = some k → b ≤ k := fun k hk => own_base h k hk
theorem OwnP.lt {b : Nat} {w : World} {v : Value} {ps : List (Int × Int)} (h : OwnP b w v ps) : ∀ k, v.ownBlock = some k → k < w.heap.size := fun k hk => own_lt h k hk
theorem OwnP.grown {b : Nat} {w w' : World} {v : Value} {ps : List (Int × Int)} (h : OwnP b w v ps) {row : Option Nat} (hg : w.grownBy w' row) (hn : ∀ k, v.ownBlock = some k → some k ≠ row) : OwnP b w' v ps := own_move h (fun k hk => hg.block k (own_lt h k hk) (hn k hk))

set_option maxHeartbeats 1000000 in
theorem eqPair (x y x' y' : Int) (w : World) : Calls Try.prog 73 #[.agg #[.int .i64 x, .int .i64 y], .agg #[.int .i64 x', .int .i64 y']] w fun e w' => e = .returned (.bool ((x == x') && (y == y'))) ∧ Below w.heap.size w w' := by
  obtain ⟨w1, hw1⟩ : ∃ w1, w1 = (w.alloc (.cells #[.int .i64 x, .int .i64 y] 76)).alloc (.cells #[.int .i64 x', .int .i64 y'] 76) := ⟨_, rfl⟩
  have hB : Below w.heap.size w w1 := by rw [hw1]; exact ((Below.refl _ w).alloc (Nat.le_refl _) _).alloc (by simp) _
  have c0 : w1.cell? ⟨w.heap.size, 0, none⟩ = some (.int .i64 x) := by rw [hw1]; simp
  have c1 : w1.cell? ⟨w.heap.size, 1, none⟩ = some (.int .i64 y) := by rw [hw1]; simp
  have c2 : w1.cell? ⟨w.heap.size + 1, 0, none⟩ = some (.int .i64 x') := by rw [hw1]; simp
  have c3 : w1.cell? ⟨w.heap.size + 1, 1, none⟩ = some (.int .i64 y') := by rw [hw1]; simp
  have HB := Aside0.mk hB
  clear hB
  go_enter Try.func73, Try.ntmps73
  go_wp2
  rw [← hw1]
  clear hw1
  go_loopw [5] (fun s wr => ∃ i : Nat, s = .int .i64 i ∧ i ≤ 2 ∧ Aside0 (0 < i → (x == x') = true) ∧ Aside0 (1 < i → (y == y') = true) ∧ Aside0 (Below w1.heap.size w1 wr)) (fun s _ => 2 - (intOf s).toNat)
  case atStart => exact ⟨0, rfl, by decide, ⟨fun h => absurd h (by decide)⟩, ⟨fun h => absurd h (by decide)⟩, ⟨Below.refl _ _⟩⟩
  case round =>
    obtain ⟨i, rfl, hi, H0, H1, HBw⟩ := hrel
    have c0 := pw_cell_below HBw.out c0
    have c1 := pw_cell_below HBw.out c1
    have c2 := pw_cell_below HBw.out c2
    have c3 := pw_cell_below HBw.out c3
    have x0 : ∀ z : Ext wr, z.1.cell? ⟨w.heap.size, 0, none⟩ = some (.int .i64 x) := fun z => Ext.cell c0 z
    have x1 : ∀ z : Ext wr, z.1.cell? ⟨w.heap.size, 1, none⟩ = some (.int .i64 y) := fun z => Ext.cell c1 z
    have x2 : ∀ z : Ext wr, z.1.cell? ⟨w.heap.size + 1, 0, none⟩ = some (.int .i64 x') := fun z => Ext.cell c2 z
    have x3 : ∀ z : Ext wr, z.1.cell? ⟨w.heap.size + 1, 1, none⟩ = some (.int .i64 y') := fun z => Ext.cell c3 z
    rcases (by omega : i = 0 ∨ i = 1 ∨ i = 2) with rfl | rfl | rfl
    · cases hq : (x == x') with
      | true =>
        have hq' : (x != x') = false := by rw [bne, hq]; rfl
        go_wp2
        refine wp_region_ext (by kernel_rfl) (by kernel_rfl) ?_
        repeat (go_big_quiet_step (fail))
        refine wpQuiet_nil ?_
        rintro _ ⟨z, rfl⟩
        have hbz := z.2
        go_wp2
        go_roundw
        case rel => exact ⟨1, by go_num, by decide, ⟨fun _ => by first | exact hq | trivial⟩, ⟨fun h => absurd h (by decide)⟩, ⟨HBw.out.trans (hbz.mono HBw.out.size)⟩⟩
        case measure => simp [intOf]
      | false =>
        have hq' : (x != x') = true := by rw [bne, hq]; rfl
        go_wp2
        refine wp_region_ext (by kernel_rfl) (by kernel_rfl) ?_
        repeat (go_big_quiet_step (fail))
        refine wpQuiet_nil ?_
        rintro _ ⟨z, rfl⟩
        have hbz := z.2
        go_wp2
        go_ret
        exact ⟨by rw [hq]; rfl, HB.out.trans ((HBw.out.trans (hbz.mono HBw.out.size)).mono HB.out.size)⟩
    · have h0 := H0.out (by decide)
      cases hq : (y == y') with
      | true =>
        have hq' : (y != y') = false := by rw [bne, hq]; rfl
        go_wp2
        refine wp_region_ext (by kernel_rfl) (by kernel_rfl) ?_
        repeat (go_big_quiet_step (fail))
        refine wpQuiet_nil ?_
        rintro _ ⟨z, rfl⟩
        have hbz := z.2
        go_wp2
        go_roundw
        case rel => exact ⟨2, by go_num, by decide, ⟨fun _ => h0⟩, ⟨fun _ => by first | exact hq | trivial⟩, ⟨HBw.out.trans (hbz.mono HBw.out.size)⟩⟩
        case measure => simp [intOf]
      | false =>
        have hq' : (y != y') = true := by rw [bne, hq]; rfl
        go_wp2
        refine wp_region_ext (by kernel_rfl) (by kernel_rfl) ?_
        repeat (go_big_quiet_step (fail))
        refine wpQuiet_nil ?_
        rintro _ ⟨z, rfl⟩
        have hbz := z.2
        go_wp2
        go_ret
        exact ⟨by rw [hq, Bool.and_false]; rfl, HB.out.trans ((HBw.out.trans (hbz.mono HBw.out.size)).mono HB.out.size)⟩
    · have h0 := H0.out (by decide)
      have h1 := H1.out (by decide)
      go_wp2
      go_ret
      exact ⟨by rw [h0, h1]; rfl, HB.out.trans (HBw.out.mono HB.out.size)⟩
end Go.Proofs.Ytllmbbaffhpheaa.H
