/- Pairs in order, told with what was drawn. Rows of pairs: what is said of them; the laws' eqPairS. Rows of pairs that a sort has turned. The laying of slices.SortFunc at pairs (printed by a tool of the kit at this dump). slices.SortFunc at pairs. Pairs put in, one by one, in order: the plain law. Rows of pairs that begin anywhere in their block; a part of a row; append of a row. A region of open order, some of its operations guarded, whose calls turn memory in a way that is told by a relation. -/
import Derived.Shelf.GgSortFunc.InsertionK
import Derived.Shelf.SlGeneric
import Derived.Shelf.SlLaysF0
import Derived.Ground.SlsfProg
import Derived.Test.YthbkboigbkadjaaProg
import Derived.Shelf.SlSortCmp.NoneTotal
import Derived.Deep.AppendLies
import Derived.Maps.AppendAt
import Derived.Laws.OwnMore
import Derived.Test.YthbkboigbkadjaaKFnExactPairingOfTree1
import Derived.Test.YthbkboigbkadjaaKFnExactPairingOfTree2
import Derived.Test.YthbkboigbkadjaaKFnExactPairingOfTree3
import Derived.Test.YthbkboigbkadjaaKFnExactPairingOfTree4
import Derived.Test.YthbkboigbkadjaaKFnExactPairingOfTree5
import Derived.Test.YthbkboigbkadjaaKFnExactPairingOfTree6
import Derived.Test.YthbkboigbkadjaaKFnExactPairingOfTree7
import Derived.Test.YthbkboigbkadjaaKFnExactPairingOfTree8
import Derived.Test.YthbkboigbkadjaaKFnExactPairingOfTree9

namespace Go.Proofs.Ythbkboigbkadjaa.H
open Go.RowKit Go.Proofs.YthbkboigbkadjaaW.PrintWords Go.Proofs.YthbkboigbkadjaaW.PrintLast Go.Proofs.YthbkboigbkadjaaW.PrintMore
set_option linter.unusedVariables false
set_option linter.unusedSimpArgs false

def cmpI (x y : Int) : Int := if x < y then -1 else if x = y then 0 else 1
def cmpP (x y x' y' : Int) : Int := if x = x' then cmpI y y' else cmpI x x'
theorem cmpI_zero {x y : Int} (h : cmpI x y = 0) : x = y := by unfold cmpI at h; split at h <;> (try split at h) <;> omega
theorem cmpI_self (x : Int) : cmpI x x = 0 := by unfold cmpI; rw [if_neg (by omega), if_pos rfl]

/-- nothing old is turned, nothing drawn is given back -/
def Bd (w w' : World) : Prop := Below w.heap.size w w' ∧ w.drawn ≤ w'.drawn
theorem Bd.refl (w : World) : Bd w w := ⟨Below.refl _ _, Nat.le_refl _⟩
theorem Bd.trans {a b c : World} (h : Bd a b) (k : Bd b c) : Bd a c := ⟨h.1.trans (k.1.mono h.1.size), Nat.le_trans h.2 k.2⟩
theorem Bd.drew (w : World) : Bd w w.drew := ⟨(Below.refl _ w).drew, Nat.le_succ _⟩
theorem Bd.alloc (w : World) (o : Obj) : Bd w (w.alloc o) := ⟨Below.alloc (Below.refl _ _) (Nat.le_refl _) _, Nat.le_refl _⟩

theorem cmpNaND (x : Int) (w : World) : Calls Try.prog 191 #[.int .i64 x] w fun e w' => e = .returned (.bool false) ∧ Bd w w' := by
  go_enter Try.func191, Try.ntmps191
  go_wp2
  go_ret
  exact ⟨by simp, Bd.refl _⟩
theorem cmpCompareD (x y : Int) (w : World) : Calls Try.prog 146 #[.int .i64 x, .int .i64 y] w fun e w' => e = .returned (.int .i64 (cmpI x y)) ∧ Bd w w' := by
  rcases (by omega : x < y ∨ x = y ∨ y < x) with h | h | h
  · have HA : Aside0 (cmpI x y = -1) := ⟨by unfold cmpI; rw [if_pos h]⟩
    have h1 : decide (x < y) = true := decide_eq_true h
    go_enter Try.func146, Try.ntmps146
    go_wp2_with (first | (go_at_call 191; refine (cmpNaND _ w).mono ?_; rintro e w2 ⟨rfl, hb⟩) | (go_at_call 191; refine (cmpNaND _ w2).mono ?_; rintro e w3 ⟨rfl, hb2⟩))
    go_ret
    exact ⟨by rw [HA.out]; rfl, hb.trans hb2⟩
  · have HA : Aside0 (cmpI x y = 0) := ⟨by unfold cmpI; rw [if_neg (by omega), if_pos h]⟩
    have h1 : decide (x < y) = false := decide_eq_false (by omega)
    have h2 : decide (y < x) = false := decide_eq_false (by omega)
    go_enter Try.func146, Try.ntmps146
    go_wp2_with (first | (go_at_call 191; refine (cmpNaND _ w).mono ?_; rintro e w2 ⟨rfl, hb⟩) | (go_at_call 191; refine (cmpNaND _ w2).mono ?_; rintro e w3 ⟨rfl, hb2⟩))
    go_ret
    exact ⟨by rw [HA.out]; rfl, hb.trans hb2⟩
  · have HA : Aside0 (cmpI x y = 1) := ⟨by unfold cmpI; rw [if_neg (by omega), if_neg (by omega)]⟩
    have h1 : decide (x < y) = false := decide_eq_false (by omega)
    have h2 : decide (y < x) = true := decide_eq_true h
    go_enter Try.func146, Try.ntmps146
    go_wp2_with (first | (go_at_call 191; refine (cmpNaND _ w).mono ?_; rintro e w2 ⟨rfl, hb⟩) | (go_at_call 191; refine (cmpNaND _ w2).mono ?_; rintro e w3 ⟨rfl, hb2⟩))
    go_ret
    exact ⟨by rw [HA.out]; rfl, hb.trans hb2⟩

set_option maxRecDepth 100000 in
set_option maxHeartbeats 4000000 in
theorem compare2D (g g' : Nat) (x y x' y' : Int) (w : World) (c0 : w.cell? ⟨g, 0, none⟩ = some (.int .i64 x)) (c1 : w.cell? ⟨g, 1, none⟩ = some (.int .i64 y)) (c2 : w.cell? ⟨g', 0, none⟩ = some (.int .i64 x')) (c3 : w.cell? ⟨g', 1, none⟩ = some (.int .i64 y')) :
    Calls Try.prog 85 #[.slice (some ⟨g, 0, none⟩) 2 2, .slice (some ⟨g', 0, none⟩) 2 2] w fun e w' => e = .returned (.int .i64 (cmpP x y x' y')) ∧ Bd w w' := by
  have C0 := Aside0.mk c0
  have C1 := Aside0.mk c1
  have C2 := Aside0.mk c2
  have C3 := Aside0.mk c3
  clear c0 c1 c2 c3
  go_enter Try.func85, Try.ntmps85
  go_wp2
  go_loopw [11] (fun s wr => ∃ i : Nat, s = .int .i64 i ∧ i ≤ 2 ∧ Aside0 (0 < i → x = x') ∧ Aside0 (1 < i → y = y') ∧ Aside0 (Bd w wr)) (fun s _ => 2 - (intOf s).toNat)
  case atStart => exact ⟨0, rfl, by decide, ⟨fun h => absurd h (by decide)⟩, ⟨fun h => absurd h (by decide)⟩, ⟨Bd.refl _⟩⟩
  case round =>
    obtain ⟨i, rfl, hi, H0, H1, HBw⟩ := hrel
    have c0 := pw_cell_below HBw.out.1 C0.out
    have c1 := pw_cell_below HBw.out.1 C1.out
    have c2 := pw_cell_below HBw.out.1 C2.out
    have c3 := pw_cell_below HBw.out.1 C3.out
    rcases (by omega : i = 0 ∨ i = 1 ∨ i = 2) with rfl | rfl | rfl
    · have HE : Aside0 ((cmpI x x' != 0) = false → x = x') := ⟨fun h => cmpI_zero (by simpa using h)⟩
      have HN : Aside0 ((cmpI x x' != 0) = true → cmpP x y x' y' = cmpI x x') := ⟨fun h => by unfold cmpP; rw [if_neg]; rintro rfl; rw [cmpI_self] at h; exact absurd h (by decide)⟩
      have HC := Aside0.mk (fun W => cmpCompareD x x' W)
      obtain ⟨C, hC⟩ : ∃ C, C = cmpI x x' := ⟨_, rfl⟩
      rw [← hC] at HE HN HC
      clear hC
      cases hq : (C != 0) with
      | true =>
        have HA := Aside0.mk (HN.out hq)
        go_wp2_with (first | (go_at_call 146; refine (HC.out _).mono ?_; rintro e w3 ⟨rfl, hb⟩; have HB3 := Aside0.mk (HBw.out.trans hb); clear hb))
        go_ret
        exact ⟨by rw [HA.out]; rfl, HB3.out⟩
      | false =>
        have HX := Aside0.mk (HE.out hq)
        go_wp2_with (first | (go_at_call 146; refine (HC.out _).mono ?_; rintro e w3 ⟨rfl, hb⟩; have HB3 := Aside0.mk (HBw.out.trans hb); clear hb))
        go_roundw
        case rel => exact ⟨1, by go_num, by decide, ⟨fun _ => HX.out⟩, ⟨fun h => absurd h (by decide)⟩, HB3⟩
        case measure => simp [intOf]
    · have HE : Aside0 ((cmpI y y' != 0) = false → y = y') := ⟨fun h => cmpI_zero (by simpa using h)⟩
      have HN : Aside0 (cmpP x y x' y' = cmpI y y') := ⟨by unfold cmpP; rw [if_pos (H0.out (by decide))]⟩
      have HC := Aside0.mk (fun W => cmpCompareD y y' W)
      obtain ⟨C, hC⟩ : ∃ C, C = cmpI y y' := ⟨_, rfl⟩
      rw [← hC] at HE HN HC
      clear hC
      cases hq : (C != 0) with
      | true =>
        go_wp2_with (first | (go_at_call 146; refine (HC.out _).mono ?_; rintro e w3 ⟨rfl, hb⟩; have HB3 := Aside0.mk (HBw.out.trans hb); clear hb))
        go_ret
        exact ⟨by rw [HN.out]; rfl, HB3.out⟩
      | false =>
        have HX := Aside0.mk (HE.out hq)
        go_wp2_with (first | (go_at_call 146; refine (HC.out _).mono ?_; rintro e w3 ⟨rfl, hb⟩; have HB3 := Aside0.mk (HBw.out.trans hb); clear hb))
        go_roundw
        case rel => exact ⟨2, by go_num, by decide, ⟨fun _ => H0.out (by decide)⟩, ⟨fun _ => HX.out⟩, HB3⟩
        case measure => simp [intOf]
    · have HA : Aside0 (cmpP x y x' y' = 0) := ⟨by unfold cmpP; rw [if_pos (H0.out (by decide)), H1.out (by decide)]; exact cmpI_self _⟩
      go_wp2
      go_ret
      exact ⟨by rw [HA.out]; rfl, HBw.out⟩


set_option maxRecDepth 100000 in
set_option maxHeartbeats 4000000 in
theorem comparePairsD (x y x' y' : Int) (w : World) : Calls Try.prog 64 #[.agg #[.int .i64 x, .int .i64 y], .agg #[.int .i64 x', .int .i64 y']] w fun e w' => e = .returned (.int .i64 (cmpP x y x' y')) ∧ Bd w w' := by
  obtain ⟨w1, hw1⟩ : ∃ w1, w1 = (w.alloc (.cells #[.int .i64 x, .int .i64 y] 70)).alloc (.cells #[.int .i64 x', .int .i64 y'] 70) := ⟨_, rfl⟩
  have hB : Bd w w1 := by rw [hw1]; exact (Bd.alloc w _).trans (Bd.alloc _ _)
  have c0 : w1.cell? ⟨w.heap.size, 0, none⟩ = some (.int .i64 x) := by rw [hw1]; simp
  have c1 : w1.cell? ⟨w.heap.size, 1, none⟩ = some (.int .i64 y) := by rw [hw1]; simp
  have c2 : w1.cell? ⟨w.heap.size + 1, 0, none⟩ = some (.int .i64 x') := by rw [hw1]; simp
  have c3 : w1.cell? ⟨w.heap.size + 1, 1, none⟩ = some (.int .i64 y') := by rw [hw1]; simp
  have HB := Aside0.mk hB
  have HC : Aside0 (∀ z, Bd w1 z → Calls Try.prog 85 #[.slice (some ⟨w.heap.size, 0, none⟩) 2 2, .slice (some ⟨w.heap.size + 1, 0, none⟩) 2 2] z fun e w' => e = .returned (.int .i64 (cmpP x y x' y')) ∧ Bd z w') := ⟨fun z hz => compare2D _ _ x y x' y' z (pw_cell_below hz.1 c0) (pw_cell_below hz.1 c1) (pw_cell_below hz.1 c2) (pw_cell_below hz.1 c3)⟩
  have hmx : Try.prog.follows .mixedOrders = true := by kernel_rfl
  clear hB c0 c1 c2 c3
  go_enter Try.func64, Try.ntmps64
  go_wp2
  rw [← hw1]
  clear hw1
  refine wp_region_g Bd Bd.drew (fun _ _ _ => Bd.trans) (fun i => match i with | 0 => fun v _ => v = .slice (some ⟨w.heap.size, 0, none⟩) 2 2 | 1 => fun v _ => v = .slice (some ⟨w.heap.size + 1, 0, none⟩) 2 2 | 2 => fun v _ => v = .int .i64 (cmpP x y x' y') | 3 => fun v _ => v = .int .i64 (cmpP x y x' y') | _ => fun _ _ => True)
    [0, 0, 3, 7] hmx (by kernel_rfl) ?st ?steps ?rest
  case st =>
    intro i v w1_ w2_ hb
    match i with
    | 0 | 1 | 2 | 3 => exact id
    | n + 4 => exact id
  case steps =>
    refine ⟨?_, ?_, ?_, ?_, trivial⟩
    · intro s w_ hb hd hq R hR
      generalize hA : putAll _ 0 s _ = A
      clear hq
      have hR' := hR (.slice (some ⟨w.heap.size, 0, none⟩) 2 2) _ (Bd.refl _) rfl
      clear hR hd
      refine opGives_value ?_ hR'
      subst hA
      simp only [dsOf, List.map_cons, List.map_nil, Option.getD_some, putAll, Act.put, List.setIfInBounds_toArray, List.set_cons_zero, List.set_cons_succ]
      go_simp
    · intro s w_ hb hd hq R hR
      generalize hA : putAll _ 0 s _ = A
      clear hq
      have hR' := hR (.slice (some ⟨w.heap.size + 1, 0, none⟩) 2 2) _ (Bd.refl _) rfl
      clear hR hd
      refine opGives_value ?_ hR'
      subst hA
      simp only [dsOf, List.map_cons, List.map_nil, Option.getD_some, putAll, Act.put, List.setIfInBounds_toArray, List.set_cons_zero, List.set_cons_succ]
      go_simp
    · intro s w_ hb hd hq R hR
      generalize hA : putAll _ 0 s _ = A
      have e0 : s 0 = _ := hd 0 (by kernel_rfl)
      have e1 : s 1 = _ := hd 1 (by kernel_rfl)
      clear hq
      refine opGives_call (f := 85) (args := #[.slice (some ⟨w.heap.size, 0, none⟩) 2 2, .slice (some ⟨w.heap.size + 1, 0, none⟩) 2 2]) ?_ ?_
      · subst hA
        clear hR hd
        simp only [dsOf, List.map_cons, List.map_nil, Option.getD_some, putAll, Act.put, List.setIfInBounds_toArray, List.set_cons_zero, List.set_cons_succ]
        go_simp
      clear hA A hd
      refine (HC.out _ hb).mono ?_
      rintro e w3_ ⟨rfl, hb3⟩
      exact ⟨_, rfl, hR _ _ hb3 rfl⟩
    · intro s w_ hb hd hq R hR
      generalize hA : putAll _ 0 s _ = A
      have e2 : s 2 = _ := hd 2 (by kernel_rfl)
      clear hq
      have hR' := hR (.int .i64 (cmpP x y x' y')) _ (Bd.refl _) rfl
      clear hR hd
      refine opGives_value ?_ hR'
      subst hA
      simp only [dsOf, List.map_cons, List.map_nil, Option.getD_some, putAll, Act.put, List.setIfInBounds_toArray, List.set_cons_zero, List.set_cons_succ]
      go_simp
  case rest =>
    intro s9 w9 hb hv
    have e3_ : s9 3 = _ := hv 3 (by decide)
    simp only [dsOf, List.map_cons, List.map_nil, Option.getD_some, putAll, Act.put, List.setIfInBounds_toArray, List.set_cons_zero, List.set_cons_succ]
    rw [e3_]
    clear hv e3_
    go_wp2
    go_ret
    exact ⟨rfl, HB.out.trans hb⟩
end Go.Proofs.Ythbkboigbkadjaa.H

namespace Go.Proofs.Ythbkboigbkadjaa.H
open Go.RowKit Go.Proofs.YthbkboigbkadjaaW.PrintWords Go.Proofs.YthbkboigbkadjaaW.PrintLast Go.Proofs.YthbkboigbkadjaaW.PrintMore
set_option linter.unusedVariables false
set_option linter.unusedSimpArgs false

/-- the cells of pairs -/
def flat : List (Int × Int) → List Int
  | [] => []
  | p :: r => p.1 :: p.2 :: flat r
theorem flat_len : ∀ ps : List (Int × Int), (flat ps).length = ps.length * 2
  | [] => rfl
  | p :: r => by simp only [flat, List.length_cons, flat_len r]; omega
theorem flat_snoc : ∀ (ps : List (Int × Int)) (p : Int × Int), flat (ps ++ [p]) = flat ps ++ [p.1, p.2]
  | [], p => rfl
  | q :: r, p => by simp only [List.cons_append, flat, flat_snoc r p]
theorem flat_get : ∀ (ps : List (Int × Int)) (i : Nat) (p : Int × Int), ps[i]? = some p → (flat ps)[i * 2]? = some p.1 ∧ (flat ps)[i * 2 + 1]? = some p.2
  | [], i, p, h => by simp at h
  | q :: r, 0, p, h => by simp at h; subst h; simp [flat]
  | q :: r, i + 1, p, h => by
    have := flat_get r i p (by simpa using h)
    rw [show (i + 1) * 2 = i * 2 + 1 + 1 by omega]
    simp only [flat, List.getElem?_cons_succ]
    exact this
/-- v is a slice that reads these pairs -/
def ReadP (w : World) (v : Value) (ps : List (Int × Int)) : Prop := ∃ A c, v = .slice A ps.length c ∧ ps.length ≤ 9223372036854775807 ∧ (0 < ps.length → ∃ g, A = some ⟨g, 0, none⟩ ∧ ∀ j x, (flat ps)[j]? = some x → w.cell? ⟨g, j, none⟩ = some (.int .i64 x))
/-- v is a slice of pairs of the call's own -/
def OwnP (b : Nat) (w : World) (v : Value) (ps : List (Int × Int)) : Prop := w.ownsRow b 70 2 v ps.length ((flat ps).map (Value.int .i64))
theorem ReadP.below {w w' : World} {v : Value} {ps : List (Int × Int)} (h : ReadP w v ps) (hb : Below w.heap.size w w') : ReadP w' v ps := by
  obtain ⟨A, c, rfl, hl, hr⟩ := h
  refine ⟨A, c, rfl, hl, fun h0 => ?_⟩
  obtain ⟨ad, e, hc⟩ := hr h0
  exact ⟨ad, e, fun j x hj => pw_cell_below hb (hc j x hj)⟩
theorem ReadP.nil (w : World) : ReadP w (.slice none 0 0) [] := ⟨none, 0, rfl, by decide, fun h => absurd h (by decide)⟩
theorem ReadP.get {w : World} {A : Option Addr} {c : Nat} {ps : List (Int × Int)} (h : ReadP w (.slice A ps.length c) ps) {i : Nat} (hi : i < ps.length) :
    ∃ g x y, A = some ⟨g, 0, none⟩ ∧ ps[i]? = some (x, y) ∧ w.cell? ⟨g, i * 2, none⟩ = some (.int .i64 x) ∧ w.cell? ⟨g, i * 2 + 1, none⟩ = some (.int .i64 y) := by
  obtain ⟨A', c', e, _, hr⟩ := h
  cases e
  obtain ⟨ad, rfl, hc⟩ := hr (by omega)
  have h1 := List.getElem?_eq_getElem hi
  obtain ⟨h2, h3⟩ := flat_get ps i _ h1
  exact ⟨ad, ps[i].1, ps[i].2, rfl, h1, hc _ _ h2, hc _ _ h3⟩
theorem OwnP.read {b : Nat} {w : World} {v : Value} {ps : List (Int × Int)} (h : OwnP b w v ps) : ReadP w v ps := by
  rcases h.2 with ⟨rfl, h0⟩ | ⟨g, cap, cur, rfl, hb, hg, hnc, hcm, hcs, ht⟩
  · obtain rfl : ps = [] := List.eq_nil_of_length_eq_zero h0
    exact ReadP.nil w
  · refine ⟨_, _, rfl, by simp only [maxLen] at hcm; omega, fun _ => ⟨_, rfl, fun j x hj => ?_⟩⟩
    have hc := World.ownsRow.cells h (g := g) rfl j (.int .i64 x) (by rw [List.getElem?_map, hj]; rfl)
    rwa [add_plain] at hc
theorem OwnP.below {b : Nat} {w w' : World} {v : Value} {ps : List (Int × Int)} (h : OwnP b w v ps) (hb : Below w.heap.size w w') : OwnP b w' v ps := own_move h (fun k hk => hb.block k (own_lt h k hk))
theorem OwnP.lower {b b' : Nat} {w : World} {v : Value} {ps : List (Int × Int)} (h : OwnP b w v ps) (hb : b' ≤ b) : OwnP b' w v ps := own_weaken h hb
theorem OwnP.nil (b : Nat) (w : World) : OwnP b w (.slice none 0 0) [] := own_nil _ _ _ _
theorem OwnP.empty {b : Nat} (w : World) (hb : b ≤ w.heap.size) : OwnP b (w.alloc (.cells #[] 70)) (.slice (some ⟨w.heap.size, 0, none⟩) 0 0) [] := ⟨rfl, .inr ⟨w.heap.size, 0, #[], rfl, hb, heap_alloc_new w _, Nat.le_refl _, by decide, rfl, rfl⟩⟩
theorem OwnP.base {b : Nat} {w : World} {v : Value} {ps : List (Int × Int)} (h : OwnP b w v ps) : ∀ k, v.ownBlock = some k → b ≤ k := fun k hk => own_base h k hk
theorem OwnP.lt {b : Nat} {w : World} {v : Value} {ps : List (Int × Int)} (h : OwnP b w v ps) : ∀ k, v.ownBlock = some k → k < w.heap.size := fun k hk => own_lt h k hk
theorem OwnP.grown {b : Nat} {w w' : World} {v : Value} {ps : List (Int × Int)} (h : OwnP b w v ps) {row : Option Nat} (hg : w.grownBy w' row) (hn : ∀ k, v.ownBlock = some k → some k ≠ row) : OwnP b w' v ps := own_move h (fun k hk => hg.block k (own_lt h k hk) (hn k hk))

set_option maxHeartbeats 1000000 in
theorem eqPair (x y x' y' : Int) (w : World) : Calls Try.prog 65 #[.agg #[.int .i64 x, .int .i64 y], .agg #[.int .i64 x', .int .i64 y']] w fun e w' => e = .returned (.bool ((x == x') && (y == y'))) ∧ Below w.heap.size w w' := by
  obtain ⟨w1, hw1⟩ : ∃ w1, w1 = (w.alloc (.cells #[.int .i64 x, .int .i64 y] 70)).alloc (.cells #[.int .i64 x', .int .i64 y'] 70) := ⟨_, rfl⟩
  have hB : Below w.heap.size w w1 := by rw [hw1]; exact ((Below.refl _ w).alloc (Nat.le_refl _) _).alloc (by simp) _
  have c0 : w1.cell? ⟨w.heap.size, 0, none⟩ = some (.int .i64 x) := by rw [hw1]; simp
  have c1 : w1.cell? ⟨w.heap.size, 1, none⟩ = some (.int .i64 y) := by rw [hw1]; simp
  have c2 : w1.cell? ⟨w.heap.size + 1, 0, none⟩ = some (.int .i64 x') := by rw [hw1]; simp
  have c3 : w1.cell? ⟨w.heap.size + 1, 1, none⟩ = some (.int .i64 y') := by rw [hw1]; simp
  have HB := Aside0.mk hB
  clear hB
  go_enter Try.func65, Try.ntmps65
  go_wp2
  rw [← hw1]
  clear hw1
  go_loopw [5] (fun s wr => ∃ i : Nat, s = .int .i64 i ∧ i ≤ 2 ∧ Aside0 (0 < i → (x == x') = true) ∧ Aside0 (1 < i → (y == y') = true) ∧ Aside0 (Below w1.heap.size w1 wr)) (fun s _ => 2 - (intOf s).toNat)
  case atStart => exact ⟨0, rfl, by decide, ⟨fun h => absurd h (by decide)⟩, ⟨fun h => absurd h (by decide)⟩, ⟨Below.refl _ _⟩⟩
  case round =>
    obtain ⟨i, rfl, hi, H0, H1, HBw⟩ := hrel
    have c0 := pw_cell_below HBw.out c0
    have c1 := pw_cell_below HBw.out c1
    have c2 := pw_cell_below HBw.out c2
    have c3 := pw_cell_below HBw.out c3
    have x0 : ∀ z : Ext wr, z.1.cell? ⟨w.heap.size, 0, none⟩ = some (.int .i64 x) := fun z => Ext.cell c0 z
    have x1 : ∀ z : Ext wr, z.1.cell? ⟨w.heap.size, 1, none⟩ = some (.int .i64 y) := fun z => Ext.cell c1 z
    have x2 : ∀ z : Ext wr, z.1.cell? ⟨w.heap.size + 1, 0, none⟩ = some (.int .i64 x') := fun z => Ext.cell c2 z
    have x3 : ∀ z : Ext wr, z.1.cell? ⟨w.heap.size + 1, 1, none⟩ = some (.int .i64 y') := fun z => Ext.cell c3 z
    rcases (by omega : i = 0 ∨ i = 1 ∨ i = 2) with rfl | rfl | rfl
    · cases hq : (x == x') with
      | true =>
        have hq' : (x != x') = false := by rw [bne, hq]; rfl
        go_wp2
        refine wp_region_ext (by kernel_rfl) (by kernel_rfl) ?_
        repeat (go_big_quiet_step (fail))
        refine wpQuiet_nil ?_
        rintro _ ⟨z, rfl⟩
        have hbz := z.2
        go_wp2
        go_roundw
        case rel => exact ⟨1, by go_num, by decide, ⟨fun _ => by first | exact hq | trivial⟩, ⟨fun h => absurd h (by decide)⟩, ⟨HBw.out.trans (hbz.mono HBw.out.size)⟩⟩
        case measure => simp [intOf]
      | false =>
        have hq' : (x != x') = true := by rw [bne, hq]; rfl
        go_wp2
        refine wp_region_ext (by kernel_rfl) (by kernel_rfl) ?_
        repeat (go_big_quiet_step (fail))
        refine wpQuiet_nil ?_
        rintro _ ⟨z, rfl⟩
        have hbz := z.2
        go_wp2
        go_ret
        exact ⟨by rw [hq]; rfl, HB.out.trans ((HBw.out.trans (hbz.mono HBw.out.size)).mono HB.out.size)⟩
    · have h0 := H0.out (by decide)
      cases hq : (y == y') with
      | true =>
        have hq' : (y != y') = false := by rw [bne, hq]; rfl
        go_wp2
        refine wp_region_ext (by kernel_rfl) (by kernel_rfl) ?_
        repeat (go_big_quiet_step (fail))
        refine wpQuiet_nil ?_
        rintro _ ⟨z, rfl⟩
        have hbz := z.2
        go_wp2
        go_roundw
        case rel => exact ⟨2, by go_num, by decide, ⟨fun _ => h0⟩, ⟨fun _ => by first | exact hq | trivial⟩, ⟨HBw.out.trans (hbz.mono HBw.out.size)⟩⟩
        case measure => simp [intOf]
      | false =>
        have hq' : (y != y') = true := by rw [bne, hq]; rfl
        go_wp2
        refine wp_region_ext (by kernel_rfl) (by kernel_rfl) ?_
        repeat (go_big_quiet_step (fail))
        refine wpQuiet_nil ?_
        rintro _ ⟨z, rfl⟩
        have hbz := z.2
        go_wp2
        go_ret
        exact ⟨by rw [hq, Bool.and_false]; rfl, HB.out.trans ((HBw.out.trans (hbz.mono HBw.out.size)).mono HB.out.size)⟩
    · have h0 := H0.out (by decide)
      have h1 := H1.out (by decide)
      go_wp2
      go_ret
      exact ⟨by rw [h0, h1]; rfl, HB.out.trans (HBw.out.mono HB.out.size)⟩
end Go.Proofs.Ythbkboigbkadjaa.H

namespace Go.Proofs.Ythbkboigbkadjaa.H
open Go.RowKit Go.Sort Go.Proofs.YthbkboigbkadjaaW.PrintWords Go.Proofs.YthbkboigbkadjaaW.PrintLast Go.Proofs.YthbkboigbkadjaaW.PrintMore
set_option linter.unusedVariables false
set_option linter.unusedSimpArgs false

def encP (p : Int × Int) : List Value := [.int .i64 p.1, .int .i64 p.2]
theorem Bd.grow {w w' : World} (h : Bd w w') : ∃ q os, w' = grow (w.drewN q) os := by
  obtain ⟨hb, hd⟩ := h
  refine ⟨w'.drawn - w.drawn, w'.heap.extract w.heap.size w'.heap.size, ?_⟩
  obtain ⟨h1, h2, h3, h4, h5⟩ := hb
  cases w with
  | mk heap tape drawn os output =>
  cases w' with
  | mk heap' tape' drawn' os' output' =>
  simp only at h1 h2 h3 h4 h5 hd
  subst h1 h2 h3
  unfold Go.Sort.grow World.drewN
  simp only [World.mk.injEq, true_and, and_true]
  refine ⟨?_, by omega⟩
  apply Array.ext
  · simp; omega
  · intro i hi1 hi2
    rw [Array.getElem_append]
    by_cases hlt : i < heap.size
    · rw [dif_pos hlt]
      have := h5 i hlt
      rw [Array.getElem?_eq_getElem hi1, Array.getElem?_eq_getElem hlt] at this
      exact Option.some.inj this
    · rw [dif_neg hlt]
      simp only [Array.getElem_extract]
      congr 1; omega

theorem flat_at : ∀ (ps : List (Int × Int)) (t : Nat), (flat ps)[t]? = (ps[t / 2]?).map fun p => if t % 2 = 0 then p.1 else p.2
  | [], t => by simp [flat]
  | p :: r, 0 => by simp [flat]
  | p :: r, 1 => by simp [flat]
  | p :: r, t + 2 => by
    have ih := flat_at r t
    rw [show (t + 2) / 2 = t / 2 + 1 by omega, show (t + 2) % 2 = t % 2 by omega]
    show (p.1 :: p.2 :: flat r)[t + 2]? = _
    rw [List.getElem?_cons_succ, List.getElem?_cons_succ, List.getElem?_cons_succ, ih]
theorem enc_get (p : Int × Int) (c : Nat) (hc : c < 2) : (encP p)[c]! = .int .i64 (if c = 0 then p.1 else p.2) := by
  rcases (by omega : c = 0 ∨ c = 1) with rfl | rfl <;> rfl
theorem flatK_list (d : Array (Int × Int)) : (flatK encP 2 d).toList = (flat d.toList).map (Value.int .i64) := by
  apply List.ext_getElem?
  intro t
  rw [List.getElem?_map, flat_at]
  by_cases h : t < d.size * 2
  · have h2 : t / 2 < d.size := by omega
    have hg := get_flatK encP 2 d t h
    have hs : t < (flatK encP 2 d).size := by rw [size_flatK]; exact h
    rw [getElem!_pos _ t hs, enc_get _ _ (by omega), getElem!_pos d _ h2] at hg
    rw [Array.getElem?_toList, Array.getElem?_eq_getElem hs, hg, Array.getElem?_toList, Array.getElem?_eq_getElem h2]
    rfl
  · rw [List.getElem?_eq_none (by simp; omega), List.getElem?_eq_none (by simp; omega)]
    rfl
theorem put_take (F c : Array Value) (h : F.size ≤ c.size) : (putCells id 0 F c).toList.take F.size = F.toList := by
  apply List.ext_getElem?
  intro t
  by_cases ht : t < F.size
  · rw [List.getElem?_take_of_lt ht]
    unfold putCells
    rw [Array.getElem?_toList, Array.getElem?_mapIdx, Array.getElem?_eq_getElem (by omega), Array.getElem?_toList, Array.getElem?_eq_getElem ht]
    simp only [Option.map_some, Nat.zero_add, Nat.zero_le, true_and, ht, if_true, Nat.sub_zero, id]
    rw [getElem!_pos F t ht]
  · rw [List.getElem?_eq_none (by simp; omega), List.getElem?_eq_none (by simp; omega)]

theorem OwnP.holds {b : Nat} {w : World} {g cap : Nat} {ps : List (Int × Int)} (h : OwnP b w (.slice (some ⟨g, 0, none⟩) ps.length cap) ps) : HoldsK encP 2 w g 0 ps.toArray ∧ g < w.heap.size ∧ b ≤ g := by
  have hlt := h.lt g rfl
  have hbs := h.base g rfl
  refine ⟨?_, hlt, hbs⟩
  obtain ⟨hl, h | ⟨g', cap', cur, e, hb, hcur, hn, hm, hsz, htk⟩⟩ := h
  · exact absurd h.1 (by simp)
  · cases e
    intro t ht
    rw [size_flatK, List.size_toArray] at ht
    have hc : cur[t]? = some ((flatK encP 2 ps.toArray)[t]!) := by
      have hs : t < (flatK encP 2 ps.toArray).size := by rw [size_flatK, List.size_toArray]; exact ht
      rw [getElem!_pos _ t hs, ← Array.getElem?_toList, ← List.getElem?_take_of_lt (show t < ps.length * 2 from ht), htk]
      have := flatK_list ps.toArray
      have h2 := congrArg (fun l => l[t]?) this
      simp only [Array.getElem?_toList, Array.getElem?_eq_getElem hs] at h2
      exact h2.symm
    constructor
    · unfold World.cell?
      simp only [hcur, Nat.zero_add]
      exact hc
    · unfold World.frozen?
      simp only [hcur]
      simp
theorem OwnP.sorted {b : Nat} {w : World} {g cap : Nat} {ps qs : List (Int × Int)} (h : OwnP b w (.slice (some ⟨g, 0, none⟩) ps.length cap) ps) (hl : qs.length = ps.length) (n : Nat) (os : Array Obj) :
    OwnP b (sortWorldK encP 2 w g 0 n qs.toArray os) (.slice (some ⟨g, 0, none⟩) ps.length cap) qs := by
  have hlt := h.lt g rfl
  obtain ⟨hl2, h | ⟨g', cap', cur, e, hb, hcur, hn, hm, hsz, htk⟩⟩ := h
  · exact absurd h.1 (by simp)
  · cases e
    unfold OwnP
    rw [hl]
    refine ⟨by rw [List.length_map, flat_len, hl], .inr ⟨g, cap, putCells id 0 (flatK encP 2 qs.toArray) cur, rfl, hb, ?_, hn, hm, by unfold putCells; rw [Array.size_mapIdx]; exact hsz, ?_⟩⟩
    · unfold sortWorldK Go.Sort.grow putRowK putRow mapBlock Go.Sort.ahead
      simp only
      rw [Array.getElem?_append_left (by simpa using hlt), Array.getElem?_modify, if_pos rfl, hcur]
      rfl
    · have h1 := put_take (flatK encP 2 qs.toArray) cur (by rw [size_flatK, List.size_toArray, hl, hsz]; exact Nat.mul_le_mul_right 2 hn)
      rw [size_flatK, List.size_toArray, hl] at h1
      rw [h1, flatK_list]
theorem below_sorted {b : Nat} (w : World) {g : Nat} (hb : b ≤ g) (hg : g < w.heap.size) (n : Nat) (d : Array (Int × Int)) (os : Array Obj) : Below b w (sortWorldK encP 2 w g 0 n d os) := by
  unfold sortWorldK Go.Sort.grow putRowK putRow mapBlock Go.Sort.ahead
  refine ⟨rfl, rfl, rfl, by simp, fun k hk => ?_⟩
  simp only
  rw [Array.getElem?_append_left (by simp; omega), Array.getElem?_modify, if_neg (by omega)]
end Go.Proofs.Ythbkboigbkadjaa.H

namespace Go.Proofs
open Go.Shelf
def Try.sortPairs_ren : Go.Shelf.Ren := ⟨fun | 6 => 63 | 15 => 124 | 14 => 123 | 28 => 175 | 29 => 176 | 20 => 167 | 21 => 168 | 22 => 169 | 23 => 170 | 24 => 171 | 25 => 172 | 26 => 173 | 27 => 174 | 46 => 200 | 47 => 201 | 48 => 202 | 49 => 203 | 50 => 204 | 57 => 227 | n => n, fun | 22 => 38 | 24 => 70 | 25 => 76 | 3 => 3 | 39 => 129 | 0 => 0 | 53 => 162 | 55 => 65 | 4 => 4 | 46 => 156 | 45 => 155 | 50 => 125 | 5 => 5 | 9 => 9 | 66 => 179 | 70 => 183 | 76 => 198 | 77 => 199 | n => n, fun | n => n⟩
theorem Try.sortPairs : Go.Proofs.SlLaysF0.n6 Try.prog Try.sortPairs_ren := {
  mixed := by kernel_rfl
  f6 := ⟨Try.f63.name, by decide, Try.func63.trans (congrArg some (by kernel_rfl))⟩
  f14 := ⟨Try.f123.name, by decide, Try.func123.trans (congrArg some (by kernel_rfl))⟩
  f15 := Try.func124.trans (congrArg some (by kernel_rfl))
  f20 := ⟨Try.f167.name, by decide, Try.func167.trans (congrArg some (by kernel_rfl))⟩
  f21 := ⟨Try.f168.name, by decide, Try.func168.trans (congrArg some (by kernel_rfl))⟩
  f22 := ⟨Try.f169.name, by decide, Try.func169.trans (congrArg some (by kernel_rfl))⟩
  f23 := ⟨Try.f170.name, by decide, Try.func170.trans (congrArg some (by kernel_rfl))⟩
  f24 := ⟨Try.f171.name, by decide, Try.func171.trans (congrArg some (by kernel_rfl))⟩
  f25 := ⟨Try.f172.name, by decide, Try.func172.trans (congrArg some (by kernel_rfl))⟩
  f26 := ⟨Try.f173.name, by decide, Try.func173.trans (congrArg some (by kernel_rfl))⟩
  f27 := ⟨Try.f174.name, by decide, Try.func174.trans (congrArg some (by kernel_rfl))⟩
  f28 := Try.func175.trans (congrArg some (by kernel_rfl))
  f29 := Try.func176.trans (congrArg some (by kernel_rfl))
  f46 := ⟨Try.f200.name, by decide, Try.func200.trans (congrArg some (by kernel_rfl))⟩
  f47 := Try.func201.trans (congrArg some (by kernel_rfl))
  f48 := Try.func202.trans (congrArg some (by kernel_rfl))
  f49 := ⟨Try.f203.name, by decide, Try.func203.trans (congrArg some (by kernel_rfl))⟩
  f50 := ⟨Try.f204.name, by decide, Try.func204.trans (congrArg some (by kernel_rfl))⟩
  f57 := ⟨Try.f227.name, by decide, Try.func227.trans (congrArg some (by kernel_rfl))⟩
  t0 := Try.underlying0
  a0 := Try.isAgg0
  z0 := Try.sizeOf0
  v0 := Try.zeroValue0
  t3 := Try.underlying3
  a3 := Try.isAgg3
  z3 := Try.sizeOf3
  v3 := Try.zeroValue3
  t4 := Try.underlying4
  a4 := Try.isAgg4
  z4 := Try.sizeOf4
  v4 := Try.zeroValue4
  t5 := Try.underlying5
  a5 := Try.isAgg5
  z5 := Try.sizeOf5
  v5 := Try.zeroValue5
  t9 := Try.underlying9
  a9 := Try.isAgg9
  z9 := Try.sizeOf9
  v9 := Try.zeroValue9
  t22 := Try.underlying38
  a22 := Try.isAgg38
  z22 := Try.sizeOf38
  v22 := Try.zeroValue38
  t25 := Try.underlying76
  a25 := Try.isAgg76
  z25 := Try.sizeOf76
  v25 := Try.zeroValue76
  t39 := Try.underlying129
  a39 := Try.isAgg129
  z39 := Try.sizeOf129
  v39 := Try.zeroValue129
  t45 := Try.underlying155
  a45 := Try.isAgg155
  z45 := Try.sizeOf155
  v45 := Try.zeroValue155
  t46 := Try.underlying156
  a46 := Try.isAgg156
  z46 := Try.sizeOf156
  v46 := Try.zeroValue156
  t50 := Try.underlying125
  a50 := Try.isAgg125
  z50 := Try.sizeOf125
  v50 := Try.zeroValue125
  t53 := Try.underlying162
  a53 := Try.isAgg162
  z53 := Try.sizeOf162
  v53 := Try.zeroValue162
  t55 := Try.underlying65
  a55 := Try.isAgg65
  z55 := Try.sizeOf65
  v55 := Try.zeroValue65
  t66 := Try.underlying179
  a66 := Try.isAgg179
  z66 := Try.sizeOf179
  v66 := Try.zeroValue179
  t70 := Try.underlying183
  a70 := Try.isAgg183
  z70 := Try.sizeOf183
  v70 := Try.zeroValue183
  t76 := Try.underlying198
  a76 := Try.isAgg198
  z76 := Try.sizeOf198
  v76 := Try.zeroValue198
  t77 := Try.underlying199
  a77 := Try.isAgg199
  z77 := Try.sizeOf199
  v77 := Try.zeroValue199 }
end Go.Proofs

namespace Go.Proofs.Ythbkboigbkadjaa.H
open Go.RowKit Go.Sort Go.Proofs.YthbkboigbkadjaaW.PrintWords Go.Proofs.YthbkboigbkadjaaW.PrintLast Go.Proofs.YthbkboigbkadjaaW.PrintMore
set_option linter.unusedVariables false
set_option linter.unusedSimpArgs false

def cfP (p q : Int × Int) : Int := cmpP p.1 p.2 q.1 q.2
theorem ltP (p q : Int × Int) : ltOf cfP p q = decide (p.1 < q.1 ∨ (p.1 = q.1 ∧ p.2 < q.2)) := by
  unfold ltOf cfP cmpP cmpI
  rw [Bool.eq_iff_iff, decide_eq_true_eq, decide_eq_true_eq]
  split <;> split <;> (try split) <;> omega
theorem swoP : SWO (ltOf cfP) where
  irrefl x := by rw [ltP]; simp
  trans x y z h1 h2 := by rw [ltP] at *; simp only [decide_eq_true_eq] at *; omega
  ntrans x y z h1 h2 := by rw [ltP] at *; simp only [decide_eq_false_iff_not] at *; omega
theorem totP (x y : Int × Int) (h1 : ltOf cfP x y = false) (h2 : ltOf cfP y x = false) : x = y := by
  rw [ltP] at *
  simp only [decide_eq_false_iff_not] at *
  exact Prod.ext (by omega) (by omega)
/-- pairs in order -/
def sortL (ps : List (Int × Int)) : List (Int × Int) := ps.mergeSort fun x y => !(ltOf cfP) y x
theorem sort_eq {ps qs : List (Int × Int)} (hp : qs.Perm ps) (hq : qs.Pairwise fun p q => p.1 < q.1) : sortL ps = qs := by
  unfold sortL
  have hle : ∀ a b : Int × Int, ((!(ltOf cfP) b a) = true) ↔ (a.1 < b.1 ∨ (a.1 = b.1 ∧ a.2 ≤ b.2)) := fun a b => by
    rw [ltP]
    simp only [Bool.not_eq_true', decide_eq_false_iff_not]
    omega
  refine List.Perm.eq_of_pairwise (le := fun x y => (!(ltOf cfP) y x) = true) ?_ ?_ ?_ ((List.mergeSort_perm _ _).trans hp.symm)
  · intro a b _ _ h1 h2
    rw [hle] at h1 h2
    exact Prod.ext (by omega) (by omega)
  · exact List.pairwise_mergeSort (fun a b c h1 h2 => by rw [hle] at *; omega) (fun a b => by
      rw [Bool.or_eq_true, hle, hle]; omega) _
  · exact hq.imp (fun h => (hle _ _).2 (.inl h))

set_option maxRecDepth 100000 in
set_option maxHeartbeats 2000000 in
theorem sortPairs (base : Nat) (w : World) (v : Value) (ps : List (Int × Int)) (ho : OwnP base w v ps) (hl : ps.length ≤ 1000000) :
    Calls Try.prog 63 #[v, .func (.func 64) #[] #[]] w fun e w' => e = .returned (.tuple #[]) ∧ OwnP base w' v (sortL ps) ∧ Below base w w' := by
  have hown := ho
  obtain ⟨hl2, ⟨rfl, h0⟩ | ⟨g, cap, cur, rfl, -⟩⟩ := ho
  · have hp : ps = [] := List.length_eq_zero_iff.1 h0
    subst hp
    exact (AnyF.slices_SortFunc_none Try.sortPairs none 0 _ w).mono fun _ _ ⟨he, hw⟩ => ⟨he, by rw [hw, show sortL [] = [] by unfold sortL; simp]; exact OwnP.nil _ _, by rw [hw]; exact Below.refl _ _⟩
  · obtain ⟨hh, hlt, hbs⟩ := hown.holds
    have hcmp : CmpLays Try.prog 64 #[] encP 2 cfP g 0 ps.toArray.size w := fun m os dk _ x y => (comparePairsD x.1 x.2 y.1 y.2 _).mono fun _ _ ⟨he, hb⟩ => ⟨he, hb.grow⟩
    exact (AnyQ.slices_SortFunc_total Try.sortPairs 2 Try.isAgg70 Try.sizeOf70 encP (fun _ => rfl) (fun x v hv => by simp [encP] at hv; rcases hv with rfl | rfl <;> rfl) cfP swoP 64 #[] g 0 cap ps.toArray w (by have h : Enters 64 := (Enters.mk' Try.func64 rfl rfl); unfold Enters at h; exact h) hcmp hh hlt (by rw [List.size_toArray]; omega) totP).mono fun _ _ ⟨he, n, os, hw⟩ =>
      ⟨he, by rw [hw]; exact hown.sorted (by show (ps.mergeSort _).length = _; rw [List.length_mergeSort]) n os, by rw [hw]; exact below_sorted w hbs hlt n _ os⟩
end Go.Proofs.Ythbkboigbkadjaa.H

namespace Go.Proofs.Ythbkboigbkadjaa.H
open Go.RowKit Go.Sort Go.Proofs.YthbkboigbkadjaaW.PrintWords Go.Proofs.YthbkboigbkadjaaW.PrintLast Go.Proofs.YthbkboigbkadjaaW.PrintMore
set_option linter.unusedVariables false
set_option linter.unusedSimpArgs false

def leP (p q : Int × Int) : Prop := p.1 < q.1 ∨ (p.1 = q.1 ∧ p.2 ≤ q.2)
/-- in order, and the same pairs: the sorted list -/
theorem sort_is {ps qs : List (Int × Int)} (hp : qs.Perm ps) (hq : qs.Pairwise leP) : sortL ps = qs := by
  unfold sortL
  have hle : ∀ a b : Int × Int, ((!(ltOf cfP) b a) = true) ↔ leP a b := fun a b => by
    unfold leP
    rw [ltP]
    simp only [Bool.not_eq_true', decide_eq_false_iff_not]
    omega
  refine List.Perm.eq_of_pairwise (le := fun x y => (!(ltOf cfP) y x) = true) ?_ ?_ ?_ ((List.mergeSort_perm _ _).trans hp.symm)
  · intro a b _ _ h1 h2
    rw [hle] at h1 h2
    unfold leP at h1 h2
    exact Prod.ext (by omega) (by omega)
  · exact List.pairwise_mergeSort (fun a b c h1 h2 => by rw [hle] at *; unfold leP at *; omega) (fun a b => by
      rw [Bool.or_eq_true, hle, hle]; unfold leP; omega) _
  · exact hq.imp (fun h => (hle _ _).2 h)
def putP (acc : List (Int × Int)) (k : Nat) (p : Int × Int) : List (Int × Int) := acc.take k ++ p :: acc.drop k
theorem put_perm (acc : List (Int × Int)) (k : Nat) (p : Int × Int) : (putP acc k p).Perm (acc ++ [p]) := by
  unfold putP
  refine List.perm_middle.trans ?_
  rw [List.take_append_drop]
  exact (List.perm_append_singleton p acc).symm
theorem put_asc {acc : List (Int × Int)} {k : Nat} {p : Int × Int} (hs : acc.Pairwise leP) (hk : k ≤ acc.length) (h1 : ∀ j (h : j < acc.length), k ≤ j → leP p acc[j]) (h2 : ∀ (h : k - 1 < acc.length), 0 < k → leP acc[k - 1] p) : (putP acc k p).Pairwise leP := by
  have htr : ∀ {a b c : Int × Int}, leP a b → leP b c → leP a c := fun {a b c} h1 h2 => by unfold leP at *; omega
  have hlow : ∀ q ∈ acc.take k, leP q p := fun q hq => by
    obtain ⟨j, hj, e⟩ := List.getElem_of_mem hq
    rw [List.length_take] at hj
    rw [List.getElem_take] at e
    have h3 := h2 (by omega) (by omega)
    by_cases hjk : j = k - 1
    · subst hjk; rw [← e]; exact h3
    · have h4 := List.pairwise_iff_getElem.1 hs j (k - 1) (by omega) (by omega) (by omega)
      rw [← e]; exact htr h4 h3
  have hhigh : ∀ q ∈ acc.drop k, leP p q := fun q hq => by
    obtain ⟨j, hj, e⟩ := List.getElem_of_mem hq
    rw [List.length_drop] at hj
    rw [List.getElem_drop] at e
    rw [← e]; exact h1 _ (by omega) (by omega)
  unfold putP
  rw [List.pairwise_append, List.pairwise_cons]
  refine ⟨hs.sublist (List.take_sublist k acc), ⟨hhigh, hs.sublist (List.drop_sublist k acc)⟩, fun a ha b hb => ?_⟩
  rcases List.mem_cons.1 hb with rfl | hb
  · exact hlow a ha
  · exact htr (hlow a ha) (hhigh b hb)
/-- what is put in behind a sorted list is the sorted list with it -/
theorem put_sort {ps acc : List (Int × Int)} {k : Nat} {p : Int × Int} (he : acc = sortL ps) (hk : k ≤ acc.length) (h1 : ∀ j (h : j < acc.length), k ≤ j → leP p acc[j]) (h2 : ∀ (h : k - 1 < acc.length), 0 < k → leP acc[k - 1] p) : putP acc k p = sortL (ps ++ [p]) := by
  have hs : acc.Pairwise leP := by
    rw [he]
    unfold sortL
    refine (List.pairwise_mergeSort (le := fun x y => !(ltOf cfP) y x) (fun a b c h1 h2 => ?_) (fun a b => ?_) ps).imp (fun h => ?_)
    · rw [ltP] at *; simp only [Bool.not_eq_true', decide_eq_false_iff_not] at *; omega
    · rw [ltP, ltP, Bool.or_eq_true]; simp only [Bool.not_eq_true', decide_eq_false_iff_not]; omega
    · rw [ltP] at h; simp only [Bool.not_eq_true', decide_eq_false_iff_not] at h; unfold leP; omega
  refine (sort_is ((put_perm acc k p).trans ?_) (put_asc hs hk h1 h2)).symm
  rw [he]
  exact (List.mergeSort_perm ps _).append_right [p]
end Go.Proofs.Ythbkboigbkadjaa.H

namespace Go.Proofs.Ythbkboigbkadjaa.H
open Go.RowKit Go.Proofs.YthbkboigbkadjaaW.PrintWords Go.Proofs.YthbkboigbkadjaaW.PrintLast Go.Proofs.YthbkboigbkadjaaW.PrintMore
set_option linter.unusedVariables false
set_option linter.unusedSimpArgs false

/-- v is a slice that reads these pairs, wherever it begins -/
def ReadQ (w : World) (v : Value) (ps : List (Int × Int)) : Prop := ∃ (A : Option Addr) (c : Nat), v = .slice A ps.length c ∧ ps.length ≤ c ∧ (A = none → c = 0) ∧ ∀ ad, A = some ad → ∀ (j : Nat) (x : Int), (flat ps)[j]? = some x → w.cell? (ad.add j) = some (.int .i64 x)
theorem ReadQ.below {w w' : World} {v : Value} {ps : List (Int × Int)} (h : ReadQ w v ps) (hb : Below w.heap.size w w') : ReadQ w' v ps := by
  obtain ⟨A, c, e, h1, h2, h3⟩ := h
  exact ⟨A, c, e, h1, h2, fun ad ha j x hj => pw_cell_below hb (h3 ad ha j x hj)⟩
theorem OwnP.readQ {b : Nat} {w : World} {v : Value} {ps : List (Int × Int)} (h : OwnP b w v ps) : ReadQ w v ps := by
  have hr := h.read
  rcases h.2 with ⟨rfl, h0⟩ | ⟨g, cap, cur, rfl, hb, hg, hnc, hcm, hcs, ht⟩
  · obtain rfl : ps = [] := List.eq_nil_of_length_eq_zero h0
    exact ⟨none, 0, rfl, Nat.le_refl _, fun _ => rfl, fun ad ha => by cases ha⟩
  · refine ⟨_, _, rfl, hnc, (fun e => by cases e), fun ad ha j x hj => ?_⟩
    cases ha
    have hc := World.ownsRow.cells h (g := g) rfl j (.int .i64 x) (by rw [List.getElem?_map, hj]; rfl)
    exact hc
theorem flat_drop : ∀ (ps : List (Int × Int)) (k : Nat), flat (ps.drop k) = (flat ps).drop (k * 2)
  | [], k => by simp [flat]
  | p :: r, 0 => by simp
  | p :: r, k + 1 => by
    rw [List.drop_succ_cons, flat_drop r k, show (k + 1) * 2 = k * 2 + 1 + 1 by omega]
    rfl
theorem flat_take : ∀ (ps : List (Int × Int)) (k : Nat), flat (ps.take k) = (flat ps).take (k * 2)
  | [], k => by simp [flat]
  | p :: r, 0 => by simp [flat]
  | p :: r, k + 1 => by
    rw [List.take_succ_cons, show (k + 1) * 2 = k * 2 + 1 + 1 by omega]
    simp only [flat, List.take_succ_cons, flat_take r k]
theorem flat_apd : ∀ (a b : List (Int × Int)), flat (a ++ b) = flat a ++ flat b
  | [], b => rfl
  | p :: r, b => by show p.1 :: p.2 :: flat (r ++ b) = _; rw [flat_apd r b]; rfl
/-- ps[k:] -/
theorem ReadQ.from_ {w : World} {A : Option Addr} {n c : Nat} {ps : List (Int × Int)} (h : ReadQ w (.slice A n c) ps) {k : Nat} (hk : k ≤ ps.length) :
    ∃ A' c', (∀ W : World, (Instr.slice 38 (.slice A n c) (some (.int .i64 (k : Int))) none none).run Try.prog W = .ok (.slice A' (ps.length - k) c') W) ∧ ReadQ w (.slice A' (ps.length - k) c') (ps.drop k) := by
  obtain ⟨A0, c0, e, hc, hn, hr⟩ := h
  cases e
  obtain ⟨i, hi, hs⟩ := Option.map_eq_some_iff.1 (show (Try.prog.info? 70).map (·.size) = some 2 by kernel_rfl)
  have h2 : (k : Int) ≤ (ps.length : Int) := by omega
  have hrun : ∀ W : World, (Instr.slice 38 (.slice A ps.length c) (some (.int .i64 (k : Int))) none none).run Try.prog W = .ok (.slice (if c = k then A else A.map (·.add (k * 2))) (ps.length - k) (c - k)) W := fun W => by
    have h3 : ¬ ps.length < k := by omega
    by_cases hck : c = k
    · simp [Instr.slice, Instr.sliceBounds, Instr.sliceBound, asIntOf, run_underlying Try.underlying38, sizeOf, typeInfo, hi, hs, go_sem, h2, h3, hck]
    · simp [Instr.slice, Instr.sliceBounds, Instr.sliceBound, asIntOf, run_underlying Try.underlying38, sizeOf, typeInfo, hi, hs, go_sem, h2, h3, hck]
  refine ⟨_, _, hrun, ⟨_, _, by rw [List.length_drop], by rw [List.length_drop]; omega, fun hA => ?_, fun ad hA j x hj => ?_⟩⟩
  · split at hA
    · have := hn hA; omega
    · cases A with
      | none => have := hn rfl; omega
      | some a => simp at hA
  · rw [flat_drop, List.getElem?_drop] at hj
    split at hA
    · next hck =>
      have : (flat ps).length = ps.length * 2 := flat_len ps
      rw [List.getElem?_eq_none (by rw [this]; omega)] at hj
      cases hj
    · cases A with
      | none => cases hA
      | some a =>
        cases hA
        rw [Go.Proofs.YthbkboigbkadjaaW.PrintWords.add_add]
        exact hr a rfl _ _ hj
/-- ps[:k] -/
theorem ReadQ.to_ {w : World} {A : Option Addr} {n c : Nat} {ps : List (Int × Int)} (h : ReadQ w (.slice A n c) ps) {k : Nat} (hk : k ≤ ps.length) :
    (∀ W : World, (Instr.slice 38 (.slice A n c) none (some (.int .i64 (k : Int))) none).run Try.prog W = .ok (.slice A k c) W) ∧ ReadQ w (.slice A k c) (ps.take k) := by
  obtain ⟨A0, c0, e, hc, hn, hr⟩ := h
  cases e
  obtain ⟨i, hi, hs⟩ := Option.map_eq_some_iff.1 (show (Try.prog.info? 70).map (·.size) = some 2 by kernel_rfl)
  have h2 : (k : Int) ≤ (c : Int) := by omega
  have hl : (ps.take k).length = k := by rw [List.length_take]; omega
  refine ⟨fun W => ?_, ⟨A, c, by rw [hl], by rw [hl]; omega, hn, fun ad hA j x hj => ?_⟩⟩
  · have h3 : ¬ c < k := by omega
    by_cases hc0 : c = 0
    · obtain rfl : k = 0 := by omega
      simp [Instr.slice, Instr.sliceBounds, Instr.sliceBound, asIntOf, run_underlying Try.underlying38, sizeOf, typeInfo, hi, hs, go_sem, h2, h3, hc0]
    · simp [Instr.slice, Instr.sliceBounds, Instr.sliceBound, asIntOf, run_underlying Try.underlying38, sizeOf, typeInfo, hi, hs, go_sem, h2, h3, hc0]
  · rw [flat_take] at hj
    have hjl : j < k * 2 := by
      have := (List.getElem?_eq_some_iff.1 hj).1
      rw [List.length_take] at this; omega
    rw [List.getElem?_take_of_lt hjl] at hj
    exact hr ad hA j x hj
theorem infoQ : (Try.prog.info? 70).map (fun i => (i.zero, i.size, i.bytes)) = some (some (.agg #[.int .i64 0, .int .i64 0]), 2, 16) := by kernel_rfl
theorem runAppP {W : World} (base : Nat) (ty : TypeId) (v : Value) (ps qs : List (Int × Int)) (A : Option Addr) (m c : Nat) (HO : OwnP base W v ps) (HR : ReadQ W (.slice A m c) qs) (hbase : base ≤ W.heap.size) (hl : ps.length + qs.length ≤ 1000000) :
    ∃ v' w', (Builtin.append_ #[38, 38] ty #[v, .slice A m c]).run Try.prog W = .ok v' w' ∧ OwnP base w' v' (ps ++ qs) ∧ W.grownBy w' v.ownBlock ∧ (v'.ownBlock = v.ownBlock ∨ v'.ownBlock = some W.heap.size) := by
  obtain ⟨i0, hi, hzz⟩ := Option.map_eq_some_iff.1 infoQ
  simp only [Prod.mk.injEq] at hzz
  obtain ⟨hz0, hz1, hz2⟩ := hzz
  obtain ⟨A', c', e, hle, hn, hr⟩ := HR
  cases e
  cases A with
  | none =>
    have hc0 := hn rfl
    have hq0 : qs = [] := List.eq_nil_of_length_eq_zero (by omega)
    subst hq0
    subst hc0
    refine ⟨v, W, run_append_owned_none (P := Try.prog) (w := W) base 38 ty 70 i0 2 Try.underlying38 hi v ps.length _ HO, by rw [List.append_nil]; exact HO, ⟨rfl, rfl, rfl, Nat.le_refl _, fun _ _ _ => rfl⟩, .inl rfl⟩
  | some ad =>
    obtain ⟨v', w', hrun, h2, h3, -, h5⟩ := run_append_own_at (P := Try.prog) W base 38 ty 70 i0 _ 2 16 Try.underlying38 hi hz0 hz1 hz2 rfl (by decide) v ps.length ((flat ps).map (Value.int .i64)) HO ad qs.length c ((flat qs).map (Value.int .i64)) (by rw [List.length_map, flat_len])
      (fun j u hj => by
        rw [List.getElem?_map] at hj
        obtain ⟨y, hy, rfl⟩ := Option.map_eq_some_iff.1 hj
        exact hr ad rfl j y hy) (fun u hu => by
        obtain ⟨y, -, rfl⟩ := List.mem_map.1 hu
        rfl) (by simp only [maxLen]; omega) (by omega) hbase
    refine ⟨v', w', hrun, ?_, h3, h5⟩
    unfold OwnP
    rw [List.length_append, flat_apd, List.map_append]
    exact h2
theorem appP_gives {o : Oper} {ev : Operand → Value} {W : World} (base : Nat) (s x : Operand) (ho : o.op = .call { callee := .builtin .append, args := #[s, x], argTypes := #[38, 38] })
    (v : Value) (ps qs : List (Int × Int)) (A : Option Addr) (m c : Nat) (hs : ev s = v) (hx : ev x = .slice A m c) (HO : OwnP base W v ps) (HR : ReadQ W (.slice A m c) qs) (hbase : base ≤ W.heap.size) (hl : ps.length + qs.length ≤ 1000000) {R : Value → World → Prop}
    (h : ∀ v1 w1, OwnP base w1 v1 (ps ++ qs) → W.grownBy w1 v.ownBlock → R v1 w1) : opGives Try.prog o ev W R := by
  obtain ⟨v', w', hrun, h1, h2, -⟩ := runAppP base o.type v ps qs A m c HO HR hbase hl
  refine opGives_value (w' := w') (v := v') ?_ (h v' w' h1 h2)
  unfold execOp
  simp only [ho, resolve, invoke, builtin, Sem.run_bind, Sem.run_pure, Result.andThen_ok, List.map_toArray, List.map_cons, List.map_nil, hs, hx, hrun]
section
variable {ops : Array Oper} {rest : List Oper} {o : Oper} {a : Act} {Q : Exit → Act → World → Prop}
theorem appP_list {W : World} (base : Nat) (hgd : o.guard = none) (s x : Operand) (ho : o.op = .call { callee := .builtin .append, args := #[s, x], argTypes := #[38, 38] })
    (v : Value) (ps qs : List (Int × Int)) (A : Option Addr) (m c : Nat) (hs : a.eval s = v) (hx : a.eval x = .slice A m c) (HO : OwnP base W v ps) (HR : ReadQ W (.slice A m c) qs) (hbase : base ≤ W.heap.size) (hl : ps.length + qs.length ≤ 1000000)
    (h : ∀ v1 w1, OwnP base w1 v1 (ps ++ qs) → W.grownBy w1 v.ownBlock → wpList Try.prog ops Q rest (a.put o.dst v1) w1) : wpList Try.prog ops Q (o :: rest) a W := by
  obtain ⟨v', w', hrun, h1, h2, -⟩ := runAppP base o.type v ps qs A m c HO HR hbase hl
  refine wpList_plain hgd fun K hK => ?_
  unfold Oper.wp
  simp [execOp, ho, resolve, invoke, builtin, hs, hx, hrun, Result.andThen]
  exact hK _ _ (h v' w' h1 h2)
end
/-- one pair, as a row of the call's own -/
theorem OwnP.single {b : Nat} (W : World) (x y : Int) (hb : b ≤ W.heap.size) : OwnP b (W.alloc (.cells #[.int .i64 x, .int .i64 y] 70)) (.slice (some ⟨W.heap.size, 0, none⟩) 1 1) [(x, y)] :=
  ⟨rfl, .inr ⟨W.heap.size, 1, #[.int .i64 x, .int .i64 y], rfl, hb, heap_alloc_new W _, Nat.le_refl _, by decide, rfl, rfl⟩⟩
/-- a slice expression, its run told -/
theorem slice_execQ {P : Program} {o : Oper} {ev : Operand → Value} {W : World} {t e : TypeId} {s : Operand} {lo hi : Option Operand} {u : Value} (ht : P.underlying t = some (.slice e)) (ho : o.op = .slice t s lo hi none) (hr : (Instr.slice t (ev s) (lo.map ev) (hi.map ev) none).run P W = .ok u W) : (execOp ev o).run P W = .ok (.value u) W := by
  have hel : P.elem t = e := by simp [Program.elem, ht]
  have h1 := run_sliceAt_slice (P := P) (w := W) t (ev s) (lo.map ev) (hi.map ev) none (by rw [hel]; exact ht)
  simp [execOp, ho, h1, hr]
section
variable {P : Program} {ops : Array Oper} {rest : List Oper} {o : Oper} {a : Act} {Q : Exit → Act → World → Prop}
theorem slice_toldQ {W : World} {t e : TypeId} {s : Operand} {lo hi : Option Operand} {u : Value} (ht : P.underlying t = some (.slice e)) (hgd : o.guard = none) (ho : o.op = .slice t s lo hi none) (hr : ∀ W : World, (Instr.slice t (a.eval s) (lo.map a.eval) (hi.map a.eval) none).run P W = .ok u W) (h : wpList P ops Q rest (a.put o.dst u) W) : wpList P ops Q (o :: rest) a W :=
  Kd.event_run hgd (slice_execQ ht ho (hr W)) h
end
end Go.Proofs.Ythbkboigbkadjaa.H

namespace Go.Proofs.Ythbkboigbkadjaa.H
open Go.RowKit Go.Proofs.YthbkboigbkadjaaW.PrintWords Go.Proofs.YthbkboigbkadjaaW.PrintLast Go.Proofs.YthbkboigbkadjaaW.PrintMore
set_option linter.unusedVariables false
set_option linter.unusedSimpArgs false

/-- an operation that may be struck by its guard -/
def stepG (P : Program) (l : List Oper) (o : Oper) (A : Act) (w : World) (R : Value → World → Prop) : Prop :=
  if Region.wanted o (yielded l.toArray A.tmps) = true then opGives P o A.eval w R else R undef w
theorem stepG_on {P : Program} {l : List Oper} {o : Oper} {A : Act} {w : World} {R : Value → World → Prop} (h : Region.wanted o (yielded l.toArray A.tmps) = true) (hR : opGives P o A.eval w R) : stepG P l o A w R := by
  unfold stepG; rw [if_pos h]; exact hR
theorem stepG_off {P : Program} {l : List Oper} {o : Oper} {A : Act} {w : World} {R : Value → World → Prop} (h : Region.wanted o (yielded l.toArray A.tmps) = false) (hR : R undef w) : stepG P l o A w R := by
  unfold stepG; rw [if_neg (by rw [h]; decide)]; exact hR
def ggOk (l : List Oper) (B : List Nat) (n : Nat) : Bool :=
  l.all (fun o => o.dst.isSome) && decide (dsOf l).Nodup && (dsOf l).all (fun d => decide (d < n)) && waitsOk (rtab .any l.toArray).2 B && baseOk (rtab .any l.toArray).2 (List.range l.length)
/-- each step -/
def ggSteps (G : World → World → Prop) (P : Program) (l : List Oper) (B : List Nat) (V : Nat → Value → World → Prop) (a : Act) (w : World) : Nat → List Oper → Prop
  | _, [] => True
  | i, o :: r => (∀ s w1, G w w1 → (∀ j, ((List.range l.length).contains j && (B.getD i 0).testBit j) = true → V j (s j) w1) → (∀ j, (decide (j < l.length) && (B.getD j 0).testBit i) = true → s j = (a.tmps[(dsOf l)[j]?.getD 0]?).getD undef) →
      ∀ R : Value → World → Prop, (∀ v w', G w1 w' → V i v w' → R v w') → stepG P l o (putAll (dsOf l) 0 s a) w1 R) ∧ ggSteps G P l B V a w (i + 1) r

theorem ggSteps_at {G : World → World → Prop} {P : Program} {l : List Oper} {B : List Nat} {V : Nat → Value → World → Prop} {a : Act} {w : World} : ∀ (r : List Oper) (k : Nat), ggSteps G P l B V a w k r → ∀ i o, r[i]? = some o →
    ∀ s w1, G w w1 → (∀ j, ((List.range l.length).contains j && (B.getD (k + i) 0).testBit j) = true → V j (s j) w1) → (∀ j, (decide (j < l.length) && (B.getD j 0).testBit (k + i)) = true → s j = (a.tmps[(dsOf l)[j]?.getD 0]?).getD undef) →
      ∀ R : Value → World → Prop, (∀ v w', G w1 w' → V (k + i) v w' → R v w') → stepG P l o (putAll (dsOf l) 0 s a) w1 R
  | [], _, _, _, _, h => by cases h
  | x :: r, k, h, 0, o, ho => by cases ho; exact h.1
  | x :: r, k, h, i + 1, o, ho => by
    have := ggSteps_at r (k + 1) h.2 i o ho
    rwa [show k + 1 + i = k + (i + 1) by omega] at this

theorem wp_region_gg (G : World → World → Prop) (hGr : ∀ w, G w w.drew) (hGt : ∀ w1 w2 w3, G w1 w2 → G w2 w3 → G w1 w3) {P : Program} {id : Nat} {Q : Exit → Act → World → Prop} {a : Act} {w : World} {l : List Oper} (V : Nat → Value → World → Prop) (B : List Nat) (hm : P.follows .mixedOrders = true) (hok : ggOk l B a.tmps.size = true)
    (hV : ∀ i v w1 w2, G w1 w2 → V i v w1 → V i v w2)
    (hs : ggSteps G P l B V a w 0 l)
    (hend : ∀ s w1, G w w1 → (∀ i, i < l.length → V i (s i) w1) → Q .normal (putAll (dsOf l) 0 s a) w1) : (Code.region id l.toArray true).wp P Q a w := by
  simp only [ggOk, Bool.and_eq_true] at hok
  obtain ⟨⟨⟨⟨h1, h2⟩, h3⟩, h4⟩, h5⟩ := hok
  have hnd : (dsOf l).Nodup := of_decide_eq_true h2
  have hTl : (rtab .any l.toArray).2.length = l.length := by rw [rtab_length]; simp
  have hds : ∀ (i : Nat) (o : Oper), l[i]? = some o → o.dst = some ((dsOf l)[i]?.getD 0) ∧ (dsOf l)[i]? = some (o.dst.getD 0) := by
    intro i o ho
    have e : (dsOf l)[i]? = some (o.dst.getD 0) := by simp [dsOf, ho]
    refine ⟨?_, e⟩
    have := List.all_eq_true.1 h1 o (List.mem_of_getElem? ho)
    rw [e]
    cases hd : o.dst with
    | none => rw [hd] at this; cases this
    | some d => rfl
  refine wp_region_last_drew (S := fun _ => True) (ds := []) hm trivial (fun _ => ?_)
  refine inv_ (T := rtab .any l.toArray) (B := B) (List.range l.length) (fun b a' w' => ∃ s, a' = putAll (dsOf l) 0 s a ∧ G w w' ∧ (∀ i, i < l.length → b i = true → V i (s i) w') ∧ ∀ i, i < l.length → b i = false → s i = (a.tmps[(dsOf l)[i]?.getD 0]?).getD undef) rfl h4 h5 ?_ ?_ ?_ ?_
  · rw [hTl, Bool.and_eq_true, beq_iff_eq, beq_iff_eq]
    refine ⟨?_, by simp⟩
    apply List.ext_getElem
    · simp [lof]
    · intro i hi1 hi2
      have hi : i < l.length := by simpa [lof] using hi1
      simp [lof, hi]
  · refine ⟨fun k => (a.tmps[(dsOf l)[k]?.getD 0]?).getD undef, ?_, hGr _, (fun _ _ h => by cases h), fun _ _ _ => rfl⟩
    refine (putAll_self _ _ _ _ (fun j d hj => ?_)).symm
    have hd := List.all_eq_true.1 h3 d (List.mem_of_getElem? hj)
    have hd' : d < a.tmps.size := of_decide_eq_true hd
    simp [hj, hd']
  · intro i hi b a' w' ⟨s, ha, hb, hv, hq⟩ hbi hon hoff
    subst ha
    have hil : i < l.length := List.mem_range.1 hi
    have ho : l[i]? = some l[i] := List.getElem?_eq_getElem hil
    refine ⟨l[i], by simp, fun K hK => ?_⟩
    have hK' := Shut.out hK
    have hfin : ∀ v w2, G w' w2 → V (0 + i) v w2 → K ((putAll (dsOf l) 0 s a).put l[i].dst v) w2 := by
      intro v w2 hb2 hv2
      refine hK' _ _ ?_
      refine ⟨upd s i v, ?_, hGt _ _ _ hb hb2, fun j hj hbj => ?_, fun j hj hbj => ?_⟩
      · rw [(hds i _ ho).1, (hds i _ ho).2, Option.getD_some]
        exact putAll_put _ _ _ _ _ _ _ hnd (Nat.zero_le _) (by rw [Nat.sub_zero]; exact (hds i _ ho).2)
      · by_cases hji : j = i
        · subst hji
          have : upd s j v j = v := by simp [upd]
          rw [this]
          rw [Nat.zero_add] at hv2
          exact hv2
        · have : upd s i v j = s j := by simp [upd, hji]
          rw [this]
          rw [up_ne hji] at hbj
          exact hV _ _ _ _ hb2 (hv j hj hbj)
      · have hji : j ≠ i := by
          rintro rfl
          rw [up_self] at hbj
          cases hbj
        have : upd s i v j = s j := by simp [upd, hji]
        rw [this]
        rw [up_ne hji] at hbj
        exact hq j hj hbj
    have hst := ggSteps_at l 0 hs i _ ho s w' hb (fun j hj => hv j (by have h6 := (Bool.and_eq_true _ _ ▸ hj : _ ∧ _).1; simpa using h6) (hon j (by simpa using hj))) (fun j hj => hq j (of_decide_eq_true (Bool.and_eq_true _ _ ▸ hj : _ ∧ _).1) (hoff j (by simpa using hj))) _ hfin
    unfold stepG at hst
    split
    · next h7 => rw [if_pos h7] at hst; exact opGives_wp hst
    · next h7 => rw [if_neg h7] at hst; exact hst
  · intro b a' w' hall ⟨s, ha, hb, hv, hq⟩
    subst ha
    exact hend s w' hb (fun i hi => hv i hi (hall i (by simpa using hi)))
end Go.Proofs.Ythbkboigbkadjaa.H
