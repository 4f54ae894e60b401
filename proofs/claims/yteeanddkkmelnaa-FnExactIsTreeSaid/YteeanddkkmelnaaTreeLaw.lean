/- IsTree of the program and of the reference, and the law's walk. -/
import Derived.Test.YteeanddkkmelnaaTree
import Derived.Test.YteeanddkkmelnaaOpen
namespace Go.Proofs.Yteeanddkkmelnaa.H
open Go.RowKit Go.Proofs.YteeanddkkmelnaaW.PrintWords Go.Proofs.YteeanddkkmelnaaW.PrintLast Go.Proofs.YteeanddkkmelnaaW.PrintMore
set_option linter.unusedVariables false
set_option linter.unusedSimpArgs false

/-- what IsTree answers -/
def ansTree (a : Int) (t : List Int) : Bool × Int := if 1 ≤ a ∧ a ≤ 6 then (treeOk a.toNat t, 0) else (false, 2)

theorem implIsTree (v : Value) (t : List Int) (a : Int) (w : World) (hr : ReadI w v t) :
    Calls Try.prog 10 #[.int .i64 a, v] w fun e w' => e = .returned (.tuple #[.bool (ansTree a t).1, .int .i64 (ansTree a t).2]) ∧ Below w.heap.size w w' := by
  by_cases h : 1 ≤ a ∧ a ≤ 6
  · obtain ⟨n, rfl⟩ : ∃ n : Nat, a = n := ⟨a.toNat, by omega⟩
    have hs : (decide ((1 : Int) ≤ n) && decide ((n : Int) ≤ 6)) = true := by simp; omega
    have HA : Aside0 (ansTree n t = (treeOk n t, 0)) := ⟨by simp [ansTree, h]⟩
    have hn : 1 ≤ n ∧ n ≤ 6 := by omega
    have HR := Aside0.mk hr
    obtain ⟨A, c, rfl, -⟩ := id hr
    clear hr h
    go_enter Try.func10, Try.ntmps10
    go_wp2_with (first | (go_at_call 27; refine (isSize _ _).mono ?_; rintro e w' ⟨rfl, hb⟩; rw [hs]; have HB := Aside0.mk hb; clear hb) | (go_at_call 28; refine (isTree _ _ _ hn _ (HR.out.below HB.out)).mono ?_; rintro e w' ⟨rfl, hb2⟩; have HB2 := Aside0.mk (HB.out.trans (hb2.mono HB.out.size)); clear hb2))
    go_ret2
    exact ⟨by rw [HA.out]; rfl, HB2.out⟩
  · have hs : (decide ((1 : Int) ≤ a) && decide (a ≤ 6)) = false := by simp; omega
    have HA : Aside0 (ansTree a t = (false, 2)) := ⟨by simp [ansTree, h]⟩
    obtain ⟨A, c, rfl, -⟩ := id hr
    clear hr h
    go_enter Try.func10, Try.ntmps10
    go_wp2_with (first | (go_at_call 27; refine (isSize _ _).mono ?_; rintro e w' ⟨rfl, hb⟩; rw [hs]; have HB := Aside0.mk hb; clear hb))
    go_ret2
    exact ⟨by rw [HA.out]; rfl, HB.out⟩

theorem specIsTree (v : Value) (t : List Int) (a : Int) (w : World) (hr : ReadI w v t) :
    Calls Try.prog 8 #[.int .i64 a, v] w fun e w' => e = .returned (.tuple #[.bool (ansTree a t).1, .int .i64 (ansTree a t).2]) ∧ Below w.heap.size w w' := by
  by_cases h : 1 ≤ a ∧ a ≤ 6
  · obtain ⟨n, rfl⟩ : ∃ n : Nat, a = n := ⟨a.toNat, by omega⟩
    have hs : (decide ((1 : Int) ≤ n) && decide ((n : Int) ≤ 6)) = true := by simp; omega
    have HA : Aside0 (ansTree n t = (treeOk n t, 0)) := ⟨by simp [ansTree, h]⟩
    have hn : 1 ≤ n ∧ n ≤ 6 := by omega
    have HR := Aside0.mk hr
    obtain ⟨A, c, rfl, -⟩ := id hr
    clear hr h
    go_enter Try.func8, Try.ntmps8
    go_wp2_with (first | (go_at_call 25; refine (specIn _ _ _ _).mono ?_; rintro e w' ⟨rfl, hb⟩; rw [hs]; have HB := Aside0.mk hb; clear hb) | (go_at_call 26; refine (specTree _ _ _ hn _ (HR.out.below HB.out)).mono ?_; rintro e w' ⟨rfl, hb2⟩; have HB2 := Aside0.mk (HB.out.trans (hb2.mono HB.out.size)); clear hb2))
    go_ret2
    exact ⟨by rw [HA.out]; rfl, HB2.out⟩
  · have hs : (decide ((1 : Int) ≤ a) && decide (a ≤ 6)) = false := by simp; omega
    have HA : Aside0 (ansTree a t = (false, 2)) := ⟨by simp [ansTree, h]⟩
    obtain ⟨A, c, rfl, -⟩ := id hr
    clear hr h
    go_enter Try.func8, Try.ntmps8
    go_wp2_with (first | (go_at_call 25; refine (specIn _ _ _ _).mono ?_; rintro e w' ⟨rfl, hb⟩; rw [hs]; have HB := Aside0.mk hb; clear hb))
    go_ret2
    exact ⟨by rw [HA.out]; rfl, HB.out⟩

set_option maxHeartbeats 1000000 in
theorem lawFnExactIsTree (w : World) (a : Int) (ga : W64 a) (v : Value) (t : List Int) (hr : ReadI w v t) (gt : ∀ x ∈ t, W64 x) :
    Calls Try.prog 3 #[.int .i64 a, v] w fun e w' => e = .returned (.bool true) ∧ Below w.heap.size w w' := by
  by_cases hl : t.length ≤ 1048576
  · have hl' : (t.length : Int) ≤ 1048576 := by omega
    have hl2 : t.length ≤ 35184372088832 := by omega
    obtain ⟨A, c, rfl, -⟩ := id hr
    obtain ⟨r1, h1⟩ : ∃ r, r = (ansTree a t).1 := ⟨_, rfl⟩
    obtain ⟨r2, h2⟩ : ∃ r, r = (ansTree a t).2 := ⟨_, rfl⟩
    have H1 := Aside0.mk h1
    have H2 := Aside0.mk h2
    clear hl h1 h2 ga gt
    go_enter Try.func3, Try.ntmps3
    go_wp2_with (first | (go_at_call 9; refine (toInt64S _ t _ (ReadI.below hr ?hx) hl2).mono ?_; (case hx => (repeat (first | (with_reducible exact Below.refl _ _) | (with_reducible assumption) | (with_reducible refine below_step ?_ (by assumption)) | (with_reducible apply below_alloc) | (with_reducible apply below_drewN)))); rintro e w' ⟨u, rfl, ho, hb⟩; have hu := ho.read; clear ho) | (go_at_call 8; refine (specIsTree _ t _ _ (ReadI.below (by assumption) ?hx)).mono ?_; (case hx => (repeat (first | (with_reducible exact Below.refl _ _) | (with_reducible assumption) | (with_reducible refine below_step ?_ (by assumption)) | (with_reducible apply below_alloc) | (with_reducible apply below_drewN)))); rintro e w' ⟨rfl, hb⟩; rw [← H1.out, ← H2.out]) | (go_at_call 10; refine (implIsTree _ t _ _ (ReadI.below (by assumption) ?hx)).mono ?_; (case hx => (repeat (first | (with_reducible exact Below.refl _ _) | (with_reducible assumption) | (with_reducible refine below_step ?_ (by assumption)) | (with_reducible apply below_alloc) | (with_reducible apply below_drewN)))); rintro e w' ⟨rfl, hb⟩; rw [← H1.out, ← H2.out]) | (go_at_call 11; refine (eqInt64S _ _ t t _ (ReadI.below (by assumption) ?hx) (ReadI.below (by assumption) ?hy)).mono ?_; (case hx => (repeat (first | (with_reducible exact Below.refl _ _) | (with_reducible assumption) | (with_reducible refine below_step ?_ (by assumption)) | (with_reducible apply below_alloc) | (with_reducible apply below_drewN)))); (case hy => (repeat (first | (with_reducible exact Below.refl _ _) | (with_reducible assumption) | (with_reducible refine below_step ?_ (by assumption)) | (with_reducible apply below_alloc) | (with_reducible apply below_drewN)))); rintro e w' ⟨rfl, hb⟩; rw [beq_self_eq_true]))
    go_ret
    exact ⟨rfl, by (repeat (first | (with_reducible exact Below.refl _ _) | (with_reducible assumption) | (with_reducible refine below_step ?_ (by assumption)) | (with_reducible apply below_alloc) | (with_reducible apply below_drewN)))⟩
  · have hl' : (1048576 : Int) < t.length := by omega
    obtain ⟨A, c, rfl, -⟩ := id hr
    clear hr ga gt
    go_enter Try.func3, Try.ntmps3
    go_wp2
    go_ret
    exact ⟨rfl, Below.refl _ _⟩
end Go.Proofs.Yteeanddkkmelnaa.H
