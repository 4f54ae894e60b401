/- What everything needs: within, isSize, length. -/
import Derived.Test.YtpcjbdkdpcgdiaaHof
import Derived.Test.YtpcjbdkdpcgdiaaLaws
namespace Go.Proofs.Ytpcjbdkdpcgdiaa.H
open Go.RowKit Go.Proofs.YtpcjbdkdpcgdiaaW.PrintWords Go.Proofs.YtpcjbdkdpcgdiaaW.PrintLast Go.Proofs.YtpcjbdkdpcgdiaaW.PrintMore
set_option linter.unusedVariables false
set_option linter.unusedSimpArgs false

theorem add_mk (g i : Nat) : (⟨g, 0, none⟩ : Addr).add i = ⟨g, i, none⟩ := by
  unfold Addr.add
  split
  · next h => subst h; rfl
  · simp
theorem OwnI.put {b g n cap : Nat} {W : World} {xs : List Int} (HO : OwnI b W (.slice (some ⟨g, 0, none⟩) n cap) xs) (i : Nat) (x : Int) : OwnI b (W.setCell ⟨g, i, none⟩ (.int .i64 x)) (.slice (some ⟨g, 0, none⟩) n cap) (xs.set i x) := by
  have hp := Kd.R_putg HO (i : Int) x
  simp only [Int.toNat_natCast] at hp
  exact hp.1
theorem OwnI.drewN {b : Nat} {W : World} {v : Value} {xs : List Int} (HO : OwnI b W v xs) (q : Nat) : OwnI b (W.drewN q) v xs := HO.below (below_drewN (Below.refl _ _) q)
theorem zero_set {l : List Int} {n i : Nat} (hl : l.length = n) (h : i < n) : (List.replicate i (0 : Int) ++ l.drop i).set i 0 = List.replicate (i + 1) 0 ++ l.drop (i + 1) := by
  rw [List.set_append_right _ _ (by simp), List.length_replicate, Nat.sub_self, List.drop_eq_getElem_cons (by omega), List.set_cons_zero, List.replicate_succ']
  simp
theorem length_any (A : Option Addr) (n c : Nat) (w : World) :
    Calls Try.prog 84 #[.slice A n c] w fun e w' => e = .returned (.int .i64 n) ∧ Below w.heap.size w w' := by
  go_enter Try.func84, Try.ntmps84
  go_wp2
  go_ret
  exact ⟨rfl, Below.refl _ _⟩

theorem specIn (a b c : Int) (w : World) : Calls Try.prog 52 #[.int .i64 a, .int .i64 b, .int .i64 c] w fun e w' => e = .returned (.bool (decide (b ≤ a) && decide (a ≤ c))) ∧ Below w.heap.size w w' := by
  go_enter Try.func52, Try.ntmps52
  go_wp2
  all_goals go_ret
  all_goals exact ⟨by simp [*] <;> omega, Below.refl _ _⟩

theorem within (a b c : Int) (w : World) : Calls Try.prog 58 #[.int .i64 a, .int .i64 b, .int .i64 c] w fun e w' => e = .returned (.bool (decide (b ≤ a) && decide (a ≤ c))) ∧ Below w.heap.size w w' := by
  go_enter Try.func58, Try.ntmps58
  go_wp2
  all_goals go_ret
  all_goals exact ⟨by simp [*] <;> omega, Below.refl _ _⟩

theorem isSize (a : Int) (w : World) : Calls Try.prog 100 #[.int .i64 a] w fun e w' => e = .returned (.bool (decide (1 ≤ a) && decide (a ≤ 6))) ∧ Below w.heap.size w w' := by
  go_enter Try.func100, Try.ntmps100
  go_wp2_with (first | (go_at_call 58; refine (within _ _ _ _).mono ?_; rintro e w' ⟨rfl, hb⟩))
  go_ret
  exact ⟨rfl, hb⟩

end Go.Proofs.Ytpcjbdkdpcgdiaa.H
