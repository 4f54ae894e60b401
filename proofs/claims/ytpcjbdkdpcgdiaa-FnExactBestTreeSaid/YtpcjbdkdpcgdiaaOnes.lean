/- How many vertices a face has. -/
import Derived.Test.YtpcjbdkdpcgdiaaBorders
namespace Go.Proofs.Ytpcjbdkdpcgdiaa.H
open Go.RowKit Go.Proofs.YtpcjbdkdpcgdiaaW.PrintWords Go.Proofs.YtpcjbdkdpcgdiaaW.PrintLast Go.Proofs.YtpcjbdkdpcgdiaaW.PrintMore
set_option linter.unusedVariables false
set_option linter.unusedSimpArgs false

/-- the number of vertices -/
def ones (f : Nat) : Nat := (vs f).length
theorem ones_step : ∀ g, g < 64 → ones g = g % 2 + ones (g / 2) := by decide +kernel
theorem ones_le : ∀ g, g < 64 → ones g ≤ 6 := by decide +kernel
set_option maxRecDepth 100000 in
set_option maxHeartbeats 1000000 in
theorem specOnes (x : Nat) (hx : x < 64) (w : World) : Calls Try.prog 62 #[.int .i64 x] w fun e w' => e = .returned (.int .i64 (ones x : Nat)) ∧ Below w.heap.size w w' := by
  go_enter Try.func62, Try.ntmps62
  go_wp2
  go_loopw [0, 3] (fun s0 s3 wr => ∃ g k : Nat, s0 = .int .i64 g ∧ g < 64 ∧ s3 = .int .i64 k ∧ k ≤ 6 ∧ k + ones g = ones x ∧ wr = w) (fun s0 _ _ => (intOf s0).toNat)
  case atStart => exact ⟨x, 0, rfl, hx, rfl, by decide, by omega, rfl⟩
  case round =>
    obtain ⟨g, k, rfl, hg, rfl, hk, he, rfl⟩ := hrel
    have hox := ones_le x hx
    by_cases h0 : 0 < g
    · have hst := ones_step g hg
      have h0I : (0 : Int) < (g : Int) := by omega
      have hr1 : Int.tmod (g : Int) 2 = ((g % 2 : Nat) : Int) := by rw [Int.tmod_eq_emod_of_nonneg (by omega)]; omega
      have hq1 : Int.tdiv (g : Int) 2 = ((g / 2 : Nat) : Int) := by rw [Int.tdiv_eq_ediv_of_nonneg (by omega)]; omega
      have hr2 : (g : Int) % 2 = ((g % 2 : Nat) : Int) := by omega
      have hq2 : (g : Int) / 2 = ((g / 2 : Nat) : Int) := by omega
      obtain ⟨r, hr⟩ : ∃ r, r = g % 2 := ⟨_, rfl⟩
      obtain ⟨q, hq⟩ : ∃ q, q = g / 2 := ⟨_, rfl⟩
      have hqg : q < g := by omega
      have hr6 : r ≤ 1 := by omega
      rw [← hr] at hst hr1 hr2
      rw [← hq] at hst hq1 hq2
      clear hr hq
      go_wp2
      go_roundw
      case rel => exact ⟨q, k + r, by first | rfl | (simp [hq1, hq2]) | (simp; omega), by omega, by first | rfl | (simp [hr1, hr2]) | (simp; omega), by omega, by omega, trivial⟩
      case measure => simp [intOf] <;> omega
    · obtain rfl : g = 0 := by omega
      go_wp2
      go_ret
      have h00 : ones 0 = 0 := by decide
      exact ⟨by rw [← he, h00]; simp, Below.refl _ _⟩

end Go.Proofs.Ytpcjbdkdpcgdiaa.H
