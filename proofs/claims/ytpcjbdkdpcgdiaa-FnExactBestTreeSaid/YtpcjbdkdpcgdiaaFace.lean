/- Faces of at most six vertices: their vertices and borders, by the program and by the reference. -/
import Derived.Test.YtpcjbdkdpcgdiaaHof
import Derived.Test.YtpcjbdkdpcgdiaaBits
namespace Go.Proofs.Ytpcjbdkdpcgdiaa.H
open Go.RowKit Go.Proofs.YtpcjbdkdpcgdiaaW.PrintWords Go.Proofs.YtpcjbdkdpcgdiaaW.PrintLast Go.Proofs.YtpcjbdkdpcgdiaaW.PrintMore
set_option linter.unusedVariables false
set_option linter.unusedSimpArgs false

/-- the vertices of a face -/
def vs (f : Nat) : List Int := ((List.range 6).filter fun v => f.testBit v).map fun (v : Nat) => (v : Int)
def vsTo (f k : Nat) : List Int := ((List.range k).filter fun v => f.testBit v).map fun (v : Nat) => (v : Int)
theorem vsTo_succ (f k : Nat) : vsTo f (k + 1) = if f.testBit k then vsTo f k ++ [(k : Int)] else vsTo f k := by
  unfold vsTo
  rw [List.range_succ, List.filter_append, List.map_append]
  by_cases h : f.testBit k <;> simp [h]
theorem vsTo_len (f k : Nat) : (vsTo f k).length ≤ k := by
  unfold vsTo
  rw [List.length_map]
  exact Nat.le_trans (List.length_filter_le _ _) (by simp)

set_option maxHeartbeats 1000000 in
theorem vertices (f : Nat) (hf : f ≤ 63) (w : World) :
    Calls Try.prog 128 #[.int .i64 f] w fun e w' => ∃ v, e = .returned v ∧ OwnI w.heap.size w' v (vs f) ∧ Below w.heap.size w w' := by
  go_enter Try.func128, Try.ntmps128
  go_wp2
  go_loopw [3, 5] (fun v i wr => ∃ k : Nat, i = .int .i64 k ∧ k ≤ 6 ∧ Aside0 (OwnI w.heap.size wr v (vsTo f k)) ∧ Aside0 (Below w.heap.size w wr)) (fun _ i _ => 6 - (intOf i).toNat)
  case atStart => exact ⟨0, rfl, by omega, ⟨OwnI.nil _ _⟩, ⟨Below.refl _ _⟩⟩
  case round =>
    obtain ⟨k, rfl, hk, HO, HB⟩ := hrel
    by_cases hlt : k < 6
    · have hb2 : Aside0 (vsTo f (k + 1) = if f.testBit k then vsTo f k ++ [(k : Int)] else vsTo f k) := ⟨vsTo_succ f k⟩
      have hbit := bit_of f k (by omega)
      cases ht : f.testBit k with
      | true =>
        rw [ht, if_pos rfl] at hbit
        have HT := Aside0.mk ht
        clear ht
        go_wp2_with (first | (at_builtin; refine app_own (w0 := w) w.heap.size rfl (.tmp 13) (.tmp 15) rfl _ (vsTo f k) k rfl rfl HO.out HB.out HB.out.size ?hl ?_; (case hl => have := vsTo_len f k; omega); intro v1 w1 ho hb hg hat; have HO1 := Aside0.mk ho; have HB1 := Aside0.mk hb; clear ho hb hg hat))
        go_roundw
        case rel => exact ⟨k + 1, by go_num, by omega, ⟨by rw [hb2.out, HT.out, if_pos rfl]; exact HO1.out⟩, HB1⟩
        case measure => simp [intOf]; omega
      | false =>
        rw [ht, if_neg (by decide)] at hbit
        have HT := Aside0.mk ht
        clear ht
        go_wp2
        go_roundw
        case rel => exact ⟨k + 1, by go_num, by omega, ⟨by rw [hb2.out, HT.out, if_neg (by decide)]; exact HO.out⟩, HB⟩
        case measure => simp [intOf]; omega
    · obtain rfl : k = 6 := by omega
      go_wp2
      go_ret
      exact ⟨_, rfl, HO.out, HB.out⟩
end Go.Proofs.Ytpcjbdkdpcgdiaa.H
