/- PairingByVertex: slices.Contains, append of pairs, byVertex. -/
import Derived.Test.YtllmbbaffhpheaaPair
import Derived.Test.YtllmbbaffhpheaaMapC
import Derived.Test.YtllmbbaffhpheaaCxS
namespace Go.Proofs.Ytllmbbaffhpheaa.H
open Go.RowKit Go.Proofs.YtllmbbaffhpheaaW.PrintWords Go.Proofs.YtllmbbaffhpheaaW.PrintLast Go.Proofs.YtllmbbaffhpheaaW.PrintMore
set_option linter.unusedVariables false
set_option linter.unusedSimpArgs false

theorem infoP : (Try.prog.info? 76).map (fun i => (i.zero, i.size, i.bytes)) = some (some (.agg #[.int .i64 0, .int .i64 0]), 2, 16) := by kernel_rfl
section
variable {P : Program} {ops : Array Oper} {rest : List Oper} {o : Oper} {a : Act} {Q : Exit → Act → World → Prop}
/-- append(v, Pair{x, y}) -/
theorem app_pair {w0 W : World} (base : Nat) (hgd : o.guard = none) (s x : Operand) (ho : o.op = .call { callee := .builtin .append, args := #[s, x], argTypes := #[43, 43] })
    (v : Value) (ps : List (Int × Int)) (p q : Int) (hs : a.eval s = v) (hx : a.eval x = .slice (some ⟨W.heap.size, 0, none⟩) 1 1)
    (HO : OwnP base W v ps) (HB : Below base w0 W) (hbase : base ≤ W.heap.size) (hl : ps.length < 1000000)
    (h : ∀ v1 w1, OwnP base w1 v1 (ps ++ [(p, q)]) → Below base w0 w1 → W.grownBy w1 v.ownBlock → (v1.ownBlock = v.ownBlock ∨ ∃ b, v1.ownBlock = some b ∧ W.heap.size ≤ b) → wpList Try.prog ops Q rest (a.put o.dst v1) w1) :
    wpList Try.prog ops Q (o :: rest) a (W.alloc (.cells #[.int .i64 p, .int .i64 q] 76)) := by
  refine print_append_cells base hgd s x 43 76 (.agg #[.int .i64 0, .int .i64 0]) 2 16 ho Try.underlying43 infoP rfl (by decide) (by decide) v ps.length ((flat ps).map (Value.int .i64)) [.int .i64 p, .int .i64 q] hs hx rfl (fun u hu => ?_) HO HB hbase (by omega) ?_
  · rcases List.mem_cons.1 hu with rfl | hu
    · rfl
    · rcases List.mem_cons.1 hu with rfl | hu
      · rfl
      · cases hu
  · intro v1 w1 h1 h2 h3 h4
    refine h v1 w1 ?_ h2 h3 h4
    unfold OwnP
    rw [List.length_append, List.length_singleton, flat_snoc, List.map_append]
    exact h1
end

set_option maxHeartbeats 1000000 in
theorem sliceIndex (v : Value) (xs : List Int) (x : Int) (w : World) (hr : ReadI w v xs) :
    Calls Try.prog 142 #[v, .int .i64 x] w fun e w' => (∃ r : Int, e = .returned (.int .i64 r) ∧ decide (0 ≤ r) = decide (x ∈ xs)) ∧ Below w.heap.size w w' := by
  have hlen := hr.len
  obtain ⟨A, c, rfl, hc, hr⟩ := hr
  have HR := Aside0.mk hr
  clear hr hc
  go_enter Try.func142, Try.ntmps142
  go_wp2
  go_loopw [8] (fun v wr => ∃ i : Nat, v = .int .i64 i ∧ i ≤ xs.length ∧ Aside0 (∀ j, j < i → x ≠ xs.getD j 0) ∧ wr = w) (fun v _ => xs.length - (intOf v).toNat)
  case atStart => exact ⟨0, rfl, Nat.zero_le _, ⟨fun j hj => absurd hj (Nat.not_lt_zero _)⟩, rfl⟩
  case round =>
    obtain ⟨i, rfl, hi, HN, rfl⟩ := hrel
    by_cases hlt : i < xs.length
    · obtain ⟨ad, y, rfl, hcell, HY⟩ := ReadI.get HR.out hlt
      by_cases hxy : x = y
      · have hb : (x == y) = true := by simpa using hxy
        have HM : Aside0 (x ∈ xs) := ⟨by rw [hxy]; exact mem_at hlt HY.out⟩
        clear hxy
        go_wp2
        go_ret
        exact ⟨⟨(i : Int), rfl, by rw [decide_eq_true HM.out]; exact decide_eq_true (by omega)⟩, Below.refl _ _⟩
      · have hb : (x == y) = false := by simpa using hxy
        have HX := Aside0.mk hxy
        clear hxy
        go_wp2
        go_roundw
        case rel => exact ⟨i + 1, by go_num, by omega, ⟨fun j hj => by
          rcases Nat.lt_succ_iff_lt_or_eq.1 hj with h | rfl
          · exact HN.out j h
          · rw [HY.out]; exact HX.out⟩, trivial⟩
        case measure => simp [intOf]; omega
    · have HM : Aside0 (x ∉ xs) := ⟨fun h => by
        obtain ⟨j, hj, e⟩ := List.getElem_of_mem h
        have := HN.out j (by omega)
        rw [List.getD_eq_getElem?_getD, List.getElem?_eq_getElem hj, Option.getD_some, e] at this
        exact this rfl⟩
      go_wp2
      go_ret
      exact ⟨⟨-1, rfl, by rw [decide_eq_false HM.out]; decide⟩, Below.refl _ _⟩
theorem sliceContains (v : Value) (xs : List Int) (x : Int) (w : World) (hr : ReadI w v xs) :
    Calls Try.prog 120 #[v, .int .i64 x] w fun e w' => e = .returned (.bool (decide (x ∈ xs))) ∧ Below w.heap.size w w' := by
  have HR := Aside0.mk hr
  obtain ⟨A, c, rfl, -⟩ := id hr
  clear hr
  go_enter Try.func120, Try.ntmps120
  go_wp2_with (first | (go_at_call 142; refine (sliceIndex _ xs x _ HR.out).mono ?_; rintro e w2 ⟨⟨r, rfl, he⟩, hb⟩; have HE := Aside0.mk he; clear he))
  go_ret
  exact ⟨by rw [← HE.out]; rfl, hb⟩
end Go.Proofs.Ytllmbbaffhpheaa.H
