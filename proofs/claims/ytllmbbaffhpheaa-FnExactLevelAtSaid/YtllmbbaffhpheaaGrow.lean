/- append(v, p) as one operation of a region of open order. -/
import Derived.Test.YtllmbbaffhpheaaTail
import Derived.Deep.AppendLies
namespace Go.Proofs.Ytllmbbaffhpheaa.H
open Go.RowKit Go.Proofs.YtllmbbaffhpheaaW.PrintWords Go.Proofs.YtllmbbaffhpheaaW.PrintLast Go.Proofs.YtllmbbaffhpheaaW.PrintMore
set_option linter.unusedVariables false
set_option linter.unusedSimpArgs false

/-- into the kit's own word -/
theorem OwnI.row {b : Nat} {w : World} {v : Value} {xs : List Int} (h : OwnI b w v xs) : w.ownsRow b 2 1 v xs.length (xs.map (Value.int .i64)) := by
  obtain ⟨-, inner, ho, hl, hr⟩ := h
  have e : inner = xs.map (Value.int .i64) := by
    refine List.ext_getElem? (fun j => ?_)
    by_cases hj : j < xs.length
    · have h3 : List.take 1 (List.drop (j * 1) inner) = [Value.int .i64 xs[j]] := hr j xs[j] (List.getElem?_eq_getElem hj)
      rw [Nat.mul_one] at h3
      have h2 : (List.take 1 (List.drop j inner))[0]? = some (Value.int .i64 xs[j]) := by rw [h3]; rfl
      rw [List.getElem?_take_of_lt (by decide), List.getElem?_drop] at h2
      rw [Nat.add_zero] at h2
      rw [h2, List.getElem?_map, List.getElem?_eq_getElem hj]; rfl
    · have hl' : inner.length = xs.length * 1 := hl
      rw [List.getElem?_eq_none (by rw [hl']; omega), List.getElem?_eq_none (by rw [List.length_map]; omega)]
  rw [← e]
  exact ho

set_option maxRecDepth 100000 in
theorem append_gives {o : Oper} {ev : Operand → Value} {W : World} (base : Nat) (s x : Operand) (ho : o.op = .call { callee := .builtin .append, args := #[s, x], argTypes := #[22, 22] })
    (v : Value) (xs : List Int) (p : Int) (b c : Nat) (hs : ev s = v) (hx : ev x = .slice (some ⟨b, 0, none⟩) 1 c) (hc : W.cell? ⟨b, 0, none⟩ = some (.int .i64 p))
    (HO : OwnI base W v xs) (hbase : base ≤ W.heap.size) (hl : xs.length < 17592186044416) {R : Value → World → Prop}
    (h : ∀ v1 w1, OwnI base w1 v1 (xs ++ [p]) → W.grownBy w1 v.ownBlock → (v1.ownBlock = v.ownBlock ∨ v1.ownBlock = some W.heap.size) → R v1 w1) : opGives Try.prog o ev W R := by
  obtain ⟨i64, hi, hii⟩ : ∃ i, Try.prog.info? 2 = some i ∧ (i.zero, i.size, i.bytes) = (some (Value.int .i64 0), 1, 8) := by
    have h64 := info64
    cases hi : Try.prog.info? 2 with
    | none => rw [hi] at h64; cases h64
    | some i => rw [hi] at h64; exact ⟨i, rfl, Option.some.inj h64⟩
  have hi0 : i64.zero = some (Value.int .i64 0) := (Prod.mk.inj hii).1
  have hi1 : i64.size = 1 := (Prod.mk.inj (Prod.mk.inj hii).2).1
  have hi2 : i64.bytes = 8 := (Prod.mk.inj (Prod.mk.inj hii).2).2
  obtain ⟨v', w', hr, h2, h3, -, h5⟩ := run_append_own_at (P := Try.prog) W base 22 o.type 2 _ (.int .i64 0) 1 8 Try.underlying22 hi hi0 hi1 hi2 rfl (by decide) v xs.length (xs.map (Value.int .i64)) HO.row ⟨b, 0, none⟩ 1 c [.int .i64 p] rfl
    (fun j u hj => by
      cases j with
      | zero => cases hj; exact hc
      | succ j => cases hj) (fun u hu => by rw [List.mem_singleton] at hu; subst hu; rfl) (by simp only [maxLen]; omega) (by omega) hbase
  refine opGives_value (w' := w') (v := v') ?_ (h v' w' (OwnI.of_row (b := base) (by rw [List.length_append, List.map_append]; exact h2) (Nat.le_refl _)) h3 h5)
  unfold execOp
  simp only [ho, resolve, invoke, builtin, Sem.run_bind, Sem.run_pure, Result.andThen_ok, List.map_toArray, List.map_cons, List.map_nil, hs, hx, hr]
end Go.Proofs.Ytllmbbaffhpheaa.H
