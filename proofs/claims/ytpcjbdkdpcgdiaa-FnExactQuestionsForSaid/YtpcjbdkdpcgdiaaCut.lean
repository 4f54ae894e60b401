/- A slice of the call's own whose capacity was cut; copies of the reference. -/
import Derived.Test.YtpcjbdkdpcgdiaaLawMm
import Derived.Test.YtpcjbdkdpcgdiaaLawC
import Derived.Test.YtpcjbdkdpcgdiaaCx
namespace Go.Proofs.Ytpcjbdkdpcgdiaa.H
open Go.RowKit Go.Proofs.YtpcjbdkdpcgdiaaW.PrintWords Go.Proofs.YtpcjbdkdpcgdiaaW.PrintLast Go.Proofs.YtpcjbdkdpcgdiaaW.PrintMore
set_option linter.unusedVariables false
set_option linter.unusedSimpArgs false

/-- a slice of the call's own, cut -/
theorem OwnI.cut {b : Nat} {w : World} {g n cap : Nat} {xs : List Int} (h : OwnI b w (.slice (some ⟨g, 0, none⟩) n cap) xs) {i : Nat} (hi : i ≤ n) : OwnI b w (.slice (some ⟨g, 0, none⟩) i cap) (xs.take i) := by
  have ho := Kd.own_of_R h
  have hn : xs.length = n := by
    obtain ⟨A, c, e, -⟩ := h.read
    injection e with _ e _
    exact e.symm
  obtain ⟨h1, h2⟩ := ho
  rcases h2 with ⟨h2, _⟩ | ⟨g', cap', cur, e, hb, hh, hl, hm, hs, ht⟩
  · cases h2
  · cases e
    refine OwnI.of_row (b' := b) ⟨?_, .inr ⟨g, cap, cur, ?_, hb, hh, ?_, hm, hs, ?_⟩⟩ (Nat.le_refl _)
    · rw [List.length_map, Nat.mul_one]
    · rw [List.length_take, Nat.min_eq_left (by omega)]
    · rw [List.length_take]; omega
    · have h3 := congrArg (List.take i) ht
      rw [List.take_take, Nat.mul_one, Nat.min_eq_left (by omega)] at h3
      rw [List.length_take, Nat.min_eq_left (by omega), Nat.mul_one, h3]
      show List.take i (xs.map (Value.int .i64)) = _
      rw [List.map_take]
/-- a slice of the call's own, whatever its capacity -/
def OwnQ (b : Nat) (w : World) (v : Value) (xs : List Int) : Prop := ∃ A c c', v = .slice A xs.length c ∧ xs.length ≤ c ∧ OwnI b w (.slice A xs.length c') xs
theorem OwnQ.of {b : Nat} {w : World} {v : Value} {xs : List Int} (h : OwnI b w v xs) : OwnQ b w v xs := by
  obtain ⟨A, c, rfl, hc, -⟩ := id h.read
  exact ⟨A, c, c, rfl, hc, h⟩
theorem OwnQ.nil (b : Nat) (w : World) : OwnQ b w (.slice none 0 0) [] := OwnQ.of (OwnI.nil b w)
theorem OwnQ.read {b : Nat} {w : World} {v : Value} {xs : List Int} (h : OwnQ b w v xs) : ReadI w v xs := by
  obtain ⟨A, c, c', rfl, hc, ho⟩ := h
  obtain ⟨A', c'', e, -, hr⟩ := ho.read
  injection e with e
  subst e
  exact ⟨A, c, rfl, hc, hr⟩
theorem OwnQ.below {b : Nat} {w w' : World} {v : Value} {xs : List Int} (h : OwnQ b w v xs) (hb : Below w.heap.size w w') : OwnQ b w' v xs := by
  obtain ⟨A, c, c', rfl, hc, ho⟩ := h
  exact ⟨A, c, c', rfl, hc, ho.below hb⟩
theorem OwnQ.lower {b b' : Nat} {w : World} {v : Value} {xs : List Int} (h : OwnQ b w v xs) (hb : b' ≤ b) : OwnQ b' w v xs := by
  obtain ⟨A, c, c', rfl, hc, ho⟩ := h
  exact ⟨A, c, c', rfl, hc, ho.lower hb⟩
theorem own_blk (A : Option Addr) (n c c' : Nat) : (Value.slice A n c).ownBlock = (Value.slice A n c').ownBlock := by cases A <;> rfl
theorem OwnQ.base {b : Nat} {w : World} {v : Value} {xs : List Int} (h : OwnQ b w v xs) : ∀ k, v.ownBlock = some k → b ≤ k := by
  obtain ⟨A, c, c', rfl, hc, ho⟩ := h
  intro k hk
  exact ho.base k (by rw [own_blk A _ c' c]; exact hk)
theorem OwnQ.lt {b : Nat} {w : World} {v : Value} {xs : List Int} (h : OwnQ b w v xs) : ∀ k, v.ownBlock = some k → k < w.heap.size := by
  obtain ⟨A, c, c', rfl, hc, ho⟩ := h
  intro k hk
  exact ho.lt k (by rw [own_blk A _ c' c]; exact hk)
theorem OwnQ.grown {b : Nat} {w w' : World} {v : Value} {xs : List Int} (h : OwnQ b w v xs) {row : Option Nat} (hg : w.grownBy w' row) (hn : ∀ k, v.ownBlock = some k → some k ≠ row) : OwnQ b w' v xs := by
  obtain ⟨A, c, c', rfl, hc, ho⟩ := h
  exact ⟨A, c, c', rfl, hc, ho.grown hg (fun k hk => hn k (by rw [own_blk A _ c c']; exact hk))⟩
theorem Aside0.ownQ {b : Nat} {w w' : World} {v : Value} {xs : List Int} (h : Aside0 (OwnQ b w v xs)) (hb : Below w.heap.size w w') : Aside0 (OwnQ b w' v xs) := ⟨OwnQ.below h.out hb⟩
theorem own_grownQ {W W' : World} {v u : Value} {b lo hi lo' hi' : Nat} {xs : List Int} (hg : W.grownBy W' v.ownBlock) (hr : ∀ k, v.ownBlock = some k → lo ≤ k ∧ k < hi) (hr' : ∀ k, u.ownBlock = some k → lo' ≤ k ∧ k < hi') (hn : hi' ≤ lo ∨ hi ≤ lo') (ho : OwnQ b W u xs) : OwnQ b W' u xs :=
  ho.grown hg (fun k hk e => by have h1 := hr _ e.symm; have h2 := hr' _ hk; omega)

set_option maxHeartbeats 1000000 in
theorem markInt64Q (b : Nat) (v : Value) (xs : List Int) (k : Nat) (w : World) (ho : OwnQ b w v xs) (hk : k ≤ 1073741824) (hl : xs.length ≤ 1073741824) :
    Calls Try.prog 25 #[v, .int .i64 k] w fun e w' => e = .returned (.int .i64 ((k : Int) + xs.length)) ∧ OwnQ b w' v (marks k xs.length) ∧ w.grownBy w' v.ownBlock ∧ Below b w w' := by
  obtain ⟨A, c, c', rfl, hc, ho⟩ := ho
  have HO := Aside0.mk ho
  have HC := Aside0.mk hc
  have HOB := Aside0.mk (own_blk A xs.length c c')
  clear ho hc
  go_enter Try.func25, Try.ntmps25
  go_wp2
  go_loopw [1, 5] (fun vk vi wr => ∃ i : Nat, vi = .int .i64 i ∧ vk = .int .i64 ((k : Int) + i) ∧ i ≤ xs.length ∧ Aside0 (OwnI b wr (.slice A xs.length c') (marks k i ++ xs.drop i)) ∧ Aside0 (w.grownBy wr (Value.slice A xs.length c').ownBlock) ∧ Aside0 (Below b w wr)) (fun _ vi _ => xs.length - (intOf vi).toNat)
  case atStart => exact ⟨0, rfl, by simp, Nat.zero_le _, by simpa [marks] using HO, ⟨⟨rfl, rfl, rfl, Nat.le_refl _, fun _ _ _ => rfl⟩⟩, ⟨Below.refl _ _⟩⟩
  case round =>
    obtain ⟨i, rfl, rfl, hi, HI, HG, HB⟩ := hrel
    by_cases hlt : i < xs.length
    · obtain ⟨g, cap, e2, -⟩ := Kd.R_form HI.out (by simp [marks_len]; omega)
      have el : (marks k i ++ xs.drop i).length = xs.length := by rw [List.length_append, marks_len, List.length_drop]; omega
      rw [el] at e2
      cases e2
      obtain ⟨⟨y0, hcell2⟩, hf2⟩ := OwnI.slot HI.out (i := i) (by omega)
      have HM := Aside0.mk (marks_set (k := (k : Int)) hlt)
      clear el
      go_wp2_with (first | ((with_reducible refine gate_store (t := 2) (p := 15) rfl ?_); refine store_own (w0 := w) rfl (p := 15) rfl rfl i ((k : Int) + i) HI.out ?ha ?hb ?hc ?_; (case ha => omega); (case hb => rfl); (case hc => rfl); intro w' ho hg hb; have HO2 := Aside0.mk ho; have HB3 := Aside0.mk (HB.out.trans hb); have HG3 := Aside0.mk (grown_trans HG.out hg); clear ho hg hb))
      go_roundw
      case rel => exact ⟨i + 1, by go_num, by go_num, by omega, ⟨by rw [← HM.out]; exact HO2.out⟩, HG3, HB3⟩
      case measure => simp [intOf]; omega
    · have e : i = xs.length := by omega
      have HE := Aside0.mk e
      clear e
      go_wp2
      go_ret
      refine ⟨by rw [HE.out]; rfl, ?_, by rw [HOB.out]; exact HG.out, HB.out⟩
      have := HI.out
      rw [HE.out, List.drop_length, List.append_nil] at this
      exact ⟨A, c, c', by rw [marks_len], by rw [marks_len]; exact HC.out, by rw [marks_len]; exact this⟩

set_option maxRecDepth 100000 in
set_option maxHeartbeats 1000000 in
theorem specOwn (v : Value) (xs : List Int) (w : World) (hv : ReadI w v xs) (hl : xs.length ≤ 1000000) :
    Calls Try.prog 54 #[v] w fun e w' => ∃ u, e = .returned u ∧ OwnI w.heap.size w' u xs ∧ Below w.heap.size w w' := by
  obtain ⟨A, c, rfl, hc, hr⟩ := id hv
  obtain ⟨w1, hw1⟩ : ∃ w1, w1 = w.alloc (.cells #[] 2) := ⟨_, rfl⟩
  have hB : Below w.heap.size w w1 := by rw [hw1]; exact Below.alloc (Below.refl _ _) (Nat.le_refl _) _
  have hs1 : w.heap.size ≤ w1.heap.size := hB.size
  have HO := Aside0.mk (show OwnI w.heap.size w1 (.slice (some ⟨w.heap.size, 0, none⟩) 0 0) [] by rw [hw1]; exact OwnI.empty w (Nat.le_refl _))
  have HB := Aside0.mk hB
  have HR := Aside0.mk (Kd.C_below hr hB)
  clear hr hv hB
  go_enter Try.func54, Try.ntmps54
  go_wp2_with (first | ((with_reducible refine gate_builtin (b := .append) (xs := #[.tmp 3, .tmp 4]) rfl ?_); rw [← hw1]; clear hw1; refine Kd.R_append_row (Value.int .i64) (0 : Int) (w0 := w) w.heap.size rfl (.tmp 3) (.tmp 4) 22 2 (.int .i64 0) 8 rfl Try.underlying22 info64 rfl (by decide) _ [] xs A xs.length c (fun _ => True) rfl rfl (fun _ _ => trivial) HO.out HR.out HB.out hs1 (by simp; omega) ?_; intro v1 w2 ho hb hg hat; have HO2 := Aside0.mk ho; have HB2 := Aside0.mk hb; clear ho hb hg hat))
  go_ret
  exact ⟨_, rfl, HO2.out, HB2.out⟩
end Go.Proofs.Ytpcjbdkdpcgdiaa.H
