/- slices.Clone and slices.DeleteFunc at []int64. -/
import Derived.Test.YtcbkchnfjeegmaaBase
import Derived.Test.YtcbkchnfjeegmaaGrn
import Derived.Test.YtcbkchnfjeegmaaHas
import Derived.Lib.SliceRun
namespace Go.Proofs.Ytcbkchnfjeegmaa.H
open Go.RowKit Go.Proofs.YtcbkchnfjeegmaaW.PrintWords Go.Proofs.YtcbkchnfjeegmaaW.PrintLast Go.Proofs.YtcbkchnfjeegmaaW.PrintMore
set_option linter.unusedVariables false
set_option linter.unusedSimpArgs false

/-- a slice of the call's own, cut -/
theorem OwnI.cut {b : Nat} {w : World} {g n cap : Nat} {xs : List Int} (h : OwnI b w (.slice (some ⟨g, 0, none⟩) n cap) xs) {i : Nat} (hi : i ≤ n) : OwnI b w (.slice (some ⟨g, 0, none⟩) i cap) (xs.take i) := by
  have ho := Kd.own_of_R h
  have hn : xs.length = n := by
    obtain ⟨A, c, e, -⟩ := h.read
    injection e with _ e _
    exact e.symm
  obtain ⟨h1, h2⟩ := ho
  rcases h2 with ⟨h2, _⟩ | ⟨g', cap', cur, e, hb, hh, hl, hm, hs, ht⟩
  · cases h2
  · cases e
    refine OwnI.of_row (b' := b) ⟨?_, .inr ⟨g, cap, cur, ?_, hb, hh, ?_, hm, hs, ?_⟩⟩ (Nat.le_refl _)
    · rw [List.length_map, Nat.mul_one]
    · rw [List.length_take, Nat.min_eq_left (by omega)]
    · rw [List.length_take]; omega
    · have h3 := congrArg (List.take i) ht
      rw [List.take_take, Nat.mul_one, Nat.min_eq_left (by omega)] at h3
      rw [List.length_take, Nat.min_eq_left (by omega), Nat.mul_one, h3]
      show List.take i (xs.map (Value.int .i64)) = _
      rw [List.map_take]
theorem own_le {b : Nat} {w : World} {g n cap : Nat} {xs : List Int} (h : OwnI b w (.slice (some ⟨g, 0, none⟩) n cap) xs) : n ≤ cap := by
  obtain ⟨A, c, e, hle, -⟩ := h.read
  injection e with _ e1 e2
  omega
/-- zeros are written from o on -/
theorem own_zeros {b g n cap : Nat} : ∀ (m o : Nat) (w : World) (xs : List Int), OwnI b w (.slice (some ⟨g, 0, none⟩) n cap) xs → o + m ≤ n →
    ∃ ys, OwnI b (w.setCells g o (List.replicate m (.int .i64 0))) (.slice (some ⟨g, 0, none⟩) n cap) ys ∧ ys.take o = xs.take o ∧ w.grownBy (w.setCells g o (List.replicate m (.int .i64 0))) (some g)
  | 0, o, w, xs, h, _ => ⟨xs, h, rfl, World.grownBy.refl _ _⟩
  | m + 1, o, w, xs, h, hl => by
    have hput := OwnI.put h o 0
    have h2 := Kd.R_putg h (o : Int) 0
    simp only [Int.toNat_natCast] at h2
    obtain ⟨ys, h3, h4, h5⟩ := own_zeros (b := b) (g := g) (n := n) (cap := cap) m (o + 1) _ _ hput (by omega)
    refine ⟨ys, h3, ?_, grown_trans h2.2 h5⟩
    have h6 := congrArg (List.take o) h4
    rw [List.take_take, List.take_take, Nat.min_eq_left (Nat.le_succ o), List.take_set_of_le (Nat.le_refl o)] at h6
    exact h6
theorem zero64 (w : World) : (zeroValue 2).run Try.prog w = .ok (.int .i64 0) w := by kernel_rfl
section
variable {ops : Array Oper} {rest : List Oper} {o : Oper} {a : Act} {Q : Exit → Act → World → Prop}
/-- clear(s[i:]) -/
theorem clear_own {W : World} {b g n cap : Nat} {xs : List Int} (hgd : o.guard = none) (x : Operand) (ho : o.op = .call { callee := .builtin .clear, args := #[x], argTypes := #[22] })
    (i c : Nat) (hi : i < n) (HO : OwnI b W (.slice (some ⟨g, 0, none⟩) n cap) xs) (hx : a.eval x = .slice (some ⟨g, i, none⟩) (n - i) c)
    (h : ∀ w' ys, OwnI b w' (.slice (some ⟨g, 0, none⟩) n cap) ys → ys.take i = xs.take i → W.grownBy w' (some g) → wpList Try.prog ops Q rest (a.put o.dst (.tuple #[])) w') : wpList Try.prog ops Q (o :: rest) a W := by
  have hrun := Lib.run_clear_slice (P := Try.prog) W 22 2 o.type (.int .i64 0) Try.underlying22 zero64 rfl rfl g i (n - i) c (by omega)
    (fun j hj => by obtain ⟨⟨y, hy⟩, _⟩ := OwnI.slot HO (i := i + j) (by omega); rw [hy]; rfl) (fun j hj => (OwnI.slot HO (i := i + j) (by omega)).2)
  obtain ⟨ys, h1, h2, h3⟩ := own_zeros (n - i) i W xs HO (by omega)
  refine wpList_plain hgd fun K' hK' => ?_
  unfold Oper.wp
  simp [execOp, ho, resolve, invoke, builtin, hx, hrun, Result.andThen]
  exact hK' _ _ (h _ ys h1 h2 h3)
end

/-- what is kept of the first j -/
def keptTo (p : Int → Bool) (xs : List Int) (j : Nat) : List Int := (xs.take j).filter fun x => !p x
theorem kept_hit {p : Int → Bool} {xs : List Int} {j : Nat} {y : Int} (hj : j < xs.length) (hy : xs.getD j 0 = y) (h : p y = false) : keptTo p xs (j + 1) = keptTo p xs j ++ [y] := by
  unfold keptTo; rw [take_get hj hy, List.filter_append]; simp [h]
theorem kept_miss {p : Int → Bool} {xs : List Int} {j : Nat} {y : Int} (hj : j < xs.length) (hy : xs.getD j 0 = y) (h : p y = true) : keptTo p xs (j + 1) = keptTo p xs j := by
  unfold keptTo; rw [take_get hj hy, List.filter_append]; simp [h]
theorem kept_len (p : Int → Bool) (xs : List Int) (j : Nat) : (keptTo p xs j).length ≤ j := by
  unfold keptTo; exact Nat.le_trans (List.length_filter_le _ _) (List.length_take_le _ _)
theorem kept_all (p : Int → Bool) (xs : List Int) : keptTo p xs xs.length = xs.filter fun x => !p x := by unfold keptTo; rw [List.take_length]
theorem kept_first {p : Int → Bool} {xs : List Int} {i : Nat} (hi : i < xs.length) (h : xs.findIdx p = i) : keptTo p xs (i + 1) = xs.take i ∧ p (xs.getD i 0) = true := by
  rw [List.findIdx_eq hi] at h
  obtain ⟨h1, h2⟩ := h
  have e : xs.getD i 0 = xs[i] := by simp [List.getD_eq_getElem?_getD, hi]
  refine ⟨?_, by rw [e]; exact h1⟩
  rw [kept_miss hi e h1]
  unfold keptTo
  rw [List.filter_eq_self]
  intro x hx
  obtain ⟨k, hk, rfl⟩ := List.getElem_of_mem hx
  rw [List.length_take] at hk
  rw [List.getElem_take]
  have := h2 k (by omega)
  rw [this]; rfl
/-- the row while it is cut: the kept ones, and from j on what was there -/
def cutRow (p : Int → Bool) (xs : List Int) (j : Nat) (ys : List Int) : Prop := ys.length = xs.length ∧ ys.take (keptTo p xs j).length = keptTo p xs j ∧ ys.drop j = xs.drop j
theorem cut_get {p : Int → Bool} {xs : List Int} {j : Nat} {ys : List Int} (h : cutRow p xs j ys) : ys.getD j 0 = xs.getD j 0 := by
  have h1 := congrArg (fun l => l.getD 0 0) h.2.2
  simpa [List.getD_eq_getElem?_getD] using h1
theorem drop_next {xs ys : List Int} {j : Nat} (h : ys.drop j = xs.drop j) : ys.drop (j + 1) = xs.drop (j + 1) := by
  have := congrArg (List.drop 1) h
  rwa [List.drop_drop, List.drop_drop] at this
theorem cut_miss {p : Int → Bool} {xs : List Int} {j : Nat} {ys : List Int} {y : Int} (hj : j < xs.length) (hy : xs.getD j 0 = y) (hp : p y = true) (h : cutRow p xs j ys) : cutRow p xs (j + 1) ys := by
  refine ⟨h.1, ?_, drop_next h.2.2⟩
  rw [kept_miss hj hy hp]; exact h.2.1
theorem set_take_next {ys : List Int} {k : Nat} {y : Int} (h : k < ys.length) : (ys.set k y).take (k + 1) = ys.take k ++ [y] := by
  rw [List.take_succ_eq_append_getElem (by rw [List.length_set]; exact h), List.getElem_set_self, List.take_set_of_le (Nat.le_refl k)]
theorem cut_hit {p : Int → Bool} {xs : List Int} {j : Nat} {ys : List Int} {y : Int} (hj : j < xs.length) (hy : xs.getD j 0 = y) (hp : p y = false) (h : cutRow p xs j ys) : cutRow p xs (j + 1) (ys.set (keptTo p xs j).length y) := by
  have hl := kept_len p xs j
  obtain ⟨h1, h2, h3⟩ := h
  refine ⟨by rw [List.length_set]; exact h1, ?_, ?_⟩
  · rw [kept_hit hj hy hp, List.length_append, List.length_singleton, set_take_next (by omega), h2]
  · rw [List.drop_set_of_lt (by omega)]
    exact drop_next h3

set_option maxRecDepth 100000 in
set_option maxHeartbeats 4000000 in
theorem deleteFunc (w0 w : World) (v : Value) (xs : List Int) (fv : Value) (p : Int → Bool) (dom : Int → Prop) (hb : Below w0.heap.size w0 w) (ho : OwnI w0.heap.size w v xs) (hp : PredI w0 fv p dom) (hd : ∀ x ∈ xs, dom x) (hlen : xs.length ≤ 1000000) :
    Calls Try.prog 110 #[v, fv] w fun e w' => ∃ u, e = .returned u ∧ OwnI w0.heap.size w' u (xs.filter fun x => !p x) ∧ Below w0.heap.size w0 w' := by
  have HO := Aside0.mk ho
  have HB := Aside0.mk hb
  have HP := Aside0.mk hp
  have HD := Aside0.mk hd
  have HPW := Aside0.mk (hp.below hb)
  have HIX := Aside0.mk (indexFunc v xs fv p dom w ho.read (hp.below hb) hd)
  by_cases hfi : xs.findIdx p < xs.length
  · obtain ⟨i0, hi0⟩ : ∃ i0, i0 = xs.findIdx p := ⟨_, rfl⟩
    have hix : idx p xs = (i0 : Int) := by unfold idx; rw [if_pos hfi, hi0]
    rw [hix] at HIX
    rw [← hi0] at hfi
    obtain ⟨hk0, hpi⟩ := kept_first hfi hi0.symm
    obtain ⟨g, cap, rfl, -⟩ := Kd.R_form ho (by omega)
    have hcr : cutRow p xs (i0 + 1) xs := ⟨rfl, by rw [hk0, List.length_take, Nat.min_eq_left (by omega)], rfl⟩
    have hkl : (keptTo p xs (i0 + 1)).length = i0 := by rw [hk0, List.length_take, Nat.min_eq_left (by omega)]
    have HKL := Aside0.mk hkl
    have HCR := Aside0.mk hcr
    have hle := own_le ho
    have hge := ho.base g (by simp [Value.ownBlock])
    obtain ⟨fg, first, caps, rfl, hent, hpc⟩ := hp
    have HPC := Aside0.mk hpc
    unfold Enters at hent
    have hne : ((i0 : Int) == -1) = false := by rw [beq_eq_false_iff_ne]; omega
    clear hi0 hix hk0 hpi hcr hkl ho hb hd hpc
    go_enter Try.func110, Try.ntmps110
    go_wp2_with (first | (go_at_call 166; refine HIX.out.mono ?_; rintro e w2 ⟨rfl, hb2⟩; have HO2 := Aside0.mk (HO.out.below hb2); have HB2 := Aside0.mk (HB.out.trans (hb2.mono HB.out.size)); clear hb2))
    go_loopw [5, 6] (fun s5 s6 wr => ∃ (j : Nat) (ys : List Int), s6 = .int .i64 j ∧ i0 < j ∧ j ≤ xs.length ∧ s5 = .int .i64 ((keptTo p xs j).length : Nat) ∧ (keptTo p xs j).length < j ∧ Aside0 (cutRow p xs j ys) ∧ Aside0 (OwnI w0.heap.size wr (.slice (some ⟨g, 0, none⟩) xs.length cap) ys) ∧ Aside0 (Below w0.heap.size w0 wr)) (fun _ s6 _ => xs.length - (intOf s6).toNat)
    case atStart => exact ⟨i0 + 1, xs, by go_num, by omega, by omega, by rw [HKL.out], by rw [HKL.out]; omega, HCR, HO2, HB2⟩
    case round =>
      obtain ⟨j, ys, rfl, hij, hj, rfl, hkj, HC, HOr, HBr⟩ := hrel
      obtain ⟨kl, hkl⟩ : ∃ kl, kl = (keptTo p xs j).length := ⟨_, rfl⟩
      have HKJ := Aside0.mk hkl
      rw [← hkl] at hkj ⊢
      clear hkl
      by_cases hlt : j < xs.length
      · have hrd := HOr.out.read
        obtain ⟨A_, c_, e_, -, hcc⟩ := hrd
        have hyl : ys.length = xs.length := HC.out.1
        rw [hyl] at e_ hcc
        injection e_ with e1 _ e3
        subst e1 e3
        obtain ⟨ad, y, e1, hcell, HY⟩ := ReadI.get (xs := ys) (by rw [hyl]; exact hcc) (i := j) (by omega)
        cases e1
        rw [add_mk] at hcell
        have hyx : xs.getD j 0 = y := by rw [← cut_get HC.out]; exact HY.out
        have HYX := Aside0.mk hyx
        have hdy : dom y := HD.out y (mem_at hlt hyx)
        have HDY := Aside0.mk hdy
        have HCALL := Aside0.mk (HPC.out wr y HBr.out hdy)
        clear hcc hyl hyx hdy
        cases hpy : p y with
        | true =>
          have HKN := Aside0.mk (kept_miss (p := p) hlt HYX.out hpy)
          have HCN := Aside0.mk (cut_miss hlt HYX.out hpy HC.out)
          go_wp2_with (first | (refine HCALL.out.mono ?_; rintro e w3 ⟨rfl, hb3⟩; have HO3 := Aside0.mk (HOr.out.below hb3); have HB3 := Aside0.mk (HBr.out.trans (hb3.mono HBr.out.size)); clear hb3))
          go_roundw
          case rel => exact ⟨j + 1, ys, by go_num, by omega, by omega, by rw [HKN.out, ← HKJ.out], by rw [HKN.out, ← HKJ.out]; omega, HCN, HO3, HB3⟩
          case measure => simp [intOf]; omega
        | false =>
          have HKN := Aside0.mk (kept_hit (p := p) hlt HYX.out hpy)
          have HCN := Aside0.mk (cut_hit hlt HYX.out hpy HC.out)
          rw [← HKJ.out] at HCN
          go_wp2_with (first | (refine HCALL.out.mono ?_; rintro e w3 ⟨rfl, hb3⟩; have HO3 := Aside0.mk (HOr.out.below hb3); have HB3 := Aside0.mk (HBr.out.trans (hb3.mono HBr.out.size)); have hz3 := hb3.size; clear hb3) | ((with_reducible refine gate_store (t := 2) (p := 33) rfl ?_); refine store_own (w0 := w0) rfl (p := 33) rfl rfl kl y HO3.out ?ha ?hb ?hc ?_; (case ha => omega); (case hb => rfl); (case hc => rfl); intro w4 ho4 hg4 hb4; have HO4 := Aside0.mk ho4; have HB4 := Aside0.mk (HB3.out.trans hb4); clear ho4 hg4 hb4))
          go_roundw
          case rel => exact ⟨j + 1, _, by go_num, by omega, by omega, by rw [HKN.out, List.length_append, ← HKJ.out]; go_num, by rw [HKN.out, List.length_append, ← HKJ.out]; simp; omega, HCN, HO4, HB4⟩
          case measure => simp [intOf]; omega
      · have e : j = xs.length := by omega
        have HE := Aside0.mk e
        have hkn : kl < xs.length := by omega
        have hck : ¬ cap = kl := by omega
        clear e
        go_wp2_with (first | ((with_reducible refine gate_builtin (b := .clear) (xs := #[.tmp 38]) rfl ?_); refine clear_own (b := w0.heap.size) rfl _ rfl kl (cap - kl) hkn HOr.out rfl ?_; intro w4 zs ho4 ht4 hg4; have HO4 := Aside0.mk (ho4.cut (i := kl) (by omega)); have HB4 := Aside0.mk (HBr.out.trans (below_grown hg4 hge HBr.out.size)); have HT4 := Aside0.mk ht4; clear ho4 ht4 hg4))
        go_ret
        refine ⟨_, rfl, ?_, HB4.out⟩
        have h1 := HO4.out
        rw [HT4.out] at h1
        have h2 := HC.out.2.1
        rw [← HKJ.out] at h2
        rw [h2, HE.out, kept_all] at h1
        exact h1
  · have hix : idx p xs = -1 := by unfold idx; rw [if_neg hfi]
    rw [hix] at HIX
    have hall : (xs.filter fun x => !p x) = xs := by
      rw [List.filter_eq_self]
      intro x hx
      have h2 := List.findIdx_eq_length (p := p) (xs := xs)
      have h3 := (h2.1 (by have := List.findIdx_le_length (p := p) (xs := xs); omega)) x hx
      rw [h3]; rfl
    have HALL := Aside0.mk hall
    obtain ⟨A1, d1, rfl, -⟩ := id ho.read
    obtain ⟨fg, first, caps, rfl, -⟩ := hp
    clear hix hfi hall ho hb hd
    go_enter Try.func110, Try.ntmps110
    go_wp2_with (first | (go_at_call 166; refine HIX.out.mono ?_; rintro e w2 ⟨rfl, hb2⟩; have HO2 := Aside0.mk (HO.out.below hb2); have HB2 := Aside0.mk (HB.out.trans (hb2.mono HB.out.size)); clear hb2))
    go_ret
    exact ⟨_, rfl, by rw [HALL.out]; exact HO2.out, HB2.out⟩
end Go.Proofs.Ytcbkchnfjeegmaa.H
