/- slices.IndexFunc, slices.ContainsFunc and areAll at [][]int64. -/
import Derived.Test.YtcbkchnfjeegmaaHof
namespace Go.Proofs.Ytcbkchnfjeegmaa.H
open Go.RowKit Go.Proofs.YtcbkchnfjeegmaaW.PrintWords Go.Proofs.YtcbkchnfjeegmaaW.PrintLast Go.Proofs.YtcbkchnfjeegmaaW.PrintMore
set_option linter.unusedVariables false
set_option linter.unusedSimpArgs false

/-- a slice of slices of numbers -/
def ReadS (w : World) (v : Value) (xss : List (List Int)) : Prop := ∃ A c, v = .slice A xss.length c ∧ xss.length ≤ 1000 ∧ ∀ i xs, xss[i]? = some xs → ∃ ad u, A = some ad ∧ w.cell? (ad.add i) = some u ∧ ReadI w u xs
theorem ReadS.below {w w' : World} {v : Value} {xss : List (List Int)} (h : ReadS w v xss) (hb : Below w.heap.size w w') : ReadS w' v xss := by
  obtain ⟨A, c, rfl, hl, hr⟩ := h
  refine ⟨A, c, rfl, hl, fun i xs hi => ?_⟩
  obtain ⟨ad, u, e, hc, hu⟩ := hr i xs hi
  exact ⟨ad, u, e, pw_cell_below hb hc, hu.below hb⟩
theorem ReadS.nil (w : World) : ReadS w (.slice none 0 0) [] := ⟨none, 0, rfl, by simp, fun i xs h => by simp at h⟩

/-- a function value of one slice of numbers that answers a bool, and makes memory at the most -/
def PredS (w : World) (fv : Value) (p : List Int → Bool) (dom : List Int → Prop) : Prop :=
  ∃ g first caps, fv = .func (.func g) first caps ∧ Enters g ∧ ∀ w1 u xs, Below w.heap.size w w1 → ReadI w1 u xs → dom xs → Calls Try.prog g (first ++ #[u] ++ caps) w1 fun e w2 => e = .returned (.bool (p xs)) ∧ Below w1.heap.size w1 w2
theorem PredS.below {w w' : World} {fv : Value} {p : List Int → Bool} {dom : List Int → Prop} (h : PredS w fv p dom) (hb : Below w.heap.size w w') : PredS w' fv p dom := by
  obtain ⟨g, first, caps, rfl, hent, hp⟩ := h
  exact ⟨g, first, caps, rfl, hent, fun w1 u xs h1 hx hd => hp w1 u xs (hb.trans (h1.mono hb.size)) hx hd⟩

theorem idxS_found {p : List Int → Bool} {xss : List (List Int)} {i : Nat} {xs : List Int} (hi : xss[i]? = some xs) (h0 : ∀ (j : Nat) (xs : List Int), j < i → xss[j]? = some xs → p xs = false) (h1 : p xs = true) : idx p xss = i := by
  obtain ⟨hl, e1⟩ := List.getElem?_eq_some_iff.1 hi
  have e : xss.findIdx p = i := by
    rw [List.findIdx_eq hl]
    refine ⟨by rw [e1]; exact h1, fun j hj => h0 j _ hj (List.getElem?_eq_getElem (by omega))⟩
  unfold idx; rw [e, if_pos hl]
theorem idxS_none {p : List Int → Bool} {xss : List (List Int)} (h0 : ∀ (j : Nat) (xs : List Int), xss[j]? = some xs → p xs = false) : idx p xss = -1 := by
  have e : ¬ xss.findIdx p < xss.length := by
    rw [List.findIdx_lt_length]
    rintro ⟨x, hx, hp⟩
    obtain ⟨j, hj, rfl⟩ := List.getElem_of_mem hx
    rw [h0 j _ (List.getElem?_eq_getElem hj)] at hp; cases hp
  unfold idx; rw [if_neg e]

set_option maxHeartbeats 1000000 in
theorem indexFuncS (v : Value) (xss : List (List Int)) (fv : Value) (p : List Int → Bool) (dom : List Int → Prop) (w : World) (hr : ReadS w v xss) (hp : PredS w fv p dom) (hd : ∀ xs ∈ xss, dom xs) :
    Calls Try.prog 201 #[v, fv] w fun e w' => e = .returned (.int .i64 (idx p xss)) ∧ Below w.heap.size w w' := by
  obtain ⟨g, first, caps, rfl, hent, hp⟩ := hp
  obtain ⟨A, c, rfl, hl, hr⟩ := hr
  have HR := Aside0.mk hr
  have HP := Aside0.mk hp
  have HD := Aside0.mk hd
  unfold Enters at hent
  clear hr hp hd
  go_enter Try.func201, Try.ntmps201
  go_wp2
  go_loopw [8] (fun v wr => ∃ i : Nat, v = .int .i64 i ∧ i ≤ xss.length ∧ Aside0 (∀ j xs, j < i → xss[j]? = some xs → p xs = false) ∧ Below w.heap.size w wr) (fun v _ => xss.length - (intOf v).toNat)
  case atStart => exact ⟨0, rfl, Nat.zero_le _, ⟨fun j _ hj => absurd hj (Nat.not_lt_zero _)⟩, Below.refl _ _⟩
  case round =>
    obtain ⟨i, rfl, hi, HN, hb⟩ := hrel
    by_cases hlt : i < xss.length
    · obtain ⟨xs, hxs⟩ : ∃ xs, xss[i]? = some xs := ⟨_, List.getElem?_eq_getElem hlt⟩
      obtain ⟨ad, u, rfl, hcell, hu⟩ := HR.out i xs hxs
      have hcell := pw_cell_below hb hcell
      have HU := Aside0.mk (hu.below hb)
      have HB := Aside0.mk hb
      have HX := Aside0.mk hxs
      have HDX := Aside0.mk (HD.out xs (List.mem_of_getElem? hxs))
      clear hxs hu hb
      cases hpy : p xs with
      | false =>
        go_wp2_with (first | (refine (HP.out _ _ _ HB.out HU.out HDX.out).mono ?_; rintro e w' ⟨rfl, hb2⟩))
        go_roundw
        case rel => exact ⟨i + 1, by go_num, by omega, ⟨fun j xs' hj hx => by
          rcases Nat.lt_succ_iff_lt_or_eq.1 hj with h | rfl
          · exact HN.out j xs' h hx
          · have := HX.out; rw [hx] at this; cases this; exact hpy⟩, HB.out.trans (hb2.mono HB.out.size)⟩
        case measure => simp [intOf]; omega
      | true =>
        go_wp2_with (first | (refine (HP.out _ _ _ HB.out HU.out HDX.out).mono ?_; rintro e w' ⟨rfl, hb2⟩))
        go_ret
        exact ⟨by rw [idxS_found HX.out HN.out hpy]; rfl, HB.out.trans (hb2.mono HB.out.size)⟩
    · go_wp2
      go_ret
      exact ⟨by rw [idxS_none (fun j xs hj => HN.out j xs (by have := (List.getElem?_eq_some_iff.1 hj).1; omega) hj)]; rfl, hb⟩

theorem idxS_any {p : List Int → Bool} {xs : List (List Int)} : decide (0 ≤ idx p xs) = xs.any p := by
  unfold idx
  cases h : xs.any p with
  | true =>
    have : xs.findIdx p < xs.length := by rw [List.findIdx_lt_length]; simpa using h
    rw [if_pos this]; simp
  | false =>
    have : ¬ xs.findIdx p < xs.length := by rw [List.findIdx_lt_length]; simpa using h
    rw [if_neg this]; simp

set_option maxHeartbeats 1000000 in
theorem containsFuncS (v : Value) (xss : List (List Int)) (fv : Value) (p : List Int → Bool) (dom : List Int → Prop) (w : World) (hr : ReadS w v xss) (hp : PredS w fv p dom) (hd : ∀ xs ∈ xss, dom xs) :
    Calls Try.prog 161 #[v, fv] w fun e w' => e = .returned (.bool (xss.any p)) ∧ Below w.heap.size w w' := by
  have HR := Aside0.mk hr
  have HP := Aside0.mk hp
  have HD := Aside0.mk hd
  clear hp hd
  obtain ⟨A, c, rfl, -⟩ := id hr
  clear hr
  go_enter Try.func161, Try.ntmps161
  go_wp2_with (first | (go_at_call 201; refine (indexFuncS _ _ _ _ _ _ HR.out HP.out HD.out).mono ?_; rintro e w' ⟨rfl, hb2⟩))
  go_ret
  exact ⟨by simp [← idxS_any], hb2⟩

theorem areAllS1 (w : World) (b : Nat) (fv : Value) (p : List Int → Bool) (dom : List Int → Prop) (hc : w.cell? ⟨b, 0, none⟩ = some fv) (hp : PredS w fv p dom) :
    PredS w (.func (.func 162) #[] #[.pointer (some ⟨b, 0, none⟩)]) (fun x => !p x) dom := by
  refine ⟨_, _, _, rfl, Enters.mk' Try.func162 rfl rfl, fun w1 u xs hb hx hd => ?_⟩
  obtain ⟨g, first, caps, rfl, hent, hp⟩ := hp
  have hcell : w1.cell? ⟨b, 0, none⟩ = some (.func (.func g) first caps) := pw_cell_below hb hc
  have H := Aside0.mk (hp w1 u xs hb hx hd)
  unfold Enters at hent
  clear hp hb hx hc hd
  show Calls _ _ #[_, _] _ _
  go_enter Try.func162, Try.ntmps162
  go_wp2_with (first | (refine H.out.mono ?_; rintro e w' ⟨rfl, hb2⟩))
  go_ret
  exact ⟨by simp, hb2⟩

set_option maxHeartbeats 1000000 in
theorem areAllS (v : Value) (xss : List (List Int)) (fv : Value) (p : List Int → Bool) (dom : List Int → Prop) (w : World) (hr : ReadS w v xss) (hp : PredS w fv p dom) (hd : ∀ xs ∈ xss, dom xs) :
    Calls Try.prog 105 #[v, fv] w fun e w' => e = .returned (.bool (xss.all p)) ∧ Below w.heap.size w w' := by
  obtain ⟨g, first, caps, rfl, -⟩ := id hp
  have hba : Below w.heap.size w (w.alloc (.cells #[.func (.func g) first caps] 92)) := Below.alloc (Below.refl _ _) (Nat.le_refl _) _
  have HR := Aside0.mk (hr.below hba)
  have HP := Aside0.mk (areAllS1 (w.alloc (.cells #[.func (.func g) first caps] 92)) w.heap.size _ p dom (by simp) (hp.below hba))
  have HD := Aside0.mk hd
  have HB := Aside0.mk hba
  obtain ⟨A, c, rfl, -⟩ := id hr
  clear hr hp hba hd
  go_enter Try.func105, Try.ntmps105
  go_wp2_with (first | (go_at_call 161; refine (containsFuncS _ _ _ _ _ _ HR.out HP.out HD.out).mono ?_; rintro e w' ⟨rfl, hb2⟩))
  go_ret
  exact ⟨by simp [List.all_eq_not_any_not], HB.out.trans (hb2.mono HB.out.size)⟩
end Go.Proofs.Ytcbkchnfjeegmaa.H
