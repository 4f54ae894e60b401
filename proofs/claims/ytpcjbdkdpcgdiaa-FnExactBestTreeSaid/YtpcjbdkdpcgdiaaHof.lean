/- slices.IndexFunc, slices.ContainsFunc and areAll at []int64: whatever predicate that makes memory at the most. -/
import Derived.Test.YtpcjbdkdpcgdiaaLib
namespace Go.Proofs.Ytpcjbdkdpcgdiaa.H
open Go.RowKit Go.Proofs.YtpcjbdkdpcgdiaaW.PrintWords Go.Proofs.YtpcjbdkdpcgdiaaW.PrintLast Go.Proofs.YtpcjbdkdpcgdiaaW.PrintMore
set_option linter.unusedVariables false
set_option linter.unusedSimpArgs false

/-- the least index at which p holds, -1 if there is none -/
def idx {α : Type} (p : α → Bool) (xs : List α) : Int := if xs.findIdx p < xs.length then (xs.findIdx p : Int) else -1

/-- a function value of one int that answers a bool, and makes memory at the most -/
def PredI (w : World) (fv : Value) (p : Int → Bool) (dom : Int → Prop) : Prop :=
  ∃ g first caps, fv = .func (.func g) first caps ∧ Enters g ∧ ∀ w1 x, Below w.heap.size w w1 → dom x → Calls Try.prog g (first ++ #[.int .i64 x] ++ caps) w1 fun e w2 => e = .returned (.bool (p x)) ∧ Below w1.heap.size w1 w2

theorem idx_found {p : Int → Bool} {xs : List Int} {i : Nat} (hi : i < xs.length) (h0 : ∀ j, j < i → p (xs.getD j 0) = false) (h1 : p (xs.getD i 0) = true) : idx p xs = i := by
  have e : xs.findIdx p = i := by
    rw [List.findIdx_eq hi]
    refine ⟨by simpa [List.getD_eq_getElem?_getD, hi] using h1, fun j hj => ?_⟩
    have := h0 j hj
    simpa [List.getD_eq_getElem?_getD, Nat.lt_trans hj hi] using this
  unfold idx; rw [e, if_pos hi]
theorem idx_none {p : Int → Bool} {xs : List Int} (h0 : ∀ j, j < xs.length → p (xs.getD j 0) = false) : idx p xs = -1 := by
  have e : ¬ xs.findIdx p < xs.length := by
    rw [List.findIdx_lt_length]
    rintro ⟨x, hx, hp⟩
    obtain ⟨j, hj, rfl⟩ := List.getElem_of_mem hx
    have := h0 j hj
    simp [List.getD_eq_getElem?_getD, hj] at this
    rw [this] at hp; cases hp
  unfold idx; rw [if_neg e]

set_option maxHeartbeats 1000000 in
theorem indexFunc (v : Value) (xs : List Int) (fv : Value) (p : Int → Bool) (dom : Int → Prop) (w : World)
    (hr : ReadI w v xs) (hp : PredI w fv p dom) (hd : ∀ x ∈ xs, dom x) :
    Calls Try.prog 129 #[v, fv] w fun e w' => e = .returned (.int .i64 (idx p xs)) ∧ Below w.heap.size w w' := by
  obtain ⟨g, first, caps, rfl, hent, hp⟩ := hp
  obtain ⟨A, c, rfl, hc, hr⟩ := hr
  have HR := Aside0.mk hr
  have HP := Aside0.mk hp
  have HD := Aside0.mk hd
  have hlen : xs.length ≤ 9223372036854775807 := hr.2.1
  unfold Enters at hent
  clear hr hc hp hd
  go_enter Try.func129, Try.ntmps129
  go_wp2
  go_loopw [8] (fun v wr => ∃ i : Nat, v = .int .i64 i ∧ i ≤ xs.length ∧ Aside0 (∀ j, j < i → p (xs.getD j 0) = false) ∧ Below w.heap.size w wr) (fun v _ => xs.length - (intOf v).toNat)
  case atStart => exact ⟨0, rfl, Nat.zero_le _, ⟨fun j hj => absurd hj (Nat.not_lt_zero _)⟩, Below.refl _ _⟩
  case round =>
    obtain ⟨i, rfl, hi, HN, hb⟩ := hrel
    have hR := Kd.C_below HR.out hb
    by_cases hlt : i < xs.length
    · obtain ⟨ad, e1, hcell⟩ := Kd.at_int hR (i : Int) (by omega) (by omega)
      cases e1
      have hx : dom (xs.getD i 0) := HD.out _ (by simp [List.getD_eq_getElem?_getD, hlt])
      have hrd : rd xs (i : Int) = xs.getD i 0 := by simp [rd]
      rw [hrd] at hcell
      simp only [Int.toNat_natCast] at hcell
      have HX := Aside0.mk hx
      have HB := Aside0.mk hb
      clear hx hrd hb hR
      generalize hy : xs.getD i 0 = y at *
      have HY := Aside0.mk hy
      clear hy
      cases hpy : p y with
      | false =>
        go_wp2_with (first | (refine (HP.out _ _ HB.out HX.out).mono ?_; rintro e w' ⟨rfl, hb2⟩))
        go_roundw
        case rel => exact ⟨i + 1, by go_num, by omega, ⟨fun j hj => by
          rcases Nat.lt_succ_iff_lt_or_eq.1 hj with h | rfl
          · exact HN.out j h
          · rw [HY.out]; exact hpy⟩, HB.out.trans (hb2.mono HB.out.size)⟩
        case measure => simp [intOf]; omega
      | true =>
        go_wp2_with (first | (refine (HP.out _ _ HB.out HX.out).mono ?_; rintro e w' ⟨rfl, hb2⟩))
        go_ret
        exact ⟨by rw [idx_found hlt HN.out (by rw [HY.out]; exact hpy)]; rfl, HB.out.trans (hb2.mono HB.out.size)⟩
    · go_wp2
      go_ret
      exact ⟨by rw [idx_none (fun j hj => HN.out j (by omega))]; rfl, hb⟩

theorem idx_any {p : Int → Bool} {xs : List Int} : decide (0 ≤ idx p xs) = xs.any p := by
  unfold idx
  cases h : xs.any p with
  | true =>
    have : xs.findIdx p < xs.length := by rw [List.findIdx_lt_length]; simpa using h
    rw [if_pos this]; simp
  | false =>
    have : ¬ xs.findIdx p < xs.length := by rw [List.findIdx_lt_length]; simpa using h
    rw [if_neg this]; simp

set_option maxHeartbeats 1000000 in
theorem containsFunc (v : Value) (xs : List Int) (fv : Value) (p : Int → Bool) (dom : Int → Prop) (w : World)
    (hr : ReadI w v xs) (hp : PredI w fv p dom) (hd : ∀ x ∈ xs, dom x) :
    Calls Try.prog 103 #[v, fv] w fun e w' => e = .returned (.bool (xs.any p)) ∧ Below w.heap.size w w' := by
  have HR := Aside0.mk hr
  have HP := Aside0.mk hp
  have HD := Aside0.mk hd
  clear hp hd
  obtain ⟨A, c, rfl, -⟩ := id hr
  clear hr
  go_enter Try.func103, Try.ntmps103
  go_wp2_with (first | (go_at_call 129; refine (indexFunc _ _ _ _ _ _ HR.out HP.out HD.out).mono ?_; rintro e w' ⟨rfl, hb2⟩))
  go_ret
  exact ⟨by simp [← idx_any], hb2⟩

/-- areAll's own closure -/
theorem areAll1 (w : World) (b : Nat) (fv : Value) (p : Int → Bool) (dom : Int → Prop) (hc : w.cell? ⟨b, 0, none⟩ = some fv) (hp : PredI w fv p dom) :
    PredI w (.func (.func 104) #[] #[.pointer (some ⟨b, 0, none⟩)]) (fun x => !p x) dom := by
  refine ⟨_, _, _, rfl, Enters.mk' Try.func104 rfl rfl, fun w1 x hb hx => ?_⟩
  obtain ⟨g, first, caps, rfl, hent, hp⟩ := hp
  have hcell : w1.cell? ⟨b, 0, none⟩ = some (.func (.func g) first caps) := pw_cell_below hb hc
  have H := Aside0.mk (hp w1 x hb hx)
  unfold Enters at hent
  clear hp hb hx hc
  show Calls _ _ #[_, _] _ _
  go_enter Try.func104, Try.ntmps104
  go_wp2_with (first | (refine H.out.mono ?_; rintro e w' ⟨rfl, hb2⟩))
  go_ret
  exact ⟨by simp, hb2⟩

theorem PredI.below {w w' : World} {fv : Value} {p : Int → Bool} {dom : Int → Prop} (h : PredI w fv p dom) (hb : Below w.heap.size w w') : PredI w' fv p dom := by
  obtain ⟨g, first, caps, rfl, hent, hp⟩ := h
  exact ⟨g, first, caps, rfl, hent, fun w1 x h1 hx => hp w1 x (hb.trans (h1.mono hb.size)) hx⟩

set_option maxHeartbeats 1000000 in
theorem areAll (v : Value) (xs : List Int) (fv : Value) (p : Int → Bool) (dom : Int → Prop) (w : World)
    (hr : ReadI w v xs) (hp : PredI w fv p dom) (hd : ∀ x ∈ xs, dom x) :
    Calls Try.prog 85 #[v, fv] w fun e w' => e = .returned (.bool (xs.all p)) ∧ Below w.heap.size w w' := by
  obtain ⟨g, first, caps, rfl, -⟩ := id hp
  have hba : Below w.heap.size w (w.alloc (.cells #[.func (.func g) first caps] 81)) := Below.alloc (Below.refl _ _) (Nat.le_refl _) _
  have HR := Aside0.mk (hr.below hba)
  have HP := Aside0.mk (areAll1 (w.alloc (.cells #[.func (.func g) first caps] 81)) w.heap.size _ p dom (by simp) (hp.below hba))
  have HD := Aside0.mk hd
  have HB := Aside0.mk hba
  obtain ⟨A, c, rfl, -⟩ := id hr
  clear hr hp hd hba
  go_enter Try.func85, Try.ntmps85
  go_wp2_with (first | (go_at_call 103; refine (containsFunc _ _ _ _ _ _ HR.out HP.out HD.out).mono ?_; rintro e w' ⟨rfl, hb2⟩))
  go_ret
  exact ⟨by simp [List.all_eq_not_any_not], HB.out.trans (hb2.mono HB.out.size)⟩
end Go.Proofs.Ytpcjbdkdpcgdiaa.H
