/- Faces found: binary search, has, full, and the reference's own. -/
import Derived.Test.YtpcjbdkdpcgdiaaBase
import Derived.Test.YtpcjbdkdpcgdiaaBits
namespace Go.Proofs.Ytpcjbdkdpcgdiaa.H
open Go.RowKit Go.Proofs.YtpcjbdkdpcgdiaaW.PrintWords Go.Proofs.YtpcjbdkdpcgdiaaW.PrintLast Go.Proofs.YtpcjbdkdpcgdiaaW.PrintMore
set_option linter.unusedVariables false
set_option linter.unusedSimpArgs false

/-- the value of a complex -/
abbrev cx (a : Int) (u : Value) : Value := .agg #[.int .i64 a, u]

theorem cmpNaN (x : Int) (w : World) : Calls Try.prog 130 #[.int .i64 x] w fun e w' => e = .returned (.bool false) ∧ Below w.heap.size w w' := by
  go_enter Try.func130, Try.ntmps130
  go_wp2
  go_ret
  exact ⟨by simp, Below.refl _ _⟩
theorem slicesNaN (x : Int) (w : World) : Calls Try.prog 108 #[.int .i64 x] w fun e w' => e = .returned (.bool false) ∧ Below w.heap.size w w' := by
  go_enter Try.func108, Try.ntmps108
  go_wp2
  go_ret
  exact ⟨by simp, Below.refl _ _⟩
theorem cmpLess (x y : Int) (w : World) : Calls Try.prog 107 #[.int .i64 x, .int .i64 y] w fun e w' => e = .returned (.bool (decide (x < y))) ∧ Below w.heap.size w w' := by
  go_enter Try.func107, Try.ntmps107
  go_wp2_with (first | (go_at_call 130; refine (cmpNaN _ _).mono ?_; rintro e w' ⟨rfl, hb⟩))
  all_goals go_ret
  all_goals exact ⟨by simp [*] <;> omega, by (repeat (first | (with_reducible exact Below.refl _ _) | (with_reducible assumption) | (with_reducible refine below_step ?_ (by assumption)) | (with_reducible apply below_alloc) | (with_reducible apply below_drewN)))⟩

theorem asc_lt {xs : List Int} (hs : xs.Pairwise (· < ·)) {i j : Nat} (hij : i < j) (hj : j < xs.length) : xs.getD i 0 < xs.getD j 0 := by
  have := List.pairwise_iff_getElem.1 hs i j (by omega) hj hij
  simpa [List.getD_eq_getElem?_getD, hj, Nat.lt_trans hij hj] using this
theorem mem_at {xs : List Int} {i : Nat} {x : Int} (hi : i < xs.length) (h : xs.getD i 0 = x) : x ∈ xs := by
  rw [← h]; simp [List.getD_eq_getElem?_getD, hi]
theorem mem_none {xs : List Int} (hs : xs.Pairwise (· < ·)) {i : Nat} {x : Int} (hl : ∀ k, k < i → xs.getD k 0 < x) (hg : ∀ k, i ≤ k → k < xs.length → x < xs.getD k 0) : ¬ x ∈ xs := by
  intro hm
  obtain ⟨k, hk, rfl⟩ := List.getElem_of_mem hm
  have e : xs.getD k 0 = xs[k] := by simp [List.getD_eq_getElem?_getD, hk]
  by_cases h : k < i
  · have := hl k h; omega
  · have := hg k (by omega) hk; omega

set_option maxHeartbeats 1000000 in
theorem binarySearch (v : Value) (xs : List Int) (x : Int) (w : World) (hr : ReadI w v xs) (hs : xs.Pairwise (· < ·)) (hl : xs.length ≤ 1000) :
    Calls Try.prog 90 #[v, .int .i64 x] w fun e w' => ∃ j : Int, e = .returned (.tuple #[.int .i64 j, .bool (decide (x ∈ xs))]) ∧ Below w.heap.size w w' := by
  obtain ⟨A, c, rfl, hc, hr⟩ := hr
  have HR := Aside0.mk hr
  have HS := Aside0.mk hs
  clear hr hs
  go_enter Try.func90, Try.ntmps90
  go_wp2
  go_loopw [7, 8] (fun vi vj wr => ∃ i j : Nat, vi = .int .i64 i ∧ vj = .int .i64 j ∧ i ≤ j ∧ j ≤ xs.length ∧ Aside0 (∀ k, k < i → xs.getD k 0 < x) ∧ Aside0 (∀ k, j ≤ k → k < xs.length → x ≤ xs.getD k 0) ∧ Below w.heap.size w wr) (fun vi vj _ => (intOf vj).toNat - (intOf vi).toNat)
  case atStart => exact ⟨0, xs.length, rfl, rfl, Nat.zero_le _, Nat.le_refl _, ⟨fun j hj => absurd hj (Nat.not_lt_zero _)⟩, ⟨fun k h1 h2 => by omega⟩, Below.refl _ _⟩
  case round =>
    obtain ⟨i, j, rfl, rfl, hij, hj, HL, HG, hb⟩ := hrel
    have hR := Kd.C_below HR.out hb
    have HB := Aside0.mk hb
    clear hb
    by_cases hlt : i < j
    · obtain ⟨ad, y, rfl, hcell, HY⟩ := ReadI.get hR (i := (i + j) / 2) (by omega)
      clear hR
      by_cases hyx : y < x
      · go_wp2_with (first | (go_at_call 107; refine (cmpLess _ _ _).mono ?_; rintro e w' ⟨rfl, hb2⟩; rw [decide_eq_true hyx]))
        go_roundw
        case rel =>
          refine ⟨(i + j) / 2 + 1, j, by go_num, rfl, by omega, hj, ⟨fun k hk => ?_⟩, HG, HB.out.trans (hb2.mono HB.out.size)⟩
          by_cases hk2 : k = (i + j) / 2
          · rw [hk2, HY.out]; exact hyx
          · have := asc_lt HS.out (i := k) (j := (i + j) / 2) (by omega) (by omega)
            rw [HY.out] at this; omega
        case measure => simp [intOf]; omega
      · go_wp2_with (first | (go_at_call 107; refine (cmpLess _ _ _).mono ?_; rintro e w' ⟨rfl, hb2⟩; rw [decide_eq_false hyx]))
        go_roundw
        case rel =>
          refine ⟨i, (i + j) / 2, rfl, by go_num, by omega, by omega, HL, ⟨fun k hk hk3 => ?_⟩, HB.out.trans (hb2.mono HB.out.size)⟩
          by_cases hk2 : k = (i + j) / 2
          · rw [hk2, HY.out]; omega
          · have := asc_lt HS.out (i := (i + j) / 2) (j := k) (by omega) (by omega)
            rw [HY.out] at this; omega
        case measure => simp [intOf]; omega
    · have hij2 : j = i := by omega
      subst hij2
      by_cases hin : j < xs.length
      · obtain ⟨ad, y, rfl, hcell, HY⟩ := ReadI.get hR hin
        clear hR
        by_cases hyx : y = x
        · have hyb : (y == x) = true := by simpa using hyx
          go_wp2
          go_ret2
          exact ⟨_, by rw [decide_eq_true (mem_at hin (HY.out.trans hyx))]; rfl, HB.out⟩
        · have hyb : (y == x) = false := by simpa using hyx
          have HNO : Aside0 (¬ x ∈ xs) := ⟨mem_none HS.out HL.out (fun k h1 h2 => by
            rcases Nat.eq_or_lt_of_le h1 with rfl | h3
            · have := HG.out j (Nat.le_refl _) hin; rw [HY.out] at this ⊢; omega
            · have := asc_lt HS.out h3 h2; have := HG.out j (Nat.le_refl _) hin; omega)⟩
          have hb := HB.out
          go_wp2_with (first | (go_at_call 108; refine (slicesNaN _ _).mono ?_; rintro e w' ⟨rfl, hb2⟩))
          go_ret2
          exact ⟨_, by rw [decide_eq_false HNO.out]; rfl, by (repeat (first | (with_reducible exact Below.refl _ _) | (with_reducible assumption) | (with_reducible refine below_step ?_ (by assumption)) | (with_reducible apply below_alloc) | (with_reducible apply below_drewN)))⟩
      · go_wp2
        go_ret2
        exact ⟨_, by rw [decide_eq_false (mem_none HS.out HL.out (fun k h1 h2 => by omega))]; rfl, HB.out⟩

theorem has (a : Int) (u : Value) (l : List Int) (f : Int) (w : World) (hr : ReadI w u l) (hs : l.Pairwise (· < ·)) (hl : l.length ≤ 1000) :
    Calls Try.prog 68 #[cx a u, .int .i64 f] w fun e w' => e = .returned (.bool (decide (f ∈ l))) ∧ Below w.heap.size w w' := by
  have hba : Below w.heap.size w (w.alloc (.cells #[.int .i64 a, u] 28)) := Below.alloc (Below.refl _ _) (Nat.le_refl _) _
  have HR := Aside0.mk (hr.below hba)
  have HS := Aside0.mk hs
  have HB := Aside0.mk hba
  obtain ⟨A, c, rfl, -⟩ := id hr
  clear hr hs hba
  go_enter Try.func68, Try.ntmps68
  go_wp2_with (first | (go_at_call 90; refine (binarySearch _ _ _ _ HR.out HS.out hl).mono ?_; rintro e w' ⟨j, rfl, hb2⟩))
  go_ret
  exact ⟨rfl, HB.out.trans (hb2.mono HB.out.size)⟩

theorem full (n : Nat) (hn : n ≤ 6) (u : Value) (w : World) :
    Calls Try.prog 59 #[cx n u] w fun e w' => e = .returned (.int .i64 (((2 ^ n : Nat) : Int) - 1)) ∧ Below w.heap.size w w' := by
  have hsh := pow_wrap n (by omega)
  have hb : 2 ^ n ≤ 64 := by
    rcases (by omega : n = 0 ∨ n = 1 ∨ n = 2 ∨ n = 3 ∨ n = 4 ∨ n = 5 ∨ n = 6) with rfl | rfl | rfl | rfl | rfl | rfl | rfl <;> decide
  obtain ⟨N, hN⟩ : ∃ N : Nat, N = 2 ^ n := ⟨_, rfl⟩
  rw [← hN] at hsh hb ⊢
  clear hN
  go_enter Try.func59, Try.ntmps59
  go_wp2
  go_ret
  exact ⟨by simp, by (repeat (first | (with_reducible exact Below.refl _ _) | (with_reducible assumption) | (with_reducible refine below_step ?_ (by assumption)) | (with_reducible apply below_alloc) | (with_reducible apply below_drewN)))⟩

theorem specAll (n : Nat) (hn : n ≤ 6) (w : World) :
    Calls Try.prog 77 #[.int .i64 n] w fun e w' => e = .returned (.int .i64 (((2 ^ n : Nat) : Int) - 1)) ∧ Below w.heap.size w w' := by
  have hsh := pow_wrap n (by omega)
  have hb : 2 ^ n ≤ 64 := by
    rcases (by omega : n = 0 ∨ n = 1 ∨ n = 2 ∨ n = 3 ∨ n = 4 ∨ n = 5 ∨ n = 6) with rfl | rfl | rfl | rfl | rfl | rfl | rfl <;> decide
  obtain ⟨N, hN⟩ : ∃ N : Nat, N = 2 ^ n := ⟨_, rfl⟩
  rw [← hN] at hsh hb ⊢
  clear hN
  go_enter Try.func77, Try.ntmps77
  go_wp2
  go_ret
  exact ⟨by simp, by (repeat (first | (with_reducible exact Below.refl _ _) | (with_reducible assumption) | (with_reducible refine below_step ?_ (by assumption)) | (with_reducible apply below_alloc) | (with_reducible apply below_drewN)))⟩

set_option maxHeartbeats 1000000 in
theorem specHas (a : Int) (u : Value) (l : List Int) (f : Int) (w : World) (hr : ReadI w u l) :
    Calls Try.prog 65 #[cx a u, .int .i64 f] w fun e w' => e = .returned (.bool (decide (f ∈ l))) ∧ Below w.heap.size w w' := by
  have hba : Below w.heap.size w (w.alloc (.cells #[.int .i64 a, u] 28)) := Below.alloc (Below.refl _ _) (Nat.le_refl _) _
  have HB := Aside0.mk hba
  obtain ⟨A, c, rfl, hc, hr⟩ := id hr
  have HR := Aside0.mk (Kd.C_below hr hba)
  have hlen : l.length ≤ 9223372036854775807 := hr.2.1
  clear hr hba
  go_enter Try.func65, Try.ntmps65
  go_wp2
  obtain ⟨w1, hw1⟩ : ∃ w1, w1 = w.alloc (Obj.cells #[.int .i64 a, Value.slice A l.length c] 28) := ⟨_, rfl⟩
  have hc1 : w1.cell? ⟨w.heap.size, 1, none⟩ = some (Value.slice A l.length c) := by rw [hw1]; simp
  rw [← hw1] at HB HR ⊢
  clear hw1
  go_loopw [5] (fun v wr => ∃ i : Nat, v = .int .i64 i ∧ i ≤ l.length ∧ Aside0 (∀ k, k < i → l.getD k 0 ≠ f) ∧ Below w1.heap.size w1 wr) (fun v _ => l.length - (intOf v).toNat)
  case atStart => exact ⟨0, rfl, Nat.zero_le _, ⟨fun j hj => absurd hj (Nat.not_lt_zero _)⟩, Below.refl _ _⟩
  case round =>
    obtain ⟨i, rfl, hi, HN, hb⟩ := hrel
    have hR := Kd.C_below HR.out hb
    have hcr := pw_cell_below hb hc1
    have HB1 := Aside0.mk hb
    clear hb
    by_cases hlt : i < l.length
    · obtain ⟨ad, y, rfl, hcell, HY⟩ := ReadI.get hR hlt
      clear hR
      by_cases hyf : y = f
      · go_wp2
        go_ret
        exact ⟨by rw [decide_eq_true (mem_at hlt (HY.out.trans hyf))]; rfl, HB.out.trans (HB1.out.mono HB.out.size)⟩
      · go_wp2
        go_roundw
        case rel =>
          refine ⟨i + 1, by go_num, by omega, ⟨fun k hk => ?_⟩, HB1.out⟩
          rcases Nat.lt_succ_iff_lt_or_eq.1 hk with h | rfl
          · exact HN.out k h
          · rw [HY.out]; exact hyf
        case measure => simp [intOf]; omega
    · go_wp2
      go_ret
      refine ⟨?_, HB.out.trans (HB1.out.mono HB.out.size)⟩
      rw [decide_eq_false]
      · rfl
      · intro hm
        obtain ⟨k, hk, rfl⟩ := List.getElem_of_mem hm
        exact HN.out k (by omega) (by simp [List.getD_eq_getElem?_getD, hk])
end Go.Proofs.Ytpcjbdkdpcgdiaa.H
