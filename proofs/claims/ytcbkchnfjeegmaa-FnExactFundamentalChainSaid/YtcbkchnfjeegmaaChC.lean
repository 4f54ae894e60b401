/- IsCycle of the program. -/
import Derived.Test.YtcbkchnfjeegmaaChI
namespace Go.Proofs.Ytcbkchnfjeegmaa.H
open Go.RowKit Go.Proofs.YtcbkchnfjeegmaaW.PrintWords Go.Proofs.YtcbkchnfjeegmaaW.PrintLast Go.Proofs.YtcbkchnfjeegmaaW.PrintMore
set_option linter.unusedVariables false
set_option linter.unusedSimpArgs false

theorem isChainP (n : Nat) (ku : Value) (xs : List Int) (w : World) (hk : ReadI w ku xs) (hc : Cx n xs) : PredS w (.func (.func 106) #[cx n ku] #[]) (chOk xs) (fun _ => True) :=
  ⟨_, _, _, rfl, Enters.mk' Try.func106 rfl rfl, fun w1 u f hb hu _ => isChain n ku xs u f w1 (hk.below hb) hu hc⟩

set_option maxHeartbeats 1000000 in
theorem chainCode1 (w : World) (bl bk : Nat) (lv : Value) (fs : List (List Int)) (n : Nat) (ku : Value) (xs : List Int) (hl : ReadS w lv fs) (hk : ReadI w ku xs) (hc : Cx n xs) (h1 : w.cell? ⟨bl, 0, none⟩ = some lv) (h2 : w.cell? ⟨bk, 0, none⟩ = some (.int .i64 n)) (h3 : w.cell? ⟨bk, 1, none⟩ = some ku) :
    ThunkB w (.func (.func 104) #[] #[.pointer (some ⟨bl, 0, none⟩), .pointer (some ⟨bk, 0, none⟩)]) (fs.all (chOk xs)) := by
  refine ⟨_, _, _, rfl, Enters.mk' Try.func104 rfl rfl, fun w1 hb => ?_⟩
  have c1 := pw_cell_below hb h1
  have c2 := pw_cell_below hb h2
  have c3 := pw_cell_below hb h3
  have HL := Aside0.mk (hl.below hb)
  have HP := Aside0.mk (isChainP n ku xs w1 (hk.below hb) hc)
  obtain ⟨A1, d1, rfl, -⟩ := id hk
  obtain ⟨A2, d2, rfl, -⟩ := id hl
  clear hb h1 h2 h3 hl hk hc
  show Calls _ _ #[_, _] _ _
  go_enter Try.func104, Try.ntmps104
  go_wp2_with (first | (go_at_call 105; refine (areAllS _ _ _ _ _ _ HL.out HP.out (fun _ _ => trivial)).mono ?_; rintro e w4 ⟨rfl, hb4⟩))
  go_ret
  exact ⟨rfl, hb4⟩

set_option maxRecDepth 100000 in
set_option maxHeartbeats 1000000 in
theorem chainCode (a : Int) (ku : Value) (xs : List Int) (lv : Value) (l : List Int) (w : World) (hk : ReadI w ku xs) (hl : ReadS w lv [l]) :
    Calls Try.prog 52 #[cx a ku, lv] w fun e w' => e = .returned (.int .i64 (codeChn a xs l)) ∧ Below w.heap.size w w' := by
  obtain ⟨w1, hw1⟩ : ∃ w1, w1 = (w.alloc (.cells #[.int .i64 a, ku] 28)).alloc (.cells #[lv] 89) := ⟨_, rfl⟩
  have hB : Below w.heap.size w w1 := by rw [hw1]; exact ((Below.refl _ w).alloc (Nat.le_refl _) _).alloc (by simp) _
  have c0 : w1.cell? ⟨w.heap.size, 0, none⟩ = some (.int .i64 a) := by rw [hw1]; simp
  have c1 : w1.cell? ⟨w.heap.size, 1, none⟩ = some ku := by rw [hw1]; simp
  have c2 : w1.cell? ⟨w.heap.size + 1, 0, none⟩ = some lv := by rw [hw1]; simp
  have HK := Aside0.mk (hk.below hB)
  have HT : Aside0 (cxOk a xs = true → ThunkB w1 (.func (.func 104) #[] #[.pointer (some ⟨w.heap.size + 1, 0, none⟩), .pointer (some ⟨w.heap.size, 0, none⟩)]) (chOk xs l)) := ⟨fun h => by
    obtain ⟨n, rfl, hn, -⟩ := cxOk_cx h
    have := chainCode1 w1 (w.heap.size + 1) w.heap.size lv [l] n ku xs (hl.below hB) (hk.below hB) hn c2 c0 c1
    simpa using this⟩
  have HB := Aside0.mk hB
  have HX : Aside0 (codeChn a xs l = (if cxOk a xs then (if chOk xs l then 0 else 2) else 1)) := ⟨rfl⟩
  obtain ⟨A1, d1, rfl, -⟩ := id hk
  obtain ⟨A2, d2, rfl, -⟩ := id hl
  replace hw1 : w1 = (w.alloc (.cells #[.int .i64 a, .slice A1 xs.length d1] 28)).alloc (.cells #[.slice A2 1 d2] 89) := hw1
  clear hk hl hB
  go_enter Try.func52, Try.ntmps52
  go_wp2_with (first | (rw [← hw1]; clear hw1; go_at_call 59; refine (complexCode2 a _ xs _ _ _ HK.out HT.out ⟨_, _, _, rfl⟩).mono ?_; rintro e w2 ⟨rfl, hb⟩; rw [← HX.out]))
  go_ret
  exact ⟨rfl, HB.out.trans (hb.mono HB.out.size)⟩

theorem asc_of_steps {l : List Int} (h : ∀ i, i < l.length → i = 0 ∨ l.getD (i - 1) 0 < l.getD i 0) : l.Pairwise (· < ·) := by
  have key : ∀ d i, i + d + 1 < l.length → l.getD i 0 < l.getD (i + d + 1) 0 := by
    intro d
    induction d with
    | zero =>
      intro i hi
      rcases h (i + 1) (by omega) with h1 | h1
      · omega
      · rwa [Nat.add_sub_cancel] at h1
    | succ d ih =>
      intro i hi
      have h1 := ih i (by omega)
      rcases h (i + (d + 1) + 1) hi with h2 | h2
      · omega
      · rw [show i + (d + 1) + 1 - 1 = i + d + 1 by omega] at h2
        exact Int.lt_trans h1 h2
  rw [List.pairwise_iff_getElem]
  intro i j hi hj hij
  have := key (j - i - 1) i (by omega)
  rw [show i + (j - i - 1) + 1 = j by omega, List.getD_eq_getElem?_getD, List.getD_eq_getElem?_getD, List.getElem?_eq_getElem hi, List.getElem?_eq_getElem hj] at this
  exact this
theorem chain_dom {n : Nat} {xs l : List Int} (hc : Cx n xs) (h : chOk xs l = true) : l.Pairwise (· < ·) ∧ ∀ x ∈ l, 1 ≤ x ∧ x ≤ 63 := by
  refine ⟨?_, fun x hx => ?_⟩
  · refine asc_of_steps (fun i hi => ?_)
    have := chOk_at h hi
    unfold chAt at this
    simp only [Bool.and_eq_true, Bool.or_eq_true, decide_eq_true_eq] at this
    exact this.2
  · obtain ⟨i, hi, rfl⟩ := List.getElem_of_mem hx
    have := chAt_mem (chOk_at h hi)
    rw [List.getD_eq_getElem?_getD, List.getElem?_eq_getElem hi, Option.getD_some] at this
    obtain ⟨z, e, h1, h2⟩ := hc.nat this
    omega
theorem codeChn_zero {a : Int} {xs l : List Int} (h : codeChn a xs l = 0) : ∃ n : Nat, a = n ∧ Cx n xs ∧ chOk xs l = true := by
  unfold codeChn at h
  split at h
  · next h1 =>
    obtain ⟨n, rfl, hn, -⟩ := cxOk_cx h1
    split at h
    · next h2 => exact ⟨n, rfl, hn, h2⟩
    · cases h
  · cases h
end Go.Proofs.Ytcbkchnfjeegmaa.H
