/- BestTree of the program. -/
import Derived.Test.YtpcjbdkdpcgdiaaGrow2
namespace Go.Proofs.Ytpcjbdkdpcgdiaa.H
open Go.RowKit Go.Proofs.YtpcjbdkdpcgdiaaW.PrintWords Go.Proofs.YtpcjbdkdpcgdiaaW.PrintLast Go.Proofs.YtpcjbdkdpcgdiaaW.PrintMore
set_option linter.unusedVariables false
set_option linter.unusedSimpArgs false

theorem OwnI.raise {b b' : Nat} {w : World} {g n cap : Nat} {xs : List Int} (h : OwnI b w (.slice (some ⟨g, 0, none⟩) n cap) xs) (hb : b' ≤ g) : OwnI b' w (.slice (some ⟨g, 0, none⟩) n cap) xs := by
  have ho := Kd.own_of_R h
  obtain ⟨h1, h2⟩ := ho
  rcases h2 with ⟨h2, _⟩ | ⟨g', cap', cur, e, hb', hh, hl, hm, hs, ht⟩
  · cases h2
  · cases e
    exact OwnI.of_row (b' := b') ⟨h1, .inr ⟨g, cap, cur, rfl, hb, hh, hl, hm, hs, ht⟩⟩ (Nat.le_refl _)

set_option maxRecDepth 100000 in
set_option maxHeartbeats 4000000 in
theorem growZ (n : Nat) (ku : Value) (xs : List Int) (hcx : Cx n xs) (b g cap bk bm bt bg : Nat) (hbk : bk ≠ b ∧ bk ≠ g) (hbm : bm ≠ b ∧ bm ≠ g) (hbt : bt ≠ b ∧ bt ≠ g) (hbg : bg ≠ b ∧ bg ≠ g) (hgb : g ≠ b)
    (x : Nat) (w : World) (L : List Int) (hx1 : 2 ^ n ≤ x) (hx2 : x < 2 ^ (n + 1)) (hk : RdK2 b g w ku xs) (k0 : w.cell? ⟨bk, 0, none⟩ = some (.int .i64 n)) (k1 : w.cell? ⟨bk, 1, none⟩ = some ku) (cm : w.cell? ⟨bm, 0, none⟩ = some (.map (some b))) (ct : w.cell? ⟨bt, 0, none⟩ = some (.slice (some ⟨g, 0, none⟩) (2 ^ n - 1) cap)) (cg : w.cell? ⟨bg, 0, none⟩ = some (.func (.func 63) #[] #[.pointer (some ⟨bk, 0, none⟩), .pointer (some ⟨bm, 0, none⟩), .pointer (some ⟨bt, 0, none⟩), .pointer (some ⟨bg, 0, none⟩)])) (hM : MapI n (leastV n xs) b w) (hO : OwnI 0 w (.slice (some ⟨g, 0, none⟩) (2 ^ n - 1) cap) L) :
    Calls Try.prog 63 #[.int .i64 ((x : Nat) : Int), .agg #[.int .i64 (((stq n xs (x)).1 ||| (stq n xs (x)).2 : Nat) : Int), .int .i64 (((stq n xs (x)).1 : Nat) : Int)], .pointer (some ⟨bk, 0, none⟩), .pointer (some ⟨bm, 0, none⟩), .pointer (some ⟨bt, 0, none⟩), .pointer (some ⟨bg, 0, none⟩)] w fun e w' => e = .returned (.tuple #[]) ∧ K2 b g w w' ∧ MapI n (leastV n xs) b w' ∧ ∃ L', OwnI 0 w' (.slice (some ⟨g, 0, none⟩) (2 ^ n - 1) cap) L' ∧ ∀ y, 1 ≤ y → y < 2 ^ n → L'.getD (y - 1) 0 = if undr (x) y then (bq n xs y : Int) else L.getD (y - 1) 0 := by
  have hn := hcx.hi
  have hL : ∀ y, 1 ≤ y → y < 2 ^ n → L.getD (y - 1) 0 = if undr x y then (bq n xs y : Int) else L.getD (y - 1) 0 := by
    intro y _ h2
    rw [if_neg]
    intro h
    have := undr_le h
    omega
  have HL := Aside0.mk hL
  generalize ((stq n xs x).1 ||| (stq n xs x).2) = a
  generalize (stq n xs x).1 = p
  obtain ⟨w1, hw1⟩ : ∃ w1, w1 = w.alloc (.cells #[.int .i64 (a : Nat), .int .i64 (p : Nat)] 63) := ⟨_, rfl⟩
  have hB : Below w.heap.size w w1 := by rw [hw1]; exact Below.alloc (Below.refl _ _) (Nat.le_refl _) _
  have ek0 := cell_ahead k0
  have ek1 := cell_ahead k1
  have HM := Aside0.mk (hM.below hB)
  have HO := Aside0.mk (hO.below hB)
  have HKK := Aside0.mk (K2.below (b := b) (g := g) hB)
  obtain ⟨A1, d1, rfl, -⟩ := id (hk w (K2.refl _ _ _))
  obtain ⟨N, hN⟩ : ∃ N : Nat, N = 2 ^ n := ⟨_, rfl⟩
  have HFU : Aside0 (∀ (u : Value) (W : World), Calls Try.prog 59 #[cx n u] W fun e w' => e = .returned (.int .i64 ((N : Int) - 1)) ∧ Below W.heap.size W w') := ⟨fun u W => by rw [hN]; exact full n hn _ W⟩
  have h128 : x < 128 := by have h2 : 2 ^ (n + 1) ≤ 2 ^ 7 := Nat.pow_le_pow_right (by omega) (by omega); have : (2 : Nat) ^ 7 = 128 := rfl; omega
  have hxN : N ≤ x := by omega
  have h1N : 1 ≤ N := by have := (pw6 hn).1; omega
  clear hk hM hO hB hL hx1 hx2 hN
  go_enter Try.func63, Try.ntmps63
  go_wp2_with (first | (go_at_call 59; rw [← hw1]; clear hw1 ek0 ek1; refine (HFU.out _ _).mono ?_; rintro e w2 ⟨rfl, hb⟩; have HM2 := Aside0.mk (HM.out.below hb); have HO2 := Aside0.mk (HO.out.below hb); have HKK2 := Aside0.mk (HKK.out.trans (K2.below hb)); clear hb))
  refine bodyPost_ret (results_none rfl _ _ _) rfl ?_
  exact ⟨rfl, HKK2.out, HM2.out, L, HO2.out, HL.out⟩

theorem grow (n : Nat) (ku : Value) (xs : List Int) (hcx : Cx n xs) (b g cap bk bm bt bg : Nat) (hbk : bk ≠ b ∧ bk ≠ g) (hbm : bm ≠ b ∧ bm ≠ g) (hbt : bt ≠ b ∧ bt ≠ g) (hbg : bg ≠ b ∧ bg ≠ g) (hgb : g ≠ b) (f : Nat) :
    ∀ i, i + f = n → ∀ x w L, 2 ^ i ≤ x → x < 2 ^ (i + 1) → RdK2 b g w ku xs → w.cell? ⟨bk, 0, none⟩ = some (.int .i64 n) → w.cell? ⟨bk, 1, none⟩ = some ku → w.cell? ⟨bm, 0, none⟩ = some (.map (some b)) → w.cell? ⟨bt, 0, none⟩ = some (.slice (some ⟨g, 0, none⟩) (2 ^ n - 1) cap) → w.cell? ⟨bg, 0, none⟩ = some (.func (.func 63) #[] #[.pointer (some ⟨bk, 0, none⟩), .pointer (some ⟨bm, 0, none⟩), .pointer (some ⟨bt, 0, none⟩), .pointer (some ⟨bg, 0, none⟩)]) → MapI n (leastV n xs) b w → OwnI 0 w (.slice (some ⟨g, 0, none⟩) (2 ^ n - 1) cap) L →
      Calls Try.prog 63 #[.int .i64 ((x : Nat) : Int), .agg #[.int .i64 (((stq n xs (x)).1 ||| (stq n xs (x)).2 : Nat) : Int), .int .i64 (((stq n xs (x)).1 : Nat) : Int)], .pointer (some ⟨bk, 0, none⟩), .pointer (some ⟨bm, 0, none⟩), .pointer (some ⟨bt, 0, none⟩), .pointer (some ⟨bg, 0, none⟩)] w fun e w' => e = .returned (.tuple #[]) ∧ K2 b g w w' ∧ MapI n (leastV n xs) b w' ∧ ∃ L', OwnI 0 w' (.slice (some ⟨g, 0, none⟩) (2 ^ n - 1) cap) L' ∧ ∀ y, 1 ≤ y → y < 2 ^ n → L'.getD (y - 1) 0 = if undr (x) y then (bq n xs y : Int) else L.getD (y - 1) 0 := by
  induction f with
  | zero =>
    intro i hi x w L h1 h2 hk k0 k1 cm ct cg hM hO
    obtain rfl : i = n := by omega
    exact growZ i ku xs hcx b g cap bk bm bt bg hbk hbm hbt hbg hgb x w L h1 h2 hk k0 k1 cm ct cg hM hO
  | succ f ih =>
    intro i hi x w L h1 h2 hk k0 k1 cm ct cg hM hO
    exact growS n ku xs hcx b g cap bk bm bt bg hbk hbm hbt hbg hgb x i w L (by omega) h1 h2 (fun x' w L h1 h2 => ih (i + 1) (by omega) x' w L h1 h2) hk k0 k1 cm ct cg hM hO

theorem best_ext {n : Nat} {xs L : List Int} (hn : n ≤ 6) (hl : L.length = 2 ^ n - 1) (h : ∀ y, 1 ≤ y → y < 2 ^ n → L.getD (y - 1) 0 = (bq n xs y : Int)) : L = bestL n xs := by
  refine List.ext_getElem (by rw [hl]; unfold bestL; rw [bestTo'_len]) (fun i h1 h2 => ?_)
  have h3 := h (i + 1) (by omega) (by omega)
  have h4 := bestTo'_get (n := n) (xs := xs) (k := 2 ^ n - 1) (i := i) (by omega)
  simp only [Nat.add_sub_cancel, List.getD_eq_getElem?_getD, List.getElem?_eq_getElem h1, Option.getD_some] at h3
  show L[i] = (bestTo' n xs (2 ^ n - 1))[i]
  simp only [List.getD_eq_getElem?_getD, List.getElem?_eq_getElem (show i < (bestTo' n xs (2 ^ n - 1)).length by rw [bestTo'_len]; omega), Option.getD_some] at h4
  exact h3.trans h4.symm

theorem growTop (n : Nat) (ku : Value) (xs : List Int) (hcx : Cx n xs) (b g cap bk bm bt bg : Nat) (hbk : bk ≠ b ∧ bk ≠ g) (hbm : bm ≠ b ∧ bm ≠ g) (hbt : bt ≠ b ∧ bt ≠ g) (hbg : bg ≠ b ∧ bg ≠ g) (hgb : g ≠ b) (w : World) (L : List Int)
    (hk : RdK2 b g w ku xs) (k0 : w.cell? ⟨bk, 0, none⟩ = some (.int .i64 n)) (k1 : w.cell? ⟨bk, 1, none⟩ = some ku) (cm : w.cell? ⟨bm, 0, none⟩ = some (.map (some b))) (ct : w.cell? ⟨bt, 0, none⟩ = some (.slice (some ⟨g, 0, none⟩) (2 ^ n - 1) cap)) (cg : w.cell? ⟨bg, 0, none⟩ = some (.func (.func 63) #[] #[.pointer (some ⟨bk, 0, none⟩), .pointer (some ⟨bm, 0, none⟩), .pointer (some ⟨bt, 0, none⟩), .pointer (some ⟨bg, 0, none⟩)])) (hM : MapI n (leastV n xs) b w) (hO : OwnI 0 w (.slice (some ⟨g, 0, none⟩) (2 ^ n - 1) cap) L) :
    Calls Try.prog 63 #[.int .i64 1, .agg #[.int .i64 0, .int .i64 0], .pointer (some ⟨bk, 0, none⟩), .pointer (some ⟨bm, 0, none⟩), .pointer (some ⟨bt, 0, none⟩), .pointer (some ⟨bg, 0, none⟩)] w fun e w' => e = .returned (.tuple #[]) ∧ K2 b g w w' ∧ OwnI g w' (.slice (some ⟨g, 0, none⟩) (2 ^ n - 1) cap) (bestL n xs) := by
  have h := grow n ku xs hcx b g cap bk bm bt bg hbk hbm hbt hbg hgb n 0 (by omega) 1 w L (Nat.le_refl _) (by omega) hk k0 k1 cm ct cg hM hO
  rw [stq_one] at h
  refine Calls.mono h ?_
  rintro e w' ⟨rfl, hk, -, L', ho, hl⟩
  refine ⟨rfl, hk, ?_⟩
  have hLl : L'.length = 2 ^ n - 1 := by
    obtain ⟨A_, c_, e_, -⟩ := ho.read
    injection e_ with _ e_ _
    exact e_.symm
  have := best_ext (xs := xs) hcx.hi hLl (fun y h1 h2 => by
    have h3 := (pw6 hcx.hi).2
    rw [hl y h1 h2, undr_one y (by omega) h1, if_pos rfl])
  rw [← this]
  exact ho.raise (Nat.le_refl _)

end Go.Proofs.Ytpcjbdkdpcgdiaa.H
