/- BestTree of the program. -/
import Derived.Deep.DeepMust
import Derived.Test.YtkggchklmpmgpaaGreatKFnTrees1
import Derived.Test.YtkggchklmpmgpaaGreatKFnTrees2
import Derived.Test.YtkggchklmpmgpaaGreatKFnTrees3
import Derived.Test.YtkggchklmpmgpaaGreatKFnTrees4
import Derived.Test.YtkggchklmpmgpaaGreatKFnTrees5
import Derived.Test.YtkggchklmpmgpaaGreatKFnTrees6
import Derived.Test.YtkggchklmpmgpaaGreatKFnTrees7
import Derived.Test.YtkggchklmpmgpaaGreatKFnTrees8
import Derived.Test.YtkggchklmpmgpaaGreatKFnTrees9
import Derived.Test.YtkggchklmpmgpaaGreatKFnTrees10
import Derived.Test.YtkggchklmpmgpaaGreatKFnTrees11
import Derived.Test.YtkggchklmpmgpaaGreatKFnTrees12
import Derived.Test.YtkggchklmpmgpaaGreatKFnTrees13
import Derived.Test.YtkggchklmpmgpaaGreatKFnTrees14
import Derived.Test.YtkggchklmpmgpaaGreatKFnTrees15
import Derived.Test.YtkggchklmpmgpaaGreatKFnTrees16
import Derived.Test.YtkggchklmpmgpaaGreatKFnTrees17
import Derived.Test.YtkggchklmpmgpaaGreatKFnTrees18

namespace Go.Proofs.YtkggchklmpmgpaaGreat.H
open Go.RowKit Go.Proofs.YtkggchklmpmgpaaGreatW.PrintWords Go.Proofs.YtkggchklmpmgpaaGreatW.PrintLast
set_option linter.unusedVariables false
set_option linter.unusedSimpArgs false
theorem OwnI.raise {b b' : Nat} {w : World} {g n cap : Nat} {xs : List Int} (h : OwnI b w (.slice (some ⟨g, 0, none⟩) n cap) xs) (hb : b' ≤ g) : OwnI b' w (.slice (some ⟨g, 0, none⟩) n cap) xs := by
 have ho := Kd.own_of_R h
 obtain ⟨h1, h2⟩ := ho
 rcases h2 with ⟨h2, _⟩ | ⟨g', cap', cur, e, hb', hh, hl, hm, hs, ht⟩
 ·cases h2
 ·cases e
  exact OwnI.of_row (b' := b') ⟨h1, .inr ⟨g, cap, cur, rfl, hb, hh, hl, hm, hs, ht⟩⟩ (Nat.le_refl _)
set_option maxRecDepth 100000 in
set_option maxHeartbeats 4000000 in
theorem growZ (n : Nat) (ku : Value) (xs : List Int) (hcx : Cx n xs) (b g cap bk bm bt bg : Nat) (hbk : bk ≠ b ∧ bk ≠ g) (hbm : bm ≠ b ∧ bm ≠ g) (hbt : bt ≠ b ∧ bt ≠ g) (hbg : bg ≠ b ∧ bg ≠ g) (hgb : g ≠ b)
  (x : Nat) (w : World) (L : List Int) (hx1 : 2 ^ n ≤ x) (hx2 : x < 2 ^ (n + 1)) (hk : RdK2 b g w ku xs) (k0 : w.cell? ⟨bk, 0, none⟩ = some (.int .i64 n)) (k1 : w.cell? ⟨bk, 1, none⟩ = some ku) (cm : w.cell? ⟨bm, 0, none⟩ = some (.map (some b))) (ct : w.cell? ⟨bt, 0, none⟩ = some (.slice (some ⟨g, 0, none⟩) (2 ^ n - 1) cap)) (cg : w.cell? ⟨bg, 0, none⟩ = some (.func (.func 200) #[] #[.pointer (some ⟨bk, 0, none⟩), .pointer (some ⟨bm, 0, none⟩), .pointer (some ⟨bt, 0, none⟩), .pointer (some ⟨bg, 0, none⟩)])) (hM : MapI n (leastV n xs) b w) (hO : OwnI 0 w (.slice (some ⟨g, 0, none⟩) (2 ^ n - 1) cap) L) :
  Calls Tryz.prog 200 #[.int .i64 ((x : Nat) : Int), .agg #[.int .i64 (((stq n xs (x)).1 ||| (stq n xs (x)).2 : Nat) : Int), .int .i64 (((stq n xs (x)).1 : Nat) : Int)], .pointer (some ⟨bk, 0, none⟩), .pointer (some ⟨bm, 0, none⟩), .pointer (some ⟨bt, 0, none⟩), .pointer (some ⟨bg, 0, none⟩)] w fun e w' => e = .returned (.tuple #[]) ∧ K2 b g w w' ∧ MapI n (leastV n xs) b w' ∧ ∃ L', OwnI 0 w' (.slice (some ⟨g, 0, none⟩) (2 ^ n - 1) cap) L' ∧ ∀ y, 1 ≤ y → y < 2 ^ n → L'.getD (y - 1) 0 = if undr (x) y then (bq n xs y : Int) else L.getD (y - 1) 0 := by
 have hn := hcx.hi
 have hL : ∀ y, 1 ≤ y → y < 2 ^ n → L.getD (y - 1) 0 = if undr x y then (bq n xs y : Int) else L.getD (y - 1) 0 := by
  intro y _ h2
  rw [if_neg]
  intro h
  have := undr_le h
  omega
 have HL := Aside0.mk hL
 generalize ((stq n xs x).1 ||| (stq n xs x).2) = a
 generalize (stq n xs x).1 = p
 obtain ⟨w1, hw1⟩ : ∃ w1, w1 = w.alloc (.cells #[.int .i64 (a : Nat), .int .i64 (p : Nat)] 148) := ⟨_, rfl⟩
 have hB : Below w.heap.size w w1 := by rw [hw1]; exact Below.alloc (Below.refl _ _) (Nat.le_refl _) _
 have ek0 := cell_ahead k0
 have ek1 := cell_ahead k1
 have HM := Aside0.mk (hM.below hB)
 have HO := Aside0.mk (hO.below hB)
 have HKK := Aside0.mk (K2.below (b := b) (g := g) hB)
 obtain ⟨A1, d1, rfl, -⟩ := id (hk w (K2.refl _ _ _))
 obtain ⟨N, hN⟩ : ∃ N : Nat, N = 2 ^ n := ⟨_, rfl⟩
 have HFU : Aside0 (∀ (u : Value) (W : World), Calls Tryz.prog 153 #[cx n u] W fun e w' => e = .returned (.int .i64 ((N : Int) - 1)) ∧ Below W.heap.size W w') := ⟨fun u W => by rw [hN]; exact full n hn _ W⟩
 have h128 : x < 128 := by have h2 : 2 ^ (n + 1) ≤ 2 ^ 7 := Nat.pow_le_pow_right (by omega) (by omega); have : (2 : Nat) ^ 7 = 128 := rfl; omega
 have hxN : N ≤ x := by omega
 have h1N : 1 ≤ N := by have := (pw6 hn).1; omega
 clear hk hM hO hB hL hx1 hx2 hN
 go_enter Tryz.func200, Tryz.ntmps200
 go_wp2_with (first | (go_at_call 153; rw [← hw1]; clear hw1 ek0 ek1; refine (HFU.out _ _).mono ?_; rintro e w2 ⟨rfl, hb⟩; have HM2 := Aside0.mk (HM.out.below hb); have HO2 := Aside0.mk (HO.out.below hb); have HKK2 := Aside0.mk (HKK.out.trans (K2.below hb)); clear hb))
 refine bodyPost_ret (results_none rfl _ _ _) rfl ?_
 exact ⟨rfl, HKK2.out, HM2.out, L, HO2.out, HL.out⟩
theorem grow (n : Nat) (ku : Value) (xs : List Int) (hcx : Cx n xs) (b g cap bk bm bt bg : Nat) (hbk : bk ≠ b ∧ bk ≠ g) (hbm : bm ≠ b ∧ bm ≠ g) (hbt : bt ≠ b ∧ bt ≠ g) (hbg : bg ≠ b ∧ bg ≠ g) (hgb : g ≠ b) (f : Nat) :
  ∀ i, i + f = n → ∀ x w L, 2 ^ i ≤ x → x < 2 ^ (i + 1) → RdK2 b g w ku xs → w.cell? ⟨bk, 0, none⟩ = some (.int .i64 n) → w.cell? ⟨bk, 1, none⟩ = some ku → w.cell? ⟨bm, 0, none⟩ = some (.map (some b)) → w.cell? ⟨bt, 0, none⟩ = some (.slice (some ⟨g, 0, none⟩) (2 ^ n - 1) cap) → w.cell? ⟨bg, 0, none⟩ = some (.func (.func 200) #[] #[.pointer (some ⟨bk, 0, none⟩), .pointer (some ⟨bm, 0, none⟩), .pointer (some ⟨bt, 0, none⟩), .pointer (some ⟨bg, 0, none⟩)]) → MapI n (leastV n xs) b w → OwnI 0 w (.slice (some ⟨g, 0, none⟩) (2 ^ n - 1) cap) L →
   Calls Tryz.prog 200 #[.int .i64 ((x : Nat) : Int), .agg #[.int .i64 (((stq n xs (x)).1 ||| (stq n xs (x)).2 : Nat) : Int), .int .i64 (((stq n xs (x)).1 : Nat) : Int)], .pointer (some ⟨bk, 0, none⟩), .pointer (some ⟨bm, 0, none⟩), .pointer (some ⟨bt, 0, none⟩), .pointer (some ⟨bg, 0, none⟩)] w fun e w' => e = .returned (.tuple #[]) ∧ K2 b g w w' ∧ MapI n (leastV n xs) b w' ∧ ∃ L', OwnI 0 w' (.slice (some ⟨g, 0, none⟩) (2 ^ n - 1) cap) L' ∧ ∀ y, 1 ≤ y → y < 2 ^ n → L'.getD (y - 1) 0 = if undr (x) y then (bq n xs y : Int) else L.getD (y - 1) 0 := by
 induction f with
 | zero =>
  intro i hi x w L h1 h2 hk k0 k1 cm ct cg hM hO
  obtain rfl : i = n := by omega
  exact growZ i ku xs hcx b g cap bk bm bt bg hbk hbm hbt hbg hgb x w L h1 h2 hk k0 k1 cm ct cg hM hO
 | succ f ih =>
  intro i hi x w L h1 h2 hk k0 k1 cm ct cg hM hO
  exact growS n ku xs hcx b g cap bk bm bt bg hbk hbm hbt hbg hgb x i w L (by omega) h1 h2 (fun x' w L h1 h2 => ih (i + 1) (by omega) x' w L h1 h2) hk k0 k1 cm ct cg hM hO
theorem best_ext {n : Nat} {xs L : List Int} (hn : n ≤ 6) (hl : L.length = 2 ^ n - 1) (h : ∀ y, 1 ≤ y → y < 2 ^ n → L.getD (y - 1) 0 = (bq n xs y : Int)) : L = bestL n xs := by
 refine List.ext_getElem (by rw [hl]; unfold bestL; rw [bestTo'_len]) (fun i h1 h2 => ?_)
 have h3 := h (i + 1) (by omega) (by omega)
 have h4 := bestTo'_get (n := n) (xs := xs) (k := 2 ^ n - 1) (i := i) (by omega)
 simp only [Nat.add_sub_cancel, List.getD_eq_getElem?_getD, List.getElem?_eq_getElem h1, Option.getD_some] at h3
 show L[i] = (bestTo' n xs (2 ^ n - 1))[i]
 simp only [List.getD_eq_getElem?_getD, List.getElem?_eq_getElem (show i < (bestTo' n xs (2 ^ n - 1)).length by rw [bestTo'_len]; omega), Option.getD_some] at h4
 exact h3.trans h4.symm
theorem growTop (n : Nat) (ku : Value) (xs : List Int) (hcx : Cx n xs) (b g cap bk bm bt bg : Nat) (hbk : bk ≠ b ∧ bk ≠ g) (hbm : bm ≠ b ∧ bm ≠ g) (hbt : bt ≠ b ∧ bt ≠ g) (hbg : bg ≠ b ∧ bg ≠ g) (hgb : g ≠ b) (w : World) (L : List Int)
  (hk : RdK2 b g w ku xs) (k0 : w.cell? ⟨bk, 0, none⟩ = some (.int .i64 n)) (k1 : w.cell? ⟨bk, 1, none⟩ = some ku) (cm : w.cell? ⟨bm, 0, none⟩ = some (.map (some b))) (ct : w.cell? ⟨bt, 0, none⟩ = some (.slice (some ⟨g, 0, none⟩) (2 ^ n - 1) cap)) (cg : w.cell? ⟨bg, 0, none⟩ = some (.func (.func 200) #[] #[.pointer (some ⟨bk, 0, none⟩), .pointer (some ⟨bm, 0, none⟩), .pointer (some ⟨bt, 0, none⟩), .pointer (some ⟨bg, 0, none⟩)])) (hM : MapI n (leastV n xs) b w) (hO : OwnI 0 w (.slice (some ⟨g, 0, none⟩) (2 ^ n - 1) cap) L) :
  Calls Tryz.prog 200 #[.int .i64 1, .agg #[.int .i64 0, .int .i64 0], .pointer (some ⟨bk, 0, none⟩), .pointer (some ⟨bm, 0, none⟩), .pointer (some ⟨bt, 0, none⟩), .pointer (some ⟨bg, 0, none⟩)] w fun e w' => e = .returned (.tuple #[]) ∧ K2 b g w w' ∧ OwnI g w' (.slice (some ⟨g, 0, none⟩) (2 ^ n - 1) cap) (bestL n xs) := by
 have h := grow n ku xs hcx b g cap bk bm bt bg hbk hbm hbt hbg hgb n 0 (by omega) 1 w L (Nat.le_refl _) (by omega) hk k0 k1 cm ct cg hM hO
 rw [stq_one] at h
 refine Calls.mono h ?_
 rintro e w' ⟨rfl, hk, -, L', ho, hl⟩
 refine ⟨rfl, hk, ?_⟩
 have hLl : L'.length = 2 ^ n - 1 := by
  obtain ⟨A_, c_, e_, -⟩ := ho.read
  injection e_ with _ e_ _
  exact e_.symm
 have := best_ext (xs := xs) hcx.hi hLl (fun y h1 h2 => by
  have h3 := (pw6 hcx.hi).2
  rw [hl y h1 h2, undr_one y (by omega) h1, if_pos rfl])
 rw [← this]
 exact ho.raise (Nat.le_refl _)
section
variable {P : Program} {ops : Array Oper} {rest : List Oper} {o : Oper} {a : Act} {Q : Exit → Act → World → Prop}
/-- a function value goes into the cell made last but none -/
theorem store_fn {W : World} {o1 : Obj} {u : Value} {t5 : TypeId} (hgd : o.guard = none) {t : TypeId} {p : Tmp} {v : Operand} (ho : o.op = .store t (.tmp p) v) (hN : o.dst = none) {fn : Fn} {f1 f2 : Array Value} (hs : ∀ W', (sizeOf t).run P W' = .ok 1 W')
  (hp : a.eval (.tmp p) = .pointer (some ⟨W.heap.size + 1, 0, none⟩)) (hv : a.eval v = .func fn f1 f2)
  (h : ∀ w', Below W.heap.size W w' → w'.heap[W.heap.size]? = some o1 → w'.cell? ⟨W.heap.size + 1, 0, none⟩ = some (.func fn f1 f2) → wpList P ops Q rest a w') : wpList P ops Q (o :: rest) a ((W.alloc o1).alloc (.cells #[u] t5)) := by
 have hsz : (W.alloc o1).heap.size = W.heap.size + 1 := by simp
 have hc : ((W.alloc o1).alloc (.cells #[u] t5)).cell? ⟨W.heap.size + 1, 0, none⟩ = some u := by rw [← hsz]; exact new_cell _ _ _ 0 _ rfl
 have hf : ((W.alloc o1).alloc (.cells #[u] t5)).frozen? ⟨W.heap.size + 1, 0, none⟩ = false := by
  refine frozen_of_row _ _ _ #[u] t5 ?_
  show ((W.heap.push o1).push (.cells #[u] t5))[W.heap.size + 1]? = _
  rw [show W.heap.size + 1 = (W.heap.push o1).size by simp, Array.getElem?_push_size]
 refine store_event (w1 := ((W.alloc o1).alloc (.cells #[u] t5)).setCell ⟨W.heap.size + 1, 0, none⟩ (.func fn f1 f2)) hgd ho hN ?_ (fun w' e => h w' ?_ ?_ ?_)
 ·generalize hE : a.eval = ρ at hp hv ⊢
  simp only [execOp, ho, hp, hv]
  simp [go_sem, hs, run_store P _ _ _ _ (show (Value.func fn f1 f2).oneCell' = true from rfl), hc, hf]
 ·rw [e]
  exact Below.setCell (Below.alloc (Below.alloc (Below.refl _ _) (Nat.le_refl _) _) (by rw [hsz]; omega) _) (by simp) _
 ·rw [e, Below.heap_setCell _ _ _ _ (by simp)]
  show ((W.heap.push o1).push (.cells #[u] t5))[W.heap.size]? = _
  rw [Array.getElem?_push_lt (by simp)]
  simp
 ·rw [e]; exact World.cell?_setCell_same (v := Value.func fn f1 f2) (h := hc)
end
set_option maxRecDepth 100000 in
set_option maxHeartbeats 4000000 in
theorem implBestTree (a : Int) (ku : Value) (xs : List Int) (w : World) (hk : ReadI w ku xs) :
  Calls Tryz.prog 50 #[cx a ku] w fun e w' => ∃ u, e = .returned (.tuple #[u, .int .i64 (ansBestTree a xs).2]) ∧ OwnI w.heap.size w' u (ansBestTree a xs).1 ∧ Below w.heap.size w w' := by
 obtain ⟨w1, hw1⟩ : ∃ w1, w1 = w.alloc (.cells #[.int .i64 a, ku] 26) := ⟨_, rfl⟩
 have hB : Below w.heap.size w w1 := by rw [hw1]; exact Below.alloc (Below.refl _ _) (Nat.le_refl _) _
 have c0 : w1.cell? ⟨w.heap.size, 0, none⟩ = some (.int .i64 a) := by rw [hw1]; simp
 have c1 : w1.cell? ⟨w.heap.size, 1, none⟩ = some ku := by rw [hw1]; simp
 have hz1 : w.heap.size < w1.heap.size := by rw [hw1]; simp
 have HB := Aside0.mk hB
 have HK := Aside0.mk (hk.below hB)
 have HM := Aside0.mk (complexCode2 a ku xs _ true w1 HK.out (fun _ => alwaysB w1) ⟨_, _, _, rfl⟩)
 obtain ⟨A1, d1, rfl, -⟩ := id hk
 clear hk hB
 cases hx : cxOk a xs with
 | false =>
  have HA : Aside0 (ansBestTree a xs = ([], 1)) := ⟨by unfold ansBestTree; rw [hx]; rfl⟩
  rw [hx] at HM
  clear hx
  go_enter Tryz.func50, Tryz.ntmps50
  go_wp2_with (first | (go_at_call 188; rw [← hw1]; clear hw1; refine HM.out.mono ?_; rintro e w2 ⟨rfl, hb⟩; have HB2 := Aside0.mk hb; clear hb))
  go_ret2
  exact ⟨_, by rw [HA.out]; rfl, by rw [HA.out]; exact OwnI.nil _ _, HB.out.trans (HB2.out.mono HB.out.size)⟩
 | true =>
  obtain ⟨n, rfl, hc⟩ := cxOk_nat hx
  have HA : Aside0 (ansBestTree (n : Int) xs = (bestL n xs, 0)) := ⟨by unfold ansBestTree; rw [hx]; rfl⟩
  rw [hx] at HM
  have HC := Aside0.mk hc
  have h64 := pw6 hc.hi
  have hn1 : 2 ≤ 2 ^ n := by have := Nat.pow_le_pow_right (n := 2) (by omega) hc.lo; omega
  obtain ⟨M, hMM⟩ : ∃ M : Nat, M = 2 ^ n - 1 := ⟨_, rfl⟩
  have HFU : Aside0 (∀ (u : Value) (W : World), Calls Tryz.prog 153 #[cx n u] W fun e w' => e = .returned (.int .i64 (M : Nat)) ∧ Below W.heap.size W w') := ⟨fun u W => by
   refine Calls.mono (full n hc.hi u W) ?_
   rintro e w' ⟨rfl, hb⟩
   exact ⟨by rw [show ((2 ^ n : Nat) : Int) - 1 = (M : Int) by omega], hb⟩⟩
  have hM1 : 1 ≤ M ∧ M ≤ 63 := by omega
  have HMM := Aside0.mk hMM
  have hmm := @run_makeMap Tryz.prog
  clear hx hc hMM h64 hn1
  go_enter Tryz.func50, Tryz.ntmps50
  go_wp2_with (first | (go_at_call 188; rw [← hw1]; clear hw1; refine HM.out.mono ?_; rintro e w2 ⟨rfl, hb⟩; have HB2 := Aside0.mk hb; have hz2 : w.heap.size < w2.heap.size := (by have := hb.size; omega); replace c0 := pw_cell_below hb c0; replace c1 := pw_cell_below hb c1; clear hb) | (go_at_call 153; obtain ⟨W, hW⟩ : ∃ W, W = (w2.alloc (.map #[] 0)).alloc (.cells #[.map (some w2.heap.size)] 145) := ⟨_, rfl⟩; rw [← hW]; have hBm : Below w2.heap.size w2 (w2.alloc (.map #[] 0)) := (Below.alloc (Below.refl _ _) (Nat.le_refl _) _); have hBn : Below (w2.alloc (.map #[] 0)).heap.size (w2.alloc (.map #[] 0)) W := (by rw [hW]; exact Below.alloc (Below.refl _ _) (Nat.le_refl _) _); have hmz : (w2.alloc (.map #[] 0)).heap.size = w2.heap.size + 1 := (by simp); have cm : W.cell? ⟨w2.heap.size + 1, 0, none⟩ = some (.map (some w2.heap.size)) := (by rw [hW, ← hmz]; exact new_cell _ _ _ 0 _ rfl); have HMW : Aside0 (MapI n (leastV n xs) w2.heap.size W) := ⟨(MapI.made n (leastV n xs) w2).below hBn⟩; have hBW : Below w2.heap.size w2 W := hBm.trans (hBn.mono hBm.size); have hzW : W.heap.size = w2.heap.size + 2 := (by rw [hW]; simp); clear hW hBm hBn hmz; refine (HFU.out _ _).mono ?_; rintro e w3 ⟨rfl, hb⟩; have hz3 : w2.heap.size + 2 ≤ w3.heap.size := (by have := hb.size; omega); have HB3 := Aside0.mk (hBW.trans (hb.mono hBW.size)); have HM3 := Aside0.mk (HMW.out.below hb); replace c0 := pw_cell_below hBW c0; replace c1 := pw_cell_below hBW c1; replace c0 := pw_cell_below hb c0; replace c1 := pw_cell_below hb c1; replace cm := pw_cell_below hb cm; clear hb hBW hzW HMW) | ((with_reducible refine gate_dst (N := 16) rfl ?_); refine make_own (w0 := w3) w3.heap.size rfl (N := 16) rfl _ _ rfl M rfl rfl (by omega) (Below.refl _ _) (Nat.le_refl _) ?_; intro v1 w4 ho4 hb4 hg4 hat4; obtain ⟨g, cap, rfl, -⟩ := Kd.R_form ho4 (by rw [List.length_replicate]; omega); rw [List.length_replicate] at ho4 ⊢; have HO4 := Aside0.mk ho4; have hgg := ho4.base g (by simp [Value.ownBlock]); have hgl := ho4.lt g (by simp [Value.ownBlock]); have HB4 := Aside0.mk hb4; have HM4 := Aside0.mk (HM3.out.below hb4); have hz4 : w3.heap.size ≤ w4.heap.size := hb4.size; replace c0 := pw_cell_below hb4 c0; replace c1 := pw_cell_below hb4 c1; replace cm := pw_cell_below hb4 cm; clear ho4 hb4 hg4 hat4) | ((with_reducible refine gate_store (p := 7) rfl ?_); go_must (refine store_fn rfl rfl rfl (fun _ => rfl) rfl rfl ?_); intro w5 hb5 hct cg; have ct : w5.cell? ⟨w4.heap.size, 0, none⟩ = some (.slice (some ⟨g, 0, none⟩) M cap) := (by unfold World.cell?; rw [hct]; rfl); have hz5 := hb5.size; have HB5 := Aside0.mk hb5; have HM5 := Aside0.mk (HM4.out.below hb5); have HO5 := Aside0.mk (HO4.out.below hb5); replace c0 := pw_cell_below hb5 c0; replace c1 := pw_cell_below hb5 c1; replace cm := pw_cell_below hb5 cm; clear hb5 hct) | (go_at_call 200; go_must (have HBA := Aside0.mk (HB3.out.trans ((HB4.out.mono HB3.out.size).trans (HB5.out.mono (Nat.le_trans HB3.out.size HB4.out.size)))); have HB15 := Aside0.mk (HB2.out.trans (HBA.out.mono HB2.out.size)); have hR := RdK2.mk' (b := w2.heap.size) (g := g) HK.out HB15.out HB2.out.size (by have := HB2.out.size; omega); have HT := growTop n _ xs HC.out w2.heap.size g cap w.heap.size (w2.heap.size + 1) w4.heap.size (w4.heap.size + 1) ⟨by omega, by omega⟩ ⟨by omega, by omega⟩ ⟨by omega, by omega⟩ ⟨by omega, by omega⟩ (by omega) w5 _ hR c0 c1 cm (by rw [← HMM.out]; exact ct) cg HM5.out (by rw [← HMM.out]; exact HO5.out.lower (Nat.zero_le _)); refine Calls.mono HT ?_; rintro e w6 ⟨rfl, hk6, ho6⟩; rw [← HMM.out] at ho6; have HO6 := Aside0.mk ho6; have HK6 := Aside0.mk hk6; replace ct := hk6.cell ct ⟨(by show w4.heap.size ≠ w2.heap.size; omega), (by show w4.heap.size ≠ g; omega)⟩; clear hR HT hk6 ho6)))
  go_ret2
  have h1 := HB.out.size
  have h2 := HB2.out.size
  have h3 := HB15.out.size
  exact ⟨_, by rw [HA.out]; rfl, by rw [HA.out]; exact HO6.out.lower (show w.heap.size ≤ g by omega), HB.out.trans ((HB15.out.mono h1).trans (HK6.out.out (by omega) (by omega) (by omega)))⟩
end Go.Proofs.YtkggchklmpmgpaaGreat.H
