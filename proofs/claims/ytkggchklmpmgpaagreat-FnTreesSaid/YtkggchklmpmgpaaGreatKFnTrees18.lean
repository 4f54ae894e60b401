/- The best tree, of the program: its own function. -/
import Derived.Test.YtkggchklmpmgpaaGreatKFnTrees1
import Derived.Test.YtkggchklmpmgpaaGreatKFnTrees2
import Derived.Test.YtkggchklmpmgpaaGreatKFnTrees3
import Derived.Test.YtkggchklmpmgpaaGreatKFnTrees4
import Derived.Test.YtkggchklmpmgpaaGreatKFnTrees5
import Derived.Test.YtkggchklmpmgpaaGreatKFnTrees6
import Derived.Test.YtkggchklmpmgpaaGreatKFnTrees7
import Derived.Test.YtkggchklmpmgpaaGreatKFnTrees8
import Derived.Test.YtkggchklmpmgpaaGreatKFnTrees9
import Derived.Test.YtkggchklmpmgpaaGreatKFnTrees10
import Derived.Test.YtkggchklmpmgpaaGreatKFnTrees11
import Derived.Test.YtkggchklmpmgpaaGreatKFnTrees12
import Derived.Test.YtkggchklmpmgpaaGreatKFnTrees13
import Derived.Test.YtkggchklmpmgpaaGreatKFnTrees14
import Derived.Test.YtkggchklmpmgpaaGreatKFnTrees15
import Derived.Test.YtkggchklmpmgpaaGreatKFnTrees16
import Derived.Test.YtkggchklmpmgpaaGreatKFnTrees17

namespace Go.Proofs.YtkggchklmpmgpaaGreat.H
open Go.RowKit Go.Proofs.YtkggchklmpmgpaaGreatW.PrintWords Go.Proofs.YtkggchklmpmgpaaGreatW.PrintLast
set_option linter.unusedVariables false
set_option linter.unusedSimpArgs false
/-- but for two blocks nothing is turned -/
structure K2 (b g : Nat) (w w' : World) : Prop where
 os : w'.os = w.os
 tape : w'.tape = w.tape
 output : w'.output = w.output
 size : w.heap.size ≤ w'.heap.size
 block : ∀ k, k < w.heap.size → k ≠ b → k ≠ g → w'.heap[k]? = w.heap[k]?
theorem K2.refl (b g : Nat) (w : World) : K2 b g w w := ⟨rfl, rfl, rfl, Nat.le_refl _, fun _ _ _ _ => rfl⟩
theorem K2.trans {b g : Nat} {a c d : World} (h : K2 b g a c) (k : K2 b g c d) : K2 b g a d :=
 ⟨k.os.trans h.os, k.tape.trans h.tape, k.output.trans h.output, Nat.le_trans h.size k.size, fun i hi h1 h2 => (k.block i (Nat.lt_of_lt_of_le hi h.size) h1 h2).trans (h.block i hi h1 h2)⟩
theorem K2.below {b g : Nat} {w w' : World} (h : Below w.heap.size w w') : K2 b g w w' := ⟨h.os, h.tape, h.output, h.size, fun k hk _ _ => h.block k hk⟩
theorem K2.gb {b g : Nat} {w w' : World} (h : w.grownBy w' (some b)) : K2 b g w w' := ⟨h.os, h.tape, h.output, h.size, fun k hk h1 _ => h.block k hk (fun e => h1 (by injection e))⟩
theorem K2.gg {b g : Nat} {w w' : World} (h : w.grownBy w' (some g)) : K2 b g w w' := ⟨h.os, h.tape, h.output, h.size, fun k hk _ h1 => h.block k hk (fun e => h1 (by injection e))⟩
theorem K2.cell {b g : Nat} {w w' : World} (h : K2 b g w w') {a : Addr} {v : Value} (hc : w.cell? a = some v) (hne : a.block ≠ b ∧ a.block ≠ g) : w'.cell? a = some v := by
 have hlt : a.block < w.heap.size := by
  rcases Nat.lt_or_ge a.block w.heap.size with h' | h'
  ·exact h'
  ·simp [World.cell?, Array.getElem?_eq_none h'] at hc
 rw [World.cell?_of_block (w := w) (h.block a.block hlt hne.1 hne.2)]; exact hc
theorem K2.out {B b g : Nat} {w w' : World} (h : K2 b g w w') (h1 : B ≤ b) (h2 : B ≤ g) (h3 : B ≤ w.heap.size) : Below B w w' := ⟨h.os, h.tape, h.output, h.size, fun k hk => h.block k (by omega) (by omega) (by omega)⟩
def RdK2 (b g : Nat) (w : World) (v : Value) (xs : List Int) : Prop := ∀ w', K2 b g w w' → ReadI w' v xs
theorem RdK2.go {b g : Nat} {w w' : World} {v : Value} {xs : List Int} (h : RdK2 b g w v xs) (hk : K2 b g w w') : RdK2 b g w' v xs := fun w2 h2 => h w2 (hk.trans h2)
theorem RdK2.rdk {b g : Nat} {w : World} {v : Value} {xs : List Int} (h : RdK2 b g w v xs) : RdK b w v xs := fun w' hg => h w' (K2.gb hg)
theorem RdK2.mk' {b g : Nat} {w0 w : World} {v : Value} {xs : List Int} (h : ReadI w0 v xs) (hb : Below w0.heap.size w0 w) (h1 : w0.heap.size ≤ b) (h2 : w0.heap.size ≤ g) : RdK2 b g w v xs :=
 fun w' hg => h.below (hb.trans (hg.out h1 h2 hb.size))
/-- the places under a place -/
def undr (x y : Nat) : Bool := (List.range 8).any fun k => y / 2 ^ k == x
theorem undr_one : ∀ y, y < 64 → 1 ≤ y → undr 1 y = true := by decide +kernel
theorem undr_step : ∀ x, x < 64 → 1 ≤ x → ∀ y, y < 64 → undr x y = ((y == x) || (undr (2 * x) y || undr (2 * x + 1) y)) := by decide +kernel
theorem undr_le {x y : Nat} (h : undr x y = true) : x ≤ y := by
 unfold undr at h
 rw [List.any_eq_true] at h
 obtain ⟨k, -, hk⟩ := h
 rw [beq_iff_eq] at hk
 have := Nat.div_le_self y (2 ^ k)
 omega
theorem tree_join {n x : Nat} (hn : n ≤ 6) {xs L L1 L2 L3 : List Int} (h1 : 1 ≤ x) (h2 : x < 2 ^ n) (hL : L.length = 2 ^ n - 1) (e1 : L1 = L.set (x - 1) (bq n xs x : Int))
  (e2 : ∀ y, 1 ≤ y → y < 2 ^ n → L2.getD (y - 1) 0 = if undr (2 * x) y then (bq n xs y : Int) else L1.getD (y - 1) 0)
  (e3 : ∀ y, 1 ≤ y → y < 2 ^ n → L3.getD (y - 1) 0 = if undr (2 * x + 1) y then (bq n xs y : Int) else L2.getD (y - 1) 0) :
  ∀ y, 1 ≤ y → y < 2 ^ n → L3.getD (y - 1) 0 = if undr x y then (bq n xs y : Int) else L.getD (y - 1) 0 := by
 intro y hy1 hy2
 have h64 := (pw6 hn).2
 rw [e3 y hy1 hy2, e2 y hy1 hy2, undr_step x (by omega) h1 y (by omega)]
 by_cases ha : undr (2 * x + 1) y = true
 ·rw [if_pos ha, ha, Bool.or_true, Bool.or_true, if_pos rfl]
 ·rw [if_neg ha]
  rw [Bool.not_eq_true] at ha
  rw [ha, Bool.or_false]
  by_cases hb : undr (2 * x) y = true
  ·rw [if_pos hb, hb, Bool.or_true, if_pos rfl]
  ·rw [if_neg hb]
   rw [Bool.not_eq_true] at hb
   rw [hb, Bool.or_false, e1]
   by_cases hxy : y = x
   ·subst hxy
    rw [beq_self_eq_true, if_pos rfl, List.getD_eq_getElem?_getD, List.getElem?_set_self (by omega)]; rfl
   ·have : (y == x) = false := by rw [beq_eq_false_iff_ne]; exact hxy
    rw [this, if_neg (by decide), List.getD_eq_getElem?_getD, List.getElem?_set_ne (by omega), List.getD_eq_getElem?_getD]
theorem lefts_lt7 {n p q : Nat} (hn : n ≤ 6) : lefts n p q < 7 := by have := frees_len (p ||| q) n; unfold lefts; omega
theorem eval_stq_even {n : Nat} {xs : List Int} {x : Nat} (h1 : 1 ≤ x) : (stq n xs (2 * x)).1 = (stq n xs x).1 ∧ (stq n xs (2 * x)).2 = (stq n xs x).2 ||| 2 ^ bq n xs x := by
 have := stq_even (n := n) (xs := xs) (x := 2 * x) (by omega) (by omega)
 rw [show 2 * x / 2 = x by omega] at this
 rw [this]; exact ⟨rfl, rfl⟩
theorem eval_stq_odd {n : Nat} {xs : List Int} {x : Nat} (h1 : 1 ≤ x) : (stq n xs (2 * x + 1)).1 = (stq n xs x).1 ||| 2 ^ bq n xs x ∧ (stq n xs (2 * x + 1)).2 = (stq n xs x).2 := by
 have := stq_odd (n := n) (xs := xs) (x := 2 * x + 1) (by omega) (by omega)
 rw [show (2 * x + 1) / 2 = x by omega] at this
 rw [this]; exact ⟨rfl, rfl⟩
set_option maxRecDepth 100000 in
set_option maxHeartbeats 8000000 in
theorem growS (n : Nat) (ku : Value) (xs : List Int) (hcx : Cx n xs) (b g cap bk bm bt bg : Nat) (hbk : bk ≠ b ∧ bk ≠ g) (hbm : bm ≠ b ∧ bm ≠ g) (hbt : bt ≠ b ∧ bt ≠ g) (hbg : bg ≠ b ∧ bg ≠ g) (hgb : g ≠ b)
  (x i : Nat) (w : World) (L : List Int) (hi : i < n) (hx1 : 2 ^ i ≤ x) (hx2 : x < 2 ^ (i + 1))
  (ih : ∀ x' w L, 2 ^ (i + 1) ≤ x' → x' < 2 ^ (i + 2) → RdK2 b g w ku xs → w.cell? ⟨bk, 0, none⟩ = some (.int .i64 n) → w.cell? ⟨bk, 1, none⟩ = some ku → w.cell? ⟨bm, 0, none⟩ = some (.map (some b)) → w.cell? ⟨bt, 0, none⟩ = some (.slice (some ⟨g, 0, none⟩) (2 ^ n - 1) cap) → w.cell? ⟨bg, 0, none⟩ = some (.func (.func 200) #[] #[.pointer (some ⟨bk, 0, none⟩), .pointer (some ⟨bm, 0, none⟩), .pointer (some ⟨bt, 0, none⟩), .pointer (some ⟨bg, 0, none⟩)]) → MapI n (leastV n xs) b w → OwnI 0 w (.slice (some ⟨g, 0, none⟩) (2 ^ n - 1) cap) L →
   Calls Tryz.prog 200 #[.int .i64 ((x' : Nat) : Int), .agg #[.int .i64 (((stq n xs (x')).1 ||| (stq n xs (x')).2 : Nat) : Int), .int .i64 (((stq n xs (x')).1 : Nat) : Int)], .pointer (some ⟨bk, 0, none⟩), .pointer (some ⟨bm, 0, none⟩), .pointer (some ⟨bt, 0, none⟩), .pointer (some ⟨bg, 0, none⟩)] w fun e w' => e = .returned (.tuple #[]) ∧ K2 b g w w' ∧ MapI n (leastV n xs) b w' ∧ ∃ L', OwnI 0 w' (.slice (some ⟨g, 0, none⟩) (2 ^ n - 1) cap) L' ∧ ∀ y, 1 ≤ y → y < 2 ^ n → L'.getD (y - 1) 0 = if undr (x') y then (bq n xs y : Int) else L.getD (y - 1) 0)
  (hk : RdK2 b g w ku xs) (k0 : w.cell? ⟨bk, 0, none⟩ = some (.int .i64 n)) (k1 : w.cell? ⟨bk, 1, none⟩ = some ku) (cm : w.cell? ⟨bm, 0, none⟩ = some (.map (some b))) (ct : w.cell? ⟨bt, 0, none⟩ = some (.slice (some ⟨g, 0, none⟩) (2 ^ n - 1) cap)) (cg : w.cell? ⟨bg, 0, none⟩ = some (.func (.func 200) #[] #[.pointer (some ⟨bk, 0, none⟩), .pointer (some ⟨bm, 0, none⟩), .pointer (some ⟨bt, 0, none⟩), .pointer (some ⟨bg, 0, none⟩)])) (hM : MapI n (leastV n xs) b w) (hO : OwnI 0 w (.slice (some ⟨g, 0, none⟩) (2 ^ n - 1) cap) L) :
  Calls Tryz.prog 200 #[.int .i64 ((x : Nat) : Int), .agg #[.int .i64 (((stq n xs (x)).1 ||| (stq n xs (x)).2 : Nat) : Int), .int .i64 (((stq n xs (x)).1 : Nat) : Int)], .pointer (some ⟨bk, 0, none⟩), .pointer (some ⟨bm, 0, none⟩), .pointer (some ⟨bt, 0, none⟩), .pointer (some ⟨bg, 0, none⟩)] w fun e w' => e = .returned (.tuple #[]) ∧ K2 b g w w' ∧ MapI n (leastV n xs) b w' ∧ ∃ L', OwnI 0 w' (.slice (some ⟨g, 0, none⟩) (2 ^ n - 1) cap) L' ∧ ∀ y, 1 ≤ y → y < 2 ^ n → L'.getD (y - 1) 0 = if undr (x) y then (bq n xs y : Int) else L.getD (y - 1) 0 := by
 have hn := hcx.hi
 have hst := stq_pl hn xs i x (by omega) hx1 hx2
 have h0i : 1 ≤ 2 ^ i := Nat.one_le_two_pow
 have hx0 : 1 ≤ x := by omega
 have hp2 : 2 ^ (i + 1) ≤ 2 ^ n := Nat.pow_le_pow_right (by omega) (by omega)
 have hxn : x < 2 ^ n := by omega
 have h64 := pw6 hn
 have hne : lefts n (stq n xs x).1 (stq n xs x).2 ≠ 0 := by omega
 have hbq := bestQ_lt hn (xs := xs) hst.1 hne
 have hbf := bestQ_free hn (xs := xs) hst.1 hne
 have HEVN := Aside0.mk (eval_stq_even (n := n) (xs := xs) hx0)
 have HODD := Aside0.mk (eval_stq_odd (n := n) (xs := xs) hx0)
 have hLl : L.length = 2 ^ n - 1 := by
  obtain ⟨A_, c_, e_, -⟩ := hO.read
  injection e_ with _ e_ _
  exact e_.symm
 have HJ := Aside0.mk (fun L1 L2 L3 => tree_join (L := L) (L1 := L1) (L2 := L2) (L3 := L3) (xs := xs) hn hx0 hxn hLl)
 obtain ⟨v0, hv0⟩ : ∃ v0, v0 = bq n xs x := ⟨_, rfl⟩
 have hbq1 : v0 < n := by rw [hv0]; exact hbq.1
 have hbq2 : ∀ j, j < v0 → pickV n xs (stq n xs x).1 (stq n xs x).2 j = false := by rw [hv0]; exact hbq.2.2
 have hbq3 : pickV n xs (stq n xs x).1 (stq n xs x).2 v0 = true := by rw [hv0]; exact hbq.2.1
 have hbf2 : ((stq n xs x).1 ||| (stq n xs x).2).testBit v0 = false := by rw [hv0]; exact hbf
 rw [← hv0] at HEVN HODD HJ
 obtain ⟨p, hp⟩ : ∃ p, p = (stq n xs x).1 := ⟨_, rfl⟩
 obtain ⟨q, hq⟩ : ∃ q, q = (stq n xs x).2 := ⟨_, rfl⟩
 rw [← hp, ← hq] at hst hne hbq2 hbq3 hbf2
 rw [← hp] at HEVN HODD ⊢
 rw [← hq] at HEVN HODD ⊢
 obtain ⟨a, ha⟩ : ∃ a, a = p ||| q := ⟨_, rfl⟩
 rw [← ha] at hbf2 ⊢
 have hpq := hst.1.lt hn
 have hal : a < 64 := by rw [ha]; exact or_lt64 hpq.1 hpq.2
 obtain ⟨w1, hw1⟩ : ∃ w1, w1 = w.alloc (.cells #[.int .i64 (a : Nat), .int .i64 (p : Nat)] 148) := ⟨_, rfl⟩
 have hB : Below w.heap.size w w1 := by rw [hw1]; exact Below.alloc (Below.refl _ _) (Nat.le_refl _) _
 have hbl := hM.lt
 have hgl := hO.lt g (by simp [Value.ownBlock])
 have s0 : w1.cell? ⟨w.heap.size, 0, none⟩ = some (.int .i64 (a : Nat)) := by rw [hw1]; simp
 have s1 : w1.cell? ⟨w.heap.size, 1, none⟩ = some (.int .i64 (p : Nat)) := by rw [hw1]; simp
 have hbs : w.heap.size ≠ b ∧ w.heap.size ≠ g := ⟨by omega, by omega⟩
 have ek0 := cell_ahead k0
 have ek1 := cell_ahead k1
 have k0 := pw_cell_below hB k0
 have k1 := pw_cell_below hB k1
 have cm := pw_cell_below hB cm
 have ct := pw_cell_below hB ct
 have cg := pw_cell_below hB cg
 have HK := Aside0.mk (hk.go (K2.below (b := b) (g := g) hB))
 have HM := Aside0.mk (hM.below hB)
 have HO := Aside0.mk (hO.below hB)
 have HKK := Aside0.mk (K2.below (b := b) (g := g) hB)
 obtain ⟨A1, d1, rfl, -⟩ := id (hk w (K2.refl _ _ _))
 obtain ⟨N, hN⟩ : ∃ N : Nat, N = 2 ^ n := ⟨_, rfl⟩
 have HFU : Aside0 (∀ (u : Value) (W : World), Calls Tryz.prog 153 #[cx n u] W fun e w' => e = .returned (.int .i64 ((N : Int) - 1)) ∧ Below W.heap.size W w') := ⟨fun u W => by rw [hN]; exact full n hn _ W⟩
 have HEV := Aside0.mk (fun (W : World) hk hT => evaders n (.slice A1 xs.length d1) xs hcx b 7 p q a W ha (lefts_lt7 hn) hst.1 hk hT)
 have HEBa := Aside0.mk (fun (vq : Nat) (hv : vq < n) (hf : a.testBit vq = false) (W : World) hk hT => evadersBy n (.slice A1 xs.length d1) xs hcx b 7 (fun p q a w h1 h2 h3 h4 h5 => evaders n (.slice A1 xs.length d1) xs hcx b 7 p q a w h1 (lefts_lt7 hn) h3 h4 h5) p q a vq W ha (Nat.lt_succ_of_lt (lefts_lt7 hn)) hst.1 hv hf hk hT)
 have HPB := Aside0.mk (fun vq (hf : (p ||| q).testBit vq = false) => pick_byV (n := n) (xs := xs) hf)
 rw [← ha] at HPB
 have HHA := Aside0.mk ha
 obtain ⟨X, hX⟩ : ∃ X, X = leastV n xs p q := ⟨_, rfl⟩
 rw [← hX] at HEV HPB
 rw [← hN] at hxn ct HO h64 HJ hLl ⊢
 have HBQ2 := Aside0.mk hbq2
 have HBQ3 := Aside0.mk hbq3
 have HPV : Aside0 (∀ j, a.testBit j = true → pickV n xs p q j = false) := ⟨fun j hj => by unfold pickV; rw [← ha, hj]; rfl⟩
 have HIH := Aside0.mk ih
 have HX2 := Aside0.mk hx1
 have HX3 := Aside0.mk hx2
 have HN := Aside0.mk hN
 have hmx : Tryz.prog.follows .mixedOrders = true := by kernel_rfl
 clear hk hM hO hB hp hq ha hN hX hv0 hbq hbf hbq2 hbq3 hst hne ih hx1 hx2 hp2 h0i hLl
 go_enter Tryz.func200, Tryz.ntmps200
 go_wp2_with (first | (go_at_call 153; rw [← hw1]; clear hw1 ek0 ek1; refine (HFU.out _ _).mono ?_; rintro e w2 ⟨rfl, hb⟩; have HK2 := Aside0.mk (HK.out.go (K2.below hb)); have HM2 := Aside0.mk (HM.out.below hb); have HO2 := Aside0.mk (HO.out.below hb); have HKK2 := Aside0.mk (HKK.out.trans (K2.below hb)); replace k0 := pw_cell_below hb k0; replace k1 := pw_cell_below hb k1; replace cm := pw_cell_below hb cm; replace ct := pw_cell_below hb ct; replace cg := pw_cell_below hb cg; replace s0 := pw_cell_below hb s0; replace s1 := pw_cell_below hb s1; clear hb))
 go_loopw [8] (fun s8 wr => ∃ vq : Nat, s8 = .int .i64 vq ∧ vq ≤ v0 ∧ Aside0 (w2.grownBy wr (some b)) ∧ Aside0 (MapI n (leastV n xs) b wr)) (fun s8 _ => v0 - (intOf s8).toNat)
 case atStart => exact ⟨0, rfl, Nat.zero_le _, ⟨grown_below (Below.refl _ _) _⟩, HM2⟩
 case round =>
  obtain ⟨vq, rfl, hvq, HGr, HMr⟩ := hrel
  have k0 := grown_cell HGr.out k0 hbk.1
  have k1 := grown_cell HGr.out k1 hbk.1
  have cm := grown_cell HGr.out cm hbm.1
  have ct := grown_cell HGr.out ct hbt.1
  have cg := grown_cell HGr.out cg hbg.1
  have s0 := grown_cell HGr.out s0 hbs.1
  have s1 := grown_cell HGr.out s1 hbs.1
  have HKr := Aside0.mk ((HK2.out.go (K2.gb HGr.out)).rdk)
  have hbit := bit_of a vq (lt_big hal)
  have hsq : vq < 7 := by omega
  by_cases hlt : vq < v0
  ·have hpk := HBQ2.out vq hlt
   cases hbt' : a.testBit vq with
   | true =>
    rw [hbt', if_pos rfl] at hbit
    have HBI := Aside0.mk hbit
    clear hbt' hbit hpk
    go_wp2
    refine wp_region_gg (Gm b (MapI n (leastV n xs) b)) (fun w => ⟨grown_drew w _, fun h => h.below (Below.refl _ _).drew⟩) (fun _ _ _ => Gm.trans) (fun i => match i with | 0 => fun v _ => v = .pointer (some ⟨w.heap.size, 0, none⟩) | 1 => fun v _ => v = .int .i64 (a : Int) | 2 => fun v _ => v = .int .i64 (vq : Int) | 3 => fun v _ => v = .int .i64 ((a : Int) / 2 ^ vq) | 4 => fun v _ => v = .int .i64 1 | 5 => fun v _ => v = .bool true | 6 => fun v _ => v = .bool true | 7 => fun v _ => v = undef | 8 => fun v _ => v = undef | 9 => fun v _ => v = undef | 10 => fun v _ => v = undef | 11 => fun v _ => v = undef | 12 => fun v _ => v = undef | 13 => fun v _ => v = undef | 14 => fun v _ => v = undef | 15 => fun v _ => v = undef | 16 => fun v _ => v = undef | 17 => fun v _ => v = .bool true | _ => fun _ _ => True)
     [0, 1, 0, 7, 15, 31, 63, 127, 127, 127, 127, 2047, 127, 127, 127, 32767, 65535, 131071] hmx (by kernel_rfl) ?st ?steps ?rest
    case st =>
     intro i v w1_ w2_ hb
     match i with
     | 0 | 1 | 2 | 3 | 4 | 5 | 6 | 7 | 8 | 9 | 10 | 11 | 12 | 13 | 14 | 15 | 16 | 17 => exact id
     | n + 18 => exact id
    case steps =>
     refine ⟨?_, ?_, ?_, ?_, ?_, ?_, ?_, ?_, ?_, ?_, ?_, ?_, ?_, ?_, ?_, ?_, ?_, ?_, trivial⟩
     ·intro s w_ hb hd hq R hR
      generalize hA : putAll _ 0 s _ = A
      clear hq
      refine stepG_on rfl ?_
      have hR' := hR (.pointer (some ⟨w.heap.size, 0, none⟩)) _ (Gm.refl _ _ _) rfl
      clear hR hd
      refine opGives_value ?_ hR'
      subst hA
      simp only [dsOf, List.map_cons, List.map_nil, Option.getD_some, putAll, Act.put, List.setIfInBounds_toArray, List.set_cons_zero, List.set_cons_succ]
      go_simp
     ·intro s w_ hb hd hq R hR
      generalize hA : putAll _ 0 s _ = A
      clear hq
      refine stepG_on rfl ?_
      have e0 : s 0 = _ := hd 0 (by kernel_rfl)
      have s0 := grown_cell hb.1 s0 hbs.1
      have hR' := hR (.int .i64 (a : Int)) _ (Gm.refl _ _ _) rfl
      clear hR hd
      refine opGives_value ?_ hR'
      subst hA
      simp only [dsOf, List.map_cons, List.map_nil, Option.getD_some, putAll, Act.put, List.setIfInBounds_toArray, List.set_cons_zero, List.set_cons_succ]
      go_simp
     ·intro s w_ hb hd hq R hR
      generalize hA : putAll _ 0 s _ = A
      clear hq
      refine stepG_on rfl ?_
      have hR' := hR (.int .i64 (vq : Int)) _ (Gm.refl _ _ _) rfl
      clear hR hd
      refine opGives_value ?_ hR'
      subst hA
      simp only [dsOf, List.map_cons, List.map_nil, Option.getD_some, putAll, Act.put, List.setIfInBounds_toArray, List.set_cons_zero, List.set_cons_succ]
      go_simp
     ·intro s w_ hb hd hq R hR
      generalize hA : putAll _ 0 s _ = A
      clear hq
      refine stepG_on rfl ?_
      have e1 : s 1 = _ := hd 1 (by kernel_rfl)
      have e2 : s 2 = _ := hd 2 (by kernel_rfl)
      have hR' := hR (.int .i64 ((a : Int) / 2 ^ vq)) _ (Gm.refl _ _ _) rfl
      clear hR hd
      refine opGives_value ?_ hR'
      subst hA
      simp only [dsOf, List.map_cons, List.map_nil, Option.getD_some, putAll, Act.put, List.setIfInBounds_toArray, List.set_cons_zero, List.set_cons_succ]
      go_simp
     ·intro s w_ hb hd hq R hR
      generalize hA : putAll _ 0 s _ = A
      clear hq
      refine stepG_on rfl ?_
      have e3 : s 3 = _ := hd 3 (by kernel_rfl)
      have hbit := HBI.out
      have hR' := hR (.int .i64 1) _ (Gm.refl _ _ _) rfl
      clear hR hd
      refine opGives_value ?_ hR'
      subst hA
      simp only [dsOf, List.map_cons, List.map_nil, Option.getD_some, putAll, Act.put, List.setIfInBounds_toArray, List.set_cons_zero, List.set_cons_succ]
      go_simp
     ·intro s w_ hb hd hq R hR
      generalize hA : putAll _ 0 s _ = A
      clear hq
      refine stepG_on rfl ?_
      have e4 : s 4 = _ := hd 4 (by kernel_rfl)
      have hR' := hR (.bool true) _ (Gm.refl _ _ _) rfl
      clear hR hd
      refine opGives_value ?_ hR'
      subst hA
      simp only [dsOf, List.map_cons, List.map_nil, Option.getD_some, putAll, Act.put, List.setIfInBounds_toArray, List.set_cons_zero, List.set_cons_succ]
      go_simp
     ·intro s w_ hb hd hq R hR
      generalize hA : putAll _ 0 s _ = A
      clear hq
      refine stepG_on rfl ?_
      have e5 : s 5 = _ := hd 5 (by kernel_rfl)
      have hR' := hR (.bool true) _ (Gm.refl _ _ _) rfl
      clear hR hd
      refine opGives_value ?_ hR'
      subst hA
      simp only [dsOf, List.map_cons, List.map_nil, Option.getD_some, putAll, Act.put, List.setIfInBounds_toArray, List.set_cons_zero, List.set_cons_succ]
      go_simp
     ·intro s w_ hb hd hq R hR
      generalize hA : putAll _ 0 s _ = A
      have eg : s 6 = _ := hd 6 (by kernel_rfl)
      clear hq
      refine stepG_off ?_ (hR undef _ (Gm.refl _ _ _) rfl)
      clear hR hd
      subst hA
      simp only [dsOf, List.map_cons, List.map_nil, Option.getD_some, putAll, Act.put, List.setIfInBounds_toArray, List.set_cons_zero, List.set_cons_succ]
      simp [Region.wanted, yielded, eg]
     ·intro s w_ hb hd hq R hR
      generalize hA : putAll _ 0 s _ = A
      have eg : s 6 = _ := hd 6 (by kernel_rfl)
      clear hq
      refine stepG_off ?_ (hR undef _ (Gm.refl _ _ _) rfl)
      clear hR hd
      subst hA
      simp only [dsOf, List.map_cons, List.map_nil, Option.getD_some, putAll, Act.put, List.setIfInBounds_toArray, List.set_cons_zero, List.set_cons_succ]
      simp [Region.wanted, yielded, eg]
     ·intro s w_ hb hd hq R hR
      generalize hA : putAll _ 0 s _ = A
      have eg : s 6 = _ := hd 6 (by kernel_rfl)
      clear hq
      refine stepG_off ?_ (hR undef _ (Gm.refl _ _ _) rfl)
      clear hR hd
      subst hA
      simp only [dsOf, List.map_cons, List.map_nil, Option.getD_some, putAll, Act.put, List.setIfInBounds_toArray, List.set_cons_zero, List.set_cons_succ]
      simp [Region.wanted, yielded, eg]
     ·intro s w_ hb hd hq R hR
      generalize hA : putAll _ 0 s _ = A
      have eg : s 6 = _ := hd 6 (by kernel_rfl)
      clear hq
      refine stepG_off ?_ (hR undef _ (Gm.refl _ _ _) rfl)
      clear hR hd
      subst hA
      simp only [dsOf, List.map_cons, List.map_nil, Option.getD_some, putAll, Act.put, List.setIfInBounds_toArray, List.set_cons_zero, List.set_cons_succ]
      simp [Region.wanted, yielded, eg]
     ·intro s w_ hb hd hq R hR
      generalize hA : putAll _ 0 s _ = A
      have eg : s 6 = _ := hd 6 (by kernel_rfl)
      clear hq
      refine stepG_off ?_ (hR undef _ (Gm.refl _ _ _) rfl)
      clear hR hd
      subst hA
      simp only [dsOf, List.map_cons, List.map_nil, Option.getD_some, putAll, Act.put, List.setIfInBounds_toArray, List.set_cons_zero, List.set_cons_succ]
      simp [Region.wanted, yielded, eg]
     ·intro s w_ hb hd hq R hR
      generalize hA : putAll _ 0 s _ = A
      have eg : s 6 = _ := hd 6 (by kernel_rfl)
      clear hq
      refine stepG_off ?_ (hR undef _ (Gm.refl _ _ _) rfl)
      clear hR hd
      subst hA
      simp only [dsOf, List.map_cons, List.map_nil, Option.getD_some, putAll, Act.put, List.setIfInBounds_toArray, List.set_cons_zero, List.set_cons_succ]
      simp [Region.wanted, yielded, eg]
     ·intro s w_ hb hd hq R hR
      generalize hA : putAll _ 0 s _ = A
      have eg : s 6 = _ := hd 6 (by kernel_rfl)
      clear hq
      refine stepG_off ?_ (hR undef _ (Gm.refl _ _ _) rfl)
      clear hR hd
      subst hA
      simp only [dsOf, List.map_cons, List.map_nil, Option.getD_some, putAll, Act.put, List.setIfInBounds_toArray, List.set_cons_zero, List.set_cons_succ]
      simp [Region.wanted, yielded, eg]
     ·intro s w_ hb hd hq R hR
      generalize hA : putAll _ 0 s _ = A
      have eg : s 6 = _ := hd 6 (by kernel_rfl)
      clear hq
      refine stepG_off ?_ (hR undef _ (Gm.refl _ _ _) rfl)
      clear hR hd
      subst hA
      simp only [dsOf, List.map_cons, List.map_nil, Option.getD_some, putAll, Act.put, List.setIfInBounds_toArray, List.set_cons_zero, List.set_cons_succ]
      simp [Region.wanted, yielded, eg]
     ·intro s w_ hb hd hq R hR
      generalize hA : putAll _ 0 s _ = A
      have eg : s 6 = _ := hd 6 (by kernel_rfl)
      clear hq
      refine stepG_off ?_ (hR undef _ (Gm.refl _ _ _) rfl)
      clear hR hd
      subst hA
      simp only [dsOf, List.map_cons, List.map_nil, Option.getD_some, putAll, Act.put, List.setIfInBounds_toArray, List.set_cons_zero, List.set_cons_succ]
      simp [Region.wanted, yielded, eg]
     ·intro s w_ hb hd hq R hR
      generalize hA : putAll _ 0 s _ = A
      have eg : s 6 = _ := hd 6 (by kernel_rfl)
      clear hq
      refine stepG_off ?_ (hR undef _ (Gm.refl _ _ _) rfl)
      clear hR hd
      subst hA
      simp only [dsOf, List.map_cons, List.map_nil, Option.getD_some, putAll, Act.put, List.setIfInBounds_toArray, List.set_cons_zero, List.set_cons_succ]
      simp [Region.wanted, yielded, eg]
     ·intro s w_ hb hd hq R hR
      generalize hA : putAll _ 0 s _ = A
      clear hq
      refine stepG_on rfl ?_
      have e6 : s 6 = _ := hd 6 (by kernel_rfl)
      have e16 : s 16 = _ := hd 16 (by kernel_rfl)
      have hR' := hR (.bool true) _ (Gm.refl _ _ _) rfl
      clear hR hd
      refine opGives_value ?_ hR'
      subst hA
      simp only [dsOf, List.map_cons, List.map_nil, Option.getD_some, putAll, Act.put, List.setIfInBounds_toArray, List.set_cons_zero, List.set_cons_succ]
      go_simp
    case rest =>
     intro s9 w9 hb hv
     have e17_ : s9 17 = _ := hv 17 (by decide)
     simp only [dsOf, List.map_cons, List.map_nil, Option.getD_some, putAll, Act.put, List.setIfInBounds_toArray, List.set_cons_zero, List.set_cons_succ]
     rw [e17_]
     clear hv e17_
     have HGn := Aside0.mk (grown_trans HGr.out hb.1)
     have HMn := Aside0.mk (hb.2 HMr.out)
     clear hb
     go_wp2
     go_roundw
     case rel => exact ⟨vq + 1, by go_num, by omega, HGn, HMn⟩
     case measure => simp [intOf]; omega
   | false =>
    rw [hbt', if_neg (by decide)] at hbit
    have HBI := Aside0.mk hbit
    have hpb := HPB.out vq hbt'
    rw [hpk] at hpb
    have HEB := Aside0.mk (HEBa.out vq (by omega) hbt')
    obtain ⟨Y, hY⟩ : ∃ Y, Y = byV n xs p q vq := ⟨_, rfl⟩
    rw [← hY] at hpb HEB
    have HXY : Aside0 ((Y != X) = true) := ⟨by rw [bne, ← hpb]; rfl⟩
    clear hbt' hbit hpk hpb hY
    go_wp2
    refine wp_region_gg (Gm b (MapI n (leastV n xs) b)) (fun w => ⟨grown_drew w _, fun h => h.below (Below.refl _ _).drew⟩) (fun _ _ _ => Gm.trans) (fun i => match i with | 0 => fun v _ => v = .pointer (some ⟨w.heap.size, 0, none⟩) | 1 => fun v _ => v = .int .i64 (a : Int) | 2 => fun v _ => v = .int .i64 (vq : Int) | 3 => fun v _ => v = .int .i64 ((a : Int) / 2 ^ vq) | 4 => fun v _ => v = .int .i64 0 | 5 => fun v _ => v = .bool false | 6 => fun v _ => v = .bool false | 7 => fun v _ => v = .agg #[.int .i64 (n : Int), .slice A1 xs.length d1] | 8 => fun v _ => v = .agg #[.int .i64 (a : Int), .int .i64 (p : Int)] | 9 => fun v _ => v = .int .i64 (vq : Int) | 10 => fun v _ => v = .map (some b) | 11 => fun v _ => v = .int .i64 Y | 12 => fun v _ => v = .agg #[.int .i64 (n : Int), .slice A1 xs.length d1] | 13 => fun v _ => v = .agg #[.int .i64 (a : Int), .int .i64 (p : Int)] | 14 => fun v _ => v = .map (some b) | 15 => fun v _ => v = .int .i64 X | 16 => fun v _ => v = .bool true | 17 => fun v _ => v = .bool true | _ => fun _ _ => True)
     [0, 1, 0, 7, 15, 31, 63, 127, 127, 127, 127, 2047, 127, 127, 127, 32767, 65535, 131071] hmx (by kernel_rfl) ?st ?steps ?rest
    case st =>
     intro i v w1_ w2_ hb
     match i with
     | 0 | 1 | 2 | 3 | 4 | 5 | 6 | 7 | 8 | 9 | 10 | 11 | 12 | 13 | 14 | 15 | 16 | 17 => exact id
     | n + 18 => exact id
    case steps =>
     refine ⟨?_, ?_, ?_, ?_, ?_, ?_, ?_, ?_, ?_, ?_, ?_, ?_, ?_, ?_, ?_, ?_, ?_, ?_, trivial⟩
     ·intro s w_ hb hd hq R hR
      generalize hA : putAll _ 0 s _ = A
      clear hq
      refine stepG_on rfl ?_
      have hR' := hR (.pointer (some ⟨w.heap.size, 0, none⟩)) _ (Gm.refl _ _ _) rfl
      clear hR hd
      refine opGives_value ?_ hR'
      subst hA
      simp only [dsOf, List.map_cons, List.map_nil, Option.getD_some, putAll, Act.put, List.setIfInBounds_toArray, List.set_cons_zero, List.set_cons_succ]
      go_simp
     ·intro s w_ hb hd hq R hR
      generalize hA : putAll _ 0 s _ = A
      clear hq
      refine stepG_on rfl ?_
      have e0 : s 0 = _ := hd 0 (by kernel_rfl)
      have s0 := grown_cell hb.1 s0 hbs.1
      have hR' := hR (.int .i64 (a : Int)) _ (Gm.refl _ _ _) rfl
      clear hR hd
      refine opGives_value ?_ hR'
      subst hA
      simp only [dsOf, List.map_cons, List.map_nil, Option.getD_some, putAll, Act.put, List.setIfInBounds_toArray, List.set_cons_zero, List.set_cons_succ]
      go_simp
     ·intro s w_ hb hd hq R hR
      generalize hA : putAll _ 0 s _ = A
      clear hq
      refine stepG_on rfl ?_
      have hR' := hR (.int .i64 (vq : Int)) _ (Gm.refl _ _ _) rfl
      clear hR hd
      refine opGives_value ?_ hR'
      subst hA
      simp only [dsOf, List.map_cons, List.map_nil, Option.getD_some, putAll, Act.put, List.setIfInBounds_toArray, List.set_cons_zero, List.set_cons_succ]
      go_simp
     ·intro s w_ hb hd hq R hR
      generalize hA : putAll _ 0 s _ = A
      clear hq
      refine stepG_on rfl ?_
      have e1 : s 1 = _ := hd 1 (by kernel_rfl)
      have e2 : s 2 = _ := hd 2 (by kernel_rfl)
      have hR' := hR (.int .i64 ((a : Int) / 2 ^ vq)) _ (Gm.refl _ _ _) rfl
      clear hR hd
      refine opGives_value ?_ hR'
      subst hA
      simp only [dsOf, List.map_cons, List.map_nil, Option.getD_some, putAll, Act.put, List.setIfInBounds_toArray, List.set_cons_zero, List.set_cons_succ]
      go_simp
     ·intro s w_ hb hd hq R hR
      generalize hA : putAll _ 0 s _ = A
      clear hq
      refine stepG_on rfl ?_
      have e3 : s 3 = _ := hd 3 (by kernel_rfl)
      have hbit := HBI.out
      have hR' := hR (.int .i64 0) _ (Gm.refl _ _ _) rfl
      clear hR hd
      refine opGives_value ?_ hR'
      subst hA
      simp only [dsOf, List.map_cons, List.map_nil, Option.getD_some, putAll, Act.put, List.setIfInBounds_toArray, List.set_cons_zero, List.set_cons_succ]
      go_simp
     ·intro s w_ hb hd hq R hR
      generalize hA : putAll _ 0 s _ = A
      clear hq
      refine stepG_on rfl ?_
      have e4 : s 4 = _ := hd 4 (by kernel_rfl)
      have hR' := hR (.bool false) _ (Gm.refl _ _ _) rfl
      clear hR hd
      refine opGives_value ?_ hR'
      subst hA
      simp only [dsOf, List.map_cons, List.map_nil, Option.getD_some, putAll, Act.put, List.setIfInBounds_toArray, List.set_cons_zero, List.set_cons_succ]
      go_simp
     ·intro s w_ hb hd hq R hR
      generalize hA : putAll _ 0 s _ = A
      clear hq
      refine stepG_on rfl ?_
      have e5 : s 5 = _ := hd 5 (by kernel_rfl)
      have hR' := hR (.bool false) _ (Gm.refl _ _ _) rfl
      clear hR hd
      refine opGives_value ?_ hR'
      subst hA
      simp only [dsOf, List.map_cons, List.map_nil, Option.getD_some, putAll, Act.put, List.setIfInBounds_toArray, List.set_cons_zero, List.set_cons_succ]
      go_simp
     ·intro s w_ hb hd hq R hR
      generalize hA : putAll _ 0 s _ = A
      have eg : s 6 = _ := hd 6 (by kernel_rfl)
      clear hq
      refine stepG_on ?_ ?_
      ·clear hR hd
       subst hA
       simp only [dsOf, List.map_cons, List.map_nil, Option.getD_some, putAll, Act.put, List.setIfInBounds_toArray, List.set_cons_zero, List.set_cons_succ]
       simp [Region.wanted, yielded, eg]
      clear eg
      have k0 := grown_cell hb.1 k0 hbk.1
      have k1 := grown_cell hb.1 k1 hbk.1
      have hR' := hR (.agg #[.int .i64 (n : Int), .slice A1 xs.length d1]) _ (Gm.refl _ _ _) rfl
      clear hR hd
      refine opGives_value ?_ hR'
      subst hA
      simp only [dsOf, List.map_cons, List.map_nil, Option.getD_some, putAll, Act.put, List.setIfInBounds_toArray, List.set_cons_zero, List.set_cons_succ]
      go_simp
     ·intro s w_ hb hd hq R hR
      generalize hA : putAll _ 0 s _ = A
      have eg : s 6 = _ := hd 6 (by kernel_rfl)
      clear hq
      refine stepG_on ?_ ?_
      ·clear hR hd
       subst hA
       simp only [dsOf, List.map_cons, List.map_nil, Option.getD_some, putAll, Act.put, List.setIfInBounds_toArray, List.set_cons_zero, List.set_cons_succ]
       simp [Region.wanted, yielded, eg]
      clear eg
      have s0 := grown_cell hb.1 s0 hbs.1
      have s1 := grown_cell hb.1 s1 hbs.1
      have hR' := hR (.agg #[.int .i64 (a : Int), .int .i64 (p : Int)]) _ (Gm.refl _ _ _) rfl
      clear hR hd
      refine opGives_value ?_ hR'
      subst hA
      simp only [dsOf, List.map_cons, List.map_nil, Option.getD_some, putAll, Act.put, List.setIfInBounds_toArray, List.set_cons_zero, List.set_cons_succ]
      go_simp
     ·intro s w_ hb hd hq R hR
      generalize hA : putAll _ 0 s _ = A
      have eg : s 6 = _ := hd 6 (by kernel_rfl)
      clear hq
      refine stepG_on ?_ ?_
      ·clear hR hd
       subst hA
       simp only [dsOf, List.map_cons, List.map_nil, Option.getD_some, putAll, Act.put, List.setIfInBounds_toArray, List.set_cons_zero, List.set_cons_succ]
       simp [Region.wanted, yielded, eg]
      clear eg
      have hR' := hR (.int .i64 (vq : Int)) _ (Gm.refl _ _ _) rfl
      clear hR hd
      refine opGives_value ?_ hR'
      subst hA
      simp only [dsOf, List.map_cons, List.map_nil, Option.getD_some, putAll, Act.put, List.setIfInBounds_toArray, List.set_cons_zero, List.set_cons_succ]
      go_simp
     ·intro s w_ hb hd hq R hR
      generalize hA : putAll _ 0 s _ = A
      have eg : s 6 = _ := hd 6 (by kernel_rfl)
      clear hq
      refine stepG_on ?_ ?_
      ·clear hR hd
       subst hA
       simp only [dsOf, List.map_cons, List.map_nil, Option.getD_some, putAll, Act.put, List.setIfInBounds_toArray, List.set_cons_zero, List.set_cons_succ]
       simp [Region.wanted, yielded, eg]
      clear eg
      have cm := grown_cell hb.1 cm hbm.1
      have hR' := hR (.map (some b)) _ (Gm.refl _ _ _) rfl
      clear hR hd
      refine opGives_value ?_ hR'
      subst hA
      simp only [dsOf, List.map_cons, List.map_nil, Option.getD_some, putAll, Act.put, List.setIfInBounds_toArray, List.set_cons_zero, List.set_cons_succ]
      go_simp
     ·intro s w_ hb hd hq R hR
      generalize hA : putAll _ 0 s _ = A
      have eg : s 6 = _ := hd 6 (by kernel_rfl)
      clear hq
      refine stepG_on ?_ ?_
      ·clear hR hd
       subst hA
       simp only [dsOf, List.map_cons, List.map_nil, Option.getD_some, putAll, Act.put, List.setIfInBounds_toArray, List.set_cons_zero, List.set_cons_succ]
       simp [Region.wanted, yielded, eg]
      clear eg
      have e7 : s 7 = _ := hd 7 (by kernel_rfl)
      have e8 : s 8 = _ := hd 8 (by kernel_rfl)
      have e9 : s 9 = _ := hd 9 (by kernel_rfl)
      have e10 : s 10 = _ := hd 10 (by kernel_rfl)
      refine opGives_call (f := 201) (args := #[.agg #[.int .i64 (n : Int), .slice A1 xs.length d1], .agg #[.int .i64 (a : Int), .int .i64 (p : Int)], .int .i64 (vq : Int), .map (some b)]) ?_ ?_
      ·subst hA
       clear hR hd
       simp only [dsOf, List.map_cons, List.map_nil, Option.getD_some, putAll, Act.put, List.setIfInBounds_toArray, List.set_cons_zero, List.set_cons_succ]
       go_simp
      clear hA A hd
      refine (HEB.out w_ (HKr.out.go hb.1) (hb.2 HMr.out)).mono ?_
      rintro e w3_ ⟨rfl, hg, hT⟩
      exact ⟨_, rfl, hR _ _ ⟨hg, fun _ => hT⟩ rfl⟩
     ·intro s w_ hb hd hq R hR
      generalize hA : putAll _ 0 s _ = A
      have eg : s 6 = _ := hd 6 (by kernel_rfl)
      clear hq
      refine stepG_on ?_ ?_
      ·clear hR hd
       subst hA
       simp only [dsOf, List.map_cons, List.map_nil, Option.getD_some, putAll, Act.put, List.setIfInBounds_toArray, List.set_cons_zero, List.set_cons_succ]
       simp [Region.wanted, yielded, eg]
      clear eg
      have k0 := grown_cell hb.1 k0 hbk.1
      have k1 := grown_cell hb.1 k1 hbk.1
      have hR' := hR (.agg #[.int .i64 (n : Int), .slice A1 xs.length d1]) _ (Gm.refl _ _ _) rfl
      clear hR hd
      refine opGives_value ?_ hR'
      subst hA
      simp only [dsOf, List.map_cons, List.map_nil, Option.getD_some, putAll, Act.put, List.setIfInBounds_toArray, List.set_cons_zero, List.set_cons_succ]
      go_simp
     ·intro s w_ hb hd hq R hR
      generalize hA : putAll _ 0 s _ = A
      have eg : s 6 = _ := hd 6 (by kernel_rfl)
      clear hq
      refine stepG_on ?_ ?_
      ·clear hR hd
       subst hA
       simp only [dsOf, List.map_cons, List.map_nil, Option.getD_some, putAll, Act.put, List.setIfInBounds_toArray, List.set_cons_zero, List.set_cons_succ]
       simp [Region.wanted, yielded, eg]
      clear eg
      have s0 := grown_cell hb.1 s0 hbs.1
      have s1 := grown_cell hb.1 s1 hbs.1
      have hR' := hR (.agg #[.int .i64 (a : Int), .int .i64 (p : Int)]) _ (Gm.refl _ _ _) rfl
      clear hR hd
      refine opGives_value ?_ hR'
      subst hA
      simp only [dsOf, List.map_cons, List.map_nil, Option.getD_some, putAll, Act.put, List.setIfInBounds_toArray, List.set_cons_zero, List.set_cons_succ]
      go_simp
     ·intro s w_ hb hd hq R hR
      generalize hA : putAll _ 0 s _ = A
      have eg : s 6 = _ := hd 6 (by kernel_rfl)
      clear hq
      refine stepG_on ?_ ?_
      ·clear hR hd
       subst hA
       simp only [dsOf, List.map_cons, List.map_nil, Option.getD_some, putAll, Act.put, List.setIfInBounds_toArray, List.set_cons_zero, List.set_cons_succ]
       simp [Region.wanted, yielded, eg]
      clear eg
      have cm := grown_cell hb.1 cm hbm.1
      have hR' := hR (.map (some b)) _ (Gm.refl _ _ _) rfl
      clear hR hd
      refine opGives_value ?_ hR'
      subst hA
      simp only [dsOf, List.map_cons, List.map_nil, Option.getD_some, putAll, Act.put, List.setIfInBounds_toArray, List.set_cons_zero, List.set_cons_succ]
      go_simp
     ·intro s w_ hb hd hq R hR
      generalize hA : putAll _ 0 s _ = A
      have eg : s 6 = _ := hd 6 (by kernel_rfl)
      clear hq
      refine stepG_on ?_ ?_
      ·clear hR hd
       subst hA
       simp only [dsOf, List.map_cons, List.map_nil, Option.getD_some, putAll, Act.put, List.setIfInBounds_toArray, List.set_cons_zero, List.set_cons_succ]
       simp [Region.wanted, yielded, eg]
      clear eg
      have e12 : s 12 = _ := hd 12 (by kernel_rfl)
      have e13 : s 13 = _ := hd 13 (by kernel_rfl)
      have e14 : s 14 = _ := hd 14 (by kernel_rfl)
      refine opGives_call (f := 202) (args := #[.agg #[.int .i64 (n : Int), .slice A1 xs.length d1], .agg #[.int .i64 (a : Int), .int .i64 (p : Int)], .map (some b)]) ?_ ?_
      ·subst hA
       clear hR hd
       simp only [dsOf, List.map_cons, List.map_nil, Option.getD_some, putAll, Act.put, List.setIfInBounds_toArray, List.set_cons_zero, List.set_cons_succ]
       go_simp
      clear hA A hd
      refine (HEV.out w_ (HKr.out.go hb.1) (hb.2 HMr.out)).mono ?_
      rintro e w3_ ⟨rfl, hg, hT⟩
      exact ⟨_, rfl, hR _ _ ⟨hg, fun _ => hT⟩ rfl⟩
     ·intro s w_ hb hd hq R hR
      generalize hA : putAll _ 0 s _ = A
      have eg : s 6 = _ := hd 6 (by kernel_rfl)
      clear hq
      refine stepG_on ?_ ?_
      ·clear hR hd
       subst hA
       simp only [dsOf, List.map_cons, List.map_nil, Option.getD_some, putAll, Act.put, List.setIfInBounds_toArray, List.set_cons_zero, List.set_cons_succ]
       simp [Region.wanted, yielded, eg]
      clear eg
      have e11 : s 11 = _ := hd 11 (by kernel_rfl)
      have e15 : s 15 = _ := hd 15 (by kernel_rfl)
      have hxy := HXY.out
      have hR' := hR (.bool true) _ (Gm.refl _ _ _) rfl
      clear hR hd
      refine opGives_value ?_ hR'
      subst hA
      simp only [dsOf, List.map_cons, List.map_nil, Option.getD_some, putAll, Act.put, List.setIfInBounds_toArray, List.set_cons_zero, List.set_cons_succ]
      go_simp
     ·intro s w_ hb hd hq R hR
      generalize hA : putAll _ 0 s _ = A
      clear hq
      refine stepG_on rfl ?_
      have e6 : s 6 = _ := hd 6 (by kernel_rfl)
      have e16 : s 16 = _ := hd 16 (by kernel_rfl)
      have hR' := hR (.bool true) _ (Gm.refl _ _ _) rfl
      clear hR hd
      refine opGives_value ?_ hR'
      subst hA
      simp only [dsOf, List.map_cons, List.map_nil, Option.getD_some, putAll, Act.put, List.setIfInBounds_toArray, List.set_cons_zero, List.set_cons_succ]
      go_simp
    case rest =>
     intro s9 w9 hb hv
     have e17_ : s9 17 = _ := hv 17 (by decide)
     simp only [dsOf, List.map_cons, List.map_nil, Option.getD_some, putAll, Act.put, List.setIfInBounds_toArray, List.set_cons_zero, List.set_cons_succ]
     rw [e17_]
     clear hv e17_
     have HGn := Aside0.mk (grown_trans HGr.out hb.1)
     have HMn := Aside0.mk (hb.2 HMr.out)
     clear hb
     go_wp2
     go_roundw
     case rel => exact ⟨vq + 1, by go_num, by omega, HGn, HMn⟩
     case measure => simp [intOf]; omega
  ·obtain rfl : vq = v0 := by omega
   have hpb := HPB.out vq hbf2
   rw [HBQ3.out] at hpb
   rw [hbf2, if_neg (by decide)] at hbit
   have HBI := Aside0.mk hbit
   have HEB := Aside0.mk (HEBa.out vq hbq1 hbf2)
   obtain ⟨Y, hY⟩ : ∃ Y, Y = byV n xs p q vq := ⟨_, rfl⟩
   rw [← hY] at hpb HEB
   have HXY : Aside0 ((Y != X) = false) := ⟨by rw [bne, ← hpb]; rfl⟩
   clear hbit hpb hY hlt
   go_wp2
   refine wp_region_gg (Gm b (MapI n (leastV n xs) b)) (fun w => ⟨grown_drew w _, fun h => h.below (Below.refl _ _).drew⟩) (fun _ _ _ => Gm.trans) (fun i => match i with | 0 => fun v _ => v = .pointer (some ⟨w.heap.size, 0, none⟩) | 1 => fun v _ => v = .int .i64 (a : Int) | 2 => fun v _ => v = .int .i64 (vq : Int) | 3 => fun v _ => v = .int .i64 ((a : Int) / 2 ^ vq) | 4 => fun v _ => v = .int .i64 0 | 5 => fun v _ => v = .bool false | 6 => fun v _ => v = .bool false | 7 => fun v _ => v = .agg #[.int .i64 (n : Int), .slice A1 xs.length d1] | 8 => fun v _ => v = .agg #[.int .i64 (a : Int), .int .i64 (p : Int)] | 9 => fun v _ => v = .int .i64 (vq : Int) | 10 => fun v _ => v = .map (some b) | 11 => fun v _ => v = .int .i64 Y | 12 => fun v _ => v = .agg #[.int .i64 (n : Int), .slice A1 xs.length d1] | 13 => fun v _ => v = .agg #[.int .i64 (a : Int), .int .i64 (p : Int)] | 14 => fun v _ => v = .map (some b) | 15 => fun v _ => v = .int .i64 X | 16 => fun v _ => v = .bool false | 17 => fun v _ => v = .bool false | _ => fun _ _ => True)
    [0, 1, 0, 7, 15, 31, 63, 127, 127, 127, 127, 2047, 127, 127, 127, 32767, 65535, 131071] hmx (by kernel_rfl) ?st ?steps ?rest
   case st =>
    intro i v w1_ w2_ hb
    match i with
    | 0 | 1 | 2 | 3 | 4 | 5 | 6 | 7 | 8 | 9 | 10 | 11 | 12 | 13 | 14 | 15 | 16 | 17 => exact id
    | n + 18 => exact id
   case steps =>
    refine ⟨?_, ?_, ?_, ?_, ?_, ?_, ?_, ?_, ?_, ?_, ?_, ?_, ?_, ?_, ?_, ?_, ?_, ?_, trivial⟩
    ·intro s w_ hb hd hq R hR
     generalize hA : putAll _ 0 s _ = A
     clear hq
     refine stepG_on rfl ?_
     have hR' := hR (.pointer (some ⟨w.heap.size, 0, none⟩)) _ (Gm.refl _ _ _) rfl
     clear hR hd
     refine opGives_value ?_ hR'
     subst hA
     simp only [dsOf, List.map_cons, List.map_nil, Option.getD_some, putAll, Act.put, List.setIfInBounds_toArray, List.set_cons_zero, List.set_cons_succ]
     go_simp
    ·intro s w_ hb hd hq R hR
     generalize hA : putAll _ 0 s _ = A
     clear hq
     refine stepG_on rfl ?_
     have e0 : s 0 = _ := hd 0 (by kernel_rfl)
     have s0 := grown_cell hb.1 s0 hbs.1
     have hR' := hR (.int .i64 (a : Int)) _ (Gm.refl _ _ _) rfl
     clear hR hd
     refine opGives_value ?_ hR'
     subst hA
     simp only [dsOf, List.map_cons, List.map_nil, Option.getD_some, putAll, Act.put, List.setIfInBounds_toArray, List.set_cons_zero, List.set_cons_succ]
     go_simp
    ·intro s w_ hb hd hq R hR
     generalize hA : putAll _ 0 s _ = A
     clear hq
     refine stepG_on rfl ?_
     have hR' := hR (.int .i64 (vq : Int)) _ (Gm.refl _ _ _) rfl
     clear hR hd
     refine opGives_value ?_ hR'
     subst hA
     simp only [dsOf, List.map_cons, List.map_nil, Option.getD_some, putAll, Act.put, List.setIfInBounds_toArray, List.set_cons_zero, List.set_cons_succ]
     go_simp
    ·intro s w_ hb hd hq R hR
     generalize hA : putAll _ 0 s _ = A
     clear hq
     refine stepG_on rfl ?_
     have e1 : s 1 = _ := hd 1 (by kernel_rfl)
     have e2 : s 2 = _ := hd 2 (by kernel_rfl)
     have hR' := hR (.int .i64 ((a : Int) / 2 ^ vq)) _ (Gm.refl _ _ _) rfl
     clear hR hd
     refine opGives_value ?_ hR'
     subst hA
     simp only [dsOf, List.map_cons, List.map_nil, Option.getD_some, putAll, Act.put, List.setIfInBounds_toArray, List.set_cons_zero, List.set_cons_succ]
     go_simp
    ·intro s w_ hb hd hq R hR
     generalize hA : putAll _ 0 s _ = A
     clear hq
     refine stepG_on rfl ?_
     have e3 : s 3 = _ := hd 3 (by kernel_rfl)
     have hbit := HBI.out
     have hR' := hR (.int .i64 0) _ (Gm.refl _ _ _) rfl
     clear hR hd
     refine opGives_value ?_ hR'
     subst hA
     simp only [dsOf, List.map_cons, List.map_nil, Option.getD_some, putAll, Act.put, List.setIfInBounds_toArray, List.set_cons_zero, List.set_cons_succ]
     go_simp
    ·intro s w_ hb hd hq R hR
     generalize hA : putAll _ 0 s _ = A
     clear hq
     refine stepG_on rfl ?_
     have e4 : s 4 = _ := hd 4 (by kernel_rfl)
     have hR' := hR (.bool false) _ (Gm.refl _ _ _) rfl
     clear hR hd
     refine opGives_value ?_ hR'
     subst hA
     simp only [dsOf, List.map_cons, List.map_nil, Option.getD_some, putAll, Act.put, List.setIfInBounds_toArray, List.set_cons_zero, List.set_cons_succ]
     go_simp
    ·intro s w_ hb hd hq R hR
     generalize hA : putAll _ 0 s _ = A
     clear hq
     refine stepG_on rfl ?_
     have e5 : s 5 = _ := hd 5 (by kernel_rfl)
     have hR' := hR (.bool false) _ (Gm.refl _ _ _) rfl
     clear hR hd
     refine opGives_value ?_ hR'
     subst hA
     simp only [dsOf, List.map_cons, List.map_nil, Option.getD_some, putAll, Act.put, List.setIfInBounds_toArray, List.set_cons_zero, List.set_cons_succ]
     go_simp
    ·intro s w_ hb hd hq R hR
     generalize hA : putAll _ 0 s _ = A
     have eg : s 6 = _ := hd 6 (by kernel_rfl)
     clear hq
     refine stepG_on ?_ ?_
     ·clear hR hd
      subst hA
      simp only [dsOf, List.map_cons, List.map_nil, Option.getD_some, putAll, Act.put, List.setIfInBounds_toArray, List.set_cons_zero, List.set_cons_succ]
      simp [Region.wanted, yielded, eg]
     clear eg
     have k0 := grown_cell hb.1 k0 hbk.1
     have k1 := grown_cell hb.1 k1 hbk.1
     have hR' := hR (.agg #[.int .i64 (n : Int), .slice A1 xs.length d1]) _ (Gm.refl _ _ _) rfl
     clear hR hd
     refine opGives_value ?_ hR'
     subst hA
     simp only [dsOf, List.map_cons, List.map_nil, Option.getD_some, putAll, Act.put, List.setIfInBounds_toArray, List.set_cons_zero, List.set_cons_succ]
     go_simp
    ·intro s w_ hb hd hq R hR
     generalize hA : putAll _ 0 s _ = A
     have eg : s 6 = _ := hd 6 (by kernel_rfl)
     clear hq
     refine stepG_on ?_ ?_
     ·clear hR hd
      subst hA
      simp only [dsOf, List.map_cons, List.map_nil, Option.getD_some, putAll, Act.put, List.setIfInBounds_toArray, List.set_cons_zero, List.set_cons_succ]
      simp [Region.wanted, yielded, eg]
     clear eg
     have s0 := grown_cell hb.1 s0 hbs.1
     have s1 := grown_cell hb.1 s1 hbs.1
     have hR' := hR (.agg #[.int .i64 (a : Int), .int .i64 (p : Int)]) _ (Gm.refl _ _ _) rfl
     clear hR hd
     refine opGives_value ?_ hR'
     subst hA
     simp only [dsOf, List.map_cons, List.map_nil, Option.getD_some, putAll, Act.put, List.setIfInBounds_toArray, List.set_cons_zero, List.set_cons_succ]
     go_simp
    ·intro s w_ hb hd hq R hR
     generalize hA : putAll _ 0 s _ = A
     have eg : s 6 = _ := hd 6 (by kernel_rfl)
     clear hq
     refine stepG_on ?_ ?_
     ·clear hR hd
      subst hA
      simp only [dsOf, List.map_cons, List.map_nil, Option.getD_some, putAll, Act.put, List.setIfInBounds_toArray, List.set_cons_zero, List.set_cons_succ]
      simp [Region.wanted, yielded, eg]
     clear eg
     have hR' := hR (.int .i64 (vq : Int)) _ (Gm.refl _ _ _) rfl
     clear hR hd
     refine opGives_value ?_ hR'
     subst hA
     simp only [dsOf, List.map_cons, List.map_nil, Option.getD_some, putAll, Act.put, List.setIfInBounds_toArray, List.set_cons_zero, List.set_cons_succ]
     go_simp
    ·intro s w_ hb hd hq R hR
     generalize hA : putAll _ 0 s _ = A
     have eg : s 6 = _ := hd 6 (by kernel_rfl)
     clear hq
     refine stepG_on ?_ ?_
     ·clear hR hd
      subst hA
      simp only [dsOf, List.map_cons, List.map_nil, Option.getD_some, putAll, Act.put, List.setIfInBounds_toArray, List.set_cons_zero, List.set_cons_succ]
      simp [Region.wanted, yielded, eg]
     clear eg
     have cm := grown_cell hb.1 cm hbm.1
     have hR' := hR (.map (some b)) _ (Gm.refl _ _ _) rfl
     clear hR hd
     refine opGives_value ?_ hR'
     subst hA
     simp only [dsOf, List.map_cons, List.map_nil, Option.getD_some, putAll, Act.put, List.setIfInBounds_toArray, List.set_cons_zero, List.set_cons_succ]
     go_simp
    ·intro s w_ hb hd hq R hR
     generalize hA : putAll _ 0 s _ = A
     have eg : s 6 = _ := hd 6 (by kernel_rfl)
     clear hq
     refine stepG_on ?_ ?_
     ·clear hR hd
      subst hA
      simp only [dsOf, List.map_cons, List.map_nil, Option.getD_some, putAll, Act.put, List.setIfInBounds_toArray, List.set_cons_zero, List.set_cons_succ]
      simp [Region.wanted, yielded, eg]
     clear eg
     have e7 : s 7 = _ := hd 7 (by kernel_rfl)
     have e8 : s 8 = _ := hd 8 (by kernel_rfl)
     have e9 : s 9 = _ := hd 9 (by kernel_rfl)
     have e10 : s 10 = _ := hd 10 (by kernel_rfl)
     refine opGives_call (f := 201) (args := #[.agg #[.int .i64 (n : Int), .slice A1 xs.length d1], .agg #[.int .i64 (a : Int), .int .i64 (p : Int)], .int .i64 (vq : Int), .map (some b)]) ?_ ?_
     ·subst hA
      clear hR hd
      simp only [dsOf, List.map_cons, List.map_nil, Option.getD_some, putAll, Act.put, List.setIfInBounds_toArray, List.set_cons_zero, List.set_cons_succ]
      go_simp
     clear hA A hd
     refine (HEB.out w_ (HKr.out.go hb.1) (hb.2 HMr.out)).mono ?_
     rintro e w3_ ⟨rfl, hg, hT⟩
     exact ⟨_, rfl, hR _ _ ⟨hg, fun _ => hT⟩ rfl⟩
    ·intro s w_ hb hd hq R hR
     generalize hA : putAll _ 0 s _ = A
     have eg : s 6 = _ := hd 6 (by kernel_rfl)
     clear hq
     refine stepG_on ?_ ?_
     ·clear hR hd
      subst hA
      simp only [dsOf, List.map_cons, List.map_nil, Option.getD_some, putAll, Act.put, List.setIfInBounds_toArray, List.set_cons_zero, List.set_cons_succ]
      simp [Region.wanted, yielded, eg]
     clear eg
     have k0 := grown_cell hb.1 k0 hbk.1
     have k1 := grown_cell hb.1 k1 hbk.1
     have hR' := hR (.agg #[.int .i64 (n : Int), .slice A1 xs.length d1]) _ (Gm.refl _ _ _) rfl
     clear hR hd
     refine opGives_value ?_ hR'
     subst hA
     simp only [dsOf, List.map_cons, List.map_nil, Option.getD_some, putAll, Act.put, List.setIfInBounds_toArray, List.set_cons_zero, List.set_cons_succ]
     go_simp
    ·intro s w_ hb hd hq R hR
     generalize hA : putAll _ 0 s _ = A
     have eg : s 6 = _ := hd 6 (by kernel_rfl)
     clear hq
     refine stepG_on ?_ ?_
     ·clear hR hd
      subst hA
      simp only [dsOf, List.map_cons, List.map_nil, Option.getD_some, putAll, Act.put, List.setIfInBounds_toArray, List.set_cons_zero, List.set_cons_succ]
      simp [Region.wanted, yielded, eg]
     clear eg
     have s0 := grown_cell hb.1 s0 hbs.1
     have s1 := grown_cell hb.1 s1 hbs.1
     have hR' := hR (.agg #[.int .i64 (a : Int), .int .i64 (p : Int)]) _ (Gm.refl _ _ _) rfl
     clear hR hd
     refine opGives_value ?_ hR'
     subst hA
     simp only [dsOf, List.map_cons, List.map_nil, Option.getD_some, putAll, Act.put, List.setIfInBounds_toArray, List.set_cons_zero, List.set_cons_succ]
     go_simp
    ·intro s w_ hb hd hq R hR
     generalize hA : putAll _ 0 s _ = A
     have eg : s 6 = _ := hd 6 (by kernel_rfl)
     clear hq
     refine stepG_on ?_ ?_
     ·clear hR hd
      subst hA
      simp only [dsOf, List.map_cons, List.map_nil, Option.getD_some, putAll, Act.put, List.setIfInBounds_toArray, List.set_cons_zero, List.set_cons_succ]
      simp [Region.wanted, yielded, eg]
     clear eg
     have cm := grown_cell hb.1 cm hbm.1
     have hR' := hR (.map (some b)) _ (Gm.refl _ _ _) rfl
     clear hR hd
     refine opGives_value ?_ hR'
     subst hA
     simp only [dsOf, List.map_cons, List.map_nil, Option.getD_some, putAll, Act.put, List.setIfInBounds_toArray, List.set_cons_zero, List.set_cons_succ]
     go_simp
    ·intro s w_ hb hd hq R hR
     generalize hA : putAll _ 0 s _ = A
     have eg : s 6 = _ := hd 6 (by kernel_rfl)
     clear hq
     refine stepG_on ?_ ?_
     ·clear hR hd
      subst hA
      simp only [dsOf, List.map_cons, List.map_nil, Option.getD_some, putAll, Act.put, List.setIfInBounds_toArray, List.set_cons_zero, List.set_cons_succ]
      simp [Region.wanted, yielded, eg]
     clear eg
     have e12 : s 12 = _ := hd 12 (by kernel_rfl)
     have e13 : s 13 = _ := hd 13 (by kernel_rfl)
     have e14 : s 14 = _ := hd 14 (by kernel_rfl)
     refine opGives_call (f := 202) (args := #[.agg #[.int .i64 (n : Int), .slice A1 xs.length d1], .agg #[.int .i64 (a : Int), .int .i64 (p : Int)], .map (some b)]) ?_ ?_
     ·subst hA
      clear hR hd
      simp only [dsOf, List.map_cons, List.map_nil, Option.getD_some, putAll, Act.put, List.setIfInBounds_toArray, List.set_cons_zero, List.set_cons_succ]
      go_simp
     clear hA A hd
     refine (HEV.out w_ (HKr.out.go hb.1) (hb.2 HMr.out)).mono ?_
     rintro e w3_ ⟨rfl, hg, hT⟩
     exact ⟨_, rfl, hR _ _ ⟨hg, fun _ => hT⟩ rfl⟩
    ·intro s w_ hb hd hq R hR
     generalize hA : putAll _ 0 s _ = A
     have eg : s 6 = _ := hd 6 (by kernel_rfl)
     clear hq
     refine stepG_on ?_ ?_
     ·clear hR hd
      subst hA
      simp only [dsOf, List.map_cons, List.map_nil, Option.getD_some, putAll, Act.put, List.setIfInBounds_toArray, List.set_cons_zero, List.set_cons_succ]
      simp [Region.wanted, yielded, eg]
     clear eg
     have e11 : s 11 = _ := hd 11 (by kernel_rfl)
     have e15 : s 15 = _ := hd 15 (by kernel_rfl)
     have hxy := HXY.out
     have hR' := hR (.bool false) _ (Gm.refl _ _ _) rfl
     clear hR hd
     refine opGives_value ?_ hR'
     subst hA
     simp only [dsOf, List.map_cons, List.map_nil, Option.getD_some, putAll, Act.put, List.setIfInBounds_toArray, List.set_cons_zero, List.set_cons_succ]
     go_simp
    ·intro s w_ hb hd hq R hR
     generalize hA : putAll _ 0 s _ = A
     clear hq
     refine stepG_on rfl ?_
     have e6 : s 6 = _ := hd 6 (by kernel_rfl)
     have e16 : s 16 = _ := hd 16 (by kernel_rfl)
     have hR' := hR (.bool false) _ (Gm.refl _ _ _) rfl
     clear hR hd
     refine opGives_value ?_ hR'
     subst hA
     simp only [dsOf, List.map_cons, List.map_nil, Option.getD_some, putAll, Act.put, List.setIfInBounds_toArray, List.set_cons_zero, List.set_cons_succ]
     go_simp
   case rest =>
    intro s9 w9 hb hv
    have e17_ : s9 17 = _ := hv 17 (by decide)
    simp only [dsOf, List.map_cons, List.map_nil, Option.getD_some, putAll, Act.put, List.setIfInBounds_toArray, List.set_cons_zero, List.set_cons_succ]
    rw [e17_]
    clear hv e17_
    have HGn := Aside0.mk (grown_trans HGr.out hb.1)
    have HMn := Aside0.mk (hb.2 HMr.out)
    replace k0 := grown_cell hb.1 k0 hbk.1
    replace k1 := grown_cell hb.1 k1 hbk.1
    replace cm := grown_cell hb.1 cm hbm.1
    replace ct := grown_cell hb.1 ct hbt.1
    replace cg := grown_cell hb.1 cg hbg.1
    replace s0 := grown_cell hb.1 s0 hbs.1
    replace s1 := grown_cell hb.1 s1 hbs.1
    have HO4 := Aside0.mk (HO2.out.grown HGn.out (fun k hk e => by simp [Value.ownBlock] at hk; have := Option.some.inj e; omega))
    have HKK4 := Aside0.mk (HKK2.out.trans (K2.gb HGn.out))
    have HK4 := Aside0.mk (HK2.out.go (K2.gb HGn.out))
    clear hb
    have hP1 : (0 : Int) ≤ (x : Int) - 1 := by omega
    have hP2 : (x : Int) - 1 < ((N - 1 : Nat) : Int) := by omega
    have hP3 : ((x : Int) - 1).toNat = x - 1 := by omega
    go_wp2_with (first | ((with_reducible refine gate_store (t := 2) (p := 37) rfl ?_); refine store_own (w0 := w) (b := 0) rfl (p := 37) rfl rfl (x - 1) (vq : Int) HO4.out ?ha ?hb ?hc ?_; (case ha => omega); (case hb => rfl); (case hc => rfl); intro w5 ho5 hg5 hb5; have HO5 := Aside0.mk ho5; have HM5 := Aside0.mk (HMn.out.grown hg5 (fun e => hgb (Option.some.inj e).symm)); have HKK5 := Aside0.mk (HKK4.out.trans (K2.gg hg5)); have HK5 := Aside0.mk (HK4.out.go (K2.gg hg5)); replace k0 := grown_cell hg5 k0 hbk.2; replace k1 := grown_cell hg5 k1 hbk.2; replace cm := grown_cell hg5 cm hbm.2; replace ct := grown_cell hg5 ct hbt.2; replace cg := grown_cell hg5 cg hbg.2; replace s0 := grown_cell hg5 s0 hbs.2; replace s1 := grown_cell hg5 s1 hbs.2; clear ho5 hg5 hb5))
    have hsh' := pow_wrap' vq hsq
    have hV := pow_lt64 (v := vq) (by omega)
    have HOP := Aside0.mk (or_p p q vq)
    have HOQ := Aside0.mk (or_q p q vq)
    rw [← HHA.out] at HOP HOQ
    obtain ⟨V, hVV⟩ : ∃ V, V = 2 ^ vq := ⟨_, rfl⟩
    rw [← hVV] at hsh' hV HOP HOQ HEVN HODD
    have ho1 := or_i64 a V (lt_big hal) (lt_big hV)
    have ho2 := or_i64 p V (lt_big hpq.1) (lt_big hV)
    obtain ⟨a1, ha1⟩ : ∃ a1, a1 = a ||| V := ⟨_, rfl⟩
    obtain ⟨p1, hp1⟩ : ∃ p1, p1 = p ||| V := ⟨_, rfl⟩
    rw [← ha1] at ho1 HOP HOQ
    rw [← hp1] at ho2 HOP HODD
    have HSH := Aside0.mk hsh'
    have HO1 := Aside0.mk ho1
    have HO2' := Aside0.mk ho2
    have H2X : Aside0 (IntKind.i64.wrap (2 * (x : Int)) = ((2 * x : Nat) : Int)) := ⟨by rw [IntWalk.i64_in _ (by omega)]; omega⟩
    have H2Y : Aside0 (IntKind.i64.wrap (2 * (x : Int) + 1) = 2 * (x : Int) + 1) := ⟨IntWalk.i64_in _ (by omega)⟩
    have HC1 : Aside0 (2 ^ (i + 1) ≤ 2 * x ∧ 2 * x < 2 ^ (i + 2) ∧ 2 ^ (i + 1) ≤ 2 * x + 1 ∧ 2 * x + 1 < 2 ^ (i + 2)) := ⟨by have h1 := HX2.out; have h2 := HX3.out; rw [Nat.pow_succ 2 (i + 1)]; rw [Nat.pow_succ] at h2 ⊢; omega⟩
    clear hVV ha1 hp1 hsh' ho1 ho2
    have hent : Enters 200 := Enters.mk' Tryz.func200 rfl rfl
    unfold Enters at hent
    refine wp_region_tail 11 (fun i => match i with | 0 => fun v _ => v = .func (.func 200) #[] #[.pointer (some ⟨bk, 0, none⟩), .pointer (some ⟨bm, 0, none⟩), .pointer (some ⟨bt, 0, none⟩), .pointer (some ⟨bg, 0, none⟩)] | 1 => fun v _ => v = .int .i64 (x : Int) | 2 => fun v _ => v = .int .i64 ((2 * x : Nat) : Int) | 3 => fun v _ => v = .pointer (some ⟨w.heap.size, 0, none⟩) | 4 => fun v _ => v = .int .i64 (a : Int) | 5 => fun v _ => v = .int .i64 (vq : Int) | 6 => fun v _ => v = .int .i64 (V : Int) | 7 => fun v _ => v = .int .i64 (a1 : Int) | 8 => fun v _ => v = .pointer (some ⟨w.heap.size, 1, none⟩) | 9 => fun v _ => v = .int .i64 (p : Int) | 10 => fun v _ => v = .agg #[.int .i64 (a1 : Int), .int .i64 (p : Int)] | _ => fun _ _ => True)
     [0, 0, 2, 0, 8, 0, 32, 120, 0, 256, 1016, 2047] hmx (by kernel_rfl) ?st ?steps ?rest
    case st =>
     intro i v w1_ w2_ hb
     match i with
     | 0 | 1 | 2 | 3 | 4 | 5 | 6 | 7 | 8 | 9 | 10 => exact id
     | n + 11 => exact id
    case steps =>
     refine ⟨?_, ?_, ?_, ?_, ?_, ?_, ?_, ?_, ?_, ?_, ?_, trivial⟩
     ·intro s w_ hb hd R hR
      generalize hA : putAll _ 0 s _ = A
      have cg := pw_cell_below hb cg
      have hR' := hR (.func (.func 200) #[] #[.pointer (some ⟨bk, 0, none⟩), .pointer (some ⟨bm, 0, none⟩), .pointer (some ⟨bt, 0, none⟩), .pointer (some ⟨bg, 0, none⟩)]) _ (Below.refl _ _) rfl
      clear hR hd
      refine opGives_value ?_ hR'
      subst hA
      simp only [dsOf, List.take, List.map_cons, List.map_nil, Option.getD_some, putAll, Act.put, List.setIfInBounds_toArray, List.set_cons_zero, List.set_cons_succ]
      go_simp
     ·intro s w_ hb hd R hR
      generalize hA : putAll _ 0 s _ = A
      have hR' := hR (.int .i64 (x : Int)) _ (Below.refl _ _) rfl
      clear hR hd
      refine opGives_value ?_ hR'
      subst hA
      simp only [dsOf, List.take, List.map_cons, List.map_nil, Option.getD_some, putAll, Act.put, List.setIfInBounds_toArray, List.set_cons_zero, List.set_cons_succ]
      go_simp
     ·intro s w_ hb hd R hR
      generalize hA : putAll _ 0 s _ = A
      have e1 : s 1 = _ := hd 1 (by kernel_rfl)
      have h2x := H2X.out
      have hR' := hR (.int .i64 ((2 * x : Nat) : Int)) _ (Below.refl _ _) rfl
      clear hR hd
      refine opGives_value ?_ hR'
      subst hA
      simp only [dsOf, List.take, List.map_cons, List.map_nil, Option.getD_some, putAll, Act.put, List.setIfInBounds_toArray, List.set_cons_zero, List.set_cons_succ]
      go_simp
     ·intro s w_ hb hd R hR
      generalize hA : putAll _ 0 s _ = A
      have hR' := hR (.pointer (some ⟨w.heap.size, 0, none⟩)) _ (Below.refl _ _) rfl
      clear hR hd
      refine opGives_value ?_ hR'
      subst hA
      simp only [dsOf, List.take, List.map_cons, List.map_nil, Option.getD_some, putAll, Act.put, List.setIfInBounds_toArray, List.set_cons_zero, List.set_cons_succ]
      go_simp
     ·intro s w_ hb hd R hR
      generalize hA : putAll _ 0 s _ = A
      have e3 : s 3 = _ := hd 3 (by kernel_rfl)
      have s0 := pw_cell_below hb s0
      have hR' := hR (.int .i64 (a : Int)) _ (Below.refl _ _) rfl
      clear hR hd
      refine opGives_value ?_ hR'
      subst hA
      simp only [dsOf, List.take, List.map_cons, List.map_nil, Option.getD_some, putAll, Act.put, List.setIfInBounds_toArray, List.set_cons_zero, List.set_cons_succ]
      go_simp
     ·intro s w_ hb hd R hR
      generalize hA : putAll _ 0 s _ = A
      have hR' := hR (.int .i64 (vq : Int)) _ (Below.refl _ _) rfl
      clear hR hd
      refine opGives_value ?_ hR'
      subst hA
      simp only [dsOf, List.take, List.map_cons, List.map_nil, Option.getD_some, putAll, Act.put, List.setIfInBounds_toArray, List.set_cons_zero, List.set_cons_succ]
      go_simp
     ·intro s w_ hb hd R hR
      generalize hA : putAll _ 0 s _ = A
      have e5 : s 5 = _ := hd 5 (by kernel_rfl)
      have hsh := HSH.out
      have hR' := hR (.int .i64 (V : Int)) _ (Below.refl _ _) rfl
      clear hR hd
      refine opGives_value ?_ hR'
      subst hA
      simp only [dsOf, List.take, List.map_cons, List.map_nil, Option.getD_some, putAll, Act.put, List.setIfInBounds_toArray, List.set_cons_zero, List.set_cons_succ]
      go_simp
     ·intro s w_ hb hd R hR
      generalize hA : putAll _ 0 s _ = A
      have e4 : s 4 = _ := hd 4 (by kernel_rfl)
      have e6 : s 6 = _ := hd 6 (by kernel_rfl)
      have ho1 := HO1.out
      have hR' := hR (.int .i64 (a1 : Int)) _ (Below.refl _ _) rfl
      clear hR hd
      refine opGives_value ?_ hR'
      subst hA
      simp only [dsOf, List.take, List.map_cons, List.map_nil, Option.getD_some, putAll, Act.put, List.setIfInBounds_toArray, List.set_cons_zero, List.set_cons_succ]
      go_simp
     ·intro s w_ hb hd R hR
      generalize hA : putAll _ 0 s _ = A
      have hR' := hR (.pointer (some ⟨w.heap.size, 1, none⟩)) _ (Below.refl _ _) rfl
      clear hR hd
      refine opGives_value ?_ hR'
      subst hA
      simp only [dsOf, List.take, List.map_cons, List.map_nil, Option.getD_some, putAll, Act.put, List.setIfInBounds_toArray, List.set_cons_zero, List.set_cons_succ]
      go_simp
     ·intro s w_ hb hd R hR
      generalize hA : putAll _ 0 s _ = A
      have e8 : s 8 = _ := hd 8 (by kernel_rfl)
      have s1 := pw_cell_below hb s1
      have hR' := hR (.int .i64 (p : Int)) _ (Below.refl _ _) rfl
      clear hR hd
      refine opGives_value ?_ hR'
      subst hA
      simp only [dsOf, List.take, List.map_cons, List.map_nil, Option.getD_some, putAll, Act.put, List.setIfInBounds_toArray, List.set_cons_zero, List.set_cons_succ]
      go_simp
     ·intro s w_ hb hd R hR
      generalize hA : putAll _ 0 s _ = A
      have e7 : s 7 = _ := hd 7 (by kernel_rfl)
      have e9 : s 9 = _ := hd 9 (by kernel_rfl)
      have hR' := hR (.agg #[.int .i64 (a1 : Int), .int .i64 (p : Int)]) _ (Below.refl _ _) rfl
      clear hR hd
      refine opGives_value ?_ hR'
      subst hA
      simp only [dsOf, List.take, List.map_cons, List.map_nil, Option.getD_some, putAll, Act.put, List.setIfInBounds_toArray, List.set_cons_zero, List.set_cons_succ]
      go_simp
    case rest =>
     intro s6 w6 hb hv
     have e0_ : s6 0 = _ := hv 0 (by decide)
     have e2_ : s6 2 = _ := hv 2 (by decide)
     have e10_ : s6 10 = _ := hv 10 (by decide)
     clear hv
     simp only [dsOf, List.take, List.map_cons, List.map_nil, Option.getD_some, putAll, Act.put, List.setIfInBounds_toArray, List.set_cons_zero, List.set_cons_succ]
     replace HM5 := Aside0.mk (HM5.out.below hb)
     replace HO5 := Aside0.mk (HO5.out.below hb)
     replace HKK5 := Aside0.mk (HKK5.out.trans (K2.below hb))
     replace HK5 := Aside0.mk (HK5.out.go (K2.below hb))
     replace k0 := pw_cell_below hb k0
     replace k1 := pw_cell_below hb k1
     replace cm := pw_cell_below hb cm
     replace ct := pw_cell_below hb ct
     replace cg := pw_cell_below hb cg
     replace s0 := pw_cell_below hb s0
     replace s1 := pw_cell_below hb s1
     clear hb
     have h6 := HIH.out (2 * x) w6 _ HC1.out.1 HC1.out.2.1 HK5.out k0 k1 cm (by rw [← HN.out]; exact ct) cg HM5.out (by rw [← HN.out]; exact HO5.out)
     rw [HEVN.out.1, HEVN.out.2, HOQ.out] at h6
     refine .inl (opGives_call (f := 200) (args := #[.int .i64 ((2 * x : Nat) : Int), .agg #[.int .i64 (a1 : Int), .int .i64 (p : Int)], .pointer (some ⟨bk, 0, none⟩), .pointer (some ⟨bm, 0, none⟩), .pointer (some ⟨bt, 0, none⟩), .pointer (some ⟨bg, 0, none⟩)]) (by clear h6; go_simp) (h6.mono ?_))
     rintro e w7 ⟨rfl, hk7, hm7, L2, ho7, hl7⟩
     refine ⟨_, rfl, ?_⟩
     rw [← HN.out] at ho7 hl7
     have HM7 := Aside0.mk hm7
     have HO7 := Aside0.mk ho7
     have HL7 := Aside0.mk hl7
     have HKK7 := Aside0.mk (HKK5.out.trans hk7)
     have HK7 := Aside0.mk (HK5.out.go hk7)
     replace k0 := hk7.cell k0 hbk
     replace k1 := hk7.cell k1 hbk
     replace cm := hk7.cell cm hbm
     replace ct := hk7.cell ct hbt
     replace cg := hk7.cell cg hbg
     replace s0 := hk7.cell s0 hbs
     replace s1 := hk7.cell s1 hbs
     clear hm7 ho7 hl7 hk7 h6 e0_ e2_ e10_
     simp only [List.drop, Act.put, List.setIfInBounds_toArray, List.set_cons_zero, List.set_cons_succ]
     unfold tailList
     go_wp2
     refine wp_region_tail 15 (fun i => match i with | 0 => fun v _ => v = .func (.func 200) #[] #[.pointer (some ⟨bk, 0, none⟩), .pointer (some ⟨bm, 0, none⟩), .pointer (some ⟨bt, 0, none⟩), .pointer (some ⟨bg, 0, none⟩)] | 1 => fun v _ => v = .int .i64 (x : Int) | 2 => fun v _ => v = .int .i64 ((2 * x : Nat) : Int) | 3 => fun v _ => v = .int .i64 ((2 * x + 1 : Nat) : Int) | 4 => fun v _ => v = .pointer (some ⟨w.heap.size, 0, none⟩) | 5 => fun v _ => v = .int .i64 (a : Int) | 6 => fun v _ => v = .int .i64 (vq : Int) | 7 => fun v _ => v = .int .i64 (V : Int) | 8 => fun v _ => v = .int .i64 (a1 : Int) | 9 => fun v _ => v = .pointer (some ⟨w.heap.size, 1, none⟩) | 10 => fun v _ => v = .int .i64 (p : Int) | 11 => fun v _ => v = .int .i64 (vq : Int) | 12 => fun v _ => v = .int .i64 (V : Int) | 13 => fun v _ => v = .int .i64 (p1 : Int) | 14 => fun v _ => v = .agg #[.int .i64 (a1 : Int), .int .i64 (p1 : Int)] | _ => fun _ _ => True)
      [0, 0, 2, 6, 0, 16, 0, 64, 240, 0, 512, 0, 2048, 7680, 16368, 32767] hmx (by kernel_rfl) ?st ?steps ?rest
     case st =>
      intro i v w1_ w2_ hb
      match i with
      | 0 | 1 | 2 | 3 | 4 | 5 | 6 | 7 | 8 | 9 | 10 | 11 | 12 | 13 | 14 => exact id
      | n + 15 => exact id
     case steps =>
      refine ⟨?_, ?_, ?_, ?_, ?_, ?_, ?_, ?_, ?_, ?_, ?_, ?_, ?_, ?_, ?_, trivial⟩
      ·intro s w_ hb hd R hR
       generalize hA : putAll _ 0 s _ = A
       have cg := pw_cell_below hb cg
       have hR' := hR (.func (.func 200) #[] #[.pointer (some ⟨bk, 0, none⟩), .pointer (some ⟨bm, 0, none⟩), .pointer (some ⟨bt, 0, none⟩), .pointer (some ⟨bg, 0, none⟩)]) _ (Below.refl _ _) rfl
       clear hR hd
       refine opGives_value ?_ hR'
       subst hA
       simp only [dsOf, List.take, List.map_cons, List.map_nil, Option.getD_some, putAll, Act.put, List.setIfInBounds_toArray, List.set_cons_zero, List.set_cons_succ]
       go_simp
      ·intro s w_ hb hd R hR
       generalize hA : putAll _ 0 s _ = A
       have hR' := hR (.int .i64 (x : Int)) _ (Below.refl _ _) rfl
       clear hR hd
       refine opGives_value ?_ hR'
       subst hA
       simp only [dsOf, List.take, List.map_cons, List.map_nil, Option.getD_some, putAll, Act.put, List.setIfInBounds_toArray, List.set_cons_zero, List.set_cons_succ]
       go_simp
      ·intro s w_ hb hd R hR
       generalize hA : putAll _ 0 s _ = A
       have e1 : s 1 = _ := hd 1 (by kernel_rfl)
       have h2x := H2X.out
       have hR' := hR (.int .i64 ((2 * x : Nat) : Int)) _ (Below.refl _ _) rfl
       clear hR hd
       refine opGives_value ?_ hR'
       subst hA
       simp only [dsOf, List.take, List.map_cons, List.map_nil, Option.getD_some, putAll, Act.put, List.setIfInBounds_toArray, List.set_cons_zero, List.set_cons_succ]
       go_simp
      ·intro s w_ hb hd R hR
       generalize hA : putAll _ 0 s _ = A
       have e2 : s 2 = _ := hd 2 (by kernel_rfl)
       have h2y := H2Y.out
       have hR' := hR (.int .i64 ((2 * x + 1 : Nat) : Int)) _ (Below.refl _ _) rfl
       clear hR hd
       refine opGives_value ?_ hR'
       subst hA
       simp only [dsOf, List.take, List.map_cons, List.map_nil, Option.getD_some, putAll, Act.put, List.setIfInBounds_toArray, List.set_cons_zero, List.set_cons_succ]
       go_simp
      ·intro s w_ hb hd R hR
       generalize hA : putAll _ 0 s _ = A
       have hR' := hR (.pointer (some ⟨w.heap.size, 0, none⟩)) _ (Below.refl _ _) rfl
       clear hR hd
       refine opGives_value ?_ hR'
       subst hA
       simp only [dsOf, List.take, List.map_cons, List.map_nil, Option.getD_some, putAll, Act.put, List.setIfInBounds_toArray, List.set_cons_zero, List.set_cons_succ]
       go_simp
      ·intro s w_ hb hd R hR
       generalize hA : putAll _ 0 s _ = A
       have e4 : s 4 = _ := hd 4 (by kernel_rfl)
       have s0 := pw_cell_below hb s0
       have hR' := hR (.int .i64 (a : Int)) _ (Below.refl _ _) rfl
       clear hR hd
       refine opGives_value ?_ hR'
       subst hA
       simp only [dsOf, List.take, List.map_cons, List.map_nil, Option.getD_some, putAll, Act.put, List.setIfInBounds_toArray, List.set_cons_zero, List.set_cons_succ]
       go_simp
      ·intro s w_ hb hd R hR
       generalize hA : putAll _ 0 s _ = A
       have hR' := hR (.int .i64 (vq : Int)) _ (Below.refl _ _) rfl
       clear hR hd
       refine opGives_value ?_ hR'
       subst hA
       simp only [dsOf, List.take, List.map_cons, List.map_nil, Option.getD_some, putAll, Act.put, List.setIfInBounds_toArray, List.set_cons_zero, List.set_cons_succ]
       go_simp
      ·intro s w_ hb hd R hR
       generalize hA : putAll _ 0 s _ = A
       have e6 : s 6 = _ := hd 6 (by kernel_rfl)
       have hsh := HSH.out
       have hR' := hR (.int .i64 (V : Int)) _ (Below.refl _ _) rfl
       clear hR hd
       refine opGives_value ?_ hR'
       subst hA
       simp only [dsOf, List.take, List.map_cons, List.map_nil, Option.getD_some, putAll, Act.put, List.setIfInBounds_toArray, List.set_cons_zero, List.set_cons_succ]
       go_simp
      ·intro s w_ hb hd R hR
       generalize hA : putAll _ 0 s _ = A
       have e5 : s 5 = _ := hd 5 (by kernel_rfl)
       have e7 : s 7 = _ := hd 7 (by kernel_rfl)
       have ho1 := HO1.out
       have hR' := hR (.int .i64 (a1 : Int)) _ (Below.refl _ _) rfl
       clear hR hd
       refine opGives_value ?_ hR'
       subst hA
       simp only [dsOf, List.take, List.map_cons, List.map_nil, Option.getD_some, putAll, Act.put, List.setIfInBounds_toArray, List.set_cons_zero, List.set_cons_succ]
       go_simp
      ·intro s w_ hb hd R hR
       generalize hA : putAll _ 0 s _ = A
       have hR' := hR (.pointer (some ⟨w.heap.size, 1, none⟩)) _ (Below.refl _ _) rfl
       clear hR hd
       refine opGives_value ?_ hR'
       subst hA
       simp only [dsOf, List.take, List.map_cons, List.map_nil, Option.getD_some, putAll, Act.put, List.setIfInBounds_toArray, List.set_cons_zero, List.set_cons_succ]
       go_simp
      ·intro s w_ hb hd R hR
       generalize hA : putAll _ 0 s _ = A
       have e9 : s 9 = _ := hd 9 (by kernel_rfl)
       have s1 := pw_cell_below hb s1
       have hR' := hR (.int .i64 (p : Int)) _ (Below.refl _ _) rfl
       clear hR hd
       refine opGives_value ?_ hR'
       subst hA
       simp only [dsOf, List.take, List.map_cons, List.map_nil, Option.getD_some, putAll, Act.put, List.setIfInBounds_toArray, List.set_cons_zero, List.set_cons_succ]
       go_simp
      ·intro s w_ hb hd R hR
       generalize hA : putAll _ 0 s _ = A
       have hR' := hR (.int .i64 (vq : Int)) _ (Below.refl _ _) rfl
       clear hR hd
       refine opGives_value ?_ hR'
       subst hA
       simp only [dsOf, List.take, List.map_cons, List.map_nil, Option.getD_some, putAll, Act.put, List.setIfInBounds_toArray, List.set_cons_zero, List.set_cons_succ]
       go_simp
      ·intro s w_ hb hd R hR
       generalize hA : putAll _ 0 s _ = A
       have e11 : s 11 = _ := hd 11 (by kernel_rfl)
       have hsh := HSH.out
       have hR' := hR (.int .i64 (V : Int)) _ (Below.refl _ _) rfl
       clear hR hd
       refine opGives_value ?_ hR'
       subst hA
       simp only [dsOf, List.take, List.map_cons, List.map_nil, Option.getD_some, putAll, Act.put, List.setIfInBounds_toArray, List.set_cons_zero, List.set_cons_succ]
       go_simp
      ·intro s w_ hb hd R hR
       generalize hA : putAll _ 0 s _ = A
       have e10 : s 10 = _ := hd 10 (by kernel_rfl)
       have e12 : s 12 = _ := hd 12 (by kernel_rfl)
       have ho2 := HO2'.out
       have hR' := hR (.int .i64 (p1 : Int)) _ (Below.refl _ _) rfl
       clear hR hd
       refine opGives_value ?_ hR'
       subst hA
       simp only [dsOf, List.take, List.map_cons, List.map_nil, Option.getD_some, putAll, Act.put, List.setIfInBounds_toArray, List.set_cons_zero, List.set_cons_succ]
       go_simp
      ·intro s w_ hb hd R hR
       generalize hA : putAll _ 0 s _ = A
       have e8 : s 8 = _ := hd 8 (by kernel_rfl)
       have e13 : s 13 = _ := hd 13 (by kernel_rfl)
       have hR' := hR (.agg #[.int .i64 (a1 : Int), .int .i64 (p1 : Int)]) _ (Below.refl _ _) rfl
       clear hR hd
       refine opGives_value ?_ hR'
       subst hA
       simp only [dsOf, List.take, List.map_cons, List.map_nil, Option.getD_some, putAll, Act.put, List.setIfInBounds_toArray, List.set_cons_zero, List.set_cons_succ]
       go_simp
     case rest =>
      intro s8 w8 hb hv
      have e0_ : s8 0 = _ := hv 0 (by decide)
      have e3_ : s8 3 = _ := hv 3 (by decide)
      have e14_ : s8 14 = _ := hv 14 (by decide)
      clear hv
      simp only [dsOf, List.take, List.map_cons, List.map_nil, Option.getD_some, putAll, Act.put, List.setIfInBounds_toArray, List.set_cons_zero, List.set_cons_succ]
      replace HM7 := Aside0.mk (HM7.out.below hb)
      replace HO7 := Aside0.mk (HO7.out.below hb)
      replace HKK7 := Aside0.mk (HKK7.out.trans (K2.below hb))
      replace HK7 := Aside0.mk (HK7.out.go (K2.below hb))
      replace k0 := pw_cell_below hb k0
      replace k1 := pw_cell_below hb k1
      replace cm := pw_cell_below hb cm
      replace ct := pw_cell_below hb ct
      replace cg := pw_cell_below hb cg
      clear hb
      have h8 := HIH.out (2 * x + 1) w8 _ HC1.out.2.2.1 HC1.out.2.2.2 HK7.out k0 k1 cm (by rw [← HN.out]; exact ct) cg HM7.out (by rw [← HN.out]; exact HO7.out)
      rw [HODD.out.1, HODD.out.2, HOP.out] at h8
      refine .inl (opGives_call (f := 200) (args := #[.int .i64 ((2 * x + 1 : Nat) : Int), .agg #[.int .i64 (a1 : Int), .int .i64 (p1 : Int)], .pointer (some ⟨bk, 0, none⟩), .pointer (some ⟨bm, 0, none⟩), .pointer (some ⟨bt, 0, none⟩), .pointer (some ⟨bg, 0, none⟩)]) (by clear h8; go_simp) (h8.mono ?_))
      rintro e w9 ⟨rfl, hk9, hm9, L3, ho9, hl9⟩
      refine ⟨_, rfl, ?_⟩
      rw [← HN.out] at ho9 hl9
      have HM9 := Aside0.mk hm9
      have HO9 := Aside0.mk ho9
      have HL9 := Aside0.mk hl9
      have HKK9 := Aside0.mk (HKK7.out.trans hk9)
      clear hm9 ho9 hl9 hk9 h8 e0_ e3_ e14_
      simp only [List.drop, Act.put, List.setIfInBounds_toArray, List.set_cons_zero, List.set_cons_succ]
      unfold tailList
      go_wp2
      go_end0
      exact ⟨rfl, HKK9.out, HM9.out, L3, HO9.out, HJ.out _ L2 L3 rfl HL7.out HL9.out⟩
end Go.Proofs.YtkggchklmpmgpaaGreat.H
