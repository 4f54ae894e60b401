/- Complexes drawn: l01DrawOf, l01Small. Names of complexes: l01Set, l01Split, l01Names, l01Known, l01Named. Names of complexes: l01Named. Isomorphisms, one behind the other: walks through lists. Numbers of vertices. Orders: the plain words of them. Isomorphisms, one behind the other: what is used so far, and the walk's steps. slices.Equal; length. append(v, p) as one operation of a region of open order. Isomorphisms of the program: its own function. Rows of lists: what is said of them; append at them; a copy; the place of a number. -/
import Derived.Deep.DeepMust
import Derived.Deep.AppendLies
import Derived.Maps.AppendAt
import Derived.Test.YtomofijniefelaaGreatKFnFlows1
import Derived.Test.YtomofijniefelaaGreatKFnFlows2
import Derived.Test.YtomofijniefelaaGreatKFnFlows3
import Derived.Test.YtomofijniefelaaGreatKFnFlows4
import Derived.Test.YtomofijniefelaaGreatKFnFlows5
import Derived.Test.YtomofijniefelaaGreatKFnFlows6
import Derived.Test.YtomofijniefelaaGreatKFnFlows7
import Derived.Test.YtomofijniefelaaGreatKFnFlows8
import Derived.Test.YtomofijniefelaaGreatKFnFlows9
import Derived.Test.YtomofijniefelaaGreatKFnFlows10
import Derived.Test.YtomofijniefelaaGreatKFnFlows11
import Derived.Test.YtomofijniefelaaGreatKFnFlows12
import Derived.Test.YtomofijniefelaaGreatKFnFlows13
import Derived.Test.YtomofijniefelaaGreatKFnFlows14
import Derived.Test.YtomofijniefelaaGreatKFnFlows15
import Derived.Test.YtomofijniefelaaGreatKFnFlows16

namespace Go.Proofs.YtomofijniefelaaGreat.H
open Go.RowKit Go.Proofs.YtomofijniefelaaGreatW.PrintWords Go.Proofs.YtomofijniefelaaGreatW.PrintLast
set_option linter.unusedVariables false
set_option linter.unusedSimpArgs false
/-- faces within n vertices -/
def Gc (n : Nat) (xs : List Int) : Prop := 1 ≤ n ∧ n ≤ 6 ∧ (∀ x ∈ xs, 1 ≤ x ∧ x < ((2 ^ n : Nat) : Int)) ∧ xs.length ≤ 64
theorem pwn {n : Nat} (hn : n ≤ 6) : 1 ≤ 2 ^ n ∧ 2 ^ n ≤ 64 := by
 rcases (by omega : n = 0 ∨ n = 1 ∨ n = 2 ∨ n = 3 ∨ n = 4 ∨ n = 5 ∨ n = 6) with rfl | rfl | rfl | rfl | rfl | rfl | rfl <;> decide
theorem thL_in {p : Int → Bool} {k : Nat} {x : Int} (h : x ∈ thL p k) : 1 ≤ x ∧ x < (k : Int) := by
 unfold thL at h
 obtain ⟨f, hf, e⟩ := List.mem_filterMap.1 h
 have := List.mem_range.1 hf
 split at e
 ·next hc =>
  rw [Bool.and_eq_true, decide_eq_true_eq] at hc
  cases e
  omega
 ·cases e
theorem made_gc {n : Nat} (h1 : 1 ≤ n) (hn : n ≤ 6) (p : Int → Bool) : Gc n (thL p (2 ^ n)) :=
 ⟨h1, hn, fun x hx => thL_in hx, Nat.le_trans (thL_len _ _) (pwn hn).2⟩
abbrev C0 : Obj := .cells #[.int .i64 0, .slice none 0 0] 26
/-- what is known while a complex is drawn: the source, the result's block, and the sets -/
def Dst (bs : Nat) (w W : World) (s : Value) (ss : List Int) : Prop := Dw bs w W ∧ W.heap[w.heap.size]? = some C0 ∧ OwnI (w.heap.size + 1) W s ss
theorem Dst.go {bs : Nat} {w W W' : World} {s : Value} {ss : List Int} (h : Dst bs w W s ss) (hbs : bs < w.heap.size) (hd : Dw bs W W') : Dst bs w W' s ss :=
 ⟨h.1.trans hd, by rw [hd.1.block _ (blk_lt h.2.1) (fun e => by have := Option.some.inj e; omega)]; exact h.2.1, h.2.2.grown hd.1 (fun k hk e => by have := h.2.2.base k hk; have := Option.some.inj e; omega)⟩
theorem Dst.below {bs : Nat} {w W W' : World} {s : Value} {ss : List Int} (h : Dst bs w W s ss) (hbs : bs < w.heap.size) (hb : Below W.heap.size W W') : Dst bs w W' s ss := h.go hbs (Dw.of_below h.1.2 hb)
theorem Dw.top {bs B : Nat} {w W W' : World} (h : Dw bs w W) (hb : Below B W W') (hB : w.heap.size ≤ B) (hbs : bs < B) : Dw bs w W' :=
 ⟨⟨hb.os.trans h.1.os, hb.tape.trans h.1.tape, hb.output.trans h.1.output, Nat.le_trans h.1.size hb.size, fun k hk hn => (hb.block k (by omega)).trans (h.1.block k hk hn)⟩, h.2.up hb hbs⟩
theorem Dst.app {bs : Nat} {w W W' : World} {s s' : Value} {ss ss' : List Int} (h : Dst bs w W s ss) (hbs : bs < w.heap.size) (ho : OwnI (w.heap.size + 1) W' s' ss') (hb : Below (w.heap.size + 1) W W') : Dst bs w W' s' ss' :=
 ⟨⟨⟨hb.os.trans h.1.1.os, hb.tape.trans h.1.1.tape, hb.output.trans h.1.1.output, Nat.le_trans h.1.1.size hb.size, fun k hk hn => (hb.block k (by omega)).trans (h.1.1.block k hk hn)⟩, h.1.2.up hb (by omega)⟩, by rw [hb.block _ (by omega)]; exact h.2.1, ho⟩
theorem and_dec (f : Nat) (hf : 1 ≤ f) : f &&& (f - 1) < f := Nat.lt_of_le_of_lt Nat.and_le_right (by omega)
set_option maxRecDepth 100000 in
set_option maxHeartbeats 4000000 in
theorem drawOf (bs n : Nat) (hn1 : 1 ≤ n) (hn : n ≤ 6) (w : World) (hs : Src bs w) :
  Calls Tryz.prog 205 #[.pointer (some ⟨bs, 0, none⟩), .int .i64 n] w fun e w' => ∃ u xs, e = .returned (.agg #[.int .i64 n, u]) ∧ OwnI w.heap.size w' u xs ∧ Gc n xs ∧ Dw bs w w' := by
 have hbs := hs.lt
 have HBS := Aside0.mk hbs
 obtain ⟨wa, hwa⟩ : ∃ wa, wa = (w.alloc C0).alloc (.cells #[] 2) := ⟨_, rfl⟩
 have hBa : Below w.heap.size w wa := by rw [hwa]; exact ((Below.refl _ w).alloc (Nat.le_refl _) _).alloc (by simp) _
 have hsa : wa.heap.size = w.heap.size + 1 + 1 := by rw [hwa]; simp
 have hda : Dst bs w wa (.slice (some ⟨w.heap.size + 1, 0, none⟩) 0 0) [] := by
  refine ⟨Dw.of_below hs hBa, by rw [hwa]; exact blk_alloc (blk_new w _) _, ?_⟩
  have h1 := (OwnI.empty (b := w.heap.size + 1) (w.alloc C0) (by simp))
  rw [World.size_alloc, ← hwa] at h1
  exact h1
 obtain ⟨wb, hwb⟩ : ∃ wb, wb = wa.alloc (.cells #[.int .i64 2, .int .i64 3, .int .i64 3, .int .i64 4] 2) := ⟨_, rfl⟩
 have hBb : Below wa.heap.size wa wb := by rw [hwb]; exact Below.alloc (Below.refl _ _) (Nat.le_refl _) _
 have hdb := hda.below hbs hBb
 have hlb : RdK bs wb (.slice (some ⟨wa.heap.size, 0, none⟩) 4 4) [2, 3, 3, 4] := by
  rw [hwb]; exact (lit_own wa wa.heap.size [2, 3, 3, 4] (Nat.le_refl _) (by decide)).rdk (by omega)
 rw [hsa] at hlb
 have HDB := Aside0.mk hdb
 have HLB := Aside0.mk hlb
 have hNN := pwn hn
 obtain ⟨N, hN⟩ : ∃ N : Nat, N = 2 ^ n := ⟨_, rfl⟩
 have HALL : Aside0 (∀ W : World, Calls Tryz.prog 268 #[.int .i64 n] W fun e w' => e = .returned (.int .i64 ((N : Int) - 1)) ∧ Below W.heap.size W w') := ⟨fun W => by rw [hN]; exact specAll n hn W⟩
 rw [← hN] at hNN
 have HN := Aside0.mk hN
 clear hda hBa hBb hdb hlb hs hN
 subst hwa
 go_enter Tryz.func205, Tryz.ntmps205
 go_wp2_with (first | (go_at_call 255; rw [← hwb]; clear hwb; refine (pick bs _ [2, 3, 3, 4] _ HDB.out.1.2 HLB.out (by decide) (by decide)).mono ?_; rintro e w2 ⟨sz, rfl, hm, hd⟩; have HD2 := Aside0.mk (HDB.out.go HBS.out hd); have hsz : 2 ≤ sz ∧ sz ≤ 4 := (by simp at hm; omega); clear hm hd) | (go_at_call 255; go_must (obtain ⟨w3, hw3⟩ : ∃ w3, w3 = w2.alloc (.cells #[.int .i64 3, .int .i64 7, .int .i64 12] 2) := ⟨_, rfl⟩; rw [← hw3]; have hb3 : Below w2.heap.size w2 w3 := (by rw [hw3]; exact Below.alloc (Below.refl _ _) (Nat.le_refl _) _); have hl3 : RdK bs w3 (.slice (some ⟨w2.heap.size, 0, none⟩) 3 3) [3, 7, 12] := (by rw [hw3]; exact (lit_own w2 w2.heap.size [3, 7, 12] (Nat.le_refl _) (by decide)).rdk (Nat.lt_of_lt_of_le HBS.out HD2.out.1.size)); have HD3 := Aside0.mk (HD2.out.below HBS.out hb3); clear hw3; refine (pick bs _ [3, 7, 12] w3 HD3.out.1.2 hl3 (by decide) (by decide)).mono ?_; rintro e w4 ⟨mx, rfl, hm, hd⟩; have HD4 := Aside0.mk (HD3.out.go HBS.out hd); have hmx : 3 ≤ mx ∧ mx ≤ 12 := (by simp at hm; omega); clear hm hd hb3 hl3)) | (go_at_call 146; go_must (refine (next bs mx w4 (by omega) HD4.out.1.2).mono ?_; rintro e w5 ⟨k0, rfl, -, hr, hd⟩; have hr := hr (by omega); have HD5 := Aside0.mk (HD4.out.go HBS.out hd); clear hd)))
 go_loopw [5, 7] (fun s5 s7 wr => ∃ (k : Nat) (ss : List Int), s7 = .int .i64 k ∧ Aside0 (ss.length + k ≤ 12) ∧ Aside0 (∀ s ∈ ss, ∃ z : Nat, s = z ∧ z < 64) ∧ Aside0 (Dst bs w wr s5 ss)) (fun _ s7 _ => (intOf s7).toNat)
 case atStart => exact ⟨k0.toNat, [], by rw [show ((k0.toNat : Nat) : Int) = k0 by omega], ⟨by simp; omega⟩, ⟨fun s h => by cases h⟩, HD5⟩
 case round =>
  obtain ⟨k, ss, rfl, HL, HSS, HDr⟩ := hrel
  obtain ⟨A5, c5, rfl, -⟩ := id HDr.out.2.2.read
  by_cases hk : 0 < k
  ·have hk12 : k ≤ 12 := by have := HL.out; omega
   have hkI : (0 : Int) < (k : Int) := by omega
   have HKK := Aside0.mk hk
   go_wp2_with (first | (go_at_call 268; refine (HALL.out _).mono ?_; rintro e w6 ⟨rfl, hb⟩; have HD6 := Aside0.mk (HDr.out.below HBS.out hb); clear hb) | (go_at_call 146; go_must (refine (next bs ((N : Int) - 1) w6 (by omega) HD6.out.1.2).mono ?_; rintro e w7 ⟨f0, rfl, h0, hr, hd⟩; have hf0 : 0 ≤ f0 ∧ f0 ≤ 62 := (by rcases (by omega : (N : Int) - 1 < 1 ∨ 1 ≤ (N : Int) - 1) with h | h; (have := h0 h; omega); (have := hr h; omega)); have HD7 := Aside0.mk (HD6.out.go HBS.out hd); clear hd h0 hr)))
   go_loopw [8] (fun s8 wx => ∃ f : Nat, s8 = .int .i64 f ∧ f < 64 ∧ Aside0 (Dst bs w wx (.slice A5 ss.length c5) ss)) (fun s8 _ => (intOf s8).toNat)
   case atStart => exact ⟨(f0 + 1).toNat, by congr 1; omega, by omega, HD7⟩
   case round =>
    obtain ⟨f, rfl, hf, HDx⟩ := hrel
    have hof := ones_le f hf
    by_cases hgt : sz < ((ones f : Nat) : Int)
    ·have hf1 : 1 ≤ f := by
      rcases Nat.eq_zero_or_pos f with h | h
      ·subst h; have : ones 0 = 0 := by decide
       rw [this] at hgt; omega
      ·exact h
     have hdec := and_dec f hf1
     have hand := and_i64 f (f - 1) (by omega) (by omega)
     have hfs : IntKind.i64.wrap ((f : Int) - 1) = ((f - 1 : Nat) : Int) := by rw [IntWalk.i64_in _ (by omega)]; omega
     have hfs2 : ((f : Int) - 1) = ((f - 1 : Nat) : Int) := by omega
     have HON := Aside0.mk (fun W => specOnes f hf W)
     obtain ⟨o, ho⟩ : ∃ o, o = ones f := ⟨_, rfl⟩
     rw [← ho] at hgt HON hof
     clear ho
     go_wp2_with (first | (go_at_call 213; refine (HON.out _).mono ?_; rintro e w8 ⟨rfl, hb⟩; have HD8 := Aside0.mk (HDx.out.below HBS.out hb); clear hb))
     go_roundw
     case rel => exact ⟨f &&& (f - 1), by first | rfl | (congr 1; omega), by omega, HD8⟩
     case measure => simp [intOf]; omega
    ·have HON := Aside0.mk (fun W => specOnes f hf W)
     obtain ⟨o, ho⟩ : ∃ o, o = ones f := ⟨_, rfl⟩
     rw [← ho] at hgt HON hof
     have HL12 : Aside0 (ss.length ≤ 12) := ⟨by have := HL.out; omega⟩
     clear ho
     go_wp2_with (first | (go_at_call 213; refine (HON.out _).mono ?_; rintro e w8 ⟨rfl, hb⟩; have HD8 := Aside0.mk (HDx.out.below HBS.out hb); clear hb) | (at_builtin; refine app_own (w0 := w8) (w.heap.size + 1) rfl (.tmp 35) (.tmp 37) rfl _ ss (f : Int) rfl rfl HD8.out.2.2 (Below.refl _ _) (by have := blk_lt HD8.out.2.1; omega) (by have := HL12.out; omega) ?_; intro v1 w9 ho hb hg hat; have HD9 := Aside0.mk (HD8.out.app HBS.out ho hb); clear ho hb hg hat))
     go_roundw
     case rel => have hk9 := HKK.out; exact ⟨k - 1, ss ++ [(f : Int)], by go_num, ⟨by rw [List.length_append, List.length_singleton]; have := HL.out; have := HKK.out; omega⟩, ⟨fun s hs => by
      rcases List.mem_append.1 hs with h | h
      ·exact HSS.out s h
      ·rw [List.mem_singleton] at h; exact ⟨f, h, hf⟩⟩, HD9⟩
     case measure => have := HKK.out; simp [intOf]; omega
  ·have hkI : ¬ (0 : Int) < (k : Int) := by omega
   go_wp2_with (first | (go_at_call 127; go_must (refine (specMade n hn _ ss wr HDr.out.2.2.read HSS.out).mono ?_; rintro e w6 ⟨u, rfl, ho, hb⟩; have hd6 := HDr.out.below HBS.out hb; have HD6 := Aside0.mk hd6; have HO6 := Aside0.mk ho; have hz6 := HDr.out.1.size; have hl6 := blk_lt HDr.out.2.1; obtain ⟨A6, c6, rfl, -⟩ := id ho.read; have c00 : w6.cell? ⟨w.heap.size, 0, none⟩ = some (.int .i64 0) := blk_cell hd6.2.1 0; have c01 : w6.cell? ⟨w.heap.size, 1, none⟩ = some (.slice none 0 0) := blk_cell hd6.2.1 1; have f00 : w6.frozen? ⟨w.heap.size, 0, none⟩ = false := blk_frozen hd6.2.1 0; have f01 : w6.frozen? ⟨w.heap.size, 1, none⟩ = false := blk_frozen hd6.2.1 1; clear ho hb hd6)))
   refine bodyPost_ret (results_cell_row rfl _ _ w.heap.size 26 #[.int .i64 n, .slice A6 (thL (madeAt ss) (2 ^ n)).length c6] (0, 0) _ rfl (by refine blk_put (cs := #[.int .i64 n, .slice none 0 0]) ?_ 1 _ rfl; refine blk_put (cs := #[.int .i64 0, .slice none 0 0]) ?_ 0 _ rfl; exact HD6.out.2.1) Tryz.underlying26 rfl (by kernel_rfl)) rfl ?_
   have hbb : Below w.heap.size w6 ((w6.setCell ⟨w.heap.size, 0, none⟩ (Value.int IntKind.i64 n)).setCell ⟨w.heap.size, 1, none⟩ (Value.slice A6 (thL (madeAt ss) (2 ^ n)).length c6)) := ((Below.refl _ _).setCell (by simp) _).setCell (by simp) _
   refine ⟨_, thL (madeAt ss) (2 ^ n), rfl, ?_, made_gc hn1 hn (madeAt ss), HD6.out.1.top hbb (Nat.le_refl _) HBS.out⟩
   have ho := HO6.out
   have hbse := ho.base
   have ho := ho.lower (b' := w.heap.size) (by omega)
   exact (ho.grown (set_grown' _ w.heap.size _ _) (fun j hj e => by have := hbse _ hj; cases e; omega)).grown (set_grown' _ w.heap.size _ _) (fun j hj e => by have := hbse _ hj; cases e; omega)
set_option maxRecDepth 100000 in
set_option maxHeartbeats 2000000 in
theorem small (bs : Nat) (w : World) (hs : Src bs w) :
  Calls Tryz.prog 145 #[.pointer (some ⟨bs, 0, none⟩)] w fun e w' => ∃ (n : Nat) (u : Value) (xs : List Int), e = .returned (.agg #[.int .i64 n, u]) ∧ OwnI w.heap.size w' u xs ∧ Gc n xs ∧ Dw bs w w' := by
 have HBS := Aside0.mk hs.lt
 obtain ⟨w1, hw1⟩ : ∃ w1, w1 = w.alloc C0 := ⟨_, rfl⟩
 have hb1 : Below w.heap.size w w1 := by rw [hw1]; exact Below.alloc (Below.refl _ _) (Nat.le_refl _) _
 have HZ : Aside0 (w1.heap.size = w.heap.size + 1) := ⟨by rw [hw1]; simp⟩
 have HK : Aside0 (w1.heap[w.heap.size]? = some C0) := ⟨by rw [hw1]; exact blk_new w _⟩
 have HD := Aside0.mk (Dw.of_below hs hb1)
 clear hs hb1
 go_enter Tryz.func145, Tryz.ntmps145
 go_wp2_with (first | (go_at_call 146; rw [← hw1]; clear hw1; refine (next bs 4 w1 (by decide) HD.out.2).mono ?_; rintro e w2 ⟨r, rfl, -, hr, hd⟩; have hr := hr (by decide); obtain ⟨k, rfl⟩ : ∃ k : Nat, r = k := ⟨r.toNat, by omega⟩; have hkw : IntKind.i64.wrap (1 + (k : Int)) = ((k + 1 : Nat) : Int) := (by rw [IntWalk.i64_in _ (by omega)]; omega); have hkw2 : 1 + (k : Int) = ((k + 1 : Nat) : Int) := (by omega); have HD2 := Aside0.mk hd; clear hd) | (go_at_call 205; go_must (refine (drawOf bs (k + 1) (by omega) (by omega) w2 HD2.out.2).mono ?_; rintro e w6 ⟨u, xs, rfl, ho, hg, hd⟩; have HD6 := Aside0.mk (HD2.out.trans hd); have HO6 := Aside0.mk ho; have HG6 := Aside0.mk hg; have hz2 := HD2.out.size; have hk6 : w6.heap[w.heap.size]? = some C0 := (by rw [(HD2.out.trans hd).1.block w.heap.size (blk_lt HK.out) (fun e => by have := Option.some.inj e; have := HBS.out; omega)]; exact HK.out); have HK6 := Aside0.mk hk6; obtain ⟨A6, c6, rfl, -⟩ := id ho.read; have c00 : w6.cell? ⟨w.heap.size, 0, none⟩ = some (.int .i64 0) := blk_cell hk6 0; have c01 : w6.cell? ⟨w.heap.size, 1, none⟩ = some (.slice none 0 0) := blk_cell hk6 1; have f00 : w6.frozen? ⟨w.heap.size, 0, none⟩ = false := blk_frozen hk6 0; have f01 : w6.frozen? ⟨w.heap.size, 1, none⟩ = false := blk_frozen hk6 1; clear ho hd hg hk6)))
 refine bodyPost_ret (results_cell_row rfl _ _ w.heap.size 26 #[.int .i64 ((k + 1 : Nat) : Int), .slice A6 xs.length c6] (0, 0) _ rfl (by refine blk_put (cs := #[.int .i64 ((k + 1 : Nat) : Int), .slice none 0 0]) ?_ 1 _ rfl; refine blk_put (cs := #[.int .i64 0, .slice none 0 0]) ?_ 0 _ rfl; exact HK6.out) Tryz.underlying26 rfl (by kernel_rfl)) rfl ?_
 have hbb : Below w.heap.size w6 ((w6.setCell ⟨w.heap.size, 0, none⟩ (Value.int IntKind.i64 ((k + 1 : Nat) : Int))).setCell ⟨w.heap.size, 1, none⟩ (Value.slice A6 xs.length c6)) := ((Below.refl _ _).setCell (by simp) _).setCell (by simp) _
 have hz := HZ.out
 refine ⟨k + 1, _, xs, rfl, ?_, HG6.out, (HD.out.trans HD6.out).top hbb (Nat.le_refl _) HBS.out⟩
 have ho := HO6.out
 have hbse := ho.base
 have ho := ho.lower (b' := w.heap.size) (by omega)
 exact (ho.grown (set_grown' _ w.heap.size _ _) (fun j hj e => by have := hbse _ hj; cases e; omega)).grown (set_grown' _ w.heap.size _ _) (fun j hj e => by have := hbse _ hj; cases e; omega)
set_option maxRecDepth 100000 in
set_option maxHeartbeats 2000000 in
theorem setOfText (s : ByteArray) (hs : s.size ≤ 1000) (n : Nat) (hn1 : 1 ≤ n) (hn : n ≤ 6) (w : World) :
  Calls Tryz.prog 280 #[.string s, .int .i64 n] w fun e w' => ∃ (z : Nat) (u : Value), e = .returned (.tuple #[.int .i64 z, u]) ∧ z < 64 ∧ Below w.heap.size w w' := by
 go_enter Tryz.func280, Tryz.ntmps280
 go_wp2
 go_loopw [6, 7, 8] (fun s6 s7 s8 wr => ∃ (o i : Nat) (b : Int), s6 = .int .i64 o ∧ o < 64 ∧ s7 = .int .i64 b ∧ -1 ≤ b ∧ b ≤ 5 ∧ s8 = .int .i64 i ∧ i ≤ s.size ∧ Aside0 (Below w.heap.size w wr)) (fun _ _ s8 _ => s.size - (intOf s8).toNat)
 case atStart => exact ⟨0, 0, -1, rfl, by decide, rfl, by decide, by decide, rfl, Nat.zero_le _, ⟨Below.refl _ _⟩⟩
 case round =>
  obtain ⟨o, i, b, rfl, ho, rfl, hb1, hb2, rfl, hi, HBr⟩ := hrel
  by_cases hlt : i < s.size
  ·have hltI : (i : Int) < (s.size : Int) := by omega
   obtain ⟨y, hyy, hy256⟩ : ∃ y : Nat, (s[i]'hlt).toNat = y ∧ y < 256 := ⟨_, rfl, UInt8.toNat_lt (s[i]'hlt)⟩
   have HYY := Aside0.mk hyy
   clear hyy
   obtain ⟨x, hby, hx1, hx2⟩ : ∃ x : Int, (y : Int) = x + 48 ∧ -48 ≤ x ∧ x ≤ 300 := ⟨(y : Int) - 48, by omega, by omega, by omega⟩
   have HBY : Aside0 ((((s[i]'hlt).toNat : Nat) : Int) = x + 48) := ⟨by rw [HYY.out]; exact hby⟩
   clear hby hy256 HYY
   obtain ⟨q, hq⟩ : ∃ q, q = (decide (b + 1 ≤ x) && decide (x ≤ (n : Int) - 1)) := ⟨_, rfl⟩
   cases q with
   | true =>
    have hqq : b + 1 ≤ x ∧ x ≤ (n : Int) - 1 := by
     have := hq.symm
     rw [Bool.and_eq_true, decide_eq_true_eq, decide_eq_true_eq] at this
     exact this
    obtain ⟨v, rfl⟩ : ∃ v : Nat, x = v := ⟨x.toNat, by omega⟩
    have HQ := Aside0.mk hq
    have hv5 : v ≤ 5 := by omega
    have hvu : IntKind.u64.wrap (v : Int) = (v : Int) := wrapUn (by omega)
    have hmin : min v 64 = v := by omega
    have HF := Aside0.mk hqq
    clear hqq hq hx1 hx2
    have hsh := pow_wrap v (by omega)
    have hpp := pow_bd v hv5
    obtain ⟨P, hP⟩ : ∃ P, P = 2 ^ v := ⟨_, rfl⟩
    rw [← hP] at hsh hpp
    clear hP
    have hor := or_i64 o P (by omega) (by omega)
    have HO := Aside0.mk (Nat.or_lt_two_pow (n := 6) ho (show P < 64 by omega))
    have hby := HBY.out
    go_wp2_with (first | (go_at_call 148; refine (specIn _ _ _ _).mono ?_; rintro e w2 ⟨rfl, hb⟩; rw [← HQ.out]; have HB2 := Aside0.mk (HBr.out.trans (hb.mono HBr.out.size)); clear hb))
    go_roundw
    case rel => exact ⟨o ||| P, i + 1, v, by first | rfl | (congr 1), HO.out, rfl, by omega, by omega, by go_num, by omega, HB2⟩
    case measure => simp [intOf]; omega
   | false =>
    have HQ := Aside0.mk hq
    clear hq
    have hby := HBY.out
    go_wp2_with (first | (go_at_call 148; refine (specIn _ _ _ _).mono ?_; rintro e w2 ⟨rfl, hb⟩; rw [← HQ.out]; have HB2 := Aside0.mk (HBr.out.trans (hb.mono HBr.out.size)); clear hb))
    go_ret2
    exact ⟨0, _, rfl, by decide, HB2.out⟩
  ·have hltI : ¬ (i : Int) < (s.size : Int) := by omega
   go_wp2
   go_ret2
   exact ⟨o, ⟨_, rfl⟩, ho, HBr.out⟩
/-! rows of texts -/
theorem infoT : (Tryz.prog.info? 9).map (fun i => (i.zero, i.size, i.bytes)) = some (some (.string { data := #[] }), 1, 16) := by kernel_rfl
def OwnT (b : Nat) (w : World) (v : Value) (n : Nat) : Prop := ∃ ss : List ByteArray, ss.length = n ∧ w.ownsRow b 9 1 v n (ss.map Value.string) ∧ ∀ s ∈ ss, s.size ≤ 1000
theorem OwnT.empty {b : Nat} (w : World) (hb : b ≤ w.heap.size) : OwnT b (w.alloc (.cells #[] 9)) (.slice (some ⟨w.heap.size, 0, none⟩) 0 0) 0 :=
 ⟨[], rfl, ⟨rfl, .inr ⟨w.heap.size, 0, #[], rfl, hb, heap_alloc_new w _, Nat.le_refl _, by decide, rfl, rfl⟩⟩, fun s h => by cases h⟩
theorem OwnT.form {b : Nat} {w : World} {v : Value} {n : Nat} (h : OwnT b w v n) : ∃ A c, v = .slice A n c ∧ ∀ i, i < n → ∃ (ad : Addr) (s : ByteArray), A = some ad ∧ (b ≤ ad.block ∧ ad.block < w.heap.size) ∧ w.cell? (ad.add i) = some (.string s) ∧ s.size ≤ 1000 := by
 obtain ⟨ss, h1, h2, h3⟩ := h
 rcases h2.2 with ⟨rfl, h0⟩ | ⟨g, cap, cur, rfl, -⟩
 ·subst h0; exact ⟨none, 0, rfl, fun i hi => by omega⟩
 ·refine ⟨_, _, rfl, fun i hi => ?_⟩
  have hi' : i < ss.length := by omega
  refine ⟨_, ss[i], rfl, ⟨own_base h2 g rfl, own_lt h2 g rfl⟩, ?_, h3 _ (List.getElem_mem hi')⟩
  exact World.ownsRow.cells h2 (g := g) rfl i _ (by rw [List.getElem?_map, List.getElem?_eq_getElem hi']; rfl)
section
variable {P : Program} {ops : Array Oper} {rest : List Oper} {o : Oper} {a : Act} {Q : Exit → Act → World → Prop}
theorem app_text {w0 W : World} (base : Nat) (hgd : o.guard = none) (s x : Operand) (ho : o.op = .call { callee := .builtin .append, args := #[s, x], argTypes := #[213, 213] })
  (v : Value) (n : Nat) (p : ByteArray) (hp : p.size ≤ 1000) (hs : a.eval s = v) (hx : a.eval x = .slice (some ⟨W.heap.size, 0, none⟩) 1 1)
  (HO : OwnT base W v n) (HB : Below base w0 W) (hbase : base ≤ W.heap.size) (hl : n < 1000000)
  (h : ∀ v1 w1, OwnT base w1 v1 (n + 1) → Below base w0 w1 → wpList Tryz.prog ops Q rest (a.put o.dst v1) w1) :
  wpList Tryz.prog ops Q (o :: rest) a (W.alloc (.cells #[.string p] 9)) := by
 obtain ⟨ss, h1, h2, h3⟩ := HO
 refine print_append_cells base hgd s x 213 9 (.string { data := #[] }) 1 16 ho Tryz.underlying213 infoT rfl (by decide) (by decide) v n (ss.map Value.string) [.string p] hs hx rfl (fun u hu => ?_) h2 HB hbase (by omega) ?_
 ·rw [List.mem_singleton] at hu; subst hu; rfl
 ·intro v1 w1 k1 k2 k3 k4
  refine h v1 w1 ⟨ss ++ [p], by simp [h1], ?_, fun s hs => ?_⟩ k2
  ·rw [List.map_append]; exact k1
  ·rcases List.mem_append.1 hs with hs | hs
   ·exact h3 s hs
   ·rw [List.mem_singleton] at hs; subst hs; exact hp
end
set_option maxRecDepth 100000 in
set_option maxHeartbeats 2000000 in
theorem split (s : ByteArray) (hs : s.size ≤ 1000) (c : Int) (w : World) :
  Calls Tryz.prog 279 #[.string s, .int .u8 c] w fun e w' => ∃ u, e = .returned u ∧ (∃ n, OwnT w.heap.size w' u n ∧ n ≤ 1001) ∧ Below w.heap.size w w' := by
 obtain ⟨w1, hw1⟩ : ∃ w1, w1 = w.alloc (.cells #[] 9) := ⟨_, rfl⟩
 have HB1 : Aside0 (Below w.heap.size w w1) := ⟨by rw [hw1]; exact Below.alloc (Below.refl _ _) (Nat.le_refl _) _⟩
 have HO1 : Aside0 (OwnT w.heap.size w1 (.slice (some ⟨w.heap.size, 0, none⟩) 0 0) 0) := ⟨by rw [hw1]; exact OwnT.empty w (Nat.le_refl _)⟩
 go_enter Tryz.func279, Tryz.ntmps279
 go_wp2
 rw [← hw1]
 clear hw1
 go_loopw [5, 6, 7] (fun s5 s6 s7 wr => ∃ (k a i : Nat), s6 = .int .i64 a ∧ s7 = .int .i64 i ∧ k ≤ i ∧ a ≤ i ∧ i ≤ s.size ∧ Aside0 (OwnT w.heap.size wr s5 k) ∧ Aside0 (Below w.heap.size w wr)) (fun _ _ s7 _ => s.size - (intOf s7).toNat)
 case atStart => exact ⟨0, 0, 0, rfl, rfl, Nat.le_refl _, Nat.le_refl _, Nat.zero_le _, HO1, HB1⟩
 case round =>
  obtain ⟨k, a, i, rfl, rfl, hk, ha, hi, HO, HBr⟩ := hrel
  obtain ⟨A5, c5, e5, -⟩ := HO.out.form
  subst e5
  by_cases hlt : i < s.size
  ·have hltI : (i : Int) < (s.size : Int) := by omega
   have haI : (a : Int) ≤ (i : Int) := by omega
   have hiI : (i : Int) ≤ (s.size : Int) := by omega
   obtain ⟨y, hyy⟩ : ∃ y : Nat, (s[i]'hlt).toNat = y := ⟨_, rfl⟩
   cases hq : ((y : Int) == c) with
   | true =>
    go_wp2_with (first | (at_builtin; refine app_text (w0 := wr) w.heap.size rfl (.tmp 20) (.tmp 25) rfl _ k _ ?hp rfl rfl HO.out (Below.refl _ _) HBr.out.size (by omega) ?_; (case hp => rw [ByteArray.size_extract]; omega); intro v1 w6 ho hb; have HO6 := Aside0.mk ho; have HB6 := Aside0.mk (HBr.out.trans hb); clear ho hb))
    go_roundw
    case rel => exact ⟨k + 1, i + 1, i + 1, by go_num, by go_num, by omega, by omega, by omega, HO6, HB6⟩
    case measure => simp [intOf]; omega
   | false =>
    go_wp2
    go_roundw
    case rel => exact ⟨k, a, i + 1, rfl, by go_num, by omega, by omega, by omega, HO, HBr⟩
    case measure => simp [intOf]; omega
  ·have hltI : ¬ (i : Int) < (s.size : Int) := by omega
   have haI : (a : Int) ≤ (s.size : Int) := by omega
   go_wp2_with (first | (at_builtin; refine app_text (w0 := wr) w.heap.size rfl (.tmp 29) (.tmp 33) rfl _ k _ ?hp rfl rfl HO.out (Below.refl _ _) HBr.out.size (by omega) ?_; (case hp => rw [ByteArray.size_extract]; omega); intro v1 w6 ho hb; have HO6 := Aside0.mk ho; have HB6 := Aside0.mk (HBr.out.trans hb); clear ho hb))
   go_ret
   exact ⟨_, rfl, ⟨k + 1, HO6.out, by omega⟩, HB6.out⟩
/-! the names -/
def namesL : List ByteArray := [{ data := #[112, 111, 105, 110, 116] }, { data := #[99, 105, 114, 99, 108, 101] }, { data := #[115, 113, 117, 97, 114, 101] }, { data := #[115, 112, 104, 101, 114, 101] }, { data := #[98, 97, 108, 108] }, { data := #[98, 105, 112, 121, 114, 97, 109, 105, 100] }, { data := #[111, 99, 116, 97, 104, 101, 100, 114, 111, 110] }, { data := #[109, 111, 101, 98, 105, 117, 115] }, { data := #[112, 114, 111, 106, 101, 99, 116, 105, 118, 101] }, { data := #[119, 101, 100, 103, 101] }, { data := #[116, 114, 101, 101] }]
def knownL : List ByteArray := [{ data := #[49, 58, 48] }, { data := #[51, 58, 48, 49, 44, 48, 50, 44, 49, 50] }, { data := #[52, 58, 48, 49, 44, 49, 50, 44, 50, 51, 44, 48, 51] }, { data := #[52, 58, 48, 49, 50, 44, 48, 49, 51, 44, 48, 50, 51, 44, 49, 50, 51] }, { data := #[52, 58, 48, 49, 50, 51] }, { data := #[53, 58, 48, 49, 51, 44, 48, 49, 52, 44, 48, 50, 51, 44, 48, 50, 52, 44, 49, 50, 51, 44, 49, 50, 52] }, { data := #[54, 58, 48, 50, 52, 44, 48, 50, 53, 44, 48, 51, 52, 44, 48, 51, 53, 44, 49, 50, 52, 44, 49, 50, 53, 44, 49, 51, 52, 44, 49, 51, 53] }, { data := #[53, 58, 48, 49, 50, 44, 49, 50, 51, 44, 50, 51, 52, 44, 48, 51, 52, 44, 48, 49, 52] }, { data := #[54, 58, 48, 49, 50, 44, 48, 50, 51, 44, 48, 51, 52, 44, 48, 52, 53, 44, 48, 49, 53, 44, 49, 50, 52, 44, 50, 51, 53, 44, 49, 51, 52, 44, 50, 52, 53, 44, 49, 51, 53] }, { data := #[53, 58, 48, 49, 44, 48, 50, 44, 49, 50, 44, 48, 51, 44, 48, 52, 44, 51, 52] }, { data := #[54, 58, 48, 49, 44, 49, 50, 44, 49, 51, 44, 51, 52, 44, 51, 53] }]
theorem known_ok : ∀ i, i < 11 → ∃ s d, knownL[i]? = some s ∧ 2 ≤ s.size ∧ s.size ≤ 1000 ∧ s[0]? = some d ∧ 49 ≤ d.toNat ∧ d.toNat ≤ 54 := by
 intro i hi
 rcases (by omega : i = 0 ∨ i = 1 ∨ i = 2 ∨ i = 3 ∨ i = 4 ∨ i = 5 ∨ i = 6 ∨ i = 7 ∨ i = 8 ∨ i = 9 ∨ i = 10) with rfl | rfl | rfl | rfl | rfl | rfl | rfl | rfl | rfl | rfl | rfl <;> exact ⟨_, _, rfl, by decide, by decide, rfl, by decide, by decide⟩
def RowT (w : World) (b : Nat) (ls : List ByteArray) : Prop := w.heap[b]? = some (.cells (ls.map Value.string).toArray 9)
theorem RowT.cell {w : World} {b : Nat} {ls : List ByteArray} (h : RowT w b ls) {i : Nat} {s : ByteArray} (hi : ls[i]? = some s) : w.cell? ⟨b, i, none⟩ = some (.string s) := by
 have h1 : ((ls.map Value.string).toArray)[i]? = some (.string s) := by simp [hi]
 exact (blk_cell h i).trans h1
set_option maxRecDepth 100000 in
theorem names (w : World) : Calls Tryz.prog 277 #[] w fun e w' => e = .returned (.slice (some ⟨w.heap.size, 0, none⟩) 11 11) ∧ RowT w' w.heap.size namesL ∧ Below w.heap.size w w' := by
 go_enter Tryz.func277, Tryz.ntmps277
 go_wp2
 go_ret
 exact ⟨rfl, heap_alloc_new w _, Below.alloc (Below.refl _ _) (Nat.le_refl _) _⟩
set_option maxRecDepth 100000 in
theorem known (w : World) : Calls Tryz.prog 278 #[] w fun e w' => e = .returned (.slice (some ⟨w.heap.size, 0, none⟩) 11 11) ∧ RowT w' w.heap.size knownL ∧ Below w.heap.size w w' := by
 go_enter Tryz.func278, Tryz.ntmps278
 go_wp2
 go_ret
 exact ⟨rfl, heap_alloc_new w _, Below.alloc (Below.refl _ _) (Nat.le_refl _) _⟩
set_option maxRecDepth 100000 in
set_option maxHeartbeats 4000000 in
theorem named (j : Nat) (s : ByteArray) (hj : namesL[j]? = some s) (w : World) :
  Calls Tryz.prog 147 #[.string s] w fun e w' => ∃ u v, e = .returned (.tuple #[u, v]) ∧ (∃ (n : Nat) (z : Value) (xs : List Int), u = .agg #[.int .i64 n, z] ∧ OwnI w.heap.size w' z xs ∧ Gc n xs) ∧ Below w.heap.size w w' := by
 have hj11 : j < 11 := (List.getElem?_eq_some_iff.1 hj).1
 obtain ⟨w1, hw1⟩ : ∃ w1, w1 = w.alloc C0 := ⟨_, rfl⟩
 have hb1 : Below w.heap.size w w1 := by rw [hw1]; exact Below.alloc (Below.refl _ _) (Nat.le_refl _) _
 have hz1 : w1.heap.size = w.heap.size + 1 := by rw [hw1]; simp
 have hk1 : w1.heap[w.heap.size]? = some C0 := by rw [hw1]; exact blk_new w _
 have HB1 := Aside0.mk hb1
 have HK1 := Aside0.mk hk1
 have HZ1 := Aside0.mk hz1
 have HJ := Aside0.mk hj
 clear hb1 hz1 hk1 hj
 go_enter Tryz.func147, Tryz.ntmps147
 go_wp2_with (first | (go_at_call 277; rw [← hw1]; clear hw1; refine (names w1).mono ?_; rintro e w2 ⟨rfl, hr, hb⟩; have HR2 := Aside0.mk hr; have HB2 := Aside0.mk hb; clear hr hb) | (go_at_call 278; refine (known w2).mono ?_; rintro e w3 ⟨rfl, hr, hb⟩; have HR3 := Aside0.mk hr; have HRN : Aside0 (RowT w3 w1.heap.size namesL) := ⟨by have h0 := HR2.out; unfold RowT at h0 ⊢; rw [hb.block _ (blk_lt h0)]; exact h0⟩; have HB3 := Aside0.mk (HB2.out.trans (hb.mono HB2.out.size)); clear hr hb))
 go_loopw [6] (fun s6 wr => ∃ i : Nat, s6 = .int .i64 i ∧ i ≤ j ∧ wr = w3) (fun s6 _ => j - (intOf s6).toNat)
 case atStart => exact ⟨0, rfl, Nat.zero_le _, rfl⟩
 case round =>
  obtain ⟨i, rfl, hi, rfl⟩ := hrel
  obtain ⟨w30, hw30⟩ : ∃ w30, w30 = wr := ⟨_, rfl⟩
  subst hw30
  have hi11 : i < 11 := by omega
  have hiI : (i : Int) < 11 := by omega
  obtain ⟨t, ht⟩ : ∃ t, namesL[i]? = some t := ⟨_, List.getElem?_eq_getElem (show i < namesL.length from hi11)⟩
  have hcn := HRN.out.cell ht
  cases hq : (t.toList == s.toList) with
  | true =>
   obtain ⟨kk, d, hkk, hs1, hs2, hd, hd1, hd2⟩ := known_ok i hi11
   have hck := HR3.out.cell hkk
   have hlt0 : 0 < kk.size := by omega
   have h0I : (0 : Int) < (kk.size : Int) := by omega
   have h2I : (2 : Int) ≤ (kk.size : Int) := by omega
   obtain ⟨n, hn1, hn6, hbn⟩ : ∃ n : Nat, 1 ≤ n ∧ n ≤ 6 ∧ d.toNat = n + 48 := ⟨d.toNat - 48, by omega, by omega, by omega⟩
   have hby : (((kk[0]'hlt0).toNat : Nat) : Int) = (n : Int) + 48 := by
    have h9 : kk[0]'hlt0 = d := by
     have := getElem?_pos kk 0 hlt0
     rw [this] at hd; exact Option.some.inj hd
    rw [h9, hbn]; simp
   have hba : Below w30.heap.size w30 (w30.alloc (.cells #[] 2)) := Below.alloc (Below.refl _ _) (Nat.le_refl _) _
   have hckA := pw_cell_below hba hck
   have HBA := Aside0.mk (HB1.out.trans ((HB3.out.trans (hba.mono HB3.out.size)).mono HB1.out.size))
   have HOA := Aside0.mk (OwnI.empty (b := w30.heap.size) w30 (Nat.le_refl _))
   have HZQ := Aside0.mk ((HB1.out.trans (HB3.out.mono HB1.out.size)).size)
   have hzr : w.heap.size < w30.heap.size := by have h1 := HB3.out.size; have h2 := HZ1.out; omega
   have hkA : (w30.alloc (.cells #[] 2)).heap[w.heap.size]? = some C0 := by
    rw [hba.block _ hzr, HB3.out.block _ (by have h2 := HZ1.out; omega)]; exact HK1.out
   have HKA := Aside0.mk hkA
   have HZA : Aside0 (w.heap.size < w30.heap.size ∧ w30.heap.size ≤ (w30.alloc (.cells #[] 2)).heap.size ∧ (w30.alloc (.cells #[] 2)).heap.size = w30.heap.size + 1) := ⟨hzr, hba.size, by simp⟩
   have HSP := Aside0.mk (fun W => split (kk.extract 2 kk.size) (by rw [ByteArray.size_extract]; omega) 44 W)
   clear hd hd1 hd2 hbn hi hj11 hba hkA hzr
   go_wp2_with (first | (go_at_call 279; refine (HSP.out _).mono ?_; rintro e w5 ⟨u5, rfl, ⟨m, ho, hm⟩, hb⟩; obtain ⟨A5, c5, rfl, hT5⟩ := ho.form; have HT5 := Aside0.mk hT5; have HO5 := Aside0.mk (OwnI.below HOA.out hb); have HB5 := Aside0.mk (HBA.out.trans (hb.mono HBA.out.size)); have HK5 : Aside0 (w5.heap[w.heap.size]? = some C0) := ⟨by rw [hb.block _ (blk_lt HKA.out)]; exact HKA.out⟩; have HZ5 := Aside0.mk hb.size; clear ho hb hT5))
   go_loopw [8, 10] (fun s8 s10 wx => ∃ (q : Nat) (ss : List Int), s10 = .int .i64 q ∧ q ≤ m ∧ Aside0 (ss.length = q) ∧ Aside0 (∀ s ∈ ss, ∃ z : Nat, s = z ∧ z < 64) ∧ Aside0 (OwnI w30.heap.size wx s8 ss) ∧ Aside0 (Below w30.heap.size w5 wx) ∧ Aside0 (Mid (w30.heap.size + 1) w5.heap.size w5 wx) ∧ Aside0 (∀ k, s8.ownBlock = some k → k = w30.heap.size ∨ w5.heap.size ≤ k)) (fun _ s10 _ => m - (intOf s10).toNat)
   case atStart => exact ⟨0, [], rfl, Nat.zero_le _, ⟨rfl⟩, ⟨fun s h => by cases h⟩, HO5, ⟨Below.refl _ _⟩, ⟨Mid.refl _ _ _⟩, ⟨fun k hk => .inl (by simpa [Value.ownBlock] using hk.symm)⟩⟩
   case round =>
    obtain ⟨q, ss, rfl, hqm, HL, HSS, HOx, HBx, HMx, HWx⟩ := hrel
    obtain ⟨A8, c8, e8, -⟩ := id HOx.out.read
    rw [HL.out] at e8
    subst e8
    by_cases hlt : q < m
    ·have hltI : (q : Int) < (m : Int) := by omega
     obtain ⟨ad, p, rfl, ⟨hpb1, hpb2⟩, hpc, hps⟩ := HT5.out q hlt
     have hpc := (HMx.out.cell (p := ad.add q) (by rw [add_block]; have := HZA.out.2.2; omega) (by rw [add_block]; exact hpb2)).trans hpc
     clear hpb1 hpb2
     have HPS := Aside0.mk hps
     clear hps
     go_wp2_with (first | (go_at_call 280; refine (setOfText p HPS.out n hn1 hn6 _).mono ?_; rintro e w7 ⟨z, ok, rfl, hz, hb⟩; have HO7 := Aside0.mk (OwnI.below HOx.out hb); have HB7 := Aside0.mk (HBx.out.trans (hb.mono (Nat.le_trans (Nat.le_trans HZA.out.2.1 HZ5.out) HBx.out.size))); have HM7 := Aside0.mk (HMx.out.trans (Mid.of_below (hb.mono HBx.out.size))); have HZ7 := Aside0.mk (Nat.le_trans HBx.out.size hb.size); have hzz := hz; clear hb) | (at_builtin; refine app_own (w0 := w5) w30.heap.size rfl (.tmp 56) (.tmp 58) rfl _ ss (z : Int) rfl rfl HO7.out HB7.out (Nat.le_trans HZA.out.2.1 (Nat.le_trans HZ5.out HB7.out.size)) (by rw [HL.out]; omega) ?_; intro v1 w9 ho hb hg hat; have HO9 := Aside0.mk ho; have HB9 := Aside0.mk hb; have HM9 : Aside0 (Mid (w30.heap.size + 1) w5.heap.size w5 w9) := ⟨HM7.out.trans (fun k h1 h2 => hg.block k (Nat.lt_of_lt_of_le h2 (Nat.le_trans HZ7.out (Nat.le_refl _))) (fun e => by have := HWx.out k e.symm; omega))⟩; have HW9 : Aside0 (∀ k, v1.ownBlock = some k → k = w30.heap.size ∨ w5.heap.size ≤ k) := ⟨(fun k hk => by rcases hat with hat | ⟨b, hb', hlb⟩; (rw [hat] at hk; exact HWx.out k hk); (rw [hb'] at hk; cases hk; exact .inr (Nat.le_trans HZ7.out hlb)))⟩; clear ho hb hg hat))
     go_roundw
     case rel => exact ⟨q + 1, ss ++ [(z : Int)], by go_num, by omega, ⟨by rw [List.length_append, List.length_singleton, HL.out]⟩, ⟨fun s hs => by
      rcases List.mem_append.1 hs with h | h
      ·exact HSS.out s h
      ·rw [List.mem_singleton] at h; exact ⟨z, h, hzz⟩⟩, HO9, HB9, HM9, HW9⟩
     case measure => simp [intOf]; omega
    ·have hltI : ¬ (q : Int) < (m : Int) := by omega
     have hkx : wr.heap[w.heap.size]? = some C0 := by rw [HBx.out.block _ HZA.out.1]; exact HK5.out
     have HKX := Aside0.mk hkx
     clear hkx
     go_wp2_with (first | (go_at_call 127; go_must (refine (specMade n hn6 _ ss _ (by have h := HOx.out.read; exact h) HSS.out).mono ?_; rintro e w6 ⟨u, rfl, ho, hb⟩; have hk6 : w6.heap[w.heap.size]? = some C0 := (by rw [hb.block _ (blk_lt HKX.out)]; exact HKX.out); have HK6 := Aside0.mk hk6; have HO6 := Aside0.mk ho; have HB6 := Aside0.mk (HBx.out.trans (hb.mono (Nat.le_trans (Nat.le_trans HZA.out.2.1 HZ5.out) HBx.out.size))); have HZ6 := Aside0.mk (Nat.le_trans (Nat.le_trans HZA.out.2.1 HZ5.out) HBx.out.size); obtain ⟨A6, c6, rfl, -⟩ := id ho.read; have c00 : w6.cell? ⟨w.heap.size, 0, none⟩ = some (.int .i64 0) := blk_cell hk6 0; have c01 : w6.cell? ⟨w.heap.size, 1, none⟩ = some (.slice none 0 0) := blk_cell hk6 1; have f00 : w6.frozen? ⟨w.heap.size, 0, none⟩ = false := blk_frozen hk6 0; have f01 : w6.frozen? ⟨w.heap.size, 1, none⟩ = false := blk_frozen hk6 1; clear ho hb hk6)))
     refine bodyPost_ret (results_ct rfl _ _ w.heap.size 26 #[.int .i64 n, .slice A6 (thL (madeAt ss) (2 ^ n)).length c6] (0, 0) _ rfl (by refine blk_put (cs := #[.int .i64 n, .slice none 0 0]) ?_ 1 _ rfl; refine blk_put (cs := #[.int .i64 0, .slice none 0 0]) ?_ 0 _ rfl; exact HK6.out) Tryz.underlying26 rfl (by kernel_rfl)) rfl ?_
     have hbb : Below w.heap.size w6 ((w6.setCell ⟨w.heap.size, 0, none⟩ (Value.int IntKind.i64 n)).setCell ⟨w.heap.size, 1, none⟩ (Value.slice A6 (thL (madeAt ss) (2 ^ n)).length c6)) := ((Below.refl _ _).setCell (by simp) _).setCell (by simp) _
     have hq1 := HZA.out.1
     have hw6 : Below w.heap.size w w6 := HB5.out.trans (HB6.out.mono (Nat.le_of_lt hq1))
     refine ⟨_, _, rfl, ⟨n, _, thL (madeAt ss) (2 ^ n), rfl, ?_, made_gc hn1 hn6 (madeAt ss)⟩, hw6.trans hbb⟩
     have hz6 := HZ6.out
     have ho := HO6.out
     have hbse := ho.base
     have ho := ho.lower (b' := w.heap.size) (by omega)
     exact (ho.grown (set_grown' _ w.heap.size _ _) (fun j hj e => by have := hbse _ hj; cases e; omega)).grown (set_grown' _ w.heap.size _ _) (fun j hj e => by have := hbse _ hj; cases e; omega)
  | false =>
   have hij : i < j := by
    rcases Nat.lt_or_ge i j with h | h
    ·exact h
    ·have : i = j := by omega
     subst this
     rw [HJ.out] at ht
     rw [Option.some.inj ht, beq_self_eq_true] at hq
     cases hq
   go_wp2
   go_roundw
   case rel => exact ⟨i + 1, by go_num, by omega, trivial⟩
   case measure => simp [intOf]; omega
end Go.Proofs.YtomofijniefelaaGreat.H

namespace Go.Proofs.YtomofijniefelaaGreat.H
end Go.Proofs.YtomofijniefelaaGreat.H

namespace Go.Proofs.YtomofijniefelaaGreat.H
open Go.RowKit Go.Proofs.YtomofijniefelaaGreatW.PrintWords Go.Proofs.YtomofijniefelaaGreatW.PrintLast
set_option linter.unusedVariables false
set_option linter.unusedSimpArgs false
/-- into the kit's own word -/
theorem OwnI.row {b : Nat} {w : World} {v : Value} {xs : List Int} (h : OwnI b w v xs) : w.ownsRow b 2 1 v xs.length (xs.map (Value.int .i64)) := by
 obtain ⟨-, inner, ho, hl, hr⟩ := h
 have e : inner = xs.map (Value.int .i64) := by
  refine List.ext_getElem? (fun j => ?_)
  by_cases hj : j < xs.length
  ·have h3 : List.take 1 (List.drop (j * 1) inner) = [Value.int .i64 xs[j]] := hr j xs[j] (List.getElem?_eq_getElem hj)
   rw [Nat.mul_one] at h3
   have h2 : (List.take 1 (List.drop j inner))[0]? = some (Value.int .i64 xs[j]) := by rw [h3]; rfl
   rw [List.getElem?_take_of_lt (by decide), List.getElem?_drop] at h2
   rw [Nat.add_zero] at h2
   rw [h2, List.getElem?_map, List.getElem?_eq_getElem hj]; rfl
  ·have hl' : inner.length = xs.length * 1 := hl
   rw [List.getElem?_eq_none (by rw [hl']; omega), List.getElem?_eq_none (by rw [List.length_map]; omega)]
 rw [← e]
 exact ho
set_option maxRecDepth 100000 in
theorem append_gives {o : Oper} {ev : Operand → Value} {W : World} (base : Nat) (s x : Operand) (ho : o.op = .call { callee := .builtin .append, args := #[s, x], argTypes := #[24, 24] })
  (v : Value) (xs : List Int) (p : Int) (b c : Nat) (hs : ev s = v) (hx : ev x = .slice (some ⟨b, 0, none⟩) 1 c) (hc : W.cell? ⟨b, 0, none⟩ = some (.int .i64 p))
  (HO : OwnI base W v xs) (hbase : base ≤ W.heap.size) (hl : xs.length < 17592186044416) {R : Value → World → Prop}
  (h : ∀ v1 w1, OwnI base w1 v1 (xs ++ [p]) → W.grownBy w1 v.ownBlock → (v1.ownBlock = v.ownBlock ∨ v1.ownBlock = some W.heap.size) → R v1 w1) : opGives Tryz.prog o ev W R := by
 obtain ⟨i64, hi, hii⟩ : ∃ i, Tryz.prog.info? 2 = some i ∧ (i.zero, i.size, i.bytes) = (some (Value.int .i64 0), 1, 8) := by
  have h64 := info64
  cases hi : Tryz.prog.info? 2 with
  | none => rw [hi] at h64; cases h64
  | some i => rw [hi] at h64; exact ⟨i, rfl, Option.some.inj h64⟩
 have hi0 : i64.zero = some (Value.int .i64 0) := (Prod.mk.inj hii).1
 have hi1 : i64.size = 1 := (Prod.mk.inj (Prod.mk.inj hii).2).1
 have hi2 : i64.bytes = 8 := (Prod.mk.inj (Prod.mk.inj hii).2).2
 obtain ⟨v', w', hr, h2, h3, -, h5⟩ := run_append_own_at (P := Tryz.prog) W base 24 o.type 2 _ (.int .i64 0) 1 8 Tryz.underlying24 hi hi0 hi1 hi2 rfl (by decide) v xs.length (xs.map (Value.int .i64)) HO.row ⟨b, 0, none⟩ 1 c [.int .i64 p] rfl
  (fun j u hj => by
   cases j with
   | zero => cases hj; exact hc
   | succ j => cases hj) (fun u hu => by rw [List.mem_singleton] at hu; subst hu; rfl) (by simp only [maxLen]; omega) (by omega) hbase
 refine opGives_value (w' := w') (v := v') ?_ (h v' w' (OwnI.of_row (b := base) (by rw [List.length_append, List.map_append]; exact h2) (Nat.le_refl _)) h3 h5)
 unfold execOp
 simp only [ho, resolve, invoke, builtin, Sem.run_bind, Sem.run_pure, Result.andThen_ok, List.map_toArray, List.map_cons, List.map_nil, hs, hx, hr]
/-- a copy is made, one number is put behind it, and a call has it -/
structure RI (c d a f : Nat) (l : List Int) (x : Int) (w0 : World) (D : Value → World → Prop) (b : Nat → Bool) (s : Nat → Value) (w : World) : Prop where
 ne : c ≠ d ∧ c ≠ a ∧ c ≠ f ∧ d ≠ a ∧ d ≠ f ∧ a ≠ f
 ha : b a = true → b c = true ∧ b d = true
 hf : b f = true → b a = true
 hB : b f = false → Below w0.heap.size w0 w
 hC : b c = true → b a = false → OwnI w0.heap.size w (s c) l
 hS : b d = true → b a = false → ∃ k, s d = .slice (some ⟨k, 0, none⟩) 1 1 ∧ w.cell? ⟨k, 0, none⟩ = some (.int .i64 x)
 hA : b a = true → b f = false → OwnI w0.heap.size w (s a) (l ++ [x])
 hD : b f = true → D (s f) w
section
variable {c d a f : Nat} {l : List Int} {x : Int} {w0 w : World} {D : Value → World → Prop} {b : Nat → Bool} {s : Nat → Value}
theorem RI.start (hne : c ≠ d ∧ c ≠ a ∧ c ≠ f ∧ d ≠ a ∧ d ≠ f ∧ a ≠ f) (hb : ∀ i, b i = false) : RI c d a f l x w0 D b s w0.drew := by
 have hn : ∀ i, ¬ b i = true := fun i h => by rw [hb i] at h; cases h
 exact ⟨hne, fun h => absurd h (hn _), fun h => absurd h (hn _), fun _ => (Below.refl _ _).drew, fun h => absurd h (hn _), fun h => absurd h (hn _), fun h => absurd h (hn _), fun h => absurd h (hn _)⟩
theorem RI.noc (h : RI c d a f l x w0 D b s w) (hc : b c = false) : b a = false := by
 cases h1 : b a with
 | false => rfl
 | true => have := (h.ha h1).1; rw [hc] at this; cases this
theorem RI.nod (h : RI c d a f l x w0 D b s w) (hc : b d = false) : b a = false := by
 cases h1 : b a with
 | false => rfl
 | true => have := (h.ha h1).2; rw [hc] at this; cases this
theorem RI.noa (h : RI c d a f l x w0 D b s w) (hc : b a = false) : b f = false := by
 cases h1 : b f with
 | false => rfl
 | true => have := h.hf h1; rw [hc] at this; cases this
theorem RI.quiet (h : RI c d a f l x w0 D b s w) {i : Nat} (h1 : i ≠ c) (h2 : i ≠ d) (h3 : i ≠ a) (h4 : i ≠ f) (v : Value) : RI c d a f l x w0 D (markU b i) (upd s i v) w := by
 have m : ∀ j, j ≠ i → markU b i j = b j := fun j hj => markU_ne b hj
 have p : ∀ j, j ≠ i → upd s i v j = s j := fun j hj => upd_ne s v hj
 refine ⟨h.ne, ?_, ?_, ?_, ?_, ?_, ?_, ?_⟩
 ·rw [m a (Ne.symm h3), m c (Ne.symm h1), m d (Ne.symm h2)]; exact h.ha
 ·rw [m a (Ne.symm h3), m f (Ne.symm h4)]; exact h.hf
 ·rw [m f (Ne.symm h4)]; exact h.hB
 ·rw [m a (Ne.symm h3), m c (Ne.symm h1), p c (Ne.symm h1)]; exact h.hC
 ·rw [m a (Ne.symm h3), m d (Ne.symm h2), p d (Ne.symm h2)]; exact h.hS
 ·rw [m a (Ne.symm h3), m f (Ne.symm h4), p a (Ne.symm h3)]; exact h.hA
 ·rw [m f (Ne.symm h4), p f (Ne.symm h4)]; exact h.hD
theorem RI.clone (h : RI c d a f l x w0 D b s w) (hc : b c = false) {w' : World} {u : Value} (hb : Below w.heap.size w w') (ho : OwnI w0.heap.size w' u l) : RI c d a f l x w0 D (markU b c) (upd s c u) w' := by
 have ha := h.noc hc
 have hf := h.noa ha
 have m : ∀ j, j ≠ c → markU b c j = b j := fun j hj => markU_ne b hj
 have p : ∀ j, j ≠ c → upd s c u j = s j := fun j hj => upd_ne s u hj
 refine ⟨h.ne, ?_, ?_, ?_, ?_, ?_, ?_, ?_⟩
 ·rw [m a (Ne.symm h.ne.2.1), ha]; intro e; cases e
 ·rw [m f (Ne.symm h.ne.2.2.1), hf]; intro e; cases e
 ·exact fun _ => (h.hB hf).trans (hb.mono (h.hB hf).size)
 ·intro _ _; rw [upd_self]; exact ho
 ·intro h1 _
  rw [m d (Ne.symm h.ne.1)] at h1
  rw [p d (Ne.symm h.ne.1)]
  obtain ⟨k, e, hk⟩ := h.hS h1 ha
  exact ⟨k, e, pw_cell_below hb hk⟩
 ·rw [m a (Ne.symm h.ne.2.1), ha]; intro e; cases e
 ·rw [m f (Ne.symm h.ne.2.2.1), hf]; intro e; cases e
theorem RI.build (h : RI c d a f l x w0 D b s w) (hd : b d = false) : RI c d a f l x w0 D (markU b d) (upd s d (.slice (some ⟨w.heap.size, 0, none⟩) 1 1)) (w.alloc (.cells #[.int .i64 x] 2)) := by
 have ha := h.nod hd
 have hf := h.noa ha
 have hb : Below w.heap.size w (w.alloc (.cells #[.int .i64 x] 2)) := Below.alloc (Below.refl _ _) (Nat.le_refl _) _
 have m : ∀ j, j ≠ d → markU b d j = b j := fun j hj => markU_ne b hj
 have p : ∀ j, j ≠ d → upd s d (.slice (some ⟨w.heap.size, 0, none⟩) 1 1) j = s j := fun j hj => upd_ne s _ hj
 refine ⟨h.ne, ?_, ?_, ?_, ?_, ?_, ?_, ?_⟩
 ·rw [m a (Ne.symm h.ne.2.2.2.1), ha]; intro e; cases e
 ·rw [m f (Ne.symm h.ne.2.2.2.2.1), hf]; intro e; cases e
 ·exact fun _ => (h.hB hf).trans (hb.mono (h.hB hf).size)
 ·intro h1 _
  rw [m c h.ne.1] at h1
  rw [p c h.ne.1]
  exact (h.hC h1 ha).below hb
 ·intro _ _
  rw [upd_self]
  exact ⟨_, rfl, by simp⟩
 ·rw [m a (Ne.symm h.ne.2.2.2.1), ha]; intro e; cases e
 ·rw [m f (Ne.symm h.ne.2.2.2.2.1), hf]; intro e; cases e
theorem RI.app (h : RI c d a f l x w0 D b s w) (hc : b c = true) (hd : b d = true) (ha : b a = false) {w' : World} {u : Value} (ho : OwnI w0.heap.size w' u (l ++ [x])) (hg : w.grownBy w' (s c).ownBlock) : RI c d a f l x w0 D (markU b a) (upd s a u) w' := by
 have hf := h.noa ha
 have m : ∀ j, j ≠ a → markU b a j = b j := fun j hj => markU_ne b hj
 have hC := h.hC hc ha
 refine ⟨h.ne, ?_, ?_, ?_, ?_, ?_, ?_, ?_⟩
 ·intro _; rw [m c h.ne.2.1, m d h.ne.2.2.2.1]; exact ⟨hc, hd⟩
 ·rw [m f (Ne.symm h.ne.2.2.2.2.2), hf]; intro e; cases e
 ·exact fun _ => (h.hB hf).grown hg (h.hB hf).size (fun j hj => OwnI.base hC j hj)
 ·rw [markU_self]; intro _ e; cases e
 ·rw [markU_self]; intro _ e; cases e
 ·intro _ _; rw [upd_self]; exact ho
 ·rw [m f (Ne.symm h.ne.2.2.2.2.2), hf]; intro e; cases e
theorem RI.call (h : RI c d a f l x w0 D b s w) (ha : b a = true) (hf : b f = false) {w' : World} {u : Value} (hD : D u w') : RI c d a f l x w0 D (markU b f) (upd s f u) w' := by
 have m : ∀ j, j ≠ f → markU b f j = b j := fun j hj => markU_ne b hj
 refine ⟨h.ne, ?_, ?_, ?_, ?_, ?_, ?_, ?_⟩
 ·intro _; rw [m c h.ne.2.2.1, m d h.ne.2.2.2.2.1]; exact h.ha ha
 ·intro _; rw [m a h.ne.2.2.2.2.2]; exact ha
 ·rw [markU_self]; intro e; cases e
 ·rw [m a h.ne.2.2.2.2.2, ha]; intro _ e; cases e
 ·rw [m a h.ne.2.2.2.2.2, ha]; intro _ e; cases e
 ·rw [markU_self]; intro _ e; cases e
 ·intro _; rw [upd_self]; exact hD
end
set_option maxRecDepth 100000 in
set_option maxHeartbeats 1000000 in
theorem specOwn2 (v : Value) (xs : List Int) (w : World) (hv : ReadI w v xs) (hl : xs.length ≤ 1000000) :
  Calls Tryz.prog 153 #[v] w fun e w' => ∃ u, e = .returned u ∧ OwnI w.heap.size w' u xs ∧ Below w.heap.size w w' := by
 obtain ⟨A, c, rfl, hc, hr⟩ := id hv
 obtain ⟨w1, hw1⟩ : ∃ w1, w1 = w.alloc (.cells #[] 2) := ⟨_, rfl⟩
 have hB : Below w.heap.size w w1 := by rw [hw1]; exact Below.alloc (Below.refl _ _) (Nat.le_refl _) _
 have hs1 : w.heap.size ≤ w1.heap.size := hB.size
 have HO := Aside0.mk (show OwnI w.heap.size w1 (.slice (some ⟨w.heap.size, 0, none⟩) 0 0) [] by rw [hw1]; exact OwnI.empty w (Nat.le_refl _))
 have HB := Aside0.mk hB
 have HR := Aside0.mk (Kd.C_below hr hB)
 clear hr hv hB
 go_enter Tryz.func153, Tryz.ntmps153
 go_wp2_with (first | ((with_reducible refine gate_builtin (b := .append) (xs := #[.tmp 3, .tmp 4]) rfl ?_); rw [← hw1]; clear hw1; refine Kd.R_append_row (Value.int .i64) (0 : Int) (w0 := w) w.heap.size rfl (.tmp 3) (.tmp 4) 24 2 (.int .i64 0) 8 rfl Tryz.underlying24 info64 rfl (by decide) _ [] xs A xs.length c (fun _ => True) rfl rfl (fun _ _ => trivial) HO.out HR.out HB.out hs1 (by simp; omega) ?_; intro v1 w2 ho hb hg hat; have HO2 := Aside0.mk ho; have HB2 := Aside0.mk hb; clear ho hb hg hat))
 go_ret
 exact ⟨_, rfl, HO2.out, HB2.out⟩
end Go.Proofs.YtomofijniefelaaGreat.H
