/- The image of a face, by the program and by the reference. Simplicial maps. The codes for simplicial maps. A slice of one list. part: the complex of the faces that are as told. A filter of a part of a list. FixedFaces of the program and of the reference. OpenFibre of the program and of the reference. OpenFibre of the reference. -/
import Derived.Test.YtomofijniefelaaGreatKFnMaps1
import Derived.Test.YtomofijniefelaaGreatKFnMaps2
import Derived.Test.YtomofijniefelaaGreatKFnMaps3
import Derived.Test.YtomofijniefelaaGreatKFnMaps4

namespace Go.Proofs.YtomofijniefelaaGreat.H
open Go.RowKit Go.Proofs.YtomofijniefelaaGreatW.PrintWords Go.Proofs.YtomofijniefelaaGreatW.PrintLast
set_option linter.unusedVariables false
set_option linter.unusedSimpArgs false
/-- the image of the part of a face on the first k vertices -/
def imgTo (f : Nat) (p : List Int) (k : Nat) : Nat := (List.range k).foldl (fun o v => if f.testBit v then o ||| 2 ^ (p.getD v 0).toNat else o) 0
/-- the image of a face -/
def img (f : Nat) (p : List Int) : Nat := imgTo f p p.length
theorem imgTo_succ (f : Nat) (p : List Int) (k : Nat) : imgTo f p (k + 1) = if f.testBit k then imgTo f p k ||| 2 ^ (p.getD k 0).toNat else imgTo f p k := by
 unfold imgTo
 rw [List.range_succ, List.foldl_append]
 rfl
theorem imgTo_more (f : Nat) (p : List Int) (n : Nat) (hf : f < 2 ^ n) : ∀ d, imgTo f p (n + d) = imgTo f p n := by
 intro d
 induction d with
 | zero => rfl
 | succ d ih =>
  rw [← Nat.add_assoc, imgTo_succ, if_neg, ih]
  rw [Nat.testBit_lt_two_pow (Nat.lt_of_lt_of_le hf (Nat.pow_le_pow_right (by decide) (Nat.le_add_right n d)))]
  decide
/-- over a list of vertices -/
def imgV (p : List Int) (l : List Int) : Nat := l.foldl (fun o v => o ||| 2 ^ (p.getD v.toNat 0).toNat) 0
theorem imgV_snoc (p l : List Int) (v : Int) : imgV p (l ++ [v]) = imgV p l ||| 2 ^ (p.getD v.toNat 0).toNat := by
 unfold imgV; rw [List.foldl_append]; rfl
theorem imgV_vs (f : Nat) (p : List Int) : imgV p (vs f) = imgTo f p 6 := by
 unfold imgV vs imgTo
 rw [List.foldl_map, List.foldl_filter]
 rfl
theorem img_vs (f : Nat) (p : List Int) (hn : p.length ≤ 6) (hf : f < 2 ^ p.length) : imgV p (vs f) = img f p := by
 rw [imgV_vs]
 have := imgTo_more f p p.length hf (6 - p.length)
 rw [show p.length + (6 - p.length) = 6 by omega] at this
 exact this
theorem getD_bd {p : List Int} (hp : ∀ x ∈ p, 0 ≤ x ∧ x ≤ 5) (k : Nat) : (p.getD k 0).toNat ≤ 5 := by
 by_cases h : k < p.length
 ·have := hp _ (mem_at (i := k) h rfl); omega
 ·have : p.getD k 0 = 0 := by simp [List.getD_eq_getElem?_getD, Nat.not_lt.1 h]
  rw [this]; decide
theorem or_lt {a e : Nat} (ha : a < 64) (he : e ≤ 5) : a ||| 2 ^ e < 64 :=
 Nat.or_lt_two_pow (n := 6) ha (by have := pow_bd e he; omega)
theorem imgV_lt {p : List Int} (hp : ∀ x ∈ p, 0 ≤ x ∧ x ≤ 5) (l : List Int) : imgV p l < 64 := by
 have key : ∀ (l : List Int) (o : Nat), o < 64 → l.foldl (fun o v => o ||| 2 ^ (p.getD v.toNat 0).toNat) o < 64 := by
  intro l
  induction l with
  | nil => exact fun o h => h
  | cons v l ih => exact fun o h => ih _ (or_lt h (getD_bd hp _))
 exact key l 0 (by decide)
theorem imgTo_lt {f : Nat} {p : List Int} (hp : ∀ x ∈ p, 0 ≤ x ∧ x ≤ 5) (k : Nat) : imgTo f p k < 64 := by
 induction k with
 | zero => exact (by decide : (0 : Nat) < 64)
 | succ k ih =>
  rw [imgTo_succ]
  split
  ·exact or_lt ih (getD_bd hp _)
  ·exact ih
theorem vs_mem {f : Nat} {v : Int} (h : v ∈ vs f) : ∃ k : Nat, v = k ∧ k < 6 ∧ f.testBit k = true := by
 unfold vs at h
 rw [List.mem_map] at h
 obtain ⟨k, hk, rfl⟩ := h
 rw [List.mem_filter, List.mem_range] at hk
 exact ⟨k, rfl, hk.1, hk.2⟩
theorem vs_in {f n : Nat} {v : Int} (hf : f < 2 ^ n) (h : v ∈ vs f) : ∃ k : Nat, v = k ∧ k < n := by
 obtain ⟨k, rfl, _, ht⟩ := vs_mem h
 refine ⟨k, rfl, ?_⟩
 by_cases hk : k < n
 ·exact hk
 ·rw [Nat.testBit_lt_two_pow (Nat.lt_of_lt_of_le hf (Nat.pow_le_pow_right (by decide) (Nat.not_lt.1 hk)))] at ht
  cases ht
theorem vs_len6 (f : Nat) : (vs f).length ≤ 6 := by
 unfold vs
 rw [List.length_map]
 exact Nat.le_trans (List.length_filter_le _ _) (by simp)
set_option maxHeartbeats 1000000 in
theorem imageOf (f : Nat) (v : Value) (p : List Int) (w : World) (hr : ReadI w v p) (hn : p.length ≤ 6) (hf : f < 2 ^ p.length) (hp : ∀ x ∈ p, 0 ≤ x ∧ x ≤ 5) :
  Calls Tryz.prog 124 #[.int .i64 f, v] w fun e w' => e = .returned (.int .i64 (img f p : Nat)) ∧ Below w.heap.size w w' := by
 have hf63 : f ≤ 63 := by have := (pw6 hn).2; omega
 have HI : Aside0 (imgV p (vs f) = img f p) := ⟨img_vs f p hn hf⟩
 have HL := Aside0.mk (fun l => imgV_lt hp l)
 have HF := Aside0.mk hf
 have HP := Aside0.mk hp
 have hl6 := vs_len6 f
 obtain ⟨A, c, rfl, hc, hr⟩ := hr
 have HR := Aside0.mk hr
 clear hr hf hp
 go_enter Tryz.func124, Tryz.ntmps124
 go_wp2_with (first | (go_at_call 272; refine (vertices f hf63 _).mono ?_; rintro e w1 ⟨u, rfl, ho, hb⟩; obtain ⟨A1, c1, rfl, -, hr1⟩ := ho.read; have HR1 := Aside0.mk hr1; have HB := Aside0.mk hb; clear ho hb hr1))
 go_loopw [5, 11] (fun o i wr => ∃ k : Nat, i = .int .i64 k ∧ k ≤ (vs f).length ∧ o = .int .i64 (imgV p ((vs f).take k) : Nat) ∧ Below w1.heap.size w1 wr) (fun _ i _ => (vs f).length - (intOf i).toNat)
 case atStart => exact ⟨0, rfl, Nat.zero_le _, rfl, Below.refl _ _⟩
 case round =>
  obtain ⟨k, rfl, hk, rfl, hb⟩ := hrel
  by_cases hlt : k < (vs f).length
  ·obtain ⟨ad1, x, rfl, hcell1, HX⟩ := ReadI.get (Kd.C_below HR1.out hb) hlt
   obtain ⟨q, rfl, hq⟩ := vs_in HF.out (mem_at hlt HX.out)
   obtain ⟨ad, y, rfl, hcell, HY⟩ := ReadI.get (Kd.C_below HR.out (HB.out.trans (hb.mono HB.out.size))) (i := q) (by omega)
   have hy := HP.out _ (mem_at hq HY.out)
   obtain ⟨e, rfl⟩ : ∃ e : Nat, y = e := ⟨y.toNat, by omega⟩
   have HT := Aside0.mk (take_get hlt HX.out)
   have hsh := pow_wrap e (by omega)
   have hpb := pow_bd e (by omega)
   obtain ⟨o, ho⟩ : ∃ o, o = imgV p ((vs f).take k) := ⟨_, rfl⟩
   have hol := HL.out ((vs f).take k)
   rw [← ho] at hol ⊢
   have hor := or_i64 o (2 ^ e) (by omega) (by omega)
   obtain ⟨z, hz⟩ : ∃ z, z = o ||| 2 ^ e := ⟨_, rfl⟩
   rw [← hz] at hor
   obtain ⟨pp, hpp⟩ : ∃ pp : Nat, pp = 2 ^ e := ⟨_, rfl⟩
   rw [← hpp] at hsh hpb hor hz
   have HO := Aside0.mk ho
   have HZ := Aside0.mk hz
   have HPP := Aside0.mk hpp
   have HB2 := Aside0.mk hb
   clear ho hz hpp hb
   go_wp2
   go_roundw
   case rel =>
    refine ⟨k + 1, by go_num, by omega, ?_, HB2.out⟩
    rw [HT.out, imgV_snoc, ← HO.out, Int.toNat_natCast, HY.out, Int.toNat_natCast, ← HPP.out, ← HZ.out]
   case measure => simp [intOf]; omega
  ·have e : k = (vs f).length := by omega
   have HE := Aside0.mk e
   have HB2 := Aside0.mk (HB.out.trans (hb.mono HB.out.size))
   clear e hb
   go_wp2
   go_ret
   exact ⟨by have := HI.out; rw [HE.out, List.take_length, this]; rfl, HB2.out⟩
set_option maxHeartbeats 1000000 in
theorem specMoved (f : Nat) (hf : f ≤ 63) (v : Value) (p : List Int) (w : World) (hr : ReadI w v p) (hn : p.length ≤ 6) (hp : ∀ x ∈ p, 0 ≤ x ∧ x ≤ 5) :
  Calls Tryz.prog 126 #[.int .i64 f, v] w fun e w' => e = .returned (.int .i64 (img f p : Nat)) ∧ Below w.heap.size w w' := by
 have HL := Aside0.mk (fun k => imgTo_lt (f := f) hp k)
 have HP := Aside0.mk hp
 obtain ⟨A, c, rfl, hc, hr⟩ := hr
 have HR := Aside0.mk hr
 clear hr hp
 go_enter Tryz.func126, Tryz.ntmps126
 go_wp2
 go_loopw [5, 6] (fun o i wr => ∃ k : Nat, i = .int .i64 k ∧ k ≤ p.length ∧ o = .int .i64 (imgTo f p k : Nat) ∧ Below w.heap.size w wr) (fun _ i _ => p.length - (intOf i).toNat)
 case atStart => exact ⟨0, rfl, Nat.zero_le _, rfl, Below.refl _ _⟩
 case round =>
  obtain ⟨k, rfl, hk, rfl, hb⟩ := hrel
  by_cases hlt : k < p.length
  ·obtain ⟨ad, y, rfl, hcell, HY⟩ := ReadI.get (Kd.C_below HR.out hb) hlt
   have hy := HP.out _ (mem_at hlt HY.out)
   obtain ⟨e, rfl⟩ : ∃ e : Nat, y = e := ⟨y.toNat, by omega⟩
   have HS := Aside0.mk (imgTo_succ f p k)
   have hbit := bit_of f k (by omega)
   obtain ⟨o, ho⟩ : ∃ o, o = imgTo f p k := ⟨_, rfl⟩
   have hol := HL.out k
   rw [← ho] at hol ⊢
   have HO := Aside0.mk ho
   have HB2 := Aside0.mk hb
   clear ho hb
   cases ht : f.testBit k with
   | true =>
    rw [ht, if_pos rfl] at hbit
    have HT := Aside0.mk ht
    clear ht
    have hsh := pow_wrap e (by omega)
    have hpb := pow_bd e (by omega)
    have hor := or_i64 o (2 ^ e) (by omega) (by omega)
    obtain ⟨z, hz⟩ : ∃ z, z = o ||| 2 ^ e := ⟨_, rfl⟩
    rw [← hz] at hor
    obtain ⟨pp, hpp⟩ : ∃ pp : Nat, pp = 2 ^ e := ⟨_, rfl⟩
    rw [← hpp] at hsh hpb hor hz
    have HZ := Aside0.mk hz
    have HPP := Aside0.mk hpp
    clear hz hpp
    go_wp2
    go_roundw
    case rel =>
     refine ⟨k + 1, by go_num, by omega, ?_, HB2.out⟩
     rw [HS.out, HT.out, if_pos rfl, ← HO.out, HY.out, Int.toNat_natCast, ← HPP.out, ← HZ.out]
    case measure => simp [intOf]; omega
   | false =>
    rw [ht, if_neg (by decide)] at hbit
    have HT := Aside0.mk ht
    clear ht
    go_wp2
    go_roundw
    case rel =>
     refine ⟨k + 1, by go_num, by omega, ?_, HB2.out⟩
     rw [HS.out, HT.out, if_neg (by decide), ← HO.out]
    case measure => simp [intOf]; omega
  ·have e : k = p.length := by omega
   have HE := Aside0.mk e
   clear e
   go_wp2
   go_ret
   exact ⟨by rw [HE.out]; rfl, hb⟩
/-- the image of a face is one -/
def simpAt (ys p : List Int) (f : Int) : Bool := decide (((img f.toNat p : Nat) : Int) ∈ ys)
def simpOk (xs ys p : List Int) : Bool := xs.all (simpAt ys p)
/-- what is known of a map -/
structure Mp (n m : Nat) (p : List Int) : Prop where
 len : p.length = n
 bd : ∀ x ∈ p, 0 ≤ x ∧ x ≤ (m : Int) - 1
theorem mapOk_mp {n m : Nat} {p : List Int} (h : mapOk n m p = true) : Mp n m p := by
 unfold mapOk at h
 rw [Bool.and_eq_true, decide_eq_true_eq, List.all_eq_true] at h
 refine ⟨h.1, fun x hx => ?_⟩
 have := h.2 x hx
 unfold inMap at this
 simpa using this
theorem Mp.bd5 {n m : Nat} {p : List Int} (h : Mp n m p) (hm : m ≤ 6) : ∀ x ∈ p, 0 ≤ x ∧ x ≤ 5 := fun x hx => by have := h.bd x hx; omega
theorem Cx.lt {n : Nat} {l : List Int} (h : Cx n l) {x : Int} (hx : x ∈ l) : ∃ f : Nat, x = f ∧ 1 ≤ f ∧ f < 2 ^ n := by
 have := h.bd x hx
 exact ⟨x.toNat, by omega, by omega, by omega⟩
set_option maxHeartbeats 2000000 in
theorem isSimplicial1 (w : World) (bl bp : Nat) (n m : Nat) (lu v : Value) (ys p : List Int) (hn : n ≤ 6) (hl : ReadI w lu ys) (hv : ReadI w v p) (hc : Cx m ys) (hp : Mp n m p) (h0 : w.cell? ⟨bl, 0, none⟩ = some (.int .i64 m)) (h1 : w.cell? ⟨bl, 1, none⟩ = some lu) (h2 : w.cell? ⟨bp, 0, none⟩ = some v) :
  PredI w (.func (.func 283) #[] #[.pointer (some ⟨bl, 0, none⟩), .pointer (some ⟨bp, 0, none⟩)]) (simpAt ys p) (fun f => 0 ≤ f ∧ f < ((2 ^ n : Nat) : Int)) := by
 refine ⟨_, _, _, rfl, Enters.mk' Tryz.func283 rfl rfl, fun w1 x hb hx => ?_⟩
 obtain ⟨f, rfl⟩ : ∃ f : Nat, x = f := ⟨x.toNat, by omega⟩
 have hf : f < 2 ^ p.length := by rw [hp.len]; omega
 have c0 := pw_cell_below hb h0
 have c1 := pw_cell_below hb h1
 have c2 := pw_cell_below hb h2
 have HL := Aside0.mk (hl.below hb)
 have HV := Aside0.mk (hv.below hb)
 obtain ⟨A1, d1, rfl, -⟩ := id hl
 obtain ⟨A2, d2, rfl, -⟩ := id hv
 have hlen : p.length ≤ 6 := by rw [hp.len]; exact hn
 have HI : Aside0 (∀ x : Ext w1, Calls Tryz.prog 124 #[.int .i64 f, .slice A2 p.length d2] x.1 fun e w' => e = .returned (.int .i64 (img f p : Nat)) ∧ Below x.1.heap.size x.1 w') := ⟨fun x => imageOf f _ p x.1 (HV.out.below x.2) hlen hf (hp.bd5 hc.hi)⟩
 have HH : Aside0 (∀ x : Ext w1, Calls Tryz.prog 129 #[cx m (.slice A1 ys.length d1), .int .i64 (img f p : Nat)] x.1 fun e w' => e = .returned (.bool (simpAt ys p f)) ∧ Below x.1.heap.size x.1 w') := ⟨fun x => has m _ ys _ x.1 (HL.out.below x.2) hc.asc (by have := hc.len; omega)⟩
 have x0 : ∀ x : Ext w1, x.1.cell? ⟨bl, 0, none⟩ = some (.int .i64 m) := fun x => Ext.cell c0 x
 have x1 : ∀ x : Ext w1, x.1.cell? ⟨bl, 1, none⟩ = some (.slice A1 ys.length d1) := fun x => Ext.cell c1 x
 have x2 : ∀ x : Ext w1, x.1.cell? ⟨bp, 0, none⟩ = some (.slice A2 p.length d2) := fun x => Ext.cell c2 x
 clear hb h0 h1 h2 hx hl hv hc hp c0 c1 c2 hf hlen HL HV
 generalize simpAt ys p f = r at *
 generalize img f p = g at *
 show Calls _ _ #[_, _, _] _ _
 go_enter Tryz.func283, Tryz.ntmps283
 go_wp2
 refine wp_region_ext (by kernel_rfl) (by kernel_rfl) ?_
 repeat (go_big_quiet_step ((first | (go_at_call 124; exact Calls.ext_of (HI.out _)) | (go_at_call 129; exact Calls.ext_of (HH.out _)))))
 refine wpQuiet_nil ?_
 rintro _ ⟨x, rfl⟩
 have hbx := x.2
 go_wp2
 go_ret
 exact ⟨rfl, by (repeat (first | (with_reducible exact Below.refl _ _) | (with_reducible assumption) | (with_reducible refine below_step ?_ (by assumption)) | (with_reducible apply below_alloc) | (with_reducible apply below_drewN)))⟩
set_option maxHeartbeats 1000000 in
theorem isSimplicial (n m : Nat) (ku lu v : Value) (xs ys p : List Int) (w : World) (hk : ReadI w ku xs) (hl : ReadI w lu ys) (hv : ReadI w v p) (hck : Cx n xs) (hcl : Cx m ys) (hp : Mp n m p) :
  Calls Tryz.prog 151 #[cx n ku, cx m lu, v] w fun e w' => e = .returned (.bool (simpOk xs ys p)) ∧ Below w.heap.size w w' := by
 obtain ⟨w0, hw0⟩ : ∃ w0, w0 = (w.alloc (.cells #[.int .i64 n, ku] 26)).alloc (.cells #[.int .i64 m, lu] 26) := ⟨_, rfl⟩
 obtain ⟨w1, hw1⟩ : ∃ w1, w1 = w0.alloc (.cells #[v] 24) := ⟨_, rfl⟩
 have hs0 : w0.heap.size = w.heap.size + 1 + 1 := by rw [hw0]; simp
 have hB0 : Below w.heap.size w w0 := by rw [hw0]; exact ((Below.refl _ w).alloc (Nat.le_refl _) _).alloc (by simp) _
 have hB01 : Below w0.heap.size w0 w1 := by rw [hw1]; exact Below.alloc (Below.refl _ _) (Nat.le_refl _) _
 have hB : Below w.heap.size w w1 := hB0.trans (hB01.mono hB0.size)
 have c1 : w1.cell? ⟨w.heap.size, 1, none⟩ = some ku := pw_cell_below hB01 (by rw [hw0]; simp)
 have c2 : w1.cell? ⟨w.heap.size + 1, 0, none⟩ = some (.int .i64 m) := pw_cell_below hB01 (by rw [hw0]; simp)
 have c3 : w1.cell? ⟨w.heap.size + 1, 1, none⟩ = some lu := pw_cell_below hB01 (by rw [hw0]; simp)
 have c4 : w1.cell? ⟨w.heap.size + 1 + 1, 0, none⟩ = some v := by rw [hw1, ← hs0]; simp
 have HK := Aside0.mk (hk.below hB)
 have HP := Aside0.mk (isSimplicial1 w1 (w.heap.size + 1) (w.heap.size + 1 + 1) n m lu v ys p hck.hi (hl.below hB) (hv.below hB) hcl hp c2 c3 c4)
 have HD : Aside0 (∀ x ∈ xs, 0 ≤ x ∧ x < ((2 ^ n : Nat) : Int)) := ⟨fun x hx => by have := hck.bd x hx; omega⟩
 have HB := Aside0.mk hB
 obtain ⟨A1, d1, rfl, -⟩ := id hk
 obtain ⟨A2, d2, rfl, -⟩ := id hl
 obtain ⟨A3, d3, rfl, -⟩ := id hv
 clear hk hl hv hB hck hcl hp c2 c3 c4 hB0 hB01 hs0
 subst hw0
 go_enter Tryz.func151, Tryz.ntmps151
 go_wp2_with (first | (rw [← hw1]; clear hw1; go_at_call 138; refine (areAll _ _ _ _ _ _ HK.out HP.out HD.out).mono ?_; rintro e w2 ⟨rfl, hb⟩))
 go_ret
 exact ⟨rfl, by have := HB.out; (repeat (first | (with_reducible exact Below.refl _ _) | (with_reducible assumption) | (with_reducible refine below_step ?_ (by assumption)) | (with_reducible apply below_alloc) | (with_reducible apply below_drewN)))⟩
set_option maxHeartbeats 2000000 in
theorem specSimplicialG (n m : Int) (ku lu v : Value) (xs ys p : List Int) (w : World) (hk : ReadI w ku xs) (hl : ReadI w lu ys) (hv : ReadI w v p) (hck : ∀ x ∈ xs, ∃ f : Nat, x = f ∧ 1 ≤ f ∧ f ≤ 63) (hcl : p.length ≤ 6) (hp : ∀ x ∈ p, 0 ≤ x ∧ x ≤ 5) :
  Calls Tryz.prog 157 #[cx n ku, cx m lu, v] w fun e w' => e = .returned (.bool (simpOk xs ys p)) ∧ Below w.heap.size w w' := by
 obtain ⟨w1, hw1⟩ : ∃ w1, w1 = (w.alloc (.cells #[.int .i64 n, ku] 26)).alloc (.cells #[.int .i64 m, lu] 26) := ⟨_, rfl⟩
 have hB : Below w.heap.size w w1 := by rw [hw1]; exact ((Below.refl _ w).alloc (Nat.le_refl _) _).alloc (by simp) _
 have c0 : w1.cell? ⟨w.heap.size, 0, none⟩ = some (.int .i64 n) := by rw [hw1]; simp
 have c1 : w1.cell? ⟨w.heap.size, 1, none⟩ = some ku := by rw [hw1]; simp
 have c2 : w1.cell? ⟨w.heap.size + 1, 0, none⟩ = some (.int .i64 m) := by rw [hw1]; simp
 have c3 : w1.cell? ⟨w.heap.size + 1, 1, none⟩ = some lu := by rw [hw1]; simp
 have HL := Aside0.mk (hl.below hB)
 have HV := Aside0.mk (hv.below hB)
 have HB := Aside0.mk hB
 have hk1 := hk.below hB
 obtain ⟨A1, d1, rfl, -⟩ := id hl
 obtain ⟨A2, d2, rfl, -⟩ := id hv
 obtain ⟨A, c, rfl, hc, hr⟩ := hk1
 have HR := Aside0.mk hr
 have hlen := hr.2.1
 have HCK := Aside0.mk hck
 have HCL := Aside0.mk hcl
 have HMP := Aside0.mk hp
 clear hk hl hv hB hck hcl hp hr
 go_enter Tryz.func157, Tryz.ntmps157
 go_wp2
 rw [← hw1]
 clear hw1
 go_loopw [7] (fun v wr => ∃ i : Nat, v = .int .i64 i ∧ i ≤ xs.length ∧ Aside0 (∀ k, k < i → simpAt ys p (xs.getD k 0) = true) ∧ Below w1.heap.size w1 wr) (fun v _ => xs.length - (intOf v).toNat)
 case atStart => exact ⟨0, rfl, Nat.zero_le _, ⟨fun j hj => absurd hj (Nat.not_lt_zero _)⟩, Below.refl _ _⟩
 case round =>
  obtain ⟨i, rfl, hi, HU, hb⟩ := hrel
  have c0 := pw_cell_below hb c0
  have c1 := pw_cell_below hb c1
  have c2 := pw_cell_below hb c2
  have c3 := pw_cell_below hb c3
  have HBr := Aside0.mk hb
  by_cases hlt : i < xs.length
  ·obtain ⟨ad, y, rfl, hcell, HY⟩ := ReadI.get (Kd.C_below HR.out hb) hlt
   obtain ⟨f, rfl, hf1, hf2⟩ := HCK.out _ (mem_at hlt HY.out)
   clear hb
   have x1 : ∀ x : Ext wr, x.1.cell? ⟨w.heap.size, 1, none⟩ = some (.slice (some ad) xs.length c) := fun x => Ext.cell c1 x
   have x2 : ∀ x : Ext wr, x.1.cell? ⟨w.heap.size + 1, 0, none⟩ = some (.int .i64 m) := fun x => Ext.cell c2 x
   have x3 : ∀ x : Ext wr, x.1.cell? ⟨w.heap.size + 1, 1, none⟩ = some (.slice A1 ys.length d1) := fun x => Ext.cell c3 x
   have x4 : ∀ x : Ext wr, x.1.cell? (ad.add i) = some (.int .i64 f) := fun x => Ext.cell hcell x
   clear hcell
   have hj1 : (0 : Int) ≤ (i : Int) := by omega
   have hj2 : (i : Int) < (xs.length : Int) := by omega
   have HI : Aside0 (∀ x : Ext wr, Calls Tryz.prog 126 #[.int .i64 f, .slice A2 p.length d2] x.1 fun e w' => e = .returned (.int .i64 (img f p : Nat)) ∧ Below x.1.heap.size x.1 w') := ⟨fun x => specMoved f hf2 _ p x.1 (HV.out.below (HBr.out.trans (x.2.mono HBr.out.size))) HCL.out HMP.out⟩
   have HH : Aside0 (∀ x : Ext wr, Calls Tryz.prog 154 #[cx m (.slice A1 ys.length d1), .int .i64 (img f p : Nat)] x.1 fun e w' => e = .returned (.bool (simpAt ys p f)) ∧ Below x.1.heap.size x.1 w') := ⟨fun x => specHas m _ ys _ x.1 (HL.out.below (HBr.out.trans (x.2.mono HBr.out.size)))⟩
   have HS : Aside0 (simpAt ys p (xs.getD i 0) = simpAt ys p f) := ⟨by rw [HY.out]⟩
   have HALL : Aside0 (simpAt ys p (f : Int) = false → simpOk xs ys p = false) := ⟨fun h => all_false hlt HY.out h⟩
   generalize simpAt ys p (f : Int) = r at *
   generalize img f p = g at *
   cases r with
   | false =>
    go_wp2
    refine wp_region_ext (by kernel_rfl) (by kernel_rfl) ?_
    repeat (go_big_quiet_step ((first | (go_at_call 126; exact Calls.ext_of (HI.out _)) | (go_at_call 154; exact Calls.ext_of (HH.out _)))))
    refine wpQuiet_nil ?_
    rintro _ ⟨x, rfl⟩
    have hbx := x.2
    go_wp2
    go_ret
    exact ⟨by rw [HALL.out (by trivial)]; rfl, by have := HB.out; have := HBr.out; (repeat (first | (with_reducible exact Below.refl _ _) | (with_reducible assumption) | (with_reducible refine below_step ?_ (by assumption)) | (with_reducible apply below_alloc) | (with_reducible apply below_drewN)))⟩
   | true =>
    go_wp2
    refine wp_region_ext (by kernel_rfl) (by kernel_rfl) ?_
    repeat (go_big_quiet_step ((first | (go_at_call 126; exact Calls.ext_of (HI.out _)) | (go_at_call 154; exact Calls.ext_of (HH.out _)))))
    refine wpQuiet_nil ?_
    rintro _ ⟨x, rfl⟩
    have hbx := x.2
    go_wp2
    go_roundw
    case rel =>
     refine ⟨i + 1, by go_num, by omega, ⟨fun k hk => ?_⟩, by have := HBr.out; (repeat (first | (with_reducible exact Below.refl _ _) | (with_reducible assumption) | (with_reducible refine below_step ?_ (by assumption)) | (with_reducible apply below_alloc) | (with_reducible apply below_drewN)))⟩
     rcases Nat.lt_succ_iff_lt_or_eq.1 hk with h | rfl
     ·exact HU.out k h
     ·exact HS.out
    case measure => simp [intOf]; omega
  ·have HE : Aside0 (simpOk xs ys p = true) := ⟨all_true (fun k hk => HU.out k (by omega))⟩
   clear hb
   go_wp2
   go_ret
   exact ⟨by rw [HE.out]; rfl, by have := HB.out; have := HBr.out; (repeat (first | (with_reducible exact Below.refl _ _) | (with_reducible assumption) | (with_reducible refine below_step ?_ (by assumption)) | (with_reducible apply below_alloc) | (with_reducible apply below_drewN)))⟩
theorem specSimplicial (n m : Nat) (ku lu v : Value) (xs ys p : List Int) (w : World) (hk : ReadI w ku xs) (hl : ReadI w lu ys) (hv : ReadI w v p) (hck : Cx n xs) (hcl : Cx m ys) (hp : Mp n m p) :
  Calls Tryz.prog 157 #[cx n ku, cx m lu, v] w fun e w' => e = .returned (.bool (simpOk xs ys p)) ∧ Below w.heap.size w w' :=
 specSimplicialG n m ku lu v xs ys p w hk hl hv (fun x hx => hck.nat hx) (by rw [hp.len]; exact hck.hi) (hp.bd5 hcl.hi)
/-- the code for simplicial maps -/
def codeSimp (a b : Int) (xs ys : List Int) (fs : List (List Int)) (r : Bool) : Int :=
 if cxOk a xs && cxOk b ys then (if fs.all (mapOk a.toNat b.toNat) && r then (if fs.all (simpOk xs ys) then 0 else 5) else 2) else 1
theorem codeSimp_map {a b : Int} {xs ys : List Int} {fs : List (List Int)} {r : Bool} : codeMap a b xs ys fs r ≠ 0 → codeSimp a b xs ys fs r = codeMap a b xs ys fs r := by
 unfold codeSimp codeMap
 split
 ·split
  ·intro h; exact absurd rfl h
  ·intro _; rfl
 ·intro _; rfl
theorem codeMap_zero {a b : Int} {xs ys : List Int} {fs : List (List Int)} {r : Bool} (h : codeMap a b xs ys fs r = 0) : ∃ n m : Nat, a = n ∧ b = m ∧ Cx n xs ∧ Cx m ys ∧ (∀ f ∈ fs, Mp n m f) ∧ r = true ∧ codeSimp a b xs ys fs r = if fs.all (simpOk xs ys) then 0 else 5 := by
 unfold codeMap at h
 unfold codeSimp
 cases h1 : (cxOk a xs && cxOk b ys) with
 | false => rw [h1] at h; simp at h
 | true =>
  rw [h1] at h
  have hx := h1
  rw [Bool.and_eq_true] at hx
  obtain ⟨n, rfl, hcn, -⟩ := cxOk_cx hx.1
  obtain ⟨m, rfl, hcm, -⟩ := cxOk_cx hx.2
  cases h2 : (fs.all (mapOk (n : Int).toNat (m : Int).toNat) && r) with
  | false => rw [h2] at h; simp at h
  | true =>
   have h3 := h2
   rw [Bool.and_eq_true, List.all_eq_true] at h3
   exact ⟨n, m, rfl, rfl, hcn, hcm, fun f hf => mapOk_mp (h3.1 f hf), h3.2, rfl⟩
set_option maxHeartbeats 1000000 in
theorem simplicialCode1 (w : World) (bk bl : Nat) (n m : Nat) (ku lu : Value) (xs ys : List Int) (hk : ReadI w ku xs) (hl : ReadI w lu ys) (hn : Cx n xs) (hm : Cx m ys) (h0 : w.cell? ⟨bk, 0, none⟩ = some (.int .i64 n)) (h1 : w.cell? ⟨bk, 1, none⟩ = some ku) (h2 : w.cell? ⟨bl, 0, none⟩ = some (.int .i64 m)) (h3 : w.cell? ⟨bl, 1, none⟩ = some lu) :
  PredS w (.func (.func 270) #[] #[.pointer (some ⟨bk, 0, none⟩), .pointer (some ⟨bl, 0, none⟩)]) (simpOk xs ys) (Mp n m) := by
 refine ⟨_, _, _, rfl, Enters.mk' Tryz.func270 rfl rfl, fun w1 u f hb hx hp => ?_⟩
 have c0 := pw_cell_below hb h0
 have c1 := pw_cell_below hb h1
 have c2 := pw_cell_below hb h2
 have c3 := pw_cell_below hb h3
 have HC := Aside0.mk (isSimplicial n m ku lu u xs ys f w1 (hk.below hb) (hl.below hb) hx hn hm hp)
 obtain ⟨A1, d1, rfl, -⟩ := id hk
 obtain ⟨A2, d2, rfl, -⟩ := id hl
 clear hb h0 h1 h2 h3 hx hk hl hn hm hp
 show Calls _ _ #[_, _, _] _ _
 go_enter Tryz.func270, Tryz.ntmps270
 go_wp2_with (first | (go_at_call 151; refine HC.out.mono ?_; rintro e w' ⟨rfl, hb⟩))
 go_ret
 exact ⟨rfl, by (repeat (first | (with_reducible exact Below.refl _ _) | (with_reducible assumption) | (with_reducible refine below_step ?_ (by assumption)) | (with_reducible apply below_alloc) | (with_reducible apply below_drewN)))⟩
set_option maxHeartbeats 2000000 in
theorem simplicialCode (a b : Int) (ku lu : Value) (xs ys : List Int) (fv lv : Value) (r : Bool) (fs : List (List Int)) (w : World) (hk : ReadI w ku xs) (hl : ReadI w lu ys) (hf : cxOk a xs = true → cxOk b ys = true → ThunkB w fv r) (hfv : ∃ g first caps, fv = .func (.func g) first caps) (hs : ReadS w lv fs) :
  Calls Tryz.prog 118 #[cx a ku, cx b lu, fv, lv] w fun e w' => e = .returned (.int .i64 (codeSimp a b xs ys fs r)) ∧ Below w.heap.size w w' := by
 obtain ⟨w1, hw1⟩ : ∃ w1, w1 = (w.alloc (.cells #[.int .i64 a, ku] 26)).alloc (.cells #[.int .i64 b, lu] 26) := ⟨_, rfl⟩
 have hB : Below w.heap.size w w1 := by rw [hw1]; exact ((Below.refl _ w).alloc (Nat.le_refl _) _).alloc (by simp) _
 have c0 : w1.cell? ⟨w.heap.size, 0, none⟩ = some (.int .i64 a) := by rw [hw1]; simp
 have c1 : w1.cell? ⟨w.heap.size, 1, none⟩ = some ku := by rw [hw1]; simp
 have c2 : w1.cell? ⟨w.heap.size + 1, 0, none⟩ = some (.int .i64 b) := by rw [hw1]; simp
 have c3 : w1.cell? ⟨w.heap.size + 1, 1, none⟩ = some lu := by rw [hw1]; simp
 have HK := Aside0.mk (hk.below hB)
 have HL := Aside0.mk (hl.below hB)
 have HS := Aside0.mk (hs.below hB)
 have HB := Aside0.mk hB
 have HM := Aside0.mk (mapCode a b _ _ xs ys fv lv r fs w1 HK.out HL.out (fun x y => (hf x y).below hB) hfv HS.out)
 obtain ⟨A1, d1, rfl, -⟩ := id hk
 obtain ⟨A2, d2, rfl, -⟩ := id hl
 obtain ⟨A3, d3, rfl, -⟩ := id hs
 obtain ⟨g, first, caps, rfl⟩ := hfv
 clear hk hl hs hf hB
 by_cases h0 : codeMap a b xs ys fs r = 0
 ·obtain ⟨n, m, rfl, rfl, hcn, hcm, hmp, hr, hcs⟩ := codeMap_zero h0
  have HN := Aside0.mk hcn
  have HM2 := Aside0.mk hcm
  have HP := Aside0.mk hmp
  have HA := Aside0.mk hcs
  clear hcn hcm hmp hcs hr
  cases h3 : fs.all (simpOk xs ys) with
  | false =>
   rw [h3] at HA
   go_enter Tryz.func118, Tryz.ntmps118
   go_wp2_with (first | (rw [← hw1]; clear hw1; go_at_call 152; refine HM.out.mono ?_; rintro e w2 ⟨rfl, hb⟩; rw [h0]; have c0 := pw_cell_below hb c0; have c1 := pw_cell_below hb c1; have c2 := pw_cell_below hb c2; have c3 := pw_cell_below hb c3; have HB2 := Aside0.mk hb; clear hb; have HP1 := Aside0.mk (simplicialCode1 _ _ _ n m _ _ xs ys (HK.out.below HB2.out) (HL.out.below HB2.out) HN.out HM2.out c0 c1 c2 c3)) | (go_at_call 269; refine (areAllS _ _ _ _ _ _ (HS.out.below HB2.out) HP1.out HP.out).mono ?_; rintro e w3 ⟨rfl, hb3⟩; rw [h3]))
   go_ret
   exact ⟨by rw [HA.out]; rfl, by have := HB.out; have := HB2.out; (repeat (first | (with_reducible exact Below.refl _ _) | (with_reducible assumption) | (with_reducible refine below_step ?_ (by assumption)) | (with_reducible apply below_alloc) | (with_reducible apply below_drewN)))⟩
  | true =>
   rw [h3] at HA
   go_enter Tryz.func118, Tryz.ntmps118
   go_wp2_with (first | (rw [← hw1]; clear hw1; go_at_call 152; refine HM.out.mono ?_; rintro e w2 ⟨rfl, hb⟩; rw [h0]; have c0 := pw_cell_below hb c0; have c1 := pw_cell_below hb c1; have c2 := pw_cell_below hb c2; have c3 := pw_cell_below hb c3; have HB2 := Aside0.mk hb; clear hb; have HP1 := Aside0.mk (simplicialCode1 _ _ _ n m _ _ xs ys (HK.out.below HB2.out) (HL.out.below HB2.out) HN.out HM2.out c0 c1 c2 c3)) | (go_at_call 269; refine (areAllS _ _ _ _ _ _ (HS.out.below HB2.out) HP1.out HP.out).mono ?_; rintro e w3 ⟨rfl, hb3⟩; rw [h3]))
   go_ret
   exact ⟨by rw [HA.out]; rfl, by have := HB.out; have := HB2.out; (repeat (first | (with_reducible exact Below.refl _ _) | (with_reducible assumption) | (with_reducible refine below_step ?_ (by assumption)) | (with_reducible apply below_alloc) | (with_reducible apply below_drewN)))⟩
 ·have HA := Aside0.mk (codeSimp_map h0)
  obtain ⟨q, hq⟩ : ∃ q, q = codeMap a b xs ys fs r := ⟨_, rfl⟩
  rw [← hq] at h0 HA
  have hqb : (q != 0) = true := by simpa using h0
  have HQ := Aside0.mk hq
  clear hq h0
  go_enter Tryz.func118, Tryz.ntmps118
  go_wp2_with (first | (rw [← hw1]; clear hw1; go_at_call 152; refine HM.out.mono ?_; rintro e w2 ⟨rfl, hb⟩; rw [← HQ.out]))
  go_ret
  exact ⟨by rw [HA.out]; rfl, by have := HB.out; (repeat (first | (with_reducible exact Below.refl _ _) | (with_reducible assumption) | (with_reducible refine below_step ?_ (by assumption)) | (with_reducible apply below_alloc) | (with_reducible apply below_drewN)))⟩
set_option maxHeartbeats 1000000 in
theorem specCode (a : Int) (ku : Value) (xs : List Int) (b : Int) (lu : Value) (ys : List Int) (v : Value) (f : List Int) (w : World) (hk : ReadI w ku xs) (hl : ReadI w lu ys) (hv : ReadI w v f) :
  Calls Tryz.prog 125 #[cx a ku, cx b lu, v] w fun e w' => e = .returned (.int .i64 (codeSimp a b xs ys [f] true)) ∧ Below w.heap.size w w' := by
 obtain ⟨w1, hw1⟩ : ∃ w1, w1 = (w.alloc (.cells #[.int .i64 a, ku] 26)).alloc (.cells #[.int .i64 b, lu] 26) := ⟨_, rfl⟩
 have hB : Below w.heap.size w w1 := by rw [hw1]; exact ((Below.refl _ w).alloc (Nat.le_refl _) _).alloc (by simp) _
 have c0 : w1.cell? ⟨w.heap.size, 0, none⟩ = some (.int .i64 a) := by rw [hw1]; simp
 have c1 : w1.cell? ⟨w.heap.size, 1, none⟩ = some ku := by rw [hw1]; simp
 have c2 : w1.cell? ⟨w.heap.size + 1, 0, none⟩ = some (.int .i64 b) := by rw [hw1]; simp
 have c3 : w1.cell? ⟨w.heap.size + 1, 1, none⟩ = some lu := by rw [hw1]; simp
 have HK := Aside0.mk (hk.below hB)
 have HL := Aside0.mk (hl.below hB)
 have HV := Aside0.mk (hv.below hB)
 have HB := Aside0.mk hB
 obtain ⟨A1, d1, rfl, -⟩ := id hk
 obtain ⟨A2, d2, rfl, -⟩ := id hl
 obtain ⟨A3, d3, rfl, -⟩ := id hv
 clear hk hl hv hB
 cases h1 : cxOk a xs with
 | false =>
  have HA : Aside0 (codeSimp a b xs ys [f] true = 1) := ⟨by unfold codeSimp; rw [h1]; rfl⟩
  go_enter Tryz.func125, Tryz.ntmps125
  go_wp2_with (first | (rw [← hw1]; clear hw1; go_at_call 155; refine (specIs _ _ xs _ HK.out).mono ?_; rintro e w2 ⟨rfl, hb⟩; rw [h1]))
  go_ret
  exact ⟨by rw [HA.out]; rfl, by have := HB.out; (repeat (first | (with_reducible exact Below.refl _ _) | (with_reducible assumption) | (with_reducible refine below_step ?_ (by assumption)) | (with_reducible apply below_alloc) | (with_reducible apply below_drewN)))⟩
 | true =>
  obtain ⟨n, rfl, hcn, -⟩ := cxOk_cx h1
  cases h2 : cxOk b ys with
  | false =>
   have HA : Aside0 (codeSimp n b xs ys [f] true = 1) := ⟨by unfold codeSimp; rw [h1, h2]; rfl⟩
   go_enter Tryz.func125, Tryz.ntmps125
   go_wp2_with (first | (rw [← hw1]; clear hw1; go_at_call 155; refine (specIs _ _ xs _ HK.out).mono ?_; rintro e w2 ⟨rfl, hb⟩; rw [h1]; have c2 := pw_cell_below hb c2; have c3 := pw_cell_below hb c3) | (go_at_call 155; refine (specIs _ _ ys _ (HL.out.below ?hx)).mono ?_; (case hx => (repeat (first | (with_reducible exact Below.refl _ _) | (with_reducible assumption) | (with_reducible refine below_step ?_ (by assumption)) | (with_reducible apply below_alloc) | (with_reducible apply below_drewN)))); rintro e w2 ⟨rfl, hb⟩; rw [h2]))
   go_ret
   exact ⟨by rw [HA.out]; rfl, by have := HB.out; (repeat (first | (with_reducible exact Below.refl _ _) | (with_reducible assumption) | (with_reducible refine below_step ?_ (by assumption)) | (with_reducible apply below_alloc) | (with_reducible apply below_drewN)))⟩
  | true =>
   obtain ⟨m, rfl, hcm, -⟩ := cxOk_cx h2
   have hn := hcn.hi
   have hm := hcm.hi
   cases h3 : mapOk n m f with
   | false =>
    have HA : Aside0 (codeSimp n m xs ys [f] true = 2) := ⟨by unfold codeSimp; simp [h1, h2, h3]⟩
    clear hcn hcm
    go_enter Tryz.func125, Tryz.ntmps125
    go_wp2_with (first | (rw [← hw1]; clear hw1; go_at_call 155; refine (specIs _ _ xs _ HK.out).mono ?_; rintro e w2 ⟨rfl, hb⟩; rw [h1]; have c0 := pw_cell_below hb c0; have c1 := pw_cell_below hb c1; have c2 := pw_cell_below hb c2; have c3 := pw_cell_below hb c3; have HB2 := Aside0.mk hb; clear hb) | (go_at_call 155; refine (specIs _ _ ys _ (HL.out.below HB2.out)).mono ?_; rintro e w3 ⟨rfl, hb⟩; rw [h2]; have c0 := pw_cell_below hb c0; have c1 := pw_cell_below hb c1; have c2 := pw_cell_below hb c2; have c3 := pw_cell_below hb c3; have HB3 := Aside0.mk (HB2.out.trans (hb.mono HB2.out.size)); clear hb) | (go_at_call 156; refine (specMap n m hn hm _ _ _ f _ (HV.out.below HB3.out)).mono ?_; rintro e w4 ⟨rfl, hb4⟩; rw [h3]))
    go_ret
    exact ⟨by rw [HA.out]; rfl, by have := HB.out; have := HB3.out; (repeat (first | (with_reducible exact Below.refl _ _) | (with_reducible assumption) | (with_reducible refine below_step ?_ (by assumption)) | (with_reducible apply below_alloc) | (with_reducible apply below_drewN)))⟩
   | true =>
    have HN := Aside0.mk hcn
    have HM2 := Aside0.mk hcm
    have HP := Aside0.mk (mapOk_mp h3)
    clear hcn hcm
    cases h4 : simpOk xs ys f with
    | false =>
     have HA : Aside0 (codeSimp n m xs ys [f] true = 5) := ⟨by unfold codeSimp; simp [h1, h2, h3, h4]⟩
     go_enter Tryz.func125, Tryz.ntmps125
     go_wp2_with (first | (rw [← hw1]; clear hw1; go_at_call 155; refine (specIs _ _ xs _ HK.out).mono ?_; rintro e w2 ⟨rfl, hb⟩; rw [h1]; have c0 := pw_cell_below hb c0; have c1 := pw_cell_below hb c1; have c2 := pw_cell_below hb c2; have c3 := pw_cell_below hb c3; have HB2 := Aside0.mk hb; clear hb) | (go_at_call 155; refine (specIs _ _ ys _ (HL.out.below HB2.out)).mono ?_; rintro e w3 ⟨rfl, hb⟩; rw [h2]; have c0 := pw_cell_below hb c0; have c1 := pw_cell_below hb c1; have c2 := pw_cell_below hb c2; have c3 := pw_cell_below hb c3; have HB3 := Aside0.mk (HB2.out.trans (hb.mono HB2.out.size)); clear hb) | (go_at_call 156; refine (specMap n m hn hm _ _ _ f _ (HV.out.below HB3.out)).mono ?_; rintro e w4 ⟨rfl, hb⟩; rw [h3]; have c0 := pw_cell_below hb c0; have c1 := pw_cell_below hb c1; have c2 := pw_cell_below hb c2; have c3 := pw_cell_below hb c3; have HB4 := Aside0.mk (HB3.out.trans (hb.mono HB3.out.size)); clear hb) | (go_at_call 157; refine (specSimplicial n m _ _ _ xs ys f _ (HK.out.below HB4.out) (HL.out.below HB4.out) (HV.out.below HB4.out) HN.out HM2.out HP.out).mono ?_; rintro e w5 ⟨rfl, hb5⟩; rw [h4]))
     go_ret
     exact ⟨by rw [HA.out]; rfl, by have := HB.out; have := HB4.out; (repeat (first | (with_reducible exact Below.refl _ _) | (with_reducible assumption) | (with_reducible refine below_step ?_ (by assumption)) | (with_reducible apply below_alloc) | (with_reducible apply below_drewN)))⟩
    | true =>
     have HA : Aside0 (codeSimp n m xs ys [f] true = 0) := ⟨by unfold codeSimp; simp [h1, h2, h3, h4]⟩
     go_enter Tryz.func125, Tryz.ntmps125
     go_wp2_with (first | (rw [← hw1]; clear hw1; go_at_call 155; refine (specIs _ _ xs _ HK.out).mono ?_; rintro e w2 ⟨rfl, hb⟩; rw [h1]; have c0 := pw_cell_below hb c0; have c1 := pw_cell_below hb c1; have c2 := pw_cell_below hb c2; have c3 := pw_cell_below hb c3; have HB2 := Aside0.mk hb; clear hb) | (go_at_call 155; refine (specIs _ _ ys _ (HL.out.below HB2.out)).mono ?_; rintro e w3 ⟨rfl, hb⟩; rw [h2]; have c0 := pw_cell_below hb c0; have c1 := pw_cell_below hb c1; have c2 := pw_cell_below hb c2; have c3 := pw_cell_below hb c3; have HB3 := Aside0.mk (HB2.out.trans (hb.mono HB2.out.size)); clear hb) | (go_at_call 156; refine (specMap n m hn hm _ _ _ f _ (HV.out.below HB3.out)).mono ?_; rintro e w4 ⟨rfl, hb⟩; rw [h3]; have c0 := pw_cell_below hb c0; have c1 := pw_cell_below hb c1; have c2 := pw_cell_below hb c2; have c3 := pw_cell_below hb c3; have HB4 := Aside0.mk (HB3.out.trans (hb.mono HB3.out.size)); clear hb) | (go_at_call 157; refine (specSimplicial n m _ _ _ xs ys f _ (HK.out.below HB4.out) (HL.out.below HB4.out) (HV.out.below HB4.out) HN.out HM2.out HP.out).mono ?_; rintro e w5 ⟨rfl, hb5⟩; rw [h4]))
     go_ret
     exact ⟨by rw [HA.out]; rfl, by have := HB.out; have := HB4.out; (repeat (first | (with_reducible exact Below.refl _ _) | (with_reducible assumption) | (with_reducible refine below_step ?_ (by assumption)) | (with_reducible apply below_alloc) | (with_reducible apply below_drewN)))⟩
theorem ReadS.one' {W : World} {u : Value} {p : List Int} (h : ReadI W u p) : ReadS (W.alloc (.cells #[u] 24)) (.slice (some ⟨W.heap.size, 0, none⟩) 1 1) [p] := by
 refine ⟨_, 1, rfl, by simp, fun i xs hi => ?_⟩
 cases i with
 | zero =>
  simp at hi
  subst hi
  exact ⟨_, u, rfl, by rw [add_mk]; exact blk_cell (blk_new W _) 0, h.below (Below.alloc (Below.refl _ _) (Nat.le_refl _) _)⟩
 | succ i => simp at hi
/-- two ascending lists of the same numbers -/
theorem asc_ext : ∀ {l l' : List Int}, l.Pairwise (· < ·) → l'.Pairwise (· < ·) → (∀ x, x ∈ l ↔ x ∈ l') → l = l'
 | [], [], _, _, _ => rfl
 | [], b :: l', _, _, h => by have := (h b).2 List.mem_cons_self; cases this
 | a :: l, [], _, _, h => by have := (h a).1 List.mem_cons_self; cases this
 | a :: l, b :: l', h1, h2, h => by
  rw [List.pairwise_cons] at h1 h2
  have hab : a = b := by
   have e1 := (h a).1 List.mem_cons_self
   have e2 := (h b).2 List.mem_cons_self
   rcases List.mem_cons.1 e1 with e1 | e1
   ·exact e1
   ·rcases List.mem_cons.1 e2 with e2 | e2
    ·exact e2.symm
    ·have := h2.1 a e1; have := h1.1 b e2; omega
  subst hab
  rw [asc_ext h1.2 h2.2 (fun x => ?_)]
  constructor
  ·intro hx
   have h3 := h1.1 x hx
   rcases List.mem_cons.1 ((h x).1 (List.mem_cons_of_mem _ hx)) with e | e
   ·omega
   ·exact e
  ·intro hx
   have h3 := h2.1 x hx
   rcases List.mem_cons.1 ((h x).2 (List.mem_cons_of_mem _ hx)) with e | e
   ·omega
   ·exact e
theorem thL_mem {p : Int → Bool} {k : Nat} {x : Int} : x ∈ thL p k ↔ ∃ q : Nat, x = q ∧ 1 ≤ q ∧ q < k ∧ p q = true := by
 unfold thL
 rw [List.mem_filterMap]
 constructor
 ·rintro ⟨q, hq, h⟩
  rw [List.mem_range] at hq
  split at h
  ·next h1 =>
   simp only [Bool.and_eq_true, decide_eq_true_eq] at h1
   exact ⟨q, by cases h; rfl, h1.1, hq, h1.2⟩
  ·cases h
 ·rintro ⟨q, rfl, h1, h2, h3⟩
  exact ⟨q, List.mem_range.2 h2, by simp [h1, h3]⟩
theorem thL_asc (p : Int → Bool) (k : Nat) : (thL p k).Pairwise (· < ·) := by
 induction k with
 | zero => simp [thL]
 | succ k ih =>
  cases hp : p k with
  | false => rw [thL_miss hp]; exact ih
  | true =>
   by_cases h1 : 1 ≤ k
   ·rw [thL_hit h1 hp, List.pairwise_append]
    refine ⟨ih, by simp, fun x hx y hy => ?_⟩
    obtain ⟨q, rfl, _, hq, _⟩ := thL_mem.1 hx
    simp at hy
    omega
   ·obtain rfl : k = 0 := by omega
    rw [thL_one]
    exact List.Pairwise.nil
theorem thL_filter {n : Nat} {xs : List Int} (hc : Cx n xs) (p : Int → Bool) : thL (fun f => decide (f ∈ xs) && p f) (2 ^ n) = xs.filter p := by
 refine asc_ext (thL_asc _ _) (hc.asc.sublist List.filter_sublist) (fun x => ?_)
 rw [thL_mem, List.mem_filter]
 constructor
 ·rintro ⟨q, rfl, _, _, h⟩
  simpa using h
 ·rintro ⟨hx, hp⟩
  have hb := hc.bd x hx
  have := pw6 hc.hi
  refine ⟨x.toNat, by omega, by omega, by omega, ?_⟩
  have e : ((x.toNat : Nat) : Int) = x := by omega
  rw [e]
  simp [hx, hp]
set_option maxHeartbeats 1000000 in
theorem part1 (w : World) (bk bi : Nat) (n : Nat) (ku : Value) (xs : List Int) (fv : Value) (p : Int → Bool) (hk : ReadI w ku xs) (hc : Cx n xs) (hp : PredI w fv p (fun f => f ∈ xs)) (h0 : w.cell? ⟨bk, 0, none⟩ = some (.int .i64 n)) (h1 : w.cell? ⟨bk, 1, none⟩ = some ku) (h2 : w.cell? ⟨bi, 0, none⟩ = some fv) :
  PredI w (.func (.func 274) #[] #[.pointer (some ⟨bk, 0, none⟩), .pointer (some ⟨bi, 0, none⟩)]) (fun f => decide (f ∈ xs) && p f) (fun f => 1 ≤ f ∧ f < ((2 ^ n : Nat) : Int)) := by
 refine ⟨_, _, _, rfl, Enters.mk' Tryz.func274 rfl rfl, fun w1 x hb hx => ?_⟩
 obtain ⟨g, first, caps, rfl, hent, hp⟩ := hp
 unfold Enters at hent
 have c0 := pw_cell_below hb h0
 have c1 := pw_cell_below hb h1
 have c2 := pw_cell_below hb h2
 have HK := Aside0.mk (hk.below hb)
 have HC := Aside0.mk hc
 have HB := Aside0.mk hb
 have HP := Aside0.mk hp
 obtain ⟨A1, d1, rfl, -⟩ := id hk
 have hlen := hc.len
 clear hb h0 h1 h2 hx hk hc hp
 show Calls _ _ #[_, _, _] _ _
 by_cases hm : x ∈ xs
 ·have hmd : decide (x ∈ xs) = true := decide_eq_true hm
  have HM := Aside0.mk hm
  clear hm
  go_enter Tryz.func274, Tryz.ntmps274
  go_wp2_with (first | (go_at_call 129; refine (has n _ xs x _ HK.out HC.out.asc (by omega)).mono ?_; rintro e w2 ⟨rfl, hb2⟩; rw [hmd]; have c2 := pw_cell_below hb2 c2; have HB2 := Aside0.mk hb2; clear hb2) | (refine (HP.out _ _ (HB.out.trans (HB2.out.mono HB.out.size)) HM.out).mono ?_; rintro e w3 ⟨rfl, hb3⟩))
  go_ret
  exact ⟨by rw [hmd]; rfl, by have := HB2.out; (repeat (first | (with_reducible exact Below.refl _ _) | (with_reducible assumption) | (with_reducible refine below_step ?_ (by assumption)) | (with_reducible apply below_alloc) | (with_reducible apply below_drewN)))⟩
 ·have hmd : decide (x ∈ xs) = false := decide_eq_false hm
  clear hm
  go_enter Tryz.func274, Tryz.ntmps274
  go_wp2_with (first | (go_at_call 129; refine (has n _ xs x _ HK.out HC.out.asc (by omega)).mono ?_; rintro e w2 ⟨rfl, hb2⟩; rw [hmd]; have c2 := pw_cell_below hb2 c2; have HB2 := Aside0.mk hb2; clear hb2))
  go_ret
  exact ⟨by rw [hmd]; rfl, by have := HB2.out; (repeat (first | (with_reducible exact Below.refl _ _) | (with_reducible assumption) | (with_reducible refine below_step ?_ (by assumption)) | (with_reducible apply below_alloc) | (with_reducible apply below_drewN)))⟩
set_option maxHeartbeats 1000000 in
theorem part (n : Nat) (ku : Value) (xs : List Int) (fv : Value) (p : Int → Bool) (w : World) (hk : ReadI w ku xs) (hc : Cx n xs) (hp : PredI w fv p (fun f => f ∈ xs)) :
  Calls Tryz.prog 132 #[cx n ku, fv] w fun e w' => ∃ u, e = .returned (.agg #[.int .i64 n, u]) ∧ OwnI w.heap.size w' u (xs.filter p) ∧ Below w.heap.size w w' := by
 obtain ⟨wa, hwa⟩ : ∃ wa, wa = (w.alloc (.cells #[.int .i64 n, ku] 26)).alloc (.cells #[fv] 104) := ⟨_, rfl⟩
 obtain ⟨w0, hw0⟩ : ∃ w0, w0 = wa.alloc (.cells #[.int .i64 0, .slice none 0 0] 26) := ⟨_, rfl⟩
 have hsa : wa.heap.size = w.heap.size + 1 + 1 := by rw [hwa]; simp
 have hBa : Below w.heap.size w wa := by rw [hwa]; exact ((Below.refl _ w).alloc (Nat.le_refl _) _).alloc (by simp) _
 have hB0 : Below wa.heap.size wa w0 := by rw [hw0]; exact Below.alloc (Below.refl _ _) (Nat.le_refl _) _
 have hs0 : w0.heap.size = w.heap.size + 1 + 1 + 1 := by rw [hw0]; simp [hsa]
 have hB : Below w.heap.size w w0 := hBa.trans (hB0.mono hBa.size)
 have c0 : w0.cell? ⟨w.heap.size, 0, none⟩ = some (.int .i64 n) := pw_cell_below hB0 (by rw [hwa]; simp)
 have c1 : w0.cell? ⟨w.heap.size, 1, none⟩ = some ku := pw_cell_below hB0 (by rw [hwa]; simp)
 have c2 : w0.cell? ⟨w.heap.size + 1, 0, none⟩ = some fv := pw_cell_below hB0 (by rw [hwa]; simp)
 have hb : w0.heap[w.heap.size + 1 + 1]? = some (.cells #[.int .i64 0, .slice none 0 0] 26) := by rw [hw0, ← hsa]; exact blk_new _ _
 have HP := Aside0.mk (part1 w0 _ _ n ku xs fv p (hk.below hB) hc (hp.below hB) c0 c1 c2)
 have HF := Aside0.mk (thL_filter hc p)
 have HB := Aside0.mk hB
 have HK := Aside0.mk hb
 have HS := Aside0.mk hs0
 have hn := hc.hi
 obtain ⟨A1, d1, rfl, -⟩ := id hk
 obtain ⟨g, first, caps, rfl, -⟩ := id hp
 have c0a : wa.cell? ⟨w.heap.size, 0, none⟩ = some (.int .i64 n) := by rw [hwa]; simp
 clear hk hp hc hB hBa hB0 hsa hs0 hb
 subst hwa
 go_enter Tryz.func132, Tryz.ntmps132
 go_wp2_with (first | (go_at_call 120; rw [← hw0]; clear hw0 c0a; refine (those n hn _ _ _ HP.out).mono ?_; rintro e w2 ⟨u, rfl, ho, hb2⟩; obtain ⟨A2, d2, rfl, -⟩ := ho.read; have HO := Aside0.mk ho; have HB2 := Aside0.mk hb2; have HK2 := Aside0.mk (blk_below HK.out hb2); have c60 : w2.cell? ⟨w.heap.size + 1 + 1, 0, none⟩ = some (.int .i64 0) := blk_cell HK2.out 0; have c61 : w2.cell? ⟨w.heap.size + 1 + 1, 1, none⟩ = some (.slice none 0 0) := blk_cell HK2.out 1; have f60 : w2.frozen? ⟨w.heap.size + 1 + 1, 0, none⟩ = false := blk_frozen HK2.out 0; have f61 : w2.frozen? ⟨w.heap.size + 1 + 1, 1, none⟩ = false := blk_frozen HK2.out 1; clear ho hb2))
 refine bodyPost_ret (results_cell_row rfl _ _ (w.heap.size + 1 + 1) 26 #[.int .i64 n, .slice A2 (thL (fun f => decide (f ∈ xs) && p f) (2 ^ n)).length d2] (0, 0) _ rfl (by refine blk_put (cs := #[.int .i64 n, .slice none 0 0]) ?_ 1 _ rfl; refine blk_put (cs := #[.int .i64 0, .slice none 0 0]) ?_ 0 _ rfl; exact HK2.out) Tryz.underlying26 rfl (by kernel_rfl)) rfl ?_
 have hb := HB.out.trans (HB2.out.mono HB.out.size)
 refine ⟨_, rfl, ?_, (hb.setCell (by simp; omega) _).setCell (by simp; omega) _⟩
 have hs := HS.out
 have hbs := HO.out.base
 have ho := HO.out.lower (b' := w.heap.size) (by omega)
 rw [HF.out] at ho hbs ⊢
 exact (ho.grown (set_grown' _ (w.heap.size + 1 + 1) _ _) (fun j hj e => by have := hbs _ hj; cases e; omega)).grown (set_grown' _ (w.heap.size + 1 + 1) _ _) (fun j hj e => by have := hbs _ hj; cases e; omega)
theorem filter_take {xs : List Int} {i : Nat} {y : Int} (p : Int → Bool) (h : i < xs.length) (hy : xs.getD i 0 = y) : (xs.take (i + 1)).filter p = if p y then (xs.take i).filter p ++ [y] else (xs.take i).filter p := by
 rw [take_get h hy, List.filter_append]
 cases hp : p y <;> simp [hp]
theorem codeSimp_zero' {a b : Int} {xs ys : List Int} {fs : List (List Int)} {r : Bool} (h : codeSimp a b xs ys fs r = 0) : ∃ n m : Nat, a = n ∧ b = m ∧ Cx n xs ∧ Cx m ys ∧ (∀ f ∈ fs, Mp n m f) ∧ (∀ f ∈ fs, simpOk xs ys f = true) ∧ r = true := by
 by_cases h0 : codeMap a b xs ys fs r = 0
 ·obtain ⟨n, m, rfl, rfl, h1, h2, h3, h4, h5⟩ := codeMap_zero h0
  refine ⟨n, m, rfl, rfl, h1, h2, h3, ?_, h4⟩
  rw [h5] at h
  split at h
  ·next h6 => exact List.all_eq_true.1 h6
  ·cases h
 ·rw [codeSimp_map h0] at h
  exact absurd h h0
theorem field_faces (a : Int) (A : Option Addr) (l c : Nat) (w : World) : (Instr.field 26 (.agg #[.int .i64 a, .slice A l c]) 1).run Tryz.prog w = .ok (.slice A l c) w := by kernel_rfl
theorem cx_dom {n m : Nat} {xs f : List Int} (hc : Cx n xs) (hf : Mp n m f) {x : Int} (hx : x ∈ xs) : ∃ z : Nat, x = z ∧ z < 2 ^ f.length ∧ z ≤ 63 := by
 obtain ⟨z, rfl, _, h2⟩ := hc.lt hx
 exact ⟨z, rfl, by rw [hf.len]; exact h2, by have := pw6 hc.hi; omega⟩
def opAt (f : List Int) (g : Int) (x : Int) : Bool := ((img x.toNat f : Nat) : Int) == g
set_option maxRecDepth 100000 in
set_option maxHeartbeats 1000000 in
theorem openFibre1 (w : World) (bf bg : Nat) (n m : Nat) (u : Value) (xs f : List Int) (g : Int) (hu : ReadI w u f) (hc : Cx n xs) (hm : m ≤ 6) (hf : Mp n m f) (h0 : w.cell? ⟨bf, 0, none⟩ = some u) (h1 : w.cell? ⟨bg, 0, none⟩ = some (.int .i64 g)) :
  PredI w (.func (.func 273) #[] #[.pointer (some ⟨bf, 0, none⟩), .pointer (some ⟨bg, 0, none⟩)]) (opAt f g) (fun x => x ∈ xs) := by
 refine ⟨_, _, _, rfl, Enters.mk' Tryz.func273 rfl rfl, fun w1 x hb hx => ?_⟩
 obtain ⟨z, rfl, hz, -⟩ := cx_dom hc hf hx
 have c0 := pw_cell_below hb h0
 have c1 := pw_cell_below hb h1
 have HU := Aside0.mk (hu.below hb)
 have hlf : f.length ≤ 6 := by rw [hf.len]; exact hc.hi
 obtain ⟨A1, d1, rfl, -⟩ := id hu
 have HI : Aside0 (∀ x : Ext w1, Calls Tryz.prog 124 #[.int .i64 z, .slice A1 f.length d1] x.1 fun e w' => e = .returned (.int .i64 (img z f : Nat)) ∧ Below x.1.heap.size x.1 w') := ⟨fun x => imageOf z _ f x.1 (HU.out.below x.2) hlf hz (hf.bd5 hm)⟩
 have x0 : ∀ x : Ext w1, x.1.cell? ⟨bf, 0, none⟩ = some (.slice A1 f.length d1) := fun x => Ext.cell c0 x
 have x1 : ∀ x : Ext w1, x.1.cell? ⟨bg, 0, none⟩ = some (.int .i64 g) := fun x => Ext.cell c1 x
 have HO : Aside0 (opAt f g (z : Int) = (((img z f : Nat) : Int) == g)) := ⟨rfl⟩
 clear hb h0 h1 hx hu hc hf hz hlf HU c0 c1
 generalize img z f = t at *
 show Calls _ _ #[_, _, _] _ _
 go_enter Tryz.func273, Tryz.ntmps273
 go_wp2
 refine wp_region_ext (by kernel_rfl) (by kernel_rfl) ?_
 repeat (go_big_quiet_step ((first | (go_at_call 124; exact Calls.ext_of (HI.out _)))))
 refine wpQuiet_nil ?_
 rintro _ ⟨x, rfl⟩
 have hbx := x.2
 go_wp2
 go_ret
 exact ⟨by rw [HO.out]; rfl, by (repeat (first | (with_reducible exact Below.refl _ _) | (with_reducible assumption) | (with_reducible refine below_step ?_ (by assumption)) | (with_reducible apply below_alloc) | (with_reducible apply below_drewN)))⟩
set_option maxRecDepth 100000 in
set_option maxHeartbeats 1000000 in
theorem openFibre (n m : Nat) (ku : Value) (xs : List Int) (v : Value) (f : List Int) (g : Int) (w : World) (hk : ReadI w ku xs) (hv : ReadI w v f) (hc : Cx n xs) (hm : m ≤ 6) (hf : Mp n m f) :
  Calls Tryz.prog 130 #[cx n ku, v, .int .i64 g] w fun e w' => ∃ u, e = .returned u ∧ OwnI w.heap.size w' u (xs.filter (opAt f g)) ∧ Below w.heap.size w w' := by
 obtain ⟨w0, hw0⟩ : ∃ w0, w0 = (w.alloc (.cells #[.int .i64 n, ku] 26)).alloc (.cells #[v] 24) := ⟨_, rfl⟩
 obtain ⟨w1, hw1⟩ : ∃ w1, w1 = w0.alloc (.cells #[.int .i64 g] 2) := ⟨_, rfl⟩
 have hs0 : w0.heap.size = w.heap.size + 1 + 1 := by rw [hw0]; simp
 have hB0 : Below w.heap.size w w0 := by rw [hw0]; exact ((Below.refl _ w).alloc (Nat.le_refl _) _).alloc (by simp) _
 have hB1 : Below w0.heap.size w0 w1 := by rw [hw1]; exact Below.alloc (Below.refl _ _) (Nat.le_refl _) _
 have hB : Below w.heap.size w w1 := hB0.trans (hB1.mono hB0.size)
 have c0 : w1.cell? ⟨w.heap.size, 0, none⟩ = some (.int .i64 n) := pw_cell_below hB1 (by rw [hw0]; simp)
 have c1 : w1.cell? ⟨w.heap.size, 1, none⟩ = some ku := pw_cell_below hB1 (by rw [hw0]; simp)
 have c2 : w1.cell? ⟨w.heap.size + 1, 0, none⟩ = some v := pw_cell_below hB1 (by rw [hw0]; simp)
 have c3 : w1.cell? ⟨w.heap.size + 1 + 1, 0, none⟩ = some (.int .i64 g) := by rw [hw1, ← hs0]; simp
 have HK := Aside0.mk (hk.below hB)
 have HP := Aside0.mk (openFibre1 w1 _ _ n m v xs f g (hv.below hB) hc hm hf c2 c3)
 have HB := Aside0.mk hB
 have HN := Aside0.mk hc
 have hsz := hB.size
 have hfd := field_faces (n : Int)
 obtain ⟨A1, d1, rfl, -⟩ := id hk
 obtain ⟨A2, d2, rfl, -⟩ := id hv
 clear hk hv hc hf hB hB0 hB1 hs0
 subst hw0
 go_enter Tryz.func130, Tryz.ntmps130
 go_wp2_with (first | (go_at_call 132; rw [← hw1]; clear hw1; refine (part n _ xs _ _ _ HK.out HN.out HP.out).mono ?_; rintro e w4 ⟨u, rfl, ho, hb4⟩; have HO := Aside0.mk ho; obtain ⟨A4, d4, rfl, -⟩ := ho.read; clear ho))
 go_ret
 exact ⟨_, rfl, HO.out.lower hsz, by have := HB.out; (repeat (first | (with_reducible exact Below.refl _ _) | (with_reducible assumption) | (with_reducible refine below_step ?_ (by assumption)) | (with_reducible apply below_alloc) | (with_reducible apply below_drewN)))⟩
set_option maxRecDepth 100000 in
set_option maxHeartbeats 2000000 in
theorem specOpen (n m : Nat) (ku : Value) (xs : List Int) (v : Value) (f : List Int) (g : Int) (w : World) (hk : ReadI w ku xs) (hv : ReadI w v f) (hcn : Cx n xs) (hm : m ≤ 6) (hf : Mp n m f) :
  Calls Tryz.prog 144 #[cx n ku, v, .int .i64 g] w fun e w' => ∃ u, e = .returned u ∧ OwnI w.heap.size w' u (xs.filter (opAt f g)) ∧ Below w.heap.size w w' := by
 obtain ⟨w1, hw1⟩ : ∃ w1, w1 = w.alloc (.cells #[.int .i64 n, ku] 26) := ⟨_, rfl⟩
 have hB : Below w.heap.size w w1 := by rw [hw1]; exact (Below.refl _ w).alloc (Nat.le_refl _) _
 have hsz1 : w1.heap.size = w.heap.size + 1 := by rw [hw1]; simp
 have c0 : w1.cell? ⟨w.heap.size, 0, none⟩ = some (.int .i64 n) := by rw [hw1]; simp
 have c1 : w1.cell? ⟨w.heap.size, 1, none⟩ = some ku := by rw [hw1]; simp
 have hk1 := hk.below hB
 have HV := Aside0.mk (hv.below hB)
 have HB := Aside0.mk hB
 obtain ⟨A2, d2, rfl, -⟩ := id hv
 obtain ⟨A1, d1, rfl, hc, hr⟩ := hk1
 have HR := Aside0.mk hr
 have hlen := hr.2.1
 have HN := Aside0.mk hcn
 have HF := Aside0.mk hf
 have hl63 := hcn.len
 have HS1 := Aside0.mk hsz1
 clear hk hv hB hr hcn hf hsz1
 go_enter Tryz.func144, Tryz.ntmps144
 go_wp2
 rw [← hw1]
 clear hw1
 go_loopw [7, 8] (fun s7 s8 wr => ∃ i : Nat, s8 = .int .i64 i ∧ i ≤ xs.length ∧ Aside0 (OwnI w1.heap.size wr s7 ((xs.take i).filter (opAt f g))) ∧ Aside0 (Below w1.heap.size w1 wr)) (fun _ s8 _ => xs.length - (intOf s8).toNat)
 case atStart => exact ⟨0, rfl, Nat.zero_le _, ⟨by have := OwnI.empty (b := w1.heap.size) w1 (Nat.le_refl _); rw [HS1.out] at this ⊢; exact this⟩, ⟨Below.alloc (Below.refl _ _) (Nat.le_refl _) _⟩⟩
 case round =>
  obtain ⟨i, rfl, hi, HO, HBw⟩ := hrel
  have c0 := pw_cell_below HBw.out c0
  have c1 := pw_cell_below HBw.out c1
  by_cases hlt : i < xs.length
  ·obtain ⟨ad, y, rfl, hcell, HY⟩ := ReadI.get (Kd.C_below HR.out HBw.out) hlt
   obtain ⟨z, rfl, hz1, hz2⟩ := cx_dom HN.out HF.out (mem_at hlt HY.out)
   have HT := Aside0.mk (filter_take (opAt f g) hlt HY.out)
   have hlf : f.length ≤ 6 := by rw [HF.out.len]; exact HN.out.hi
   have HI := Aside0.mk (specMoved z hz2 _ f wr (HV.out.below HBw.out) hlf (HF.out.bd5 hm))
   have HFX : Aside0 (opAt f g (z : Int) = (((img z f : Nat) : Int) == g)) := ⟨rfl⟩
   have hll : ((xs.take i).filter (opAt f g)).length ≤ 63 := Nat.le_trans (List.length_filter_le _ _) (by rw [List.length_take]; omega)
   clear hz1 hlf
   obtain ⟨t, ht⟩ : ∃ t, t = img z f := ⟨_, rfl⟩
   rw [← ht] at HI HFX
   clear ht
   cases hfx : (((t : Nat) : Int) == g) with
   | true =>
    have HXX := Aside0.mk hfx
    go_wp2_with (first | (go_at_call 126; refine HI.out.mono ?_; rintro e w5 ⟨rfl, hb5⟩; have HO5 := Aside0.mk (OwnI.below HO.out hb5); have HB5 := Aside0.mk (HBw.out.trans (hb5.mono HBw.out.size)); have c0 := pw_cell_below hb5 c0; have c1 := pw_cell_below hb5 c1; have hcell := pw_cell_below hb5 hcell; clear hb5) | (at_builtin; refine app_own (w0 := w1) w1.heap.size rfl (.tmp 26) (.tmp 32) rfl _ ((xs.take i).filter (opAt f g)) z rfl rfl HO5.out HB5.out HB5.out.size ?hl ?_; (case hl => omega); intro v1 w6 ho hb hg hat; have HO1 := Aside0.mk ho; have HB1 := Aside0.mk hb; clear ho hb hg hat))
    go_roundw
    case rel => exact ⟨i + 1, by go_num, by omega, ⟨by rw [HT.out, HFX.out, HXX.out, if_pos rfl]; exact HO1.out⟩, HB1⟩
    case measure => simp [intOf]; omega
   | false =>
    have HXX := Aside0.mk hfx
    go_wp2_with (first | (go_at_call 126; refine HI.out.mono ?_; rintro e w5 ⟨rfl, hb5⟩; have HO5 := Aside0.mk (OwnI.below HO.out hb5); have HB5 := Aside0.mk (HBw.out.trans (hb5.mono HBw.out.size)); clear hb5))
    go_roundw
    case rel => exact ⟨i + 1, by go_num, by omega, ⟨by rw [HT.out, HFX.out, HXX.out, if_neg (by decide)]; exact HO5.out⟩, HB5⟩
    case measure => simp [intOf]; omega
  ·have e : i = xs.length := by omega
   have HE := Aside0.mk e
   clear e
   go_wp2
   go_ret
   exact ⟨_, rfl, by have := HO.out; rw [HE.out, List.take_length] at this; exact this.lower HB.out.size, HB.out.trans (HBw.out.mono HB.out.size)⟩
end Go.Proofs.YtomofijniefelaaGreat.H
