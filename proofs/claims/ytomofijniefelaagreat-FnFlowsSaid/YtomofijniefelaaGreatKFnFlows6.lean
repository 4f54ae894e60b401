/- Chains of the program: sums of bits. How many vertices a face has, of the program: math/bits.OnesCount64, size, dimension. Chains of the program: isChain, IsCycle. IsCycle of the program. Chains of the reference: sums, boundaries. IsCycle of the reference. Pairs of a complex. -/
import Derived.Test.YtomofijniefelaaGreatKFnFlows1
import Derived.Test.YtomofijniefelaaGreatKFnFlows2
import Derived.Test.YtomofijniefelaaGreatKFnFlows3
import Derived.Test.YtomofijniefelaaGreatKFnFlows4
import Derived.Test.YtomofijniefelaaGreatKFnFlows5

namespace Go.Proofs.YtomofijniefelaaGreat.H
open Go.RowKit Go.Proofs.YtomofijniefelaaGreatW.PrintWords Go.Proofs.YtomofijniefelaaGreatW.PrintLast
set_option linter.unusedVariables false
set_option linter.unusedSimpArgs false
theorem wrapU {n : Nat} (h : n < 18446744073709551616) : IntKind.u64.wrap (n : Int) = n := by
 show ((n : Int) % 18446744073709551616) = n
 omega
theorem ofInt_natU {a : Nat} (h : a < 18446744073709551616) : (BitVec.ofInt 64 (a : Int)).toNat = a := by
 rw [BitVec.ofInt_natCast, BitVec.toNat_ofNat]; exact Nat.mod_eq_of_lt h
theorem xor_u64 (a b : Nat) (ha : a < 18446744073709551616) (hb : b < 18446744073709551616) : bits .xor .u64 (a : Int) (b : Int) = ((a ^^^ b : Nat) : Int) := by
 have hx : a ^^^ b < 2 ^ 64 := Nat.xor_lt_two_pow ha hb
 show IntKind.u64.wrap ((BitVec.ofInt 64 (a : Int) ^^^ BitVec.ofInt 64 (b : Int)).toNat : Int) = _
 rw [BitVec.toNat_xor, ofInt_natU ha, ofInt_natU hb, wrapU (by omega)]
theorem and1_u64 (a : Nat) (ha : a < 18446744073709551616) : bits .and .u64 (a : Int) 1 = if a.testBit 0 then 1 else 0 := by
 show IntKind.u64.wrap ((BitVec.ofInt 64 (a : Int) &&& BitVec.ofInt 64 ((1 : Nat) : Int)).toNat : Int) = _
 rw [BitVec.toNat_and, ofInt_natU ha, ofInt_natU (by decide)]
 have h1 : a &&& 1 = a % 2 := Nat.and_one_is_mod a
 rw [h1, wrapU (by omega), Nat.testBit_zero]
 rcases Nat.mod_two_eq_zero_or_one a with h | h <;> rw [h] <;> rfl
theorem shr_bit (m k : Nat) (hm : m < 18446744073709551616) : bits .and .u64 ((m : Int) / 2 ^ k) 1 = if m.testBit k then 1 else 0 := by
 have e : ((m : Int) / 2 ^ k) = ((m / 2 ^ k : Nat) : Int) := by rw [Int.natCast_ediv, Int.natCast_pow]; rfl
 have hlt : m / 2 ^ k ≤ m := Nat.div_le_self _ _
 rw [e, and1_u64 _ (by omega)]
 have h2 : (m / 2 ^ k).testBit 0 = m.testBit k := by rw [Nat.testBit_div_two_pow]; simp
 rw [h2]
set_option maxRecDepth 100000 in
theorem powu : ∀ f, f < 64 → IntKind.u64.wrap ((2 : Int) ^ f) = ((2 ^ f : Nat) : Int) := by decide +kernel
theorem bits_snoc (l : List Int) (x : Int) : bitsI (l ++ [x]) = bitsI l ^^^ 2 ^ x.toNat := by unfold bitsI; rw [List.foldl_append]; rfl
theorem bitsI_lt {l : List Int} (h : ∀ x ∈ l, 0 ≤ x ∧ x ≤ 63) : bitsI l < 18446744073709551616 := bits_lt l h 0 (by decide)
set_option maxRecDepth 100000 in
set_option maxHeartbeats 2000000 in
theorem chainOf (v : Value) (l : List Int) (w : World) (hv : ReadI w v l) (hb : ∀ x ∈ l, 0 ≤ x ∧ x ≤ 63) :
  Calls Tryz.prog 166 #[v] w fun e w' => e = .returned (.int .u64 (bitsI l : Nat)) ∧ Below w.heap.size w w' := by
 have hlen := hv.len
 obtain ⟨A1, d1, rfl, hcc, hr⟩ := hv
 have HR := Aside0.mk hr
 have HB := Aside0.mk hb
 clear hr hcc hb
 go_enter Tryz.func166, Tryz.ntmps166
 go_wp2
 go_loopw [3, 8] (fun s3 s8 wr => ∃ i : Nat, s8 = .int .i64 i ∧ i ≤ l.length ∧ s3 = .int .u64 (bitsI (l.take i) : Nat) ∧ wr = w) (fun _ s8 _ => l.length - (intOf s8).toNat)
 case atStart => exact ⟨0, rfl, Nat.zero_le _, rfl, rfl⟩
 case round =>
  obtain ⟨i, rfl, hi, rfl, rfl⟩ := hrel
  by_cases hlt : i < l.length
  ·obtain ⟨ad, y, rfl, hcell, HY⟩ := ReadI.get HR.out hlt
   have hy := HB.out y (mem_at hlt HY.out)
   obtain ⟨p, rfl⟩ : ∃ p : Nat, y = p := ⟨y.toNat, by omega⟩
   have hsh := powu p (by omega)
   have hpp : 2 ^ p < 18446744073709551616 := Nat.pow_lt_pow_right (a := 2) (by decide) (show p < 64 by omega)
   have hS := bitsI_lt (l := l.take i) (fun x hx => HB.out x (List.mem_of_mem_take hx))
   have HT : Aside0 (bitsI (l.take (i + 1)) = bitsI (l.take i) ^^^ 2 ^ p) := ⟨by rw [take_get hlt HY.out, bits_snoc, Int.toNat_natCast]⟩
   obtain ⟨S, hSe⟩ : ∃ S, S = bitsI (l.take i) := ⟨_, rfl⟩
   rw [← hSe] at hS HT ⊢
   obtain ⟨P, hP⟩ : ∃ P, P = 2 ^ p := ⟨_, rfl⟩
   rw [← hP] at hsh hpp HT
   have hxor := xor_u64 S P hS hpp
   clear hSe hP
   go_wp2
   go_roundw
   case rel => exact ⟨i + 1, by go_num, by omega, by rw [HT.out], trivial⟩
   case measure => simp [intOf]; omega
  ·have e : i = l.length := by omega
   go_wp2
   go_ret
   exact ⟨by rw [e, List.take_length]; rfl, Below.refl _ _⟩
/-- the bits below k -/
def listB (m k : Nat) : List Int := ((List.range k).filter fun v => m.testBit v).map fun (v : Nat) => (v : Int)
theorem listB_hit {m k : Nat} (h : m.testBit k = true) : listB m (k + 1) = listB m k ++ [(k : Int)] := by
 unfold listB; rw [List.range_succ, List.filter_append, List.map_append]; simp [h]
theorem listB_miss {m k : Nat} (h : m.testBit k = false) : listB m (k + 1) = listB m k := by
 unfold listB; rw [List.range_succ, List.filter_append, List.map_append]; simp [h]
theorem listB_len (m k : Nat) : (listB m k).length ≤ k := by
 unfold listB; rw [List.length_map]; exact Nat.le_trans (List.length_filter_le _ _) (by simp)
theorem listB_mem {m k : Nat} {x : Int} : x ∈ listB m k ↔ ∃ v : Nat, x = v ∧ v < k ∧ m.testBit v = true := by
 unfold listB
 rw [List.mem_map]
 constructor
 ·rintro ⟨v, hv, rfl⟩
  rw [List.mem_filter, List.mem_range] at hv
  exact ⟨v, rfl, hv.1, hv.2⟩
 ·rintro ⟨v, rfl, h1, h2⟩
  exact ⟨v, List.mem_filter.2 ⟨List.mem_range.2 h1, h2⟩, rfl⟩
theorem listB_asc (m k : Nat) : (listB m k).Pairwise (· < ·) := by
 unfold listB
 rw [List.pairwise_map]
 exact List.Pairwise.sublist List.filter_sublist (List.Pairwise.imp (fun h => by omega) List.pairwise_lt_range)
theorem listB_all {m k : Nat} (hk : k ≤ 64) (h : m < 2 ^ k) : listB m k = listI m := by
 refine asc_ext (listB_asc _ _) (listI_asc _) (fun x => ?_)
 rw [listB_mem, listI_mem]
 constructor
 ·rintro ⟨v, rfl, h1, h2⟩; exact ⟨v, rfl, by omega, h2⟩
 ·rintro ⟨v, rfl, h1, h2⟩
  refine ⟨v, rfl, ?_, h2⟩
  rcases Nat.lt_or_ge v k with h3 | h3
  ·exact h3
  ·have := Nat.testBit_lt_two_pow (Nat.lt_of_lt_of_le h (Nat.pow_le_pow_right (by decide) h3))
   rw [this] at h2; cases h2
theorem shr_zero {m k : Nat} : ((m : Int) / 2 ^ k = 0) ↔ m < 2 ^ k := by
 have e : ((m : Int) / 2 ^ k) = ((m / 2 ^ k : Nat) : Int) := by rw [Int.natCast_ediv, Int.natCast_pow]; rfl
 rw [e]
 have hp := Nat.two_pow_pos k
 constructor
 ·intro h
  have h0 : m / 2 ^ k = 0 := by omega
  rcases Nat.div_eq_zero_iff.1 h0 with h1 | h1
  ·omega
  ·exact h1
 ·intro h
  rw [Nat.div_eq_of_lt h]; rfl
set_option maxRecDepth 100000 in
set_option maxHeartbeats 2000000 in
theorem chainList (m : Nat) (hm : m < 18446744073709551616) (h0 : m.testBit 0 = false) (w : World) :
  Calls Tryz.prog 167 #[.int .u64 m] w fun e w' => ∃ u, e = .returned u ∧ OwnI w.heap.size w' u (listI m) ∧ Below w.heap.size w w' := by
 have HZ := Aside0.mk h0
 go_enter Tryz.func167, Tryz.ntmps167
 go_wp2
 go_loopw [3, 4] (fun s3 s4 wr => ∃ k : Nat, s4 = .int .i64 k ∧ 1 ≤ k ∧ k ≤ 64 ∧ Aside0 (OwnI w.heap.size wr s3 (listB m k)) ∧ Aside0 (Below w.heap.size w wr)) (fun _ s4 _ => 64 - (intOf s4).toNat)
 case atStart => exact ⟨1, rfl, Nat.le_refl _, by decide, ⟨by rw [listB_miss (k := 0) HZ.out]; exact OwnI.nil _ _⟩, ⟨Below.refl _ _⟩⟩
 case round =>
  obtain ⟨k, rfl, hk1, hk, HO, HB⟩ := hrel
  by_cases hlt : m < 2 ^ k
  ·have hz : ((m : Int) / 2 ^ k != 0) = false := by simp [shr_zero.2 hlt]
   have HE := Aside0.mk (listB_all hk hlt)
   clear hlt
   go_wp2
   go_ret
   exact ⟨_, rfl, by rw [← HE.out]; exact HO.out, HB.out⟩
  ·have hz : ((m : Int) / 2 ^ k != 0) = true := by
    rw [bne_iff_ne]; exact fun h => hlt (shr_zero.1 h)
   have hk64 : k < 64 := by
    rcases Nat.lt_or_ge k 64 with h | h
    ·exact h
    ·exact absurd (Nat.lt_of_lt_of_le hm (Nat.pow_le_pow_right (n := 2) (by decide) h)) hlt
   have hbit := shr_bit m k hm
   have hll := listB_len m k
   clear hlt
   cases hb : m.testBit k with
   | true =>
    have HT := Aside0.mk (listB_hit hb)
    rw [hb, if_pos rfl] at hbit
    go_wp2_with (first | (at_builtin; refine app_own (w0 := w) w.heap.size rfl (.tmp 16) (.tmp 18) rfl _ (listB m k) k rfl rfl HO.out HB.out HB.out.size ?hl ?_; (case hl => omega); intro v1 w6 ho hb hg hat; have HO1 := Aside0.mk ho; have HB1 := Aside0.mk hb; clear ho hb hg hat))
    go_roundw
    case rel => exact ⟨k + 1, by go_num, by omega, by omega, ⟨by rw [HT.out]; exact HO1.out⟩, HB1⟩
    case measure => simp [intOf]; omega
   | false =>
    have HT := Aside0.mk (listB_miss hb)
    rw [hb, if_neg (by decide)] at hbit
    go_wp2
    go_roundw
    case rel => exact ⟨k + 1, by go_num, by omega, by omega, ⟨by rw [HT.out]; exact HO.out⟩, HB⟩
    case measure => simp [intOf]; omega
theorem bnd_snoc (l : List Int) (x : Int) : bndB (l ++ [x]) = bndB l ^^^ bitsI (below x.toNat) := by unfold bndB; rw [List.foldl_append]; rfl
theorem bndB_lt {l : List Int} (h : ∀ x ∈ l, 0 ≤ x ∧ x ≤ 63) : bndB l < 18446744073709551616 := bnd_lt l h 0 (by decide)
set_option maxRecDepth 100000 in
set_option maxHeartbeats 2000000 in
theorem boundary (m : Nat) (l : List Int) (hl : listI m = l) (hm : m < 18446744073709551616) (hb : ∀ x ∈ l, 1 ≤ x ∧ x ≤ 63) (w : World) :
  Calls Tryz.prog 182 #[.int .u64 m] w fun e w' => e = .returned (.int .u64 (bndB l : Nat)) ∧ Below w.heap.size w w' := by
 have h0 : m.testBit 0 = false := by
  cases h : m.testBit 0 with
  | false => rfl
  | true =>
   have := hb ((0 : Nat) : Int) (by rw [← hl]; exact listI_mem.2 ⟨0, rfl, by decide, h⟩)
   omega
 have HL := Aside0.mk (chainList m hm h0 w)
 rw [hl] at HL
 have HB := Aside0.mk hb
 clear hb hl h0
 go_enter Tryz.func182, Tryz.ntmps182
 go_wp2_with (first | (go_at_call 167; refine HL.out.mono ?_; rintro e w2 ⟨u, rfl, ho, hb⟩; have HBw := Aside0.mk hb; obtain ⟨A1, d1, rfl, hcc, hr⟩ := ho.read; have HR := Aside0.mk hr; have hlen := ho.read.len; clear ho hb hr hcc))
 go_loopw [3, 9] (fun s3 s9 wr => ∃ i : Nat, s9 = .int .i64 i ∧ i ≤ l.length ∧ s3 = .int .u64 (bndB (l.take i) : Nat) ∧ Aside0 (Below w2.heap.size w2 wr)) (fun _ s9 _ => l.length - (intOf s9).toNat)
 case atStart => exact ⟨0, rfl, Nat.zero_le _, rfl, ⟨Below.refl _ _⟩⟩
 case round =>
  obtain ⟨i, rfl, hi, rfl, HBi⟩ := hrel
  by_cases hlt : i < l.length
  ·obtain ⟨ad, y, rfl, hcell, HY⟩ := ReadI.get (Kd.C_below HR.out HBi.out) hlt
   have hy := HB.out y (mem_at hlt HY.out)
   obtain ⟨p, rfl⟩ : ∃ p : Nat, y = p := ⟨y.toNat, by omega⟩
   have hS := bndB_lt (l := l.take i) (fun x hx => by have := HB.out x (List.mem_of_mem_take hx); omega)
   have HBD := Aside0.mk (below_bd p (by omega))
   have hP := bitsI_lt HBD.out
   have HT : Aside0 (bndB (l.take (i + 1)) = bndB (l.take i) ^^^ bitsI (below p)) := ⟨by rw [take_get hlt HY.out, bnd_snoc, Int.toNat_natCast]⟩
   obtain ⟨S, hSe⟩ : ∃ S, S = bndB (l.take i) := ⟨_, rfl⟩
   rw [← hSe] at hS HT ⊢
   obtain ⟨P, hPe⟩ : ∃ P, P = bitsI (below p) := ⟨_, rfl⟩
   rw [← hPe] at hP HT
   have HPE := Aside0.mk hPe
   have hxor := xor_u64 S P hS hP
   clear hSe hPe
   go_wp2_with (first | (go_at_call 140; refine (borders p (by omega) _).mono ?_; rintro e w5 ⟨u, rfl, ho, hb5⟩; have HO5 := Aside0.mk ho; obtain ⟨A5, d5, rfl, -⟩ := ho.read; have HB5 := Aside0.mk (HBi.out.trans (hb5.mono HBi.out.size)); clear ho hb5) | (go_at_call 166; refine (chainOf _ (below p) _ HO5.out.read HBD.out).mono ?_; rintro e w6 ⟨rfl, hb6⟩; rw [← HPE.out]; have HB6 := Aside0.mk (HB5.out.trans (hb6.mono HB5.out.size)); clear hb6))
   go_roundw
   case rel => exact ⟨i + 1, by go_num, by omega, by rw [HT.out], HB6⟩
   case measure => simp [intOf]; omega
  ·have e : i = l.length := by omega
   go_wp2
   go_ret
   exact ⟨by rw [e, List.take_length]; rfl, HBw.out.trans (HBi.out.mono HBw.out.size)⟩
theorem wrapUc {n : Nat} (h : n < 18446744073709551616) : IntKind.u64.wrap (n : Int) = n := by
 show ((n : Int) % 18446744073709551616) = n
 omega
set_option maxRecDepth 100000 in
set_option maxHeartbeats 8000000 in
theorem onesC (x : Nat) (h2 : x < 64) (w : World) : Calls Tryz.prog 311 #[.int .u64 x] w fun e w' => e = .returned (.int .i64 (ones x : Nat)) ∧ Below w.heap.size w w' := by
 rcases (by omega : x = 0 ∨ x = 1 ∨ x = 2 ∨ x = 3 ∨ x = 4 ∨ x = 5 ∨ x = 6 ∨ x = 7 ∨ x = 8 ∨ x = 9 ∨ x = 10 ∨ x = 11 ∨ x = 12 ∨ x = 13 ∨ x = 14 ∨ x = 15 ∨ x = 16 ∨ x = 17 ∨ x = 18 ∨ x = 19 ∨ x = 20 ∨ x = 21 ∨ x = 22 ∨ x = 23 ∨ x = 24 ∨ x = 25 ∨ x = 26 ∨ x = 27 ∨ x = 28 ∨ x = 29 ∨ x = 30 ∨ x = 31 ∨ x = 32 ∨ x = 33 ∨ x = 34 ∨ x = 35 ∨ x = 36 ∨ x = 37 ∨ x = 38 ∨ x = 39 ∨ x = 40 ∨ x = 41 ∨ x = 42 ∨ x = 43 ∨ x = 44 ∨ x = 45 ∨ x = 46 ∨ x = 47 ∨ x = 48 ∨ x = 49 ∨ x = 50 ∨ x = 51 ∨ x = 52 ∨ x = 53 ∨ x = 54 ∨ x = 55 ∨ x = 56 ∨ x = 57 ∨ x = 58 ∨ x = 59 ∨ x = 60 ∨ x = 61 ∨ x = 62 ∨ x = 63) with rfl | rfl | rfl | rfl | rfl | rfl | rfl | rfl | rfl | rfl | rfl | rfl | rfl | rfl | rfl | rfl | rfl | rfl | rfl | rfl | rfl | rfl | rfl | rfl | rfl | rfl | rfl | rfl | rfl | rfl | rfl | rfl | rfl | rfl | rfl | rfl | rfl | rfl | rfl | rfl | rfl | rfl | rfl | rfl | rfl | rfl | rfl | rfl | rfl | rfl | rfl | rfl | rfl | rfl | rfl | rfl | rfl | rfl | rfl | rfl | rfl | rfl | rfl | rfl
 all_goals
  go_enter Tryz.func311, Tryz.ntmps311
  go_wp2
  go_ret
  exact ⟨by kernel_rfl, by (repeat (first | (with_reducible exact Below.refl _ _) | (with_reducible assumption) | (with_reducible refine below_step ?_ (by assumption)) | (with_reducible apply below_alloc) | (with_reducible apply below_drewN)))⟩
theorem size (x : Nat) (h2 : x < 64) (w : World) : Calls Tryz.prog 211 #[.int .i64 x] w fun e w' => e = .returned (.int .i64 (ones x : Nat)) ∧ Below w.heap.size w w' := by
 have hw : IntKind.u64.wrap (x : Int) = x := wrapUc (by omega)
 have HX := Aside0.mk (onesC x h2)
 go_enter Tryz.func211, Tryz.ntmps211
 go_wp2_with (first | (go_at_call 311; refine (HX.out _).mono ?_; rintro e w2 ⟨rfl, hb⟩))
 go_ret
 exact ⟨rfl, hb⟩
/-- the i-th face is as it has to be -/
def chAt (xs l : List Int) (i : Nat) : Bool := decide (l.getD i 0 ∈ xs) && (((ones (l.getD i 0).toNat : Nat) : Int) == ((ones (l.getD 0 0).toNat : Nat) : Int)) && (decide (i = 0) || decide (l.getD (i - 1) 0 < l.getD i 0))
/-- these make a chain -/
def chOk (xs l : List Int) : Bool := (List.range l.length).all (chAt xs l)
/-- the code for chains -/
def codeChn (a : Int) (xs l : List Int) : Int := if cxOk a xs then (if chOk xs l then 0 else 2) else 1
theorem chOk_at {xs l : List Int} {i : Nat} (h : chOk xs l = true) (hi : i < l.length) : chAt xs l i = true := List.all_eq_true.1 h i (List.mem_range.2 hi)
theorem chOk_false {xs l : List Int} {i : Nat} (hi : i < l.length) (h : chAt xs l i = false) : chOk xs l = false := List.all_eq_false.2 ⟨i, List.mem_range.2 hi, by rw [h]; decide⟩
theorem chOk_true {xs l : List Int} (h : ∀ i, i < l.length → chAt xs l i = true) : chOk xs l = true := List.all_eq_true.2 (fun i hi => h i (List.mem_range.1 hi))
theorem chAt_mem {xs l : List Int} {i : Nat} (h : chAt xs l i = true) : l.getD i 0 ∈ xs := by
 unfold chAt at h
 simp only [Bool.and_eq_true, decide_eq_true_eq] at h
 exact h.1.1
set_option maxRecDepth 100000 in
set_option maxHeartbeats 4000000 in
theorem isChain (n : Nat) (ku : Value) (xs : List Int) (v : Value) (l : List Int) (w : World) (hk : ReadI w ku xs) (hv : ReadI w v l) (hc : Cx n xs) :
  Calls Tryz.prog 173 #[cx n ku, v] w fun e w' => e = .returned (.bool (chOk xs l)) ∧ Below w.heap.size w w' := by
 obtain ⟨w1, hw1⟩ : ∃ w1, w1 = w.alloc (.cells #[.int .i64 n, ku] 26) := ⟨_, rfl⟩
 have hB : Below w.heap.size w w1 := by rw [hw1]; exact Below.alloc (Below.refl _ _) (Nat.le_refl _) _
 have c0 : w1.cell? ⟨w.heap.size, 0, none⟩ = some (.int .i64 n) := by rw [hw1]; simp
 have c1 : w1.cell? ⟨w.heap.size, 1, none⟩ = some ku := by rw [hw1]; simp
 have HB := Aside0.mk hB
 have HK := Aside0.mk (hk.below hB)
 have l2 := hv.len
 have HN := Aside0.mk hc
 obtain ⟨A1, d1, rfl, -⟩ := id hk
 obtain ⟨A2, d2, rfl, hcv, hrv⟩ := hv.below hB
 have HR := Aside0.mk hrv
 clear hk hv hB hcv hrv hc
 go_enter Tryz.func173, Tryz.ntmps173
 go_wp2
 rw [← hw1]
 clear hw1
 go_loopw [9] (fun s wr => ∃ i : Nat, s = .int .i64 i ∧ i ≤ l.length ∧ Aside0 (∀ t, t < i → chAt xs l t = true) ∧ Aside0 (Below w1.heap.size w1 wr)) (fun s _ => l.length - (intOf s).toNat)
 case atStart => exact ⟨0, rfl, Nat.zero_le _, ⟨fun t h => absurd h (Nat.not_lt_zero _)⟩, ⟨Below.refl _ _⟩⟩
 case round =>
  obtain ⟨i, rfl, hi, HI, HBw⟩ := hrel
  have c0 := pw_cell_below HBw.out c0
  have c1 := pw_cell_below HBw.out c1
  by_cases hlt : i < l.length
  ·obtain ⟨ad, y, rfl, hcell, HY⟩ := ReadI.get (Kd.C_below HR.out HBw.out) hlt
   have x0 : ∀ x : Ext wr, x.1.cell? ⟨w.heap.size, 0, none⟩ = some (.int .i64 n) := fun x => Ext.cell c0 x
   have x1 : ∀ x : Ext wr, x.1.cell? ⟨w.heap.size, 1, none⟩ = some (.slice A1 xs.length d1) := fun x => Ext.cell c1 x
   obtain ⟨b, hbm⟩ : ∃ b, b = decide (y ∈ xs) := ⟨_, rfl⟩
   have HH : Aside0 (∀ x : Ext wr, Calls Tryz.prog 129 #[cx n (.slice A1 xs.length d1), .int .i64 y] x.1 fun e w' => e = .returned (.bool b) ∧ Below x.1.heap.size x.1 w') := ⟨fun x => by rw [hbm]; exact has n _ xs y x.1 ((HK.out.below HBw.out).below x.2) HN.out.asc (by have := HN.out.len; omega)⟩
   cases b with
   | false =>
    have HA : Aside0 (chOk xs l = false) := ⟨chOk_false hlt (by unfold chAt; rw [HY.out, ← hbm]; rfl)⟩
    clear hbm
    go_wp2
    refine wp_region_ext (by kernel_rfl) (by kernel_rfl) ?_
    repeat (go_big_quiet_step ((first | (go_at_call 129; exact Calls.ext_of (HH.out _)))))
    refine wpQuiet_nil ?_
    rintro _ ⟨x, rfl⟩
    have hbx := x.2
    go_wp2
    go_ret
    exact ⟨by rw [HA.out]; rfl, HB.out.trans ((HBw.out.trans (hbx.mono HBw.out.size)).mono HB.out.size)⟩
   | true =>
    have hym : y ∈ xs := of_decide_eq_true hbm.symm
    obtain ⟨z, rfl, hz1, hz2⟩ := HN.out.nat hym
    have h0lt : 0 < l.length := by omega
    obtain ⟨ad', y0, e0, hcell0, HY0⟩ := ReadI.get (Kd.C_below HR.out HBw.out) h0lt
    cases e0
    obtain ⟨z0, rfl, hz01, hz02⟩ : ∃ z0 : Nat, y0 = z0 ∧ 1 ≤ z0 ∧ z0 ≤ 63 := by
     have hm0 : y0 ∈ xs := by
      by_cases h : i = 0
      ·subst h; rw [← HY0.out, HY.out]; exact hym
      ·have := chAt_mem (HI.out 0 (by omega)); rw [HY0.out] at this; exact this
     exact HN.out.nat hm0
    rw [show ad.add 0 = ad by cases ad; rfl] at hcell0
    have x2 : ∀ x : Ext wr, x.1.cell? ad = some (.int .i64 z0) := fun x => Ext.cell hcell0 x
    obtain ⟨s1, hs1⟩ : ∃ s, s = ones z := ⟨_, rfl⟩
    obtain ⟨s0, hs0⟩ : ∃ s, s = ones z0 := ⟨_, rfl⟩
    have HS1 : Aside0 (∀ x : Ext wr, Calls Tryz.prog 211 #[.int .i64 z] x.1 fun e w' => e = .returned (.int .i64 (s1 : Nat)) ∧ Below x.1.heap.size x.1 w') := ⟨fun x => by rw [hs1]; exact size z (by omega) x.1⟩
    have HS0 : Aside0 (∀ x : Ext wr, Calls Tryz.prog 211 #[.int .i64 z0] x.1 fun e w' => e = .returned (.int .i64 (s0 : Nat)) ∧ Below x.1.heap.size x.1 w') := ⟨fun x => by rw [hs0]; exact size z0 (by omega) x.1⟩
    have HC : Aside0 (chAt xs l i = ((((s1 : Nat) : Int) == ((s0 : Nat) : Int)) && (decide (i = 0) || decide (l.getD (i - 1) 0 < (z : Int))))) := ⟨by unfold chAt; rw [HY.out, HY0.out, ← hbm, Bool.true_and, Int.toNat_natCast, Int.toNat_natCast, ← hs1, ← hs0]⟩
    clear hbm hym hs1 hs0 hcell0
    by_cases hss : s1 = s0
    ·have hse : (((s1 : Nat) : Int) != ((s0 : Nat) : Int)) = false := by simp [hss]
     have hsb : (((s1 : Nat) : Int) == ((s0 : Nat) : Int)) = true := by simp [hss]
     rw [hsb, Bool.true_and] at HC
     clear hss hsb
     by_cases h0 : i = 0
     ·have HA : Aside0 (∀ t, t < i + 1 → chAt xs l t = true) := ⟨fun t ht => by
       rcases Nat.lt_succ_iff_lt_or_eq.1 ht with h | h
       ·exact HI.out t h
       ·rw [h, HC.out, decide_eq_true h0]; rfl⟩
      have h0' : decide (0 < i) = false := decide_eq_false (by omega)
      clear h0
      go_wp2
      refine wp_region_ext (by kernel_rfl) (by kernel_rfl) ?_
      repeat (go_big_quiet_step ((first | (go_at_call 129; exact Calls.ext_of (HH.out _)) | (go_at_call 211; with_reducible exact Calls.ext_of (HS1.out _)) | (go_at_call 211; with_reducible exact Calls.ext_of (HS0.out _)))))
      refine wpQuiet_nil ?_
      rintro _ ⟨x, rfl⟩
      have hbx := x.2
      go_wp2
      go_roundw
      case rel => exact ⟨i + 1, by go_num, by omega, HA, ⟨HBw.out.trans (hbx.mono HBw.out.size)⟩⟩
      case measure => simp [intOf]; omega
     ·have h0' : decide (0 < i) = true := decide_eq_true (by omega)
      have h1i : (0 : Int) ≤ (i : Int) - 1 := by omega
      have h2i : (i : Int) - 1 < l.length := by omega
      have h3i : ((i : Int) - 1).toNat = i - 1 := by omega
      obtain ⟨ad'', y', e2, hcell2, HY2⟩ := ReadI.get (Kd.C_below HR.out HBw.out) (i := i - 1) (by omega)
      cases e2
      have hx3 : ∀ x : Ext wr, x.1.cell? (ad.add (i - 1)) = some (.int .i64 y') := fun x => Ext.cell hcell2 x
      clear hcell2
      rw [HY2.out, decide_eq_false h0, Bool.false_or] at HC
      clear h0
      by_cases hle : (z : Int) ≤ y'
      ·have hled : decide ((z : Int) ≤ y') = true := decide_eq_true hle
       have HA : Aside0 (chOk xs l = false) := ⟨chOk_false hlt (by rw [HC.out]; exact decide_eq_false (by omega))⟩
       go_wp2
       refine wp_region_ext (by kernel_rfl) (by kernel_rfl) ?_
       repeat (go_big_quiet_step ((first | (go_at_call 129; exact Calls.ext_of (HH.out _)) | (go_at_call 211; with_reducible exact Calls.ext_of (HS1.out _)) | (go_at_call 211; with_reducible exact Calls.ext_of (HS0.out _)))))
       refine wpQuiet_nil ?_
       rintro _ ⟨x, rfl⟩
       have hbx := x.2
       go_wp2
       go_ret
       exact ⟨by rw [HA.out]; rfl, HB.out.trans ((HBw.out.trans (hbx.mono HBw.out.size)).mono HB.out.size)⟩
      ·have hled : decide ((z : Int) ≤ y') = false := decide_eq_false hle
       have HA : Aside0 (∀ t, t < i + 1 → chAt xs l t = true) := ⟨fun t ht => by
        rcases Nat.lt_succ_iff_lt_or_eq.1 ht with h | h
        ·exact HI.out t h
        ·rw [h, HC.out]; exact decide_eq_true (by omega)⟩
       go_wp2
       refine wp_region_ext (by kernel_rfl) (by kernel_rfl) ?_
       repeat (go_big_quiet_step ((first | (go_at_call 129; exact Calls.ext_of (HH.out _)) | (go_at_call 211; with_reducible exact Calls.ext_of (HS1.out _)) | (go_at_call 211; with_reducible exact Calls.ext_of (HS0.out _)))))
       refine wpQuiet_nil ?_
       rintro _ ⟨x, rfl⟩
       have hbx := x.2
       go_wp2
       go_roundw
       case rel => exact ⟨i + 1, by go_num, by omega, HA, ⟨HBw.out.trans (hbx.mono HBw.out.size)⟩⟩
       case measure => simp [intOf]; omega
    ·have hse : (((s1 : Nat) : Int) != ((s0 : Nat) : Int)) = true := by simp; omega
     have HA : Aside0 (chOk xs l = false) := ⟨chOk_false hlt (by rw [HC.out, show (((s1 : Nat) : Int) == ((s0 : Nat) : Int)) = false by simp; omega]; rfl)⟩
     clear hss
     go_wp2
     refine wp_region_ext (by kernel_rfl) (by kernel_rfl) ?_
     repeat (go_big_quiet_step ((first | (go_at_call 129; exact Calls.ext_of (HH.out _)) | (go_at_call 211; with_reducible exact Calls.ext_of (HS1.out _)) | (go_at_call 211; with_reducible exact Calls.ext_of (HS0.out _)))))
     refine wpQuiet_nil ?_
     rintro _ ⟨x, rfl⟩
     have hbx := x.2
     go_wp2
     go_ret
     exact ⟨by rw [HA.out]; rfl, HB.out.trans ((HBw.out.trans (hbx.mono HBw.out.size)).mono HB.out.size)⟩
  ·have HA := Aside0.mk (chOk_true (xs := xs) (fun t ht => HI.out t (by omega)))
   go_wp2
   go_ret
   exact ⟨by rw [HA.out]; rfl, HB.out.trans (HBw.out.mono HB.out.size)⟩
theorem isChainP (n : Nat) (ku : Value) (xs : List Int) (w : World) (hk : ReadI w ku xs) (hc : Cx n xs) : PredS w (.func (.func 173) #[cx n ku] #[]) (chOk xs) (fun _ => True) :=
 ⟨_, _, _, rfl, Enters.mk' Tryz.func173 rfl rfl, fun w1 u f hb hu _ => isChain n ku xs u f w1 (hk.below hb) hu hc⟩
set_option maxHeartbeats 1000000 in
theorem chainCode1 (w : World) (bl bk : Nat) (lv : Value) (fs : List (List Int)) (n : Nat) (ku : Value) (xs : List Int) (hl : ReadS w lv fs) (hk : ReadI w ku xs) (hc : Cx n xs) (h1 : w.cell? ⟨bl, 0, none⟩ = some lv) (h2 : w.cell? ⟨bk, 0, none⟩ = some (.int .i64 n)) (h3 : w.cell? ⟨bk, 1, none⟩ = some ku) :
  ThunkB w (.func (.func 287) #[] #[.pointer (some ⟨bl, 0, none⟩), .pointer (some ⟨bk, 0, none⟩)]) (fs.all (chOk xs)) := by
 refine ⟨_, _, _, rfl, Enters.mk' Tryz.func287 rfl rfl, fun w1 hb => ?_⟩
 have c1 := pw_cell_below hb h1
 have c2 := pw_cell_below hb h2
 have c3 := pw_cell_below hb h3
 have HL := Aside0.mk (hl.below hb)
 have HP := Aside0.mk (isChainP n ku xs w1 (hk.below hb) hc)
 obtain ⟨A1, d1, rfl, -⟩ := id hk
 obtain ⟨A2, d2, rfl, -⟩ := id hl
 clear hb h1 h2 h3 hl hk hc
 show Calls _ _ #[_, _] _ _
 go_enter Tryz.func287, Tryz.ntmps287
 go_wp2_with (first | (go_at_call 269; refine (areAllS _ _ _ _ _ _ HL.out HP.out (fun _ _ => trivial)).mono ?_; rintro e w4 ⟨rfl, hb4⟩))
 go_ret
 exact ⟨rfl, hb4⟩
set_option maxRecDepth 100000 in
set_option maxHeartbeats 1000000 in
theorem chainCode (a : Int) (ku : Value) (xs : List Int) (lv : Value) (l : List Int) (w : World) (hk : ReadI w ku xs) (hl : ReadS w lv [l]) :
  Calls Tryz.prog 163 #[cx a ku, lv] w fun e w' => e = .returned (.int .i64 (codeChn a xs l)) ∧ Below w.heap.size w w' := by
 obtain ⟨w1, hw1⟩ : ∃ w1, w1 = (w.alloc (.cells #[.int .i64 a, ku] 26)).alloc (.cells #[lv] 145) := ⟨_, rfl⟩
 have hB : Below w.heap.size w w1 := by rw [hw1]; exact ((Below.refl _ w).alloc (Nat.le_refl _) _).alloc (by simp) _
 have c0 : w1.cell? ⟨w.heap.size, 0, none⟩ = some (.int .i64 a) := by rw [hw1]; simp
 have c1 : w1.cell? ⟨w.heap.size, 1, none⟩ = some ku := by rw [hw1]; simp
 have c2 : w1.cell? ⟨w.heap.size + 1, 0, none⟩ = some lv := by rw [hw1]; simp
 have HK := Aside0.mk (hk.below hB)
 have HT : Aside0 (cxOk a xs = true → ThunkB w1 (.func (.func 287) #[] #[.pointer (some ⟨w.heap.size + 1, 0, none⟩), .pointer (some ⟨w.heap.size, 0, none⟩)]) (chOk xs l)) := ⟨fun h => by
  obtain ⟨n, rfl, hn, -⟩ := cxOk_cx h
  have := chainCode1 w1 (w.heap.size + 1) w.heap.size lv [l] n ku xs (hl.below hB) (hk.below hB) hn c2 c0 c1
  simpa using this⟩
 have HB := Aside0.mk hB
 have HX : Aside0 (codeChn a xs l = (if cxOk a xs then (if chOk xs l then 0 else 2) else 1)) := ⟨rfl⟩
 obtain ⟨A1, d1, rfl, -⟩ := id hk
 obtain ⟨A2, d2, rfl, -⟩ := id hl
 replace hw1 : w1 = (w.alloc (.cells #[.int .i64 a, .slice A1 xs.length d1] 26)).alloc (.cells #[.slice A2 1 d2] 145) := hw1
 clear hk hl hB
 go_enter Tryz.func163, Tryz.ntmps163
 go_wp2_with (first | (rw [← hw1]; clear hw1; go_at_call 172; refine (complexCode2 a _ xs _ _ _ HK.out HT.out ⟨_, _, _, rfl⟩).mono ?_; rintro e w2 ⟨rfl, hb⟩; rw [← HX.out]))
 go_ret
 exact ⟨rfl, HB.out.trans (hb.mono HB.out.size)⟩
theorem asc_of_steps {l : List Int} (h : ∀ i, i < l.length → i = 0 ∨ l.getD (i - 1) 0 < l.getD i 0) : l.Pairwise (· < ·) := by
 have key : ∀ d i, i + d + 1 < l.length → l.getD i 0 < l.getD (i + d + 1) 0 := by
  intro d
  induction d with
  | zero =>
   intro i hi
   rcases h (i + 1) (by omega) with h1 | h1
   ·omega
   ·rwa [Nat.add_sub_cancel] at h1
  | succ d ih =>
   intro i hi
   have h1 := ih i (by omega)
   rcases h (i + (d + 1) + 1) hi with h2 | h2
   ·omega
   ·rw [show i + (d + 1) + 1 - 1 = i + d + 1 by omega] at h2
    exact Int.lt_trans h1 h2
 rw [List.pairwise_iff_getElem]
 intro i j hi hj hij
 have := key (j - i - 1) i (by omega)
 rw [show i + (j - i - 1) + 1 = j by omega, List.getD_eq_getElem?_getD, List.getD_eq_getElem?_getD, List.getElem?_eq_getElem hi, List.getElem?_eq_getElem hj] at this
 exact this
theorem chain_dom {n : Nat} {xs l : List Int} (hc : Cx n xs) (h : chOk xs l = true) : l.Pairwise (· < ·) ∧ ∀ x ∈ l, 1 ≤ x ∧ x ≤ 63 := by
 refine ⟨?_, fun x hx => ?_⟩
 ·refine asc_of_steps (fun i hi => ?_)
  have := chOk_at h hi
  unfold chAt at this
  simp only [Bool.and_eq_true, Bool.or_eq_true, decide_eq_true_eq] at this
  exact this.2
 ·obtain ⟨i, hi, rfl⟩ := List.getElem_of_mem hx
  have := chAt_mem (chOk_at h hi)
  rw [List.getD_eq_getElem?_getD, List.getElem?_eq_getElem hi, Option.getD_some] at this
  obtain ⟨z, e, h1, h2⟩ := hc.nat this
  omega
theorem codeChn_zero {a : Int} {xs l : List Int} (h : codeChn a xs l = 0) : ∃ n : Nat, a = n ∧ Cx n xs ∧ chOk xs l = true := by
 unfold codeChn at h
 split at h
 ·next h1 =>
  obtain ⟨n, rfl, hn, -⟩ := cxOk_cx h1
  split at h
  ·next h2 => exact ⟨n, rfl, hn, h2⟩
  ·cases h
 ·cases h
theorem symd_l {x : Int} (a : List Int) : symd (x :: a) [] = x :: symd a [] := by rw [symd_nil, symd_nil]
theorem symd_r (b : List Int) : symd [] b = b := by unfold symd; rfl
theorem symd_lt {x y : Int} (a b : List Int) (h : x < y) : symd (x :: a) (y :: b) = x :: symd a (y :: b) := by rw [symd, if_pos h]
theorem symd_gt {x y : Int} (a b : List Int) (h : ¬ x < y) (h2 : y < x) : symd (x :: a) (y :: b) = y :: symd (x :: a) b := by rw [symd, if_neg h, if_pos h2]
theorem symd_eq {x y : Int} (a b : List Int) (h : ¬ x < y) (h2 : ¬ y < x) : symd (x :: a) (y :: b) = symd a b := by rw [symd, if_neg h, if_neg h2]
theorem drop_at {l : List Int} {i : Nat} {x : Int} (h : i < l.length) (hx : l.getD i 0 = x) : l.drop i = x :: l.drop (i + 1) := by
 rw [List.drop_eq_getElem_cons h]
 rw [List.getD_eq_getElem?_getD, List.getElem?_eq_getElem h, Option.getD_some] at hx
 rw [hx]
set_option maxRecDepth 100000 in
set_option maxHeartbeats 4000000 in
theorem specSum (u : Value) (a : List Int) (v : Value) (b : List Int) (w : World) (hu : ReadI w u a) (hv : ReadI w v b) (ha : a.length ≤ 1000000) (hb : b.length ≤ 1000000) :
  Calls Tryz.prog 215 #[u, v] w fun e w' => ∃ r, e = .returned r ∧ OwnI w.heap.size w' r (symd a b) ∧ Below w.heap.size w w' := by
 obtain ⟨A1, d1, rfl, hcc, hr⟩ := hu
 obtain ⟨A2, d2, rfl, hcv, hrv⟩ := hv
 have HR := Aside0.mk hr
 have HRV := Aside0.mk hrv
 clear hr hrv hcc hcv
 go_enter Tryz.func215, Tryz.ntmps215
 go_wp2
 go_loopw [5, 6, 7] (fun s5 s6 s7 wr => ∃ i k : Nat, s6 = .int .i64 i ∧ s7 = .int .i64 k ∧ i ≤ a.length ∧ k ≤ b.length ∧ (∃ o, o.length ≤ i + k ∧ Aside0 (o ++ symd (a.drop i) (b.drop k) = symd a b) ∧ Aside0 (OwnI w.heap.size wr s5 o)) ∧ Aside0 (Below w.heap.size w wr)) (fun _ s6 s7 _ => a.length + b.length - ((intOf s6).toNat + (intOf s7).toNat))
 case atStart => exact ⟨0, 0, rfl, rfl, Nat.zero_le _, Nat.zero_le _, ⟨[], Nat.le_refl _, ⟨by rw [List.drop_zero, List.drop_zero]; rfl⟩, ⟨OwnI.empty w (Nat.le_refl _)⟩⟩, ⟨Below.alloc (Below.refl _ _) (Nat.le_refl _) _⟩⟩
 case round =>
  obtain ⟨i, k, rfl, rfl, hi, hk, ⟨o, hol, HS, HO⟩, HB⟩ := hrel
  have hol' : o.length < 17592186044416 := by omega
  by_cases hia : i < a.length
  ·obtain ⟨ad, x, rfl, hcell, HX⟩ := ReadI.get (Kd.C_below HR.out HB.out) hia
   have hdi : decide ((i : Int) < (a.length : Int)) = true := decide_eq_true (by omega)
   have hei : ((i : Int) == (a.length : Int)) = false := by rw [beq_eq_false_iff_ne]; omega
   have hiI : (i : Int) < (a.length : Int) := by omega
   have x1 : ∀ x' : Ext wr, x'.1.cell? (ad.add i) = some (.int .i64 x) := fun x' => Ext.cell hcell x'
   by_cases hkb : k < b.length
   ·obtain ⟨ad2, y, rfl, hcell2, HY⟩ := ReadI.get (Kd.C_below HRV.out HB.out) hkb
    have hek : ((k : Int) == (b.length : Int)) = false := by rw [beq_eq_false_iff_ne]; omega
    have hkI : (k : Int) < (b.length : Int) := by omega
    have x2 : ∀ x' : Ext wr, x'.1.cell? (ad2.add k) = some (.int .i64 y) := fun x' => Ext.cell hcell2 x'
    have HD : Aside0 (o ++ symd (x :: a.drop (i + 1)) (y :: b.drop (k + 1)) = symd a b) := ⟨by rw [← drop_at hia HX.out, ← drop_at hkb HY.out]; exact HS.out⟩
    by_cases hxy : x < y
    ·have hlt : decide (x < y) = true := decide_eq_true hxy
     have HN : Aside0 ((o ++ [x]) ++ symd (a.drop (i + 1)) (b.drop k) = symd a b) := ⟨by rw [← HD.out, symd_lt _ _ hxy, ← drop_at hkb HY.out, List.append_assoc]; rfl⟩
     go_wp2
     refine wp_region_ext (by kernel_rfl) (by kernel_rfl) ?_
     repeat (go_big_quiet_step (fail))
     refine wpQuiet_nil ?_
     rintro _ ⟨xx, rfl⟩
     have HO2 := Aside0.mk (OwnI.below HO.out xx.2)
     have HB2 := Aside0.mk (HB.out.trans (xx.2.mono HB.out.size))
     have hcell := pw_cell_below xx.2 hcell
     go_wp2_with (first | (at_builtin; refine app_own (w0 := w) w.heap.size rfl (.tmp 45) (.tmp 50) rfl _ o x rfl rfl HO2.out HB2.out HB2.out.size hol' ?_; intro v1 w6 ho hb hg hat; have HO1 := Aside0.mk ho; have HB1 := Aside0.mk hb; clear ho hb hg hat))
     go_roundw
     case rel => exact ⟨i + 1, k, by go_num, rfl, by omega, hk, ⟨o ++ [x], by rw [List.length_append, List.length_singleton]; omega, HN, HO1⟩, HB1⟩
     case measure => simp [intOf]; omega
    ·have hlt : decide (x < y) = false := decide_eq_false hxy
     by_cases hyx : y < x
     ·have hgt : decide (y < x) = true := decide_eq_true hyx
      have HN : Aside0 ((o ++ [y]) ++ symd (a.drop i) (b.drop (k + 1)) = symd a b) := ⟨by rw [← HD.out, symd_gt _ _ hxy hyx, ← drop_at hia HX.out, List.append_assoc]; rfl⟩
      go_wp2
      refine wp_region_ext (by kernel_rfl) (by kernel_rfl) ?_
      repeat (go_big_quiet_step (fail))
      refine wpQuiet_nil ?_
      rintro _ ⟨xx, rfl⟩
      have HO2 := Aside0.mk (OwnI.below HO.out xx.2)
      have HB2 := Aside0.mk (HB.out.trans (xx.2.mono HB.out.size))
      have hcell := pw_cell_below xx.2 hcell
      have hcell2 := pw_cell_below xx.2 hcell2
      obtain ⟨wx, hwx⟩ : ∃ wx, wx = xx.1 := ⟨_, rfl⟩
      rw [← hwx] at HO2 HB2 hcell hcell2 ⊢
      clear hwx xx x1 x2
      have x1 : ∀ x' : Ext wx, x'.1.cell? (ad.add i) = some (.int .i64 x) := fun x' => Ext.cell hcell x'
      have x2 : ∀ x' : Ext wx, x'.1.cell? (ad2.add k) = some (.int .i64 y) := fun x' => Ext.cell hcell2 x'
      go_wp2
      refine wp_region_ext (by kernel_rfl) (by kernel_rfl) ?_
      repeat (go_big_quiet_step (fail))
      refine wpQuiet_nil ?_
      rintro _ ⟨xx, rfl⟩
      have HO3 := Aside0.mk (OwnI.below HO2.out xx.2)
      have HB3 := Aside0.mk (HB2.out.trans (xx.2.mono HB2.out.size))
      have hcell2 := pw_cell_below xx.2 hcell2
      go_wp2_with (first | (at_builtin; refine app_own (w0 := w) w.heap.size rfl (.tmp 70) (.tmp 75) rfl _ o y rfl rfl HO3.out HB3.out HB3.out.size hol' ?_; intro v1 w6 ho hb hg hat; have HO1 := Aside0.mk ho; have HB1 := Aside0.mk hb; clear ho hb hg hat))
      go_roundw
      case rel => exact ⟨i, k + 1, rfl, by go_num, hi, by omega, ⟨o ++ [y], by rw [List.length_append, List.length_singleton]; omega, HN, HO1⟩, HB1⟩
      case measure => simp [intOf]; omega
     ·have hgt : decide (y < x) = false := decide_eq_false hyx
      have HN : Aside0 (o ++ symd (a.drop (i + 1)) (b.drop (k + 1)) = symd a b) := ⟨by rw [← HD.out, symd_eq _ _ hxy hyx]⟩
      go_wp2
      refine wp_region_ext (by kernel_rfl) (by kernel_rfl) ?_
      repeat (go_big_quiet_step (fail))
      refine wpQuiet_nil ?_
      rintro _ ⟨xx, rfl⟩
      have HO2 := Aside0.mk (OwnI.below HO.out xx.2)
      have HB2 := Aside0.mk (HB.out.trans (xx.2.mono HB.out.size))
      have hcell := pw_cell_below xx.2 hcell
      have hcell2 := pw_cell_below xx.2 hcell2
      obtain ⟨wx, hwx⟩ : ∃ wx, wx = xx.1 := ⟨_, rfl⟩
      rw [← hwx] at HO2 HB2 hcell hcell2 ⊢
      clear hwx xx x1 x2
      have x1 : ∀ x' : Ext wx, x'.1.cell? (ad.add i) = some (.int .i64 x) := fun x' => Ext.cell hcell x'
      have x2 : ∀ x' : Ext wx, x'.1.cell? (ad2.add k) = some (.int .i64 y) := fun x' => Ext.cell hcell2 x'
      go_wp2
      refine wp_region_ext (by kernel_rfl) (by kernel_rfl) ?_
      repeat (go_big_quiet_step (fail))
      refine wpQuiet_nil ?_
      rintro _ ⟨xx, rfl⟩
      have HO3 := Aside0.mk (OwnI.below HO2.out xx.2)
      have HB3 := Aside0.mk (HB2.out.trans (xx.2.mono HB2.out.size))
      go_wp2
      go_roundw
      case rel => exact ⟨i + 1, k + 1, by go_num, by go_num, by omega, by omega, ⟨o, by omega, HN, HO3⟩, HB3⟩
      case measure => simp [intOf]; omega
   ·have e : k = b.length := by omega
    have hek : ((k : Int) == (b.length : Int)) = true := by rw [beq_iff_eq]; omega
    have hkI : ¬ (k : Int) < (b.length : Int) := by omega
    have HN : Aside0 ((o ++ [x]) ++ symd (a.drop (i + 1)) (b.drop k) = symd a b) := ⟨by
     rw [← HS.out, drop_at hia HX.out, show b.drop k = [] by rw [e, List.drop_length], symd_l, List.append_assoc]; rfl⟩
    go_wp2
    refine wp_region_ext (by kernel_rfl) (by kernel_rfl) ?_
    repeat (go_big_quiet_step (fail))
    refine wpQuiet_nil ?_
    rintro _ ⟨xx, rfl⟩
    have HO2 := Aside0.mk (OwnI.below HO.out xx.2)
    have HB2 := Aside0.mk (HB.out.trans (xx.2.mono HB.out.size))
    have hcell := pw_cell_below xx.2 hcell
    go_wp2_with (first | (at_builtin; refine app_own (w0 := w) w.heap.size rfl (.tmp 45) (.tmp 50) rfl _ o x rfl rfl HO2.out HB2.out HB2.out.size hol' ?_; intro v1 w6 ho hb hg hat; have HO1 := Aside0.mk ho; have HB1 := Aside0.mk hb; clear ho hb hg hat))
    go_roundw
    case rel => exact ⟨i + 1, k, by go_num, by rw [e], by omega, hk, ⟨o ++ [x], by rw [List.length_append, List.length_singleton]; omega, HN, HO1⟩, HB1⟩
    case measure => simp [intOf]; omega
  ·have e : i = a.length := by omega
   have hdi : decide ((i : Int) < (a.length : Int)) = false := decide_eq_false (by omega)
   have hei : ((i : Int) == (a.length : Int)) = true := by rw [beq_iff_eq]; omega
   have hda : a.drop i = [] := by rw [e, List.drop_length]
   by_cases hkb : k < b.length
   ·obtain ⟨ad2, y, rfl, hcell2, HY⟩ := ReadI.get (Kd.C_below HRV.out HB.out) hkb
    have hek : ((k : Int) == (b.length : Int)) = false := by rw [beq_eq_false_iff_ne]; omega
    have hkI : (k : Int) < (b.length : Int) := by omega
    have HN : Aside0 ((o ++ [y]) ++ symd (a.drop i) (b.drop (k + 1)) = symd a b) := ⟨by
     rw [← HS.out, drop_at hkb HY.out, hda, symd_r, symd_r, List.append_assoc]; rfl⟩
    clear e hda
    go_wp2
    refine wp_region_ext (by kernel_rfl) (by kernel_rfl) ?_
    repeat (go_big_quiet_step (fail))
    refine wpQuiet_nil ?_
    rintro _ ⟨xx, rfl⟩
    have HO2 := Aside0.mk (OwnI.below HO.out xx.2)
    have HB2 := Aside0.mk (HB.out.trans (xx.2.mono HB.out.size))
    have hcell2 := pw_cell_below xx.2 hcell2
    obtain ⟨wx, hwx⟩ : ∃ wx, wx = xx.1 := ⟨_, rfl⟩
    rw [← hwx] at HO2 HB2 hcell2 ⊢
    clear hwx xx
    go_wp2
    refine wp_region_ext (by kernel_rfl) (by kernel_rfl) ?_
    repeat (go_big_quiet_step (fail))
    refine wpQuiet_nil ?_
    rintro _ ⟨xx, rfl⟩
    have HO3 := Aside0.mk (OwnI.below HO2.out xx.2)
    have HB3 := Aside0.mk (HB2.out.trans (xx.2.mono HB2.out.size))
    have hcell2 := pw_cell_below xx.2 hcell2
    go_wp2_with (first | (at_builtin; refine app_own (w0 := w) w.heap.size rfl (.tmp 70) (.tmp 75) rfl _ o y rfl rfl HO3.out HB3.out HB3.out.size hol' ?_; intro v1 w6 ho hb hg hat; have HO1 := Aside0.mk ho; have HB1 := Aside0.mk hb; clear ho hb hg hat))
    go_roundw
    case rel => exact ⟨i, k + 1, rfl, by go_num, hi, by omega, ⟨o ++ [y], by rw [List.length_append, List.length_singleton]; omega, HN, HO1⟩, HB1⟩
    case measure => simp [intOf]; omega
   ·have hkI : decide ((k : Int) < (b.length : Int)) = false := decide_eq_false (by omega)
    have hdb : b.drop k = [] := by rw [show k = b.length by omega, List.drop_length]
    have HN : Aside0 (o = symd a b) := ⟨by rw [← HS.out, hda, hdb, symd_r, List.append_nil]⟩
    clear e hda hdb
    go_wp2
    go_ret
    exact ⟨_, rfl, by rw [← HN.out]; exact HO.out, HB.out⟩
theorem below_len : ∀ f, f < 64 → (below f).length ≤ 6 := by decide +kernel
theorem bndL_snoc (l : List Int) (x : Int) : bndL (l ++ [x]) = symd (bndL l) (below x.toNat) := by unfold bndL; rw [List.foldl_append]; rfl
theorem listI_len (m : Nat) : (listI m).length ≤ 64 := by
 unfold listI; rw [List.length_map]; exact Nat.le_trans (List.length_filter_le _ _) (by simp)
set_option maxRecDepth 100000 in
set_option maxHeartbeats 1000000 in
theorem specBoundary (v : Value) (l : List Int) (w : World) (hv : ReadI w v l) (hb : ∀ x ∈ l, 1 ≤ x ∧ x ≤ 63) :
  Calls Tryz.prog 209 #[v] w fun e w' => ∃ u, e = .returned u ∧ OwnI w.heap.size w' u (bndL l) ∧ Below w.heap.size w w' := by
 have hlen := hv.len
 obtain ⟨A1, d1, rfl, hcc, hr⟩ := hv
 have HR := Aside0.mk hr
 have HB := Aside0.mk hb
 clear hr hcc hb
 go_enter Tryz.func209, Tryz.ntmps209
 go_wp2
 go_loopw [3, 4] (fun s3 s4 wr => ∃ i : Nat, s4 = .int .i64 i ∧ i ≤ l.length ∧ Aside0 (OwnI w.heap.size wr s3 (bndL (l.take i))) ∧ Aside0 (Below w.heap.size w wr)) (fun _ s4 _ => l.length - (intOf s4).toNat)
 case atStart => exact ⟨0, rfl, Nat.zero_le _, ⟨OwnI.empty w (Nat.le_refl _)⟩, ⟨Below.alloc (Below.refl _ _) (Nat.le_refl _) _⟩⟩
 case round =>
  obtain ⟨i, rfl, hi, HO, HBi⟩ := hrel
  by_cases hlt : i < l.length
  ·obtain ⟨ad, y, rfl, hcell, HY⟩ := ReadI.get (Kd.C_below HR.out HBi.out) hlt
   have hy := HB.out y (mem_at hlt HY.out)
   obtain ⟨p, rfl⟩ : ∃ p : Nat, y = p := ⟨y.toNat, by omega⟩
   have HT : Aside0 (bndL (l.take (i + 1)) = symd (bndL (l.take i)) (below p)) := ⟨by rw [take_get hlt HY.out, bndL_snoc, Int.toNat_natCast]⟩
   have hl1 : Aside0 ((bndL (l.take i)).length ≤ 1000000) := ⟨by
    rw [bnd_law (fun x hx => by have := HB.out x (List.mem_of_mem_take hx); omega)]
    exact Nat.le_trans (listI_len _) (by decide)⟩
   have hl2 : Aside0 ((below p).length ≤ 1000000) := ⟨Nat.le_trans (below_len p (by omega)) (by decide)⟩
   have hp63 : p ≤ 63 := by omega
   clear hy
   obtain ⟨Av, cv, rfl, -⟩ := HO.out.read
   go_wp2_with (first | (go_at_call 285; refine (specBelow p hp63 _).mono ?_; rintro e w5 ⟨u, rfl, ho, hb5⟩; have HO5 := Aside0.mk ho; have HOA := Aside0.mk (OwnI.below HO.out hb5); obtain ⟨A5, d5, rfl, -⟩ := ho.read; have HB5 := Aside0.mk (HBi.out.trans (hb5.mono HBi.out.size)); clear ho hb5) | (go_at_call 215; refine (specSum _ (bndL (l.take i)) _ (below p) _ HOA.out.read HO5.out.read hl1.out hl2.out).mono ?_; rintro e w6 ⟨u, rfl, ho, hb6⟩; have HO6 := Aside0.mk (ho.lower HB5.out.size); obtain ⟨A6, d6, rfl, -⟩ := ho.read; have HB6 := Aside0.mk (HB5.out.trans (hb6.mono HB5.out.size)); clear ho hb6))
   go_roundw
   case rel => exact ⟨i + 1, by go_num, by omega, ⟨by rw [HT.out]; exact HO6.out⟩, HB6⟩
   case measure => simp [intOf]; omega
  ·have e : i = l.length := by omega
   go_wp2
   go_ret
   exact ⟨_, rfl, by have := HO.out; rw [e, List.take_length] at this; exact this, HBi.out⟩
theorem xor_and_zero' (a b : Nat) : (a ^^^ (a &&& b)) = 0 ↔ a &&& b = a := by
 constructor
 ·intro h
  have h2 := congrArg (a ^^^ ·) h
  simpa [← Nat.xor_assoc] using h2
 ·intro h; rw [h]; simp
theorem isInCg (a b : Nat) (ha : a < 64) (hb : b < 64) (w : World) :
  Calls Tryz.prog 134 #[.int .i64 a, .int .i64 b] w fun e w' => e = .returned (.bool (decide (a &&& b = a))) ∧ Below w.heap.size w w' := by
 have hx := andNot_i64 a b (by omega) (by omega)
 have HX : Aside0 ((((a ^^^ (a &&& b) : Nat) : Int) == 0) = decide (a &&& b = a)) := ⟨by
  rw [Bool.eq_iff_iff, beq_iff_eq, decide_eq_true_eq, ← xor_and_zero']; omega⟩
 go_enter Tryz.func134, Tryz.ntmps134
 go_wp2
 go_ret
 exact ⟨by rw [← HX.out]; rfl, by (repeat (first | (with_reducible exact Below.refl _ _) | (with_reducible assumption) | (with_reducible refine below_step ?_ (by assumption)) | (with_reducible apply below_alloc) | (with_reducible apply below_drewN)))⟩
set_option maxRecDepth 100000 in
set_option maxHeartbeats 4000000 in
theorem isPair (n : Nat) (ku : Value) (xs : List Int) (x y : Int) (w : World) (hk : ReadI w ku xs) (hc : Cx n xs) :
  Calls Tryz.prog 239 #[cx n ku, .agg #[.int .i64 x, .int .i64 y]] w fun e w' => e = .returned (.bool (pairAt xs x y)) ∧ Below w.heap.size w w' := by
 obtain ⟨w1, hw1⟩ : ∃ w1, w1 = (w.alloc (.cells #[.int .i64 n, ku] 26)).alloc (.cells #[.int .i64 x, .int .i64 y] 72) := ⟨_, rfl⟩
 have hB : Below w.heap.size w w1 := by rw [hw1]; exact ((Below.refl _ w).alloc (Nat.le_refl _) _).alloc (by simp) _
 have c0 : w1.cell? ⟨w.heap.size, 0, none⟩ = some (.int .i64 n) := by rw [hw1]; simp
 have c1 : w1.cell? ⟨w.heap.size, 1, none⟩ = some ku := by rw [hw1]; simp
 have c2 : w1.cell? ⟨w.heap.size + 1, 0, none⟩ = some (.int .i64 x) := by rw [hw1]; simp
 have c3 : w1.cell? ⟨w.heap.size + 1, 1, none⟩ = some (.int .i64 y) := by rw [hw1]; simp
 have HB := Aside0.mk hB
 have HK := Aside0.mk (hk.below hB)
 have HC := Aside0.mk hc
 obtain ⟨A1, d1, rfl, -⟩ := id hk
 have x0 : ∀ z : Ext w1, z.1.cell? ⟨w.heap.size, 0, none⟩ = some (.int .i64 n) := fun z => Ext.cell c0 z
 have x1 : ∀ z : Ext w1, z.1.cell? ⟨w.heap.size, 1, none⟩ = some (.slice A1 xs.length d1) := fun z => Ext.cell c1 z
 have x2 : ∀ z : Ext w1, z.1.cell? ⟨w.heap.size + 1, 0, none⟩ = some (.int .i64 x) := fun z => Ext.cell c2 z
 have x3 : ∀ z : Ext w1, z.1.cell? ⟨w.heap.size + 1, 1, none⟩ = some (.int .i64 y) := fun z => Ext.cell c3 z
 obtain ⟨b1, hb1⟩ : ∃ b, b = decide (x ∈ xs) := ⟨_, rfl⟩
 obtain ⟨b2, hb2⟩ : ∃ b, b = decide (y ∈ xs) := ⟨_, rfl⟩
 have HHX : Aside0 (∀ z : Ext w1, Calls Tryz.prog 129 #[cx n (.slice A1 xs.length d1), .int .i64 x] z.1 fun e w' => e = .returned (.bool b1) ∧ Below z.1.heap.size z.1 w') := ⟨fun z => by rw [hb1]; exact has n _ xs x z.1 (HK.out.below z.2) HC.out.asc (by have := HC.out.len; omega)⟩
 have HHY : Aside0 (∀ z : Ext w1, Calls Tryz.prog 129 #[cx n (.slice A1 xs.length d1), .int .i64 y] z.1 fun e w' => e = .returned (.bool b2) ∧ Below z.1.heap.size z.1 w') := ⟨fun z => by rw [hb2]; exact has n _ xs y z.1 (HK.out.below z.2) HC.out.asc (by have := HC.out.len; omega)⟩
 clear hk hB hc c0 c1 c2 c3
 cases b1 with
 | false =>
  have HA : Aside0 (pairAt xs x y = false) := ⟨by unfold pairAt; rw [← hb1]; rfl⟩
  clear hb1 hb2
  go_enter Tryz.func239, Tryz.ntmps239
  go_wp2
  rw [← hw1]
  clear hw1
  refine wp_region_ext (by kernel_rfl) (by kernel_rfl) ?_
  repeat (go_big_quiet_step ((first | (go_at_call 129; with_reducible exact Calls.ext_of (HHX.out _)) | (go_at_call 129; with_reducible exact Calls.ext_of (HHY.out _)))))
  refine wpQuiet_nil ?_
  rintro _ ⟨z, rfl⟩
  have hbz := z.2
  go_wp2
  go_ret
  exact ⟨by rw [HA.out]; rfl, HB.out.trans (hbz.mono HB.out.size)⟩
 | true =>
  cases b2 with
  | false =>
   have HA : Aside0 (pairAt xs x y = false) := ⟨by unfold pairAt; rw [← hb1, ← hb2]; rfl⟩
   clear hb1 hb2
   go_enter Tryz.func239, Tryz.ntmps239
   go_wp2
   rw [← hw1]
   clear hw1
   refine wp_region_ext (by kernel_rfl) (by kernel_rfl) ?_
   repeat (go_big_quiet_step ((first | (go_at_call 129; with_reducible exact Calls.ext_of (HHX.out _)) | (go_at_call 129; with_reducible exact Calls.ext_of (HHY.out _)))))
   refine wpQuiet_nil ?_
   rintro _ ⟨z, rfl⟩
   have hbz := z.2
   go_wp2
   go_ret
   exact ⟨by rw [HA.out]; rfl, HB.out.trans (hbz.mono HB.out.size)⟩
  | true =>
   obtain ⟨zx, rfl, hx1, hx2⟩ := HC.out.nat (of_decide_eq_true hb1.symm)
   obtain ⟨zy, rfl, hy1, hy2⟩ := HC.out.nat (of_decide_eq_true hb2.symm)
   obtain ⟨I0, hI0⟩ : ∃ b, b = decide (zx &&& zy = zx) := ⟨_, rfl⟩
   obtain ⟨sx, hsx⟩ : ∃ s, s = ones zx := ⟨_, rfl⟩
   obtain ⟨sy, hsy⟩ : ∃ s, s = ones zy := ⟨_, rfl⟩
   have hle := ones_le zx (by omega)
   rw [← hsx] at hle
   have HA : Aside0 (pairAt xs zx zy = (I0 && ((sy : Int) == (sx : Int) + 1))) := ⟨by unfold pairAt; rw [← hb1, ← hb2, Int.toNat_natCast, Int.toNat_natCast, ← hI0, ← hsx, ← hsy, Bool.true_and, Bool.true_and]; congr 1; rw [Bool.eq_iff_iff, beq_iff_eq, beq_iff_eq]; omega⟩
   have HIN : Aside0 (∀ z : Ext w1, Calls Tryz.prog 134 #[.int .i64 (zx : Nat), .int .i64 (zy : Nat)] z.1 fun e w' => e = .returned (.bool I0) ∧ Below z.1.heap.size z.1 w') := ⟨fun z => by rw [hI0]; exact isInCg zx zy (by omega) (by omega) z.1⟩
   have HSX : Aside0 (∀ z : Ext w1, Calls Tryz.prog 211 #[.int .i64 (zx : Nat)] z.1 fun e w' => e = .returned (.int .i64 (sx : Nat)) ∧ Below z.1.heap.size z.1 w') := ⟨fun z => by rw [hsx]; exact size zx (by omega) z.1⟩
   have HSY : Aside0 (∀ z : Ext w1, Calls Tryz.prog 211 #[.int .i64 (zy : Nat)] z.1 fun e w' => e = .returned (.int .i64 (sy : Nat)) ∧ Below z.1.heap.size z.1 w') := ⟨fun z => by rw [hsy]; exact size zy (by omega) z.1⟩
   clear hb1 hb2 hI0 hsx hsy hx1 hx2 hy1 hy2
   cases I0 with
   | false =>
    rw [Bool.false_and] at HA
    go_enter Tryz.func239, Tryz.ntmps239
    go_wp2
    rw [← hw1]
    clear hw1
    refine wp_region_ext (by kernel_rfl) (by kernel_rfl) ?_
    repeat (go_big_quiet_step ((first | (go_at_call 129; with_reducible exact Calls.ext_of (HHX.out _)) | (go_at_call 129; with_reducible exact Calls.ext_of (HHY.out _)) | (go_at_call 134; with_reducible exact Calls.ext_of (HIN.out _)))))
    refine wpQuiet_nil ?_
    rintro _ ⟨z, rfl⟩
    have hbz := z.2
    go_wp2
    go_ret
    exact ⟨by rw [HA.out]; rfl, HB.out.trans (hbz.mono HB.out.size)⟩
   | true =>
    rw [Bool.true_and] at HA
    have hsw : IntKind.i64.wrap ((sx : Int) + 1) = (sx : Int) + 1 := IntWalk.i64_in _ (by omega)
    go_enter Tryz.func239, Tryz.ntmps239
    go_wp2
    rw [← hw1]
    clear hw1
    refine wp_region_ext (by kernel_rfl) (by kernel_rfl) ?_
    repeat (go_big_quiet_step ((first | (go_at_call 129; with_reducible exact Calls.ext_of (HHX.out _)) | (go_at_call 129; with_reducible exact Calls.ext_of (HHY.out _)) | (go_at_call 134; with_reducible exact Calls.ext_of (HIN.out _)) | (go_at_call 211; with_reducible exact Calls.ext_of (HSY.out _)) | (go_at_call 211; with_reducible exact Calls.ext_of (HSX.out _)))))
    refine wpQuiet_nil ?_
    rintro _ ⟨z, rfl⟩
    have hbz := z.2
    go_wp2
    go_ret
    exact ⟨by rw [HA.out]; rfl, HB.out.trans (hbz.mono HB.out.size)⟩
end Go.Proofs.YtomofijniefelaaGreat.H
