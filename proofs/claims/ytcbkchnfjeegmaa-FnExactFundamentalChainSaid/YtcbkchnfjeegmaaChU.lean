/- Chains of the program: sums of bits. -/
import Derived.Test.YtcbkchnfjeegmaaChn
import Derived.Test.YtcbkchnfjeegmaaAlw
import Derived.Test.YtcbkchnfjeegmaaHofS
namespace Go.Proofs.Ytcbkchnfjeegmaa.H
open Go.RowKit Go.Proofs.YtcbkchnfjeegmaaW.PrintWords Go.Proofs.YtcbkchnfjeegmaaW.PrintLast Go.Proofs.YtcbkchnfjeegmaaW.PrintMore
set_option linter.unusedVariables false
set_option linter.unusedSimpArgs false

theorem wrapU {n : Nat} (h : n < 18446744073709551616) : IntKind.u64.wrap (n : Int) = n := by
  show ((n : Int) % 18446744073709551616) = n
  omega
theorem ofInt_natU {a : Nat} (h : a < 18446744073709551616) : (BitVec.ofInt 64 (a : Int)).toNat = a := by
  rw [BitVec.ofInt_natCast, BitVec.toNat_ofNat]; exact Nat.mod_eq_of_lt h
theorem xor_u64 (a b : Nat) (ha : a < 18446744073709551616) (hb : b < 18446744073709551616) : bits .xor .u64 (a : Int) (b : Int) = ((a ^^^ b : Nat) : Int) := by
  have hx : a ^^^ b < 2 ^ 64 := Nat.xor_lt_two_pow ha hb
  show IntKind.u64.wrap ((BitVec.ofInt 64 (a : Int) ^^^ BitVec.ofInt 64 (b : Int)).toNat : Int) = _
  rw [BitVec.toNat_xor, ofInt_natU ha, ofInt_natU hb, wrapU (by omega)]
theorem and1_u64 (a : Nat) (ha : a < 18446744073709551616) : bits .and .u64 (a : Int) 1 = if a.testBit 0 then 1 else 0 := by
  show IntKind.u64.wrap ((BitVec.ofInt 64 (a : Int) &&& BitVec.ofInt 64 ((1 : Nat) : Int)).toNat : Int) = _
  rw [BitVec.toNat_and, ofInt_natU ha, ofInt_natU (by decide)]
  have h1 : a &&& 1 = a % 2 := Nat.and_one_is_mod a
  rw [h1, wrapU (by omega), Nat.testBit_zero]
  rcases Nat.mod_two_eq_zero_or_one a with h | h <;> rw [h] <;> rfl
theorem shr_bit (m k : Nat) (hm : m < 18446744073709551616) : bits .and .u64 ((m : Int) / 2 ^ k) 1 = if m.testBit k then 1 else 0 := by
  have e : ((m : Int) / 2 ^ k) = ((m / 2 ^ k : Nat) : Int) := by rw [Int.natCast_ediv, Int.natCast_pow]; rfl
  have hlt : m / 2 ^ k ≤ m := Nat.div_le_self _ _
  rw [e, and1_u64 _ (by omega)]
  have h2 : (m / 2 ^ k).testBit 0 = m.testBit k := by rw [Nat.testBit_div_two_pow]; simp
  rw [h2]
set_option maxRecDepth 100000 in
theorem powu : ∀ f, f < 64 → IntKind.u64.wrap ((2 : Int) ^ f) = ((2 ^ f : Nat) : Int) := by decide +kernel

theorem bits_snoc (l : List Int) (x : Int) : bitsI (l ++ [x]) = bitsI l ^^^ 2 ^ x.toNat := by unfold bitsI; rw [List.foldl_append]; rfl
theorem bitsI_lt {l : List Int} (h : ∀ x ∈ l, 0 ≤ x ∧ x ≤ 63) : bitsI l < 18446744073709551616 := bits_lt l h 0 (by decide)

set_option maxRecDepth 100000 in
set_option maxHeartbeats 2000000 in
theorem chainOf (v : Value) (l : List Int) (w : World) (hv : ReadI w v l) (hb : ∀ x ∈ l, 0 ≤ x ∧ x ≤ 63) :
    Calls Try.prog 53 #[v] w fun e w' => e = .returned (.int .u64 (bitsI l : Nat)) ∧ Below w.heap.size w w' := by
  have hlen := hv.len
  obtain ⟨A1, d1, rfl, hcc, hr⟩ := hv
  have HR := Aside0.mk hr
  have HB := Aside0.mk hb
  clear hr hcc hb
  go_enter Try.func53, Try.ntmps53
  go_wp2
  go_loopw [3, 8] (fun s3 s8 wr => ∃ i : Nat, s8 = .int .i64 i ∧ i ≤ l.length ∧ s3 = .int .u64 (bitsI (l.take i) : Nat) ∧ wr = w) (fun _ s8 _ => l.length - (intOf s8).toNat)
  case atStart => exact ⟨0, rfl, Nat.zero_le _, rfl, rfl⟩
  case round =>
    obtain ⟨i, rfl, hi, rfl, rfl⟩ := hrel
    by_cases hlt : i < l.length
    · obtain ⟨ad, y, rfl, hcell, HY⟩ := ReadI.get HR.out hlt
      have hy := HB.out y (mem_at hlt HY.out)
      obtain ⟨p, rfl⟩ : ∃ p : Nat, y = p := ⟨y.toNat, by omega⟩
      have hsh := powu p (by omega)
      have hpp : 2 ^ p < 18446744073709551616 := Nat.pow_lt_pow_right (a := 2) (by decide) (show p < 64 by omega)
      have hS := bitsI_lt (l := l.take i) (fun x hx => HB.out x (List.mem_of_mem_take hx))
      have HT : Aside0 (bitsI (l.take (i + 1)) = bitsI (l.take i) ^^^ 2 ^ p) := ⟨by rw [take_get hlt HY.out, bits_snoc, Int.toNat_natCast]⟩
      obtain ⟨S, hSe⟩ : ∃ S, S = bitsI (l.take i) := ⟨_, rfl⟩
      rw [← hSe] at hS HT ⊢
      obtain ⟨P, hP⟩ : ∃ P, P = 2 ^ p := ⟨_, rfl⟩
      rw [← hP] at hsh hpp HT
      have hxor := xor_u64 S P hS hpp
      clear hSe hP
      go_wp2
      go_roundw
      case rel => exact ⟨i + 1, by go_num, by omega, by rw [HT.out], trivial⟩
      case measure => simp [intOf]; omega
    · have e : i = l.length := by omega
      go_wp2
      go_ret
      exact ⟨by rw [e, List.take_length]; rfl, Below.refl _ _⟩

/-- the bits below k -/
def listB (m k : Nat) : List Int := ((List.range k).filter fun v => m.testBit v).map fun (v : Nat) => (v : Int)
theorem listB_hit {m k : Nat} (h : m.testBit k = true) : listB m (k + 1) = listB m k ++ [(k : Int)] := by
  unfold listB; rw [List.range_succ, List.filter_append, List.map_append]; simp [h]
theorem listB_miss {m k : Nat} (h : m.testBit k = false) : listB m (k + 1) = listB m k := by
  unfold listB; rw [List.range_succ, List.filter_append, List.map_append]; simp [h]
theorem listB_len (m k : Nat) : (listB m k).length ≤ k := by
  unfold listB; rw [List.length_map]; exact Nat.le_trans (List.length_filter_le _ _) (by simp)
theorem listB_mem {m k : Nat} {x : Int} : x ∈ listB m k ↔ ∃ v : Nat, x = v ∧ v < k ∧ m.testBit v = true := by
  unfold listB
  rw [List.mem_map]
  constructor
  · rintro ⟨v, hv, rfl⟩
    rw [List.mem_filter, List.mem_range] at hv
    exact ⟨v, rfl, hv.1, hv.2⟩
  · rintro ⟨v, rfl, h1, h2⟩
    exact ⟨v, List.mem_filter.2 ⟨List.mem_range.2 h1, h2⟩, rfl⟩
theorem listB_asc (m k : Nat) : (listB m k).Pairwise (· < ·) := by
  unfold listB
  rw [List.pairwise_map]
  exact List.Pairwise.sublist List.filter_sublist (List.Pairwise.imp (fun h => by omega) List.pairwise_lt_range)
theorem listB_all {m k : Nat} (hk : k ≤ 64) (h : m < 2 ^ k) : listB m k = listI m := by
  refine asc_ext (listB_asc _ _) (listI_asc _) (fun x => ?_)
  rw [listB_mem, listI_mem]
  constructor
  · rintro ⟨v, rfl, h1, h2⟩; exact ⟨v, rfl, by omega, h2⟩
  · rintro ⟨v, rfl, h1, h2⟩
    refine ⟨v, rfl, ?_, h2⟩
    rcases Nat.lt_or_ge v k with h3 | h3
    · exact h3
    · have := Nat.testBit_lt_two_pow (Nat.lt_of_lt_of_le h (Nat.pow_le_pow_right (by decide) h3))
      rw [this] at h2; cases h2
theorem shr_zero {m k : Nat} : ((m : Int) / 2 ^ k = 0) ↔ m < 2 ^ k := by
  have e : ((m : Int) / 2 ^ k) = ((m / 2 ^ k : Nat) : Int) := by rw [Int.natCast_ediv, Int.natCast_pow]; rfl
  rw [e]
  have hp := Nat.two_pow_pos k
  constructor
  · intro h
    have h0 : m / 2 ^ k = 0 := by omega
    rcases Nat.div_eq_zero_iff.1 h0 with h1 | h1
    · omega
    · exact h1
  · intro h
    rw [Nat.div_eq_of_lt h]; rfl

set_option maxRecDepth 100000 in
set_option maxHeartbeats 2000000 in
theorem chainList (m : Nat) (hm : m < 18446744073709551616) (h0 : m.testBit 0 = false) (w : World) :
    Calls Try.prog 55 #[.int .u64 m] w fun e w' => ∃ u, e = .returned u ∧ OwnI w.heap.size w' u (listI m) ∧ Below w.heap.size w w' := by
  have HZ := Aside0.mk h0
  go_enter Try.func55, Try.ntmps55
  go_wp2
  go_loopw [3, 4] (fun s3 s4 wr => ∃ k : Nat, s4 = .int .i64 k ∧ 1 ≤ k ∧ k ≤ 64 ∧ Aside0 (OwnI w.heap.size wr s3 (listB m k)) ∧ Aside0 (Below w.heap.size w wr)) (fun _ s4 _ => 64 - (intOf s4).toNat)
  case atStart => exact ⟨1, rfl, Nat.le_refl _, by decide, ⟨by rw [listB_miss (k := 0) HZ.out]; exact OwnI.nil _ _⟩, ⟨Below.refl _ _⟩⟩
  case round =>
    obtain ⟨k, rfl, hk1, hk, HO, HB⟩ := hrel
    by_cases hlt : m < 2 ^ k
    · have hz : ((m : Int) / 2 ^ k != 0) = false := by simp [shr_zero.2 hlt]
      have HE := Aside0.mk (listB_all hk hlt)
      clear hlt
      go_wp2
      go_ret
      exact ⟨_, rfl, by rw [← HE.out]; exact HO.out, HB.out⟩
    · have hz : ((m : Int) / 2 ^ k != 0) = true := by
        rw [bne_iff_ne]; exact fun h => hlt (shr_zero.1 h)
      have hk64 : k < 64 := by
        rcases Nat.lt_or_ge k 64 with h | h
        · exact h
        · exact absurd (Nat.lt_of_lt_of_le hm (Nat.pow_le_pow_right (n := 2) (by decide) h)) hlt
      have hbit := shr_bit m k hm
      have hll := listB_len m k
      clear hlt
      cases hb : m.testBit k with
      | true =>
        have HT := Aside0.mk (listB_hit hb)
        rw [hb, if_pos rfl] at hbit
        go_wp2_with (first | (at_builtin; refine app_own (w0 := w) w.heap.size rfl (.tmp 16) (.tmp 18) rfl _ (listB m k) k rfl rfl HO.out HB.out HB.out.size ?hl ?_; (case hl => omega); intro v1 w6 ho hb hg hat; have HO1 := Aside0.mk ho; have HB1 := Aside0.mk hb; clear ho hb hg hat))
        go_roundw
        case rel => exact ⟨k + 1, by go_num, by omega, by omega, ⟨by rw [HT.out]; exact HO1.out⟩, HB1⟩
        case measure => simp [intOf]; omega
      | false =>
        have HT := Aside0.mk (listB_miss hb)
        rw [hb, if_neg (by decide)] at hbit
        go_wp2
        go_roundw
        case rel => exact ⟨k + 1, by go_num, by omega, by omega, ⟨by rw [HT.out]; exact HO.out⟩, HB⟩
        case measure => simp [intOf]; omega

theorem bnd_snoc (l : List Int) (x : Int) : bndB (l ++ [x]) = bndB l ^^^ bitsI (below x.toNat) := by unfold bndB; rw [List.foldl_append]; rfl
theorem bndB_lt {l : List Int} (h : ∀ x ∈ l, 0 ≤ x ∧ x ≤ 63) : bndB l < 18446744073709551616 := bnd_lt l h 0 (by decide)

set_option maxRecDepth 100000 in
set_option maxHeartbeats 2000000 in
theorem boundary (m : Nat) (l : List Int) (hl : listI m = l) (hm : m < 18446744073709551616) (hb : ∀ x ∈ l, 1 ≤ x ∧ x ≤ 63) (w : World) :
    Calls Try.prog 54 #[.int .u64 m] w fun e w' => e = .returned (.int .u64 (bndB l : Nat)) ∧ Below w.heap.size w w' := by
  have h0 : m.testBit 0 = false := by
    cases h : m.testBit 0 with
    | false => rfl
    | true =>
      have := hb ((0 : Nat) : Int) (by rw [← hl]; exact listI_mem.2 ⟨0, rfl, by decide, h⟩)
      omega
  have HL := Aside0.mk (chainList m hm h0 w)
  rw [hl] at HL
  have HB := Aside0.mk hb
  clear hb hl h0
  go_enter Try.func54, Try.ntmps54
  go_wp2_with (first | (go_at_call 55; refine HL.out.mono ?_; rintro e w2 ⟨u, rfl, ho, hb⟩; have HBw := Aside0.mk hb; obtain ⟨A1, d1, rfl, hcc, hr⟩ := ho.read; have HR := Aside0.mk hr; have hlen := ho.read.len; clear ho hb hr hcc))
  go_loopw [3, 9] (fun s3 s9 wr => ∃ i : Nat, s9 = .int .i64 i ∧ i ≤ l.length ∧ s3 = .int .u64 (bndB (l.take i) : Nat) ∧ Aside0 (Below w2.heap.size w2 wr)) (fun _ s9 _ => l.length - (intOf s9).toNat)
  case atStart => exact ⟨0, rfl, Nat.zero_le _, rfl, ⟨Below.refl _ _⟩⟩
  case round =>
    obtain ⟨i, rfl, hi, rfl, HBi⟩ := hrel
    by_cases hlt : i < l.length
    · obtain ⟨ad, y, rfl, hcell, HY⟩ := ReadI.get (Kd.C_below HR.out HBi.out) hlt
      have hy := HB.out y (mem_at hlt HY.out)
      obtain ⟨p, rfl⟩ : ∃ p : Nat, y = p := ⟨y.toNat, by omega⟩
      have hS := bndB_lt (l := l.take i) (fun x hx => by have := HB.out x (List.mem_of_mem_take hx); omega)
      have HBD := Aside0.mk (below_bd p (by omega))
      have hP := bitsI_lt HBD.out
      have HT : Aside0 (bndB (l.take (i + 1)) = bndB (l.take i) ^^^ bitsI (below p)) := ⟨by rw [take_get hlt HY.out, bnd_snoc, Int.toNat_natCast]⟩
      obtain ⟨S, hSe⟩ : ∃ S, S = bndB (l.take i) := ⟨_, rfl⟩
      rw [← hSe] at hS HT ⊢
      obtain ⟨P, hPe⟩ : ∃ P, P = bitsI (below p) := ⟨_, rfl⟩
      rw [← hPe] at hP HT
      have HPE := Aside0.mk hPe
      have hxor := xor_u64 S P hS hP
      clear hSe hPe
      go_wp2_with (first | (go_at_call 107; refine (borders p (by omega) _).mono ?_; rintro e w5 ⟨u, rfl, ho, hb5⟩; have HO5 := Aside0.mk ho; obtain ⟨A5, d5, rfl, -⟩ := ho.read; have HB5 := Aside0.mk (HBi.out.trans (hb5.mono HBi.out.size)); clear ho hb5) | (go_at_call 53; refine (chainOf _ (below p) _ HO5.out.read HBD.out).mono ?_; rintro e w6 ⟨rfl, hb6⟩; rw [← HPE.out]; have HB6 := Aside0.mk (HB5.out.trans (hb6.mono HB5.out.size)); clear hb6))
      go_roundw
      case rel => exact ⟨i + 1, by go_num, by omega, by rw [HT.out], HB6⟩
      case measure => simp [intOf]; omega
    · have e : i = l.length := by omega
      go_wp2
      go_ret
      exact ⟨by rw [e, List.take_length]; rfl, HBw.out.trans (HBi.out.mono HBw.out.size)⟩
end Go.Proofs.Ytcbkchnfjeegmaa.H
