/- The image of a face, by the program and by the reference. -/
import Derived.Test.YtllmbbaffhpheaaMap
import Derived.Test.YtllmbbaffhpheaaFace
namespace Go.Proofs.Ytllmbbaffhpheaa.H
open Go.RowKit Go.Proofs.YtllmbbaffhpheaaW.PrintWords Go.Proofs.YtllmbbaffhpheaaW.PrintLast Go.Proofs.YtllmbbaffhpheaaW.PrintMore
set_option linter.unusedVariables false
set_option linter.unusedSimpArgs false

/-- the image of the part of a face on the first k vertices -/
def imgTo (f : Nat) (p : List Int) (k : Nat) : Nat := (List.range k).foldl (fun o v => if f.testBit v then o ||| 2 ^ (p.getD v 0).toNat else o) 0
/-- the image of a face -/
def img (f : Nat) (p : List Int) : Nat := imgTo f p p.length
theorem imgTo_succ (f : Nat) (p : List Int) (k : Nat) : imgTo f p (k + 1) = if f.testBit k then imgTo f p k ||| 2 ^ (p.getD k 0).toNat else imgTo f p k := by
  unfold imgTo
  rw [List.range_succ, List.foldl_append]
  rfl
theorem imgTo_more (f : Nat) (p : List Int) (n : Nat) (hf : f < 2 ^ n) : ∀ d, imgTo f p (n + d) = imgTo f p n := by
  intro d
  induction d with
  | zero => rfl
  | succ d ih =>
    rw [← Nat.add_assoc, imgTo_succ, if_neg, ih]
    rw [Nat.testBit_lt_two_pow (Nat.lt_of_lt_of_le hf (Nat.pow_le_pow_right (by decide) (Nat.le_add_right n d)))]
    decide
/-- over a list of vertices -/
def imgV (p : List Int) (l : List Int) : Nat := l.foldl (fun o v => o ||| 2 ^ (p.getD v.toNat 0).toNat) 0
theorem imgV_snoc (p l : List Int) (v : Int) : imgV p (l ++ [v]) = imgV p l ||| 2 ^ (p.getD v.toNat 0).toNat := by
  unfold imgV; rw [List.foldl_append]; rfl
theorem imgV_vs (f : Nat) (p : List Int) : imgV p (vs f) = imgTo f p 6 := by
  unfold imgV vs imgTo
  rw [List.foldl_map, List.foldl_filter]
  rfl
theorem img_vs (f : Nat) (p : List Int) (hn : p.length ≤ 6) (hf : f < 2 ^ p.length) : imgV p (vs f) = img f p := by
  rw [imgV_vs]
  have := imgTo_more f p p.length hf (6 - p.length)
  rw [show p.length + (6 - p.length) = 6 by omega] at this
  exact this
theorem getD_bd {p : List Int} (hp : ∀ x ∈ p, 0 ≤ x ∧ x ≤ 5) (k : Nat) : (p.getD k 0).toNat ≤ 5 := by
  by_cases h : k < p.length
  · have := hp _ (mem_at (i := k) h rfl); omega
  · have : p.getD k 0 = 0 := by simp [List.getD_eq_getElem?_getD, Nat.not_lt.1 h]
    rw [this]; decide
theorem or_lt {a e : Nat} (ha : a < 64) (he : e ≤ 5) : a ||| 2 ^ e < 64 :=
  Nat.or_lt_two_pow (n := 6) ha (by have := pow_bd e he; omega)
theorem imgV_lt {p : List Int} (hp : ∀ x ∈ p, 0 ≤ x ∧ x ≤ 5) (l : List Int) : imgV p l < 64 := by
  have key : ∀ (l : List Int) (o : Nat), o < 64 → l.foldl (fun o v => o ||| 2 ^ (p.getD v.toNat 0).toNat) o < 64 := by
    intro l
    induction l with
    | nil => exact fun o h => h
    | cons v l ih => exact fun o h => ih _ (or_lt h (getD_bd hp _))
  exact key l 0 (by decide)
theorem imgTo_lt {f : Nat} {p : List Int} (hp : ∀ x ∈ p, 0 ≤ x ∧ x ≤ 5) (k : Nat) : imgTo f p k < 64 := by
  induction k with
  | zero => exact (by decide : (0 : Nat) < 64)
  | succ k ih =>
    rw [imgTo_succ]
    split
    · exact or_lt ih (getD_bd hp _)
    · exact ih
theorem vs_mem {f : Nat} {v : Int} (h : v ∈ vs f) : ∃ k : Nat, v = k ∧ k < 6 ∧ f.testBit k = true := by
  unfold vs at h
  rw [List.mem_map] at h
  obtain ⟨k, hk, rfl⟩ := h
  rw [List.mem_filter, List.mem_range] at hk
  exact ⟨k, rfl, hk.1, hk.2⟩
theorem vs_in {f n : Nat} {v : Int} (hf : f < 2 ^ n) (h : v ∈ vs f) : ∃ k : Nat, v = k ∧ k < n := by
  obtain ⟨k, rfl, _, ht⟩ := vs_mem h
  refine ⟨k, rfl, ?_⟩
  by_cases hk : k < n
  · exact hk
  · rw [Nat.testBit_lt_two_pow (Nat.lt_of_lt_of_le hf (Nat.pow_le_pow_right (by decide) (Nat.not_lt.1 hk)))] at ht
    cases ht
theorem vs_len6 (f : Nat) : (vs f).length ≤ 6 := by
  unfold vs
  rw [List.length_map]
  exact Nat.le_trans (List.length_filter_le _ _) (by simp)

set_option maxHeartbeats 1000000 in
theorem imageOf (f : Nat) (v : Value) (p : List Int) (w : World) (hr : ReadI w v p) (hn : p.length ≤ 6) (hf : f < 2 ^ p.length) (hp : ∀ x ∈ p, 0 ≤ x ∧ x ≤ 5) :
    Calls Try.prog 60 #[.int .i64 f, v] w fun e w' => e = .returned (.int .i64 (img f p : Nat)) ∧ Below w.heap.size w w' := by
  have hf63 : f ≤ 63 := by have := (pw6 hn).2; omega
  have HI : Aside0 (imgV p (vs f) = img f p) := ⟨img_vs f p hn hf⟩
  have HL := Aside0.mk (fun l => imgV_lt hp l)
  have HF := Aside0.mk hf
  have HP := Aside0.mk hp
  have hl6 := vs_len6 f
  obtain ⟨A, c, rfl, hc, hr⟩ := hr
  have HR := Aside0.mk hr
  clear hr hf hp
  go_enter Try.func60, Try.ntmps60
  go_wp2_with (first | (go_at_call 107; refine (vertices f hf63 _).mono ?_; rintro e w1 ⟨u, rfl, ho, hb⟩; obtain ⟨A1, c1, rfl, -, hr1⟩ := ho.read; have HR1 := Aside0.mk hr1; have HB := Aside0.mk hb; clear ho hb hr1))
  go_loopw [5, 11] (fun o i wr => ∃ k : Nat, i = .int .i64 k ∧ k ≤ (vs f).length ∧ o = .int .i64 (imgV p ((vs f).take k) : Nat) ∧ Below w1.heap.size w1 wr) (fun _ i _ => (vs f).length - (intOf i).toNat)
  case atStart => exact ⟨0, rfl, Nat.zero_le _, rfl, Below.refl _ _⟩
  case round =>
    obtain ⟨k, rfl, hk, rfl, hb⟩ := hrel
    by_cases hlt : k < (vs f).length
    · obtain ⟨ad1, x, rfl, hcell1, HX⟩ := ReadI.get (Kd.C_below HR1.out hb) hlt
      obtain ⟨q, rfl, hq⟩ := vs_in HF.out (mem_at hlt HX.out)
      obtain ⟨ad, y, rfl, hcell, HY⟩ := ReadI.get (Kd.C_below HR.out (HB.out.trans (hb.mono HB.out.size))) (i := q) (by omega)
      have hy := HP.out _ (mem_at hq HY.out)
      obtain ⟨e, rfl⟩ : ∃ e : Nat, y = e := ⟨y.toNat, by omega⟩
      have HT := Aside0.mk (take_get hlt HX.out)
      have hsh := pow_wrap e (by omega)
      have hpb := pow_bd e (by omega)
      obtain ⟨o, ho⟩ : ∃ o, o = imgV p ((vs f).take k) := ⟨_, rfl⟩
      have hol := HL.out ((vs f).take k)
      rw [← ho] at hol ⊢
      have hor := or_i64 o (2 ^ e) (by omega) (by omega)
      obtain ⟨z, hz⟩ : ∃ z, z = o ||| 2 ^ e := ⟨_, rfl⟩
      rw [← hz] at hor
      obtain ⟨pp, hpp⟩ : ∃ pp : Nat, pp = 2 ^ e := ⟨_, rfl⟩
      rw [← hpp] at hsh hpb hor hz
      have HO := Aside0.mk ho
      have HZ := Aside0.mk hz
      have HPP := Aside0.mk hpp
      have HB2 := Aside0.mk hb
      clear ho hz hpp hb
      go_wp2
      go_roundw
      case rel =>
        refine ⟨k + 1, by go_num, by omega, ?_, HB2.out⟩
        rw [HT.out, imgV_snoc, ← HO.out, Int.toNat_natCast, HY.out, Int.toNat_natCast, ← HPP.out, ← HZ.out]
      case measure => simp [intOf]; omega
    · have e : k = (vs f).length := by omega
      have HE := Aside0.mk e
      have HB2 := Aside0.mk (HB.out.trans (hb.mono HB.out.size))
      clear e hb
      go_wp2
      go_ret
      exact ⟨by have := HI.out; rw [HE.out, List.take_length, this]; rfl, HB2.out⟩

set_option maxHeartbeats 1000000 in
theorem specMoved (f : Nat) (hf : f ≤ 63) (v : Value) (p : List Int) (w : World) (hr : ReadI w v p) (hn : p.length ≤ 6) (hp : ∀ x ∈ p, 0 ≤ x ∧ x ≤ 5) :
    Calls Try.prog 54 #[.int .i64 f, v] w fun e w' => e = .returned (.int .i64 (img f p : Nat)) ∧ Below w.heap.size w w' := by
  have HL := Aside0.mk (fun k => imgTo_lt (f := f) hp k)
  have HP := Aside0.mk hp
  obtain ⟨A, c, rfl, hc, hr⟩ := hr
  have HR := Aside0.mk hr
  clear hr hp
  go_enter Try.func54, Try.ntmps54
  go_wp2
  go_loopw [5, 6] (fun o i wr => ∃ k : Nat, i = .int .i64 k ∧ k ≤ p.length ∧ o = .int .i64 (imgTo f p k : Nat) ∧ Below w.heap.size w wr) (fun _ i _ => p.length - (intOf i).toNat)
  case atStart => exact ⟨0, rfl, Nat.zero_le _, rfl, Below.refl _ _⟩
  case round =>
    obtain ⟨k, rfl, hk, rfl, hb⟩ := hrel
    by_cases hlt : k < p.length
    · obtain ⟨ad, y, rfl, hcell, HY⟩ := ReadI.get (Kd.C_below HR.out hb) hlt
      have hy := HP.out _ (mem_at hlt HY.out)
      obtain ⟨e, rfl⟩ : ∃ e : Nat, y = e := ⟨y.toNat, by omega⟩
      have HS := Aside0.mk (imgTo_succ f p k)
      have hbit := bit_of f k (by omega)
      obtain ⟨o, ho⟩ : ∃ o, o = imgTo f p k := ⟨_, rfl⟩
      have hol := HL.out k
      rw [← ho] at hol ⊢
      have HO := Aside0.mk ho
      have HB2 := Aside0.mk hb
      clear ho hb
      cases ht : f.testBit k with
      | true =>
        rw [ht, if_pos rfl] at hbit
        have HT := Aside0.mk ht
        clear ht
        have hsh := pow_wrap e (by omega)
        have hpb := pow_bd e (by omega)
        have hor := or_i64 o (2 ^ e) (by omega) (by omega)
        obtain ⟨z, hz⟩ : ∃ z, z = o ||| 2 ^ e := ⟨_, rfl⟩
        rw [← hz] at hor
        obtain ⟨pp, hpp⟩ : ∃ pp : Nat, pp = 2 ^ e := ⟨_, rfl⟩
        rw [← hpp] at hsh hpb hor hz
        have HZ := Aside0.mk hz
        have HPP := Aside0.mk hpp
        clear hz hpp
        go_wp2
        go_roundw
        case rel =>
          refine ⟨k + 1, by go_num, by omega, ?_, HB2.out⟩
          rw [HS.out, HT.out, if_pos rfl, ← HO.out, HY.out, Int.toNat_natCast, ← HPP.out, ← HZ.out]
        case measure => simp [intOf]; omega
      | false =>
        rw [ht, if_neg (by decide)] at hbit
        have HT := Aside0.mk ht
        clear ht
        go_wp2
        go_roundw
        case rel =>
          refine ⟨k + 1, by go_num, by omega, ?_, HB2.out⟩
          rw [HS.out, HT.out, if_neg (by decide), ← HO.out]
        case measure => simp [intOf]; omega
    · have e : k = p.length := by omega
      have HE := Aside0.mk e
      clear e
      go_wp2
      go_ret
      exact ⟨by rw [HE.out]; rfl, hb⟩
end Go.Proofs.Ytllmbbaffhpheaa.H
