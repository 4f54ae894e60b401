/- PairingByVertex of the program and of the reference. -/
import Derived.Test.YtllmbbaffhpheaaPairV
namespace Go.Proofs.Ytllmbbaffhpheaa.H
open Go.RowKit Go.Proofs.YtllmbbaffhpheaaW.PrintWords Go.Proofs.YtllmbbaffhpheaaW.PrintLast Go.Proofs.YtllmbbaffhpheaaW.PrintMore
set_option linter.unusedVariables false
set_option linter.unusedSimpArgs false

/-- a face is paired upwards -/
def upAtV (xs : List Int) (v z : Nat) : Bool := !z.testBit v && decide (((z ||| 2 ^ v : Nat) : Int) ∈ xs)
/-- the pairs of the first k faces -/
def byTo (xs : List Int) (v k : Nat) : List (Int × Int) := (List.range k).filterMap fun i => if upAtV xs v (xs.getD i 0).toNat then some (xs.getD i 0, (((xs.getD i 0).toNat ||| 2 ^ v : Nat) : Int)) else none
theorem byTo_hit {xs : List Int} {v k z : Nat} (hy : xs.getD k 0 = (z : Int)) (h : upAtV xs v z = true) : byTo xs v (k + 1) = byTo xs v k ++ [((z : Int), ((z ||| 2 ^ v : Nat) : Int))] := by
  unfold byTo
  rw [List.range_succ, List.filterMap_append]
  simp only [List.filterMap_cons, List.filterMap_nil]
  rw [hy, Int.toNat_natCast, if_pos h]
theorem byTo_miss {xs : List Int} {v k z : Nat} (hy : xs.getD k 0 = (z : Int)) (h : upAtV xs v z = false) : byTo xs v (k + 1) = byTo xs v k := by
  unfold byTo
  rw [List.range_succ, List.filterMap_append]
  simp only [List.filterMap_cons, List.filterMap_nil]
  rw [hy, Int.toNat_natCast, if_neg (by rw [h]; decide), List.append_nil]
theorem byTo_len (xs : List Int) (v k : Nat) : (byTo xs v k).length ≤ k := by
  unfold byTo
  exact Nat.le_trans (List.length_filterMap_le _ _) (by simp)
/-- what PairingByVertex answers -/
def ansPairingByVertex (a : Int) (xs : List Int) (v : Int) : List (Int × Int) × Int :=
  if cxOk a xs then (if decide (0 ≤ v) && decide (v ≤ a - 1) then (byTo xs v.toNat xs.length, 0) else ([], 2)) else ([], 1)
theorem lenPairingByVertex (a : Int) (xs : List Int) (v : Int) : (ansPairingByVertex a xs v).1.length ≤ 1073741824 := by
  unfold ansPairingByVertex
  split
  · next h =>
    obtain ⟨n, -, hn, -⟩ := cxOk_cx h
    split
    · exact Nat.le_trans (byTo_len _ _ _) (by have := hn.len; omega)
    · simp
  · simp
theorem and_bit (z v : Nat) : z &&& 2 ^ v = if z.testBit v then 2 ^ v else 0 := by
  apply Nat.eq_of_testBit_eq
  intro i
  rw [Nat.testBit_and, Nat.testBit_two_pow]
  by_cases h : v = i
  · subst h
    cases hq : z.testBit v <;> simp
  · cases hq : z.testBit v <;> simp [h, Nat.testBit_two_pow]

set_option maxRecDepth 100000 in
set_option maxHeartbeats 2000000 in
theorem byVertex (u : Value) (xs : List Int) (v : Nat) (hv : v ≤ 5) (w : World) (hu : ReadI w u xs) (hx : ∀ x ∈ xs, 0 ≤ x ∧ x ≤ 63) (hl63 : xs.length ≤ 63) :
    Calls Try.prog 72 #[u, .int .i64 v] w fun e w' => ∃ r, e = .returned r ∧ OwnP w.heap.size w' r (byTo xs v xs.length) ∧ Below w.heap.size w w' := by
  have HU := Aside0.mk hu
  obtain ⟨A1, d1, rfl, hcc, hr⟩ := hu
  have HR := Aside0.mk hr
  have HX := Aside0.mk hx
  have hsh := pow_wrap v (by omega)
  have hpp : 2 ^ v < 64 := by have := Nat.pow_lt_pow_right (a := 2) (by decide) (show v < 6 by omega); omega
  clear hr hcc hx
  go_enter Try.func72, Try.ntmps72
  go_wp2
  go_loopw [5, 10] (fun s5 s10 wr => ∃ i : Nat, s10 = .int .i64 i ∧ i ≤ xs.length ∧ Aside0 (OwnP w.heap.size wr s5 (byTo xs v i)) ∧ Aside0 (Below w.heap.size w wr)) (fun _ s10 _ => xs.length - (intOf s10).toNat)
  case atStart => exact ⟨0, rfl, Nat.zero_le _, ⟨OwnP.nil _ _⟩, ⟨Below.refl _ _⟩⟩
  case round =>
    obtain ⟨i, rfl, hi, HO, HB⟩ := hrel
    have hll := byTo_len xs v i
    by_cases hlt : i < xs.length
    · obtain ⟨ad, y, rfl, hcell, HY⟩ := ReadI.get (Kd.C_below HR.out HB.out) hlt
      have hy := HX.out y (mem_at hlt HY.out)
      obtain ⟨z, rfl⟩ : ∃ z : Nat, y = z := ⟨y.toNat, by omega⟩
      have hbit := bit_of z v (by omega)
      have hor := or_i64 z (2 ^ v) (by omega) (by omega)
      have HUP : Aside0 (upAtV xs v z = (!z.testBit v && decide (((z ||| 2 ^ v : Nat) : Int) ∈ xs))) := ⟨rfl⟩
      have HH := Aside0.mk (fun h : upAtV xs v z = true => byTo_hit (k := i) HY.out h)
      have HM := Aside0.mk (fun h : upAtV xs v z = false => byTo_miss (k := i) HY.out h)
      obtain ⟨P, hP⟩ : ∃ P, P = 2 ^ v := ⟨_, rfl⟩
      rw [← hP] at hsh hor HUP HH hpp
      obtain ⟨g, hg⟩ : ∃ g, g = z ||| P := ⟨_, rfl⟩
      rw [← hg] at hor HUP HH
      clear hP hg hy
      cases htb : z.testBit v with
      | true =>
        rw [htb, if_pos rfl] at hbit
        have HT := Aside0.mk (HM.out (by rw [HUP.out, htb]; rfl))
        go_wp2
        go_roundw
        case rel => exact ⟨i + 1, by go_num, by omega, ⟨by rw [HT.out]; exact HO.out⟩, HB⟩
        case measure => simp [intOf]; omega
      | false =>
        rw [htb, if_neg (by decide)] at hbit
        cases hin : decide (((g : Nat) : Int) ∈ xs) with
        | false =>
          have HT := Aside0.mk (HM.out (by rw [HUP.out, htb, hin]; rfl))
          go_wp2_with (first | (go_at_call 120; refine (sliceContains _ xs _ _ (HU.out.below HB.out)).mono ?_; rintro e w2 ⟨rfl, hb⟩; rw [hin]))
          go_roundw
          case rel => exact ⟨i + 1, by go_num, by omega, ⟨by rw [HT.out]; exact OwnP.below HO.out hb⟩, ⟨HB.out.trans (hb.mono HB.out.size)⟩⟩
          case measure => simp [intOf]; omega
        | true =>
          have HT := Aside0.mk (HH.out (by rw [HUP.out, htb, hin]; rfl))
          go_wp2_with (first | (go_at_call 120; refine (sliceContains _ xs _ _ (HU.out.below HB.out)).mono ?_; rintro e w2 ⟨rfl, hb⟩; rw [hin]; have HO2 := Aside0.mk (OwnP.below HO.out hb); have HB2 := Aside0.mk (HB.out.trans (hb.mono HB.out.size)); clear hb) | (at_builtin; refine app_pair (w0 := w) w.heap.size rfl (.tmp 27) (.tmp 34) rfl _ (byTo xs v i) z g rfl rfl HO2.out HB2.out HB2.out.size (by omega) ?_; intro v1 w6 ho hb hg hat; have HO1 := Aside0.mk ho; have HB1 := Aside0.mk hb; clear ho hb hg hat))
          go_roundw
          case rel => exact ⟨i + 1, by go_num, by omega, ⟨by rw [HT.out]; exact HO1.out⟩, HB1⟩
          case measure => simp [intOf]; omega
    · have e : i = xs.length := by omega
      have HE := Aside0.mk e
      clear e
      go_wp2
      go_ret
      exact ⟨_, rfl, by rw [← HE.out]; exact HO.out, HB.out⟩

set_option maxHeartbeats 2000000 in
theorem complexCode3 (a : Int) (ku : Value) (xs : List Int) (fv : Value) (r : Bool) (w : World) (hk : ReadI w ku xs) (hf : cxOk a xs = true → ThunkB w fv r) (hfv : ∃ g first caps, fv = .func (.func g) first caps) :
    Calls Try.prog 67 #[cx a ku, fv] w fun e w' => e = .returned (.int .i64 (if cxOk a xs then (if r then 0 else 2) else 1)) ∧ Below w.heap.size w w' := by
  obtain ⟨w1, hw1⟩ : ∃ w1, w1 = w.alloc (.cells #[.int .i64 a, ku] 28) := ⟨_, rfl⟩
  have hB : Below w.heap.size w w1 := by rw [hw1]; exact Below.alloc (Below.refl _ _) (Nat.le_refl _) _
  have c0 : w1.cell? ⟨w.heap.size, 0, none⟩ = some (.int .i64 a) := by rw [hw1]; simp
  have c1 : w1.cell? ⟨w.heap.size, 1, none⟩ = some ku := by rw [hw1]; simp
  have HK := Aside0.mk (hk.below hB)
  have HB := Aside0.mk hB
  obtain ⟨g, first, caps, rfl⟩ := hfv
  have HF := Aside0.mk (fun h => (hf h).below hB)
  obtain ⟨A1, d1, rfl, -⟩ := id hk
  clear hk hf hB
  cases h1 : cxOk a xs with
  | false =>
    go_enter Try.func67, Try.ntmps67
    go_wp2_with (first | (rw [← hw1]; clear hw1; go_at_call 61; refine (isComplex _ _ xs _ HK.out).mono ?_; rintro e w2 ⟨rfl, hb⟩; rw [h1]))
    go_ret
    exact ⟨rfl, HB.out.trans (hb.mono HB.out.size)⟩
  | true =>
    obtain ⟨g', first', caps', e3, hent, hp⟩ := HF.out h1
    cases e3
    have HP := Aside0.mk hp
    clear hp HF
    unfold Enters at hent
    cases r with
    | false =>
      go_enter Try.func67, Try.ntmps67
      go_wp2_with (first | (rw [← hw1]; clear hw1; go_at_call 61; refine (isComplex _ _ xs _ HK.out).mono ?_; rintro e w2 ⟨rfl, hb⟩; rw [h1]; have HB2 := Aside0.mk hb; clear hb) | (refine (HP.out _ HB2.out).mono ?_; rintro e w3 ⟨rfl, hb⟩))
      go_ret
      exact ⟨rfl, HB.out.trans ((HB2.out.trans (hb.mono HB2.out.size)).mono HB.out.size)⟩
    | true =>
      go_enter Try.func67, Try.ntmps67
      go_wp2_with (first | (rw [← hw1]; clear hw1; go_at_call 61; refine (isComplex _ _ xs _ HK.out).mono ?_; rintro e w2 ⟨rfl, hb⟩; rw [h1]; have HB2 := Aside0.mk hb; clear hb) | (refine (HP.out _ HB2.out).mono ?_; rintro e w3 ⟨rfl, hb⟩))
      go_ret
      exact ⟨rfl, HB.out.trans ((HB2.out.trans (hb.mono HB2.out.size)).mono HB.out.size)⟩


set_option maxHeartbeats 1000000 in
theorem byVertexThunk (w : World) (bv bk : Nat) (v : Int) (n : Nat) (hn : n ≤ 6) (h0 : w.cell? ⟨bv, 0, none⟩ = some (.int .i64 v)) (h1 : w.cell? ⟨bk, 0, none⟩ = some (.int .i64 n)) :
    ThunkB w (.func (.func 70) #[] #[.pointer (some ⟨bv, 0, none⟩), .pointer (some ⟨bk, 0, none⟩)]) (decide (0 ≤ v) && decide (v ≤ (n : Int) - 1)) := by
  refine ⟨_, _, _, rfl, Enters.mk' Try.func70 rfl rfl, fun w1 hb => ?_⟩
  have c0 := pw_cell_below hb h0
  have c1 := pw_cell_below hb h1
  clear hb h0 h1
  show Calls _ _ #[_, _] _ _
  go_enter Try.func70, Try.ntmps70
  go_wp2_with (first | (go_at_call 71; refine (within _ _ _ _).mono ?_; rintro e w2 ⟨rfl, hb⟩))
  go_ret
  exact ⟨rfl, hb⟩

set_option maxRecDepth 100000 in
set_option maxHeartbeats 2000000 in
theorem implPairingByVertex (a : Int) (ku : Value) (xs : List Int) (v : Int) (w : World) (hk : ReadI w ku xs) :
    Calls Try.prog 32 #[cx a ku, .int .i64 v] w fun e w' => ∃ u, e = .returned (.tuple #[u, .int .i64 (ansPairingByVertex a xs v).2]) ∧ OwnP w.heap.size w' u (ansPairingByVertex a xs v).1 ∧ Below w.heap.size w w' := by
  obtain ⟨w1, hw1⟩ : ∃ w1, w1 = (w.alloc (.cells #[.int .i64 a, ku] 28)).alloc (.cells #[.int .i64 v] 2) := ⟨_, rfl⟩
  have hB : Below w.heap.size w w1 := by rw [hw1]; exact ((Below.refl _ w).alloc (Nat.le_refl _) _).alloc (by simp) _
  have c0 : w1.cell? ⟨w.heap.size, 0, none⟩ = some (.int .i64 a) := by rw [hw1]; simp
  have c1 : w1.cell? ⟨w.heap.size, 1, none⟩ = some ku := by rw [hw1]; simp
  have c2 : w1.cell? ⟨w.heap.size + 1, 0, none⟩ = some (.int .i64 v) := by rw [hw1]; simp
  have HK := Aside0.mk (hk.below hB)
  have HB := Aside0.mk hB
  have hsz := hB.size
  have HT : Aside0 (cxOk a xs = true → ThunkB w1 (.func (.func 70) #[] #[.pointer (some ⟨w.heap.size + 1, 0, none⟩), .pointer (some ⟨w.heap.size, 0, none⟩)]) (decide (0 ≤ v) && decide (v ≤ a - 1))) := ⟨fun h => by
    obtain ⟨n, rfl, hn, -⟩ := cxOk_cx h
    exact byVertexThunk w1 _ _ v n hn.hi c2 c0⟩
  obtain ⟨A1, d1, rfl, -⟩ := id hk
  clear hk hB
  cases h1 : cxOk a xs with
  | false =>
    have HA : Aside0 (ansPairingByVertex a xs v = ([], 1)) := ⟨by unfold ansPairingByVertex; rw [h1]; rfl⟩
    go_enter Try.func32, Try.ntmps32
    go_wp2_with (first | (go_at_call 67; rw [← hw1]; clear hw1; refine (complexCode3 a _ xs _ _ _ HK.out HT.out ⟨_, _, _, rfl⟩).mono ?_; rintro e w2 ⟨rfl, hb⟩; rw [h1]; have HB2 := Aside0.mk hb; clear hb))
    go_ret2
    exact ⟨_, by rw [HA.out]; rfl, by rw [HA.out]; exact OwnP.nil _ _, HB.out.trans (HB2.out.mono HB.out.size)⟩
  | true =>
    cases h2 : (decide (0 ≤ v) && decide (v ≤ a - 1)) with
    | false =>
      have HA : Aside0 (ansPairingByVertex a xs v = ([], 2)) := ⟨by unfold ansPairingByVertex; rw [h1, h2]; rfl⟩
      go_enter Try.func32, Try.ntmps32
      go_wp2_with (first | (go_at_call 67; rw [← hw1]; clear hw1; refine (complexCode3 a _ xs _ _ _ HK.out HT.out ⟨_, _, _, rfl⟩).mono ?_; rintro e w2 ⟨rfl, hb⟩; rw [h1, h2]; have HB2 := Aside0.mk hb; clear hb))
      go_ret2
      exact ⟨_, by rw [HA.out]; rfl, by rw [HA.out]; exact OwnP.nil _ _, HB.out.trans (HB2.out.mono HB.out.size)⟩
    | true =>
      have HA : Aside0 (ansPairingByVertex a xs v = (byTo xs v.toNat xs.length, 0)) := ⟨by unfold ansPairingByVertex; rw [h1, h2]; rfl⟩
      obtain ⟨n, rfl, hn, -⟩ := cxOk_cx h1
      have hv := h2
      simp only [Bool.and_eq_true, decide_eq_true_eq] at hv
      obtain ⟨p, rfl⟩ : ∃ p : Nat, v = p := ⟨v.toNat, by omega⟩
      rw [Int.toNat_natCast] at HA
      have hp5 : p ≤ 5 := by have := hn.hi; omega
      have HX : Aside0 (∀ x ∈ xs, 0 ≤ x ∧ x ≤ 63) := ⟨fun x hx => by have := hn.bd x hx; have := pw6 hn.hi; omega⟩
      have HL := Aside0.mk hn.len
      clear hv hn
      go_enter Try.func32, Try.ntmps32
      go_wp2_with (first | (go_at_call 67; rw [← hw1]; clear hw1; refine (complexCode3 n _ xs _ _ _ HK.out HT.out ⟨_, _, _, rfl⟩).mono ?_; rintro e w2 ⟨rfl, hb⟩; rw [h1, h2]; have HB2 := Aside0.mk hb; have c0 := pw_cell_below hb c0; have c1 := pw_cell_below hb c1; have c2 := pw_cell_below hb c2; clear hb) | (go_at_call 72; refine (byVertex _ xs p hp5 _ (HK.out.below HB2.out) HX.out HL.out).mono ?_; rintro e w3 ⟨u, rfl, ho, hb⟩; have HO := Aside0.mk ho; have HB3 := Aside0.mk (HB2.out.trans (hb.mono HB2.out.size)); obtain ⟨A4, d4, rfl, -⟩ := ho.read; clear ho hb))
      go_ret2
      have := HB2.out.size
      exact ⟨_, by rw [HA.out]; rfl, by rw [HA.out]; exact HO.out.lower (by omega), HB.out.trans (HB3.out.mono HB.out.size)⟩

set_option maxRecDepth 100000 in
set_option maxHeartbeats 2000000 in
theorem specPairingByVertex (a : Int) (ku : Value) (xs : List Int) (v : Int) (w : World) (hk : ReadI w ku xs) :
    Calls Try.prog 31 #[cx a ku, .int .i64 v] w fun e w' => ∃ u, e = .returned (.tuple #[u, .int .i64 (ansPairingByVertex a xs v).2]) ∧ OwnP w.heap.size w' u (ansPairingByVertex a xs v).1 ∧ Below w.heap.size w w' := by
  obtain ⟨w1, hw1⟩ : ∃ w1, w1 = w.alloc (.cells #[.int .i64 a, ku] 28) := ⟨_, rfl⟩
  have hB : Below w.heap.size w w1 := by rw [hw1]; exact Below.alloc (Below.refl _ _) (Nat.le_refl _) _
  have c0 : w1.cell? ⟨w.heap.size, 0, none⟩ = some (.int .i64 a) := by rw [hw1]; simp
  have c1 : w1.cell? ⟨w.heap.size, 1, none⟩ = some ku := by rw [hw1]; simp
  have HK := Aside0.mk (hk.below hB)
  have HB := Aside0.mk hB
  have hsz := hB.size
  obtain ⟨A1, d1, rfl, hcc, hr⟩ := hk.below hB
  have HR := Aside0.mk hr
  clear hk hB hr hcc
  cases h1 : cxOk a xs with
  | false =>
    have HA : Aside0 (ansPairingByVertex a xs v = ([], 1)) := ⟨by unfold ansPairingByVertex; rw [h1]; rfl⟩
    go_enter Try.func31, Try.ntmps31
    go_wp2_with (first | (go_at_call 64; rw [← hw1]; clear hw1; refine (specIs _ _ xs _ HK.out).mono ?_; rintro e w2 ⟨rfl, hb⟩; rw [h1]; have HB2 := Aside0.mk hb; clear hb))
    go_ret2
    exact ⟨_, by rw [HA.out]; rfl, by rw [HA.out]; exact OwnP.nil _ _, HB.out.trans (HB2.out.mono HB.out.size)⟩
  | true =>
    obtain ⟨n, rfl, hn, -⟩ := cxOk_cx h1
    have hn6 := hn.hi
    have hn1 := hn.lo
    cases h2 : (decide (0 ≤ v) && decide (v ≤ (n : Int) - 1)) with
    | false =>
      have HA : Aside0 (ansPairingByVertex n xs v = ([], 2)) := ⟨by unfold ansPairingByVertex; rw [h1, h2]; rfl⟩
      go_enter Try.func31, Try.ntmps31
      go_wp2_with (first | (go_at_call 64; rw [← hw1]; clear hw1; refine (specIs _ _ xs _ HK.out).mono ?_; rintro e w2 ⟨rfl, hb⟩; rw [h1]; have HB2 := Aside0.mk hb; have c0 := pw_cell_below hb c0; have c1 := pw_cell_below hb c1; clear hb) | (go_at_call 69; refine (specIn _ _ _ _).mono ?_; rintro e w3 ⟨rfl, hb⟩; rw [h2]; have HB3 := Aside0.mk (HB2.out.trans (hb.mono HB2.out.size)); clear hb))
      go_ret2
      exact ⟨_, by rw [HA.out]; rfl, by rw [HA.out]; exact OwnP.nil _ _, HB.out.trans (HB3.out.mono HB.out.size)⟩
    | true =>
      have HA : Aside0 (ansPairingByVertex n xs v = (byTo xs v.toNat xs.length, 0)) := ⟨by unfold ansPairingByVertex; rw [h1, h2]; rfl⟩
      have hv := h2
      simp only [Bool.and_eq_true, decide_eq_true_eq] at hv
      obtain ⟨p, rfl⟩ : ∃ p : Nat, v = p := ⟨v.toNat, by omega⟩
      rw [Int.toNat_natCast] at HA
      have hp5 : p ≤ 5 := by omega
      have HX : Aside0 (∀ x ∈ xs, 0 ≤ x ∧ x ≤ 63) := ⟨fun x hx => by have := hn.bd x hx; have := pw6 hn.hi; omega⟩
      have hl63 := hn.len
      have hlen : xs.length ≤ 9223372036854775807 := by omega
      have hsh := pow_wrap p (by omega)
      have hpp : 2 ^ p < 64 := by have := Nat.pow_lt_pow_right (a := 2) (by decide) (show p < 6 by omega); omega
      have hpos := Nat.two_pow_pos p
      have HAN : Aside0 (∀ z : Nat, z < 64 → bits .and .i64 (z : Int) ((2 ^ p : Nat) : Int) = if z.testBit p then ((2 ^ p : Nat) : Int) else 0) := ⟨fun z hz => by rw [and_i64 z _ (by omega) (by omega), and_bit]; split <;> rfl⟩
      have HOR : Aside0 (∀ z : Nat, z < 64 → bits .or .i64 (z : Int) ((2 ^ p : Nat) : Int) = ((z ||| 2 ^ p : Nat) : Int)) := ⟨fun z hz => or_i64 z _ (by omega) (by omega)⟩
      have HUP : Aside0 (∀ z, upAtV xs p z = (!z.testBit p && decide (((z ||| 2 ^ p : Nat) : Int) ∈ xs))) := ⟨fun z => rfl⟩
      have HHT : Aside0 (∀ (i z : Nat), xs.getD i 0 = (z : Int) → upAtV xs p z = true → byTo xs p (i + 1) = byTo xs p i ++ [((z : Int), ((z ||| 2 ^ p : Nat) : Int))]) := ⟨fun i z h1 h2 => byTo_hit h1 h2⟩
      obtain ⟨P, hP⟩ : ∃ P, P = 2 ^ p := ⟨_, rfl⟩
      rw [← hP] at hsh hpp HAN HOR HUP HHT hpos
      clear hP
      clear hv hn
      go_enter Try.func31, Try.ntmps31
      go_wp2_with (first | (go_at_call 64; rw [← hw1]; clear hw1; refine (specIs _ _ xs _ HK.out).mono ?_; rintro e w2 ⟨rfl, hb⟩; rw [h1]; have HB2 := Aside0.mk hb; have c0 := pw_cell_below hb c0; have c1 := pw_cell_below hb c1; clear hb) | (go_at_call 69; refine (specIn _ _ _ _).mono ?_; rintro e w3 ⟨rfl, hb⟩; rw [h2]; have HB3 := Aside0.mk (HB2.out.trans (hb.mono HB2.out.size)); have c0 := pw_cell_below hb c0; have c1 := pw_cell_below hb c1; clear hb))
      simp only [hsh]
      go_loopw [6, 8] (fun s6 s8 wr => ∃ i : Nat, s8 = .int .i64 i ∧ i ≤ xs.length ∧ Aside0 (OwnP w3.heap.size wr s6 (byTo xs p i)) ∧ Aside0 (Below w3.heap.size w3 wr)) (fun _ s8 _ => xs.length - (intOf s8).toNat)
      case atStart => exact ⟨0, rfl, Nat.zero_le _, ⟨OwnP.empty w3 (Nat.le_refl _)⟩, ⟨Below.alloc (Below.refl _ _) (Nat.le_refl _) _⟩⟩
      case round =>
        obtain ⟨i, rfl, hi, HO, HBw⟩ := hrel
        have HB13 := Aside0.mk (HB3.out.trans (HBw.out.mono HB3.out.size))
        have HBase : Aside0 (w.heap.size ≤ wr.heap.size) := ⟨by have := HB13.out.size; omega⟩
        have c0 := pw_cell_below HBw.out c0
        have c1 := pw_cell_below HBw.out c1
        have hll := byTo_len xs p i
        by_cases hlt : i < xs.length
        · obtain ⟨ad, y, rfl, hcell, HY⟩ := ReadI.get (Kd.C_below HR.out HB13.out) hlt
          have hy := HX.out y (mem_at hlt HY.out)
          obtain ⟨z, rfl⟩ : ∃ z : Nat, y = z := ⟨y.toNat, by omega⟩
          have hand := HAN.out z (by omega)
          have hor := HOR.out z (by omega)
          have hup := Aside0.mk (HUP.out z)
          have HH := Aside0.mk (HHT.out i z HY.out)
          have HM := Aside0.mk (fun h : upAtV xs p z = false => byTo_miss (k := i) HY.out h)
          obtain ⟨g, hg⟩ : ∃ g, g = z ||| P := ⟨_, rfl⟩
          rw [← hg] at hor hup HH
          clear hg hy
          cases htb : z.testBit p with
          | true =>
            rw [htb, if_pos rfl] at hand
            have hP0 : ((P : Int) == 0) = false := by rw [beq_eq_false_iff_ne]; omega
            have HT := Aside0.mk (HM.out (by rw [hup.out, htb]; rfl))
            go_wp2
            go_roundw
            case rel => exact ⟨i + 1, by go_num, by omega, ⟨by rw [HT.out]; exact HO.out⟩, HBw⟩
            case measure => simp [intOf]; omega
          | false =>
            rw [htb, if_neg (by decide)] at hand
            cases hin : decide (((g : Nat) : Int) ∈ xs) with
            | false =>
              have HT := Aside0.mk (HM.out (by rw [hup.out, htb, hin]; rfl))
              go_wp2_with (first | (go_at_call 53; refine (specHas n _ xs _ _ (HK.out.below HB13.out)).mono ?_; rintro e w5 ⟨rfl, hb⟩; rw [hin]))
              go_roundw
              case rel => exact ⟨i + 1, by go_num, by omega, ⟨by rw [HT.out]; exact OwnP.below HO.out hb⟩, ⟨HBw.out.trans (hb.mono HBw.out.size)⟩⟩
              case measure => simp [intOf]; omega
            | true =>
              have HT := Aside0.mk (HH.out (by rw [hup.out, htb, hin]; rfl))
              go_wp2_with (first | (go_at_call 53; refine (specHas n _ xs _ _ (HK.out.below HB13.out)).mono ?_; rintro e w5 ⟨rfl, hb⟩; rw [hin]; have HO2 := Aside0.mk (OwnP.below HO.out hb); have HB2_ := Aside0.mk (HBw.out.trans (hb.mono HBw.out.size)); clear hb) | (at_builtin; refine app_pair (w0 := w3) w3.heap.size rfl (.tmp 48) (.tmp 54) rfl _ (byTo xs p i) z g rfl rfl HO2.out HB2_.out HB2_.out.size (by omega) ?_; intro v1 w6 ho hb hg hat; have HO1 := Aside0.mk ho; have HB1 := Aside0.mk hb; clear ho hb hg hat))
              go_roundw
              case rel => exact ⟨i + 1, by go_num, by omega, ⟨by rw [HT.out]; exact HO1.out⟩, HB1⟩
              case measure => simp [intOf]; omega
        · have e : i = xs.length := by omega
          have HE := Aside0.mk e
          clear e
          obtain ⟨A4, d4, rfl, -⟩ := HO.out.read
          go_wp2
          go_ret2
          exact ⟨_, by rw [HA.out]; rfl, by rw [HA.out, ← HE.out]; exact HO.out.lower (by have := HB3.out.size; omega), HB.out.trans (HB13.out.mono HB.out.size)⟩
end Go.Proofs.Ytllmbbaffhpheaa.H
