/- EvadersOf of the program. -/
import Derived.Test.YtpcjbdkdpcgdiaaWayI
import Derived.Test.YtpcjbdkdpcgdiaaEvas
namespace Go.Proofs.Ytpcjbdkdpcgdiaa.H
open Go.RowKit Go.Proofs.YtpcjbdkdpcgdiaaW.PrintWords Go.Proofs.YtpcjbdkdpcgdiaaW.PrintLast Go.Proofs.YtpcjbdkdpcgdiaaW.PrintMore
set_option linter.unusedVariables false
set_option linter.unusedSimpArgs false

/-- the evaders below k -/
def evTo (n : Nat) (xs t : List Int) (k : Nat) : List Int := (List.range k).filterMap fun h => if neededV n xs t h = n then some (h : Int) else none
theorem evTo_hit {n : Nat} {xs t : List Int} {k : Nat} (h : neededV n xs t k = n) : evTo n xs t (k + 1) = evTo n xs t k ++ [(k : Int)] := by
  unfold evTo; rw [List.range_succ, List.filterMap_append]; simp [h]
theorem evTo_miss {n : Nat} {xs t : List Int} {k : Nat} (h : ¬ neededV n xs t k = n) : evTo n xs t (k + 1) = evTo n xs t k := by
  unfold evTo; rw [List.range_succ, List.filterMap_append]; simp [h]
theorem evTo_len (n : Nat) (xs t : List Int) (k : Nat) : (evTo n xs t k).length ≤ k := by
  unfold evTo; exact Nat.le_trans (List.length_filterMap_le _ _) (by simp)
/-- what EvadersOf answers -/
def ansEvadersOf (a : Int) (xs t : List Int) : List Int × Int := if cxOk a xs then (if treeOk a.toNat t then (evTo a.toNat xs t (2 ^ a.toNat), 0) else ([], 2)) else ([], 1)
theorem lenEvadersOf (a : Int) (xs t : List Int) : (ansEvadersOf a xs t).1.length ≤ 1073741824 := by
  unfold ansEvadersOf
  split
  · next h =>
    obtain ⟨n, rfl, hc⟩ := cxOk_nat h
    split
    · have := evTo_len n xs t (2 ^ n)
      have := (pw6 hc.hi).2
      show (evTo n xs t (2 ^ n)).length ≤ _
      omega
    · simp
  · simp

set_option maxHeartbeats 1000000 in
theorem evadersOf1 (w : World) (bk bt : Nat) (n : Nat) (hn : 1 ≤ n ∧ n ≤ 6) (v : Value) (t : List Int) (hv : ReadI w v t) (h0 : w.cell? ⟨bk, 0, none⟩ = some (.int .i64 n)) (h1 : w.cell? ⟨bt, 0, none⟩ = some v) :
    ThunkB w (.func (.func 61) #[] #[.pointer (some ⟨bk, 0, none⟩), .pointer (some ⟨bt, 0, none⟩)]) (treeOk n t) := by
  refine ⟨_, _, _, rfl, Enters.mk' Try.func61 rfl rfl, fun w1 hb => ?_⟩
  have c0 := pw_cell_below hb h0
  have c1 := pw_cell_below hb h1
  have HV := Aside0.mk (hv.below hb)
  obtain ⟨A2, d2, rfl, -⟩ := id hv
  clear hb h0 h1 hv
  show Calls _ _ #[_, _] _ _
  go_enter Try.func61, Try.ntmps61
  go_wp2_with (first | (go_at_call 57; refine (isTree _ t n hn _ HV.out).mono ?_; rintro e w4 ⟨rfl, hb4⟩))
  go_ret
  exact ⟨rfl, hb4⟩

set_option maxRecDepth 100000 in
set_option maxHeartbeats 4000000 in
theorem implEvadersOf (a : Int) (ku : Value) (xs : List Int) (v : Value) (t : List Int) (w : World) (hk : ReadI w ku xs) (hv : ReadI w v t) :
    Calls Try.prog 28 #[cx a ku, v] w fun e w' => ∃ u, e = .returned (.tuple #[u, .int .i64 (ansEvadersOf a xs t).2]) ∧ OwnI w.heap.size w' u (ansEvadersOf a xs t).1 ∧ Below w.heap.size w w' := by
  obtain ⟨wb, hwb⟩ : ∃ wb, wb = w.alloc (.cells #[.int .i64 a, ku] 28) := ⟨_, rfl⟩
  obtain ⟨w1, hw1⟩ : ∃ w1, w1 = wb.alloc (.cells #[v] 22) := ⟨_, rfl⟩
  have hsb : wb.heap.size = w.heap.size + 1 := by rw [hwb]; simp
  have hBb : Below w.heap.size w wb := by rw [hwb]; exact Below.alloc (Below.refl _ _) (Nat.le_refl _) _
  have hB1 : Below wb.heap.size wb w1 := by rw [hw1]; exact Below.alloc (Below.refl _ _) (Nat.le_refl _) _
  have hB : Below w.heap.size w w1 := hBb.trans (hB1.mono hBb.size)
  have c0 : w1.cell? ⟨w.heap.size, 0, none⟩ = some (.int .i64 a) := pw_cell_below hB1 (by rw [hwb]; simp)
  have c1 : w1.cell? ⟨w.heap.size, 1, none⟩ = some ku := pw_cell_below hB1 (by rw [hwb]; simp)
  have ct : w1.cell? ⟨w.heap.size + 1, 0, none⟩ = some v := by rw [hw1, ← hsb]; exact new_cell _ _ _ 0 _ rfl
  have HB := Aside0.mk hB
  have HK := Aside0.mk (hk.below hB)
  have HV := Aside0.mk (hv.below hB)
  have HM := Aside0.mk (complexCode2 a ku xs (.func (.func 61) #[] #[.pointer (some ⟨w.heap.size, 0, none⟩), .pointer (some ⟨w.heap.size + 1, 0, none⟩)]) (treeOk a.toNat t) w1 HK.out (fun h => by
    obtain ⟨n, rfl, hc⟩ := cxOk_nat h
    exact evadersOf1 w1 _ _ n ⟨hc.lo, hc.hi⟩ v t HV.out c0 ct) ⟨_, _, _, rfl⟩)
  obtain ⟨A1, d1, rfl, -⟩ := id hk
  obtain ⟨A2, d2, rfl, -⟩ := id hv
  subst hwb
  clear hk hv hsb hBb hB1 hB
  cases hx : cxOk a xs with
  | false =>
    have HA : Aside0 (ansEvadersOf a xs t = ([], 1)) := ⟨by unfold ansEvadersOf; rw [hx]; rfl⟩
    rw [hx] at HM
    clear hx
    go_enter Try.func28, Try.ntmps28
    go_wp2_with (first | (go_at_call 46; rw [← hw1]; clear hw1; refine HM.out.mono ?_; rintro e w2 ⟨rfl, hb⟩; have HB2 := Aside0.mk hb; clear hb))
    go_ret2
    exact ⟨_, by rw [HA.out]; rfl, by rw [HA.out]; exact OwnI.nil _ _, HB.out.trans (HB2.out.mono HB.out.size)⟩
  | true =>
    obtain ⟨n, rfl, hc⟩ := cxOk_nat hx
    rw [hx] at HM
    cases hto : treeOk n t with
    | false =>
      have HA : Aside0 (ansEvadersOf n xs t = ([], 2)) := ⟨by unfold ansEvadersOf; rw [hx]; show (if treeOk n t = true then _ else _) = _; rw [hto]; rfl⟩
      rw [show treeOk (n : Int).toNat t = false from hto] at HM
      clear hx hto hc
      go_enter Try.func28, Try.ntmps28
      go_wp2_with (first | (go_at_call 46; rw [← hw1]; clear hw1; refine HM.out.mono ?_; rintro e w2 ⟨rfl, hb⟩; have HB2 := Aside0.mk hb; clear hb))
      go_ret2
      exact ⟨_, by rw [HA.out]; rfl, by rw [HA.out]; exact OwnI.nil _ _, HB.out.trans (HB2.out.mono HB.out.size)⟩
    | true =>
      have HA : Aside0 (ansEvadersOf n xs t = (evTo n xs t (2 ^ n), 0)) := ⟨by unfold ansEvadersOf; rw [hx]; show (if treeOk n t = true then _ else _) = _; rw [hto]; rfl⟩
      rw [show treeOk (n : Int).toNat t = true from hto] at HM
      have HC := Aside0.mk hc
      have HTO := Aside0.mk hto
      have hb64 := pw6 hc.hi
      have hn := hc.hi
      obtain ⟨N, hN⟩ : ∃ N : Nat, N = 2 ^ n := ⟨_, rfl⟩
      have HFU : Aside0 (∀ (u : Value) (W : World), Calls Try.prog 59 #[cx n u] W fun e w' => e = .returned (.int .i64 ((N : Int) - 1)) ∧ Below W.heap.size W w') := ⟨fun u W => by rw [hN]; exact full n hn _ W⟩
      rw [← hN] at HA hb64
      clear hx hto hc hN
      go_enter Try.func28, Try.ntmps28
      go_wp2_with (first | (go_at_call 46; rw [← hw1]; clear hw1; refine HM.out.mono ?_; rintro e w2 ⟨rfl, hb⟩; have HB2 := Aside0.mk hb; replace c0 := pw_cell_below hb c0; replace c1 := pw_cell_below hb c1; replace ct := pw_cell_below hb ct; clear hb) | (go_at_call 59; refine (HFU.out _ _).mono ?_; rintro e w3 ⟨rfl, hb⟩; have HB3 := Aside0.mk (HB2.out.trans (hb.mono HB2.out.size)); replace c0 := pw_cell_below hb c0; replace c1 := pw_cell_below hb c1; replace ct := pw_cell_below hb ct; clear hb))
      go_loopw [7, 20] (fun s7 s20 wr => ∃ iv : Nat, s20 = .int .i64 iv ∧ iv ≤ N ∧ Aside0 (OwnI w3.heap.size wr s7 (evTo n xs t iv)) ∧ Aside0 (Below w3.heap.size w3 wr)) (fun _ s20 _ => N - (intOf s20).toNat)
      case atStart => exact ⟨0, rfl, Nat.zero_le _, ⟨OwnI.nil _ _⟩, ⟨Below.refl _ _⟩⟩
      case round =>
        obtain ⟨iv, rfl, hi, HO, HBr⟩ := hrel
        have c0 := pw_cell_below HBr.out c0
        have c1 := pw_cell_below HBr.out c1
        have ct := pw_cell_below HBr.out ct
        have HBw := Aside0.mk (HB3.out.trans (HBr.out.mono HB3.out.size))
        obtain ⟨A8, d8, rfl, -⟩ := id HO.out.read
        by_cases hlt : iv < N
        · have HWY := Aside0.mk (fun (W : World) hk hv => wayI n (.slice A1 xs.length d1) xs HC.out (.slice A2 t.length d2) t iv (by omega) W hk hv HTO.out)
          have HH := Aside0.mk (fun h => evTo_hit (n := n) (xs := xs) (t := t) (k := iv) h)
          have HM2 := Aside0.mk (fun h => evTo_miss (n := n) (xs := xs) (t := t) (k := iv) h)
          have hwl := wayL_len t iv n
          have HWL := Aside0.mk hwl
          have hnl : neededV n xs t iv ≤ n := firstTold_le _ _ _ _ _
          obtain ⟨nd, hnd⟩ : ∃ nd, nd = neededV n xs t iv := ⟨_, rfl⟩
          rw [← hnd] at HWY HH HM2 hnl
          clear hnd hwl
          by_cases hq : nd = n
          · have HK2 := Aside0.mk (HH.out hq)
            have hqb : ((nd : Int) == (n : Int)) = true := by rw [hq]; exact beq_self_eq_true _
            clear hq
            go_wp2_with (first | (go_at_call 60; refine (HWY.out _ (HK.out.below HBw.out) (HV.out.below HBw.out)).mono ?_; rintro e w5 ⟨u5, rfl, ho, hb⟩; obtain ⟨A5, d5, rfl, -⟩ := ho.read; rw [HWL.out]; have HO5 := Aside0.mk (HO.out.below hb); have HB5 := Aside0.mk (HBr.out.trans (hb.mono HBr.out.size)); clear ho hb) | (at_builtin; refine app_own (w0 := w3) w3.heap.size rfl (.tmp 34) (.tmp 36) rfl _ (evTo n xs t iv) (iv : Int) rfl rfl HO5.out HB5.out HB5.out.size (by have := evTo_len n xs t iv; omega) ?_; intro v1 w6 ho hb hg hat; have HO6 := Aside0.mk ho; have HB6 := Aside0.mk hb; clear ho hb hg hat))
            go_roundw
            case rel => exact ⟨iv + 1, by go_num, by omega, by rw [HK2.out]; exact HO6, HB6⟩
            case measure => simp [intOf]; omega
          · have HK2 := Aside0.mk (HM2.out hq)
            have hqb : ((nd : Int) == (n : Int)) = false := by rw [beq_eq_false_iff_ne]; omega
            clear hq
            go_wp2_with (first | (go_at_call 60; refine (HWY.out _ (HK.out.below HBw.out) (HV.out.below HBw.out)).mono ?_; rintro e w5 ⟨u5, rfl, ho, hb⟩; obtain ⟨A5, d5, rfl, -⟩ := ho.read; rw [HWL.out]; have HO5 := Aside0.mk (HO.out.below hb); have HB5 := Aside0.mk (HBr.out.trans (hb.mono HBr.out.size)); clear ho hb))
            go_roundw
            case rel => exact ⟨iv + 1, by go_num, by omega, by rw [HK2.out]; exact HO5, HB5⟩
            case measure => simp [intOf]; omega
        · have e : iv = N := by omega
          have HE := Aside0.mk e
          have HZ := Aside0.mk HB3.out.size
          clear e
          go_wp2
          go_ret2
          refine ⟨_, by rw [HA.out]; rfl, ?_, HB.out.trans (HBw.out.mono HB.out.size)⟩
          rw [HA.out]
          show OwnI _ _ _ (evTo n xs t N)
          rw [← HE.out]
          exact HO.out.lower (by have := HB.out.size; have := HZ.out; omega)
end Go.Proofs.Ytpcjbdkdpcgdiaa.H
