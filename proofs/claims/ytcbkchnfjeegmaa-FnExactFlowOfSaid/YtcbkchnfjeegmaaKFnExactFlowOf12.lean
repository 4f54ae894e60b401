/- Flows of the reference. FlowOf of the program and of the reference. Marks over complexes. The laws' eqPairS, markPairS, heldPairS. What the arguments of the laws read as. -/
import Derived.WalkKit
import Derived.ProofKit
import Derived.OpenShut
import Derived.ShutString
import Derived.ChangeOld
import Derived.Lib.SmallJoins
import Derived.Test.YtcbkchnfjeegmaaKFnExactFlowOf1
import Derived.Test.YtcbkchnfjeegmaaKFnExactFlowOf2
import Derived.Test.YtcbkchnfjeegmaaKFnExactFlowOf3
import Derived.Test.YtcbkchnfjeegmaaKFnExactFlowOf4
import Derived.Test.YtcbkchnfjeegmaaKFnExactFlowOf5
import Derived.Test.YtcbkchnfjeegmaaKFnExactFlowOf6
import Derived.Test.YtcbkchnfjeegmaaKFnExactFlowOf7
import Derived.Test.YtcbkchnfjeegmaaKFnExactFlowOf8
import Derived.Test.YtcbkchnfjeegmaaKFnExactFlowOf9
import Derived.Test.YtcbkchnfjeegmaaKFnExactFlowOf10
import Derived.Test.YtcbkchnfjeegmaaKFnExactFlowOf11

namespace Go.Proofs.Ytcbkchnfjeegmaa.H
open Go.RowKit Go.Proofs.YtcbkchnfjeegmaaW.PrintWords Go.Proofs.YtcbkchnfjeegmaaW.PrintLast Go.Proofs.YtcbkchnfjeegmaaW.PrintMore
set_option linter.unusedVariables false
set_option linter.unusedSimpArgs false

set_option maxRecDepth 100000 in
set_option maxHeartbeats 2000000 in
theorem specSum6 (v : Value) (m : Nat) (u : Value) (ys : List Int) (w : World) (hv : ReadI w v (listI m)) (hu : ReadI w u ys) (hy : ∀ y ∈ ys, 0 ≤ y ∧ y ≤ 63) :
    Calls Try.prog 125 #[v, u] w fun e w' => ∃ r, e = .returned r ∧ OwnI w.heap.size w' r (listI (m ^^^ bitsI ys)) ∧ Below w.heap.size w w' := by
  have HO := Aside0.mk (specOwnC v (listI m) w hv (by have := listI_len m; omega))
  have HU := Aside0.mk hu
  have HY := Aside0.mk hy
  have hul := hu.len
  obtain ⟨A1, d1, rfl, -⟩ := id hv
  obtain ⟨A2, d2, rfl, hcu, hru⟩ := id hu
  have HR := Aside0.mk hru
  clear hv hu hy hcu hru
  go_enter Try.func125, Try.ntmps125
  go_wp2_with (first | (go_at_call 130; refine HO.out.mono ?_; rintro e w2 ⟨r, rfl, ho, hb⟩; have HO2 := Aside0.mk ho; have HB2 := Aside0.mk hb; clear ho hb))
  go_loopw [5, 6] (fun s5 s6 wr => ∃ i : Nat, s6 = .int .i64 i ∧ i ≤ ys.length ∧ Aside0 (OwnI w.heap.size wr s5 (listI (m ^^^ bitsI (ys.take i)))) ∧ Aside0 (Below w.heap.size w wr)) (fun _ s6 _ => ys.length - (intOf s6).toNat)
  case atStart => exact ⟨0, rfl, Nat.zero_le _, ⟨by rw [List.take_zero, show bitsI [] = 0 from rfl, Nat.xor_zero]; exact HO2.out⟩, HB2⟩
  case round =>
    obtain ⟨i, rfl, hi, HOi, HBi⟩ := hrel
    by_cases hlt : i < ys.length
    · obtain ⟨ad, y, rfl, hcell, HYi⟩ := ReadI.get (Kd.C_below HR.out HBi.out) hlt
      have hyd := HY.out y (mem_at hlt HYi.out)
      obtain ⟨f, rfl⟩ : ∃ f : Nat, y = f := ⟨y.toNat, by omega⟩
      have hf : f < 64 := by omega
      have HT : Aside0 (m ^^^ bitsI (ys.take (i + 1)) = (m ^^^ bitsI (ys.take i)) ^^^ 2 ^ f) := ⟨by rw [take_get hlt HYi.out, bits_snoc, Int.toNat_natCast, Nat.xor_assoc]⟩
      clear hyd
      go_wp2_with (first | (go_at_call 173; refine (specPut _ _ f _ HOi.out.read hf).mono ?_; rintro e w3 ⟨r, rfl, ho, hb⟩; have HO3 := Aside0.mk (ho.lower HBi.out.size); have HB3 := Aside0.mk (HBi.out.trans (hb.mono HBi.out.size)); clear ho hb))
      go_roundw
      case rel => exact ⟨i + 1, by go_num, by omega, ⟨by rw [HT.out]; exact HO3.out⟩, HB3⟩
      case measure => simp [intOf]; omega
    · have e : i = ys.length := by omega
      have HE := Aside0.mk e
      clear e
      go_wp2
      go_ret
      exact ⟨_, rfl, by have := HOi.out; rw [HE.out, List.take_length] at this; exact this, HBi.out⟩

theorem xsum_snoc (f : Int → Nat) (l : List Int) (x : Int) : xsum f (l ++ [x]) = xsum f l ^^^ f x := by unfold xsum; rw [List.foldl_append]; rfl

set_option maxRecDepth 100000 in
set_option maxHeartbeats 2000000 in
theorem specPush6 (v : Value) (ps : List (Int × Int)) (u : Value) (l : List Int) (w : World) (hv : ReadP w v ps) (hu : ReadI w u l) (hd : PsDom ps) :
    Calls Try.prog 126 #[v, u] w fun e w' => ∃ r, e = .returned r ∧ OwnI w.heap.size w' r (listI (xsum (push1 ps) l)) ∧ Below w.heap.size w w' := by
  have HV := Aside0.mk hv
  have HD := Aside0.mk hd
  have hul := hu.len
  obtain ⟨A1, d1, rfl, -⟩ := id hv
  obtain ⟨A2, d2, rfl, hcu, hru⟩ := id hu
  have HR := Aside0.mk hru
  have HE0 := Aside0.mk (OwnI.empty w (Nat.le_refl w.heap.size))
  clear hv hu hd hcu hru
  go_enter Try.func126, Try.ntmps126
  go_wp2
  go_loopw [5, 6] (fun s5 s6 wr => ∃ i : Nat, s6 = .int .i64 i ∧ i ≤ l.length ∧ Aside0 (OwnI w.heap.size wr s5 (listI (xsum (push1 ps) (l.take i)))) ∧ Aside0 (Below w.heap.size w wr)) (fun _ s6 _ => l.length - (intOf s6).toNat)
  case atStart => exact ⟨0, rfl, Nat.zero_le _, ⟨by rw [List.take_zero, xsum_nil, show listI 0 = [] by decide]; exact HE0.out⟩, ⟨Below.alloc (Below.refl _ _) (Nat.le_refl _) _⟩⟩
  case round =>
    obtain ⟨i, rfl, hi, HOi, HBi⟩ := hrel
    by_cases hlt : i < l.length
    · obtain ⟨ad, y, rfl, hcell, HYi⟩ := ReadI.get (Kd.C_below HR.out HBi.out) hlt
      have HH := Aside0.mk (specHigh (.slice A1 ps.length d1) ps y wr (HV.out.below HBi.out))
      have hh := high_dom HD.out y
      obtain ⟨h, hhe⟩ : ∃ h, h = highTo ps y := ⟨_, rfl⟩
      have HT : Aside0 (xsum (push1 ps) (l.take (i + 1)) = xsum (push1 ps) (l.take i) ^^^ (if h = 0 then 0 else 2 ^ h.toNat)) := ⟨by rw [take_get hlt HYi.out, xsum_snoc]; unfold push1; rw [← hhe]⟩
      rw [← hhe] at HH hh
      clear hhe
      by_cases h0 : h = 0
      · rw [if_pos h0, Nat.xor_zero] at HT
        rw [h0] at HH
        clear h0 hh
        go_wp2_with (first | (go_at_call 174; refine HH.out.mono ?_; rintro e w3 ⟨rfl, hb⟩; have HO3 := Aside0.mk (HOi.out.below hb); have HB3 := Aside0.mk (HBi.out.trans (hb.mono HBi.out.size)); clear hb))
        go_roundw
        case rel => exact ⟨i + 1, by go_num, by omega, ⟨by rw [HT.out]; exact HO3.out⟩, HB3⟩
        case measure => simp [intOf]; omega
      · rw [if_neg h0] at HT
        obtain ⟨f, rfl⟩ : ∃ f : Nat, h = f := ⟨h.toNat, by omega⟩
        rw [Int.toNat_natCast] at HT
        have hf : f < 64 := by omega
        have hf0 : ((f : Int) != 0) = true := by simpa using h0
        clear h0 hh
        go_wp2_with (first | (go_at_call 174; refine HH.out.mono ?_; rintro e w3 ⟨rfl, hb⟩; have HO3 := Aside0.mk (HOi.out.below hb); have HB3 := Aside0.mk (HBi.out.trans (hb.mono HBi.out.size)); clear hb) | (go_at_call 173; refine (specPut _ _ f _ HO3.out.read hf).mono ?_; rintro e w4 ⟨r, rfl, ho, hb⟩; have HO4 := Aside0.mk (ho.lower HB3.out.size); have HB4 := Aside0.mk (HB3.out.trans (hb.mono HB3.out.size)); clear ho hb))
        go_roundw
        case rel => exact ⟨i + 1, by go_num, by omega, ⟨by rw [HT.out]; exact HO4.out⟩, HB4⟩
        case measure => simp [intOf]; omega
    · have e : i = l.length := by omega
      have HE := Aside0.mk e
      clear e
      go_wp2
      go_ret
      exact ⟨_, rfl, by have := HOi.out; rw [HE.out, List.take_length] at this; exact this, HBi.out⟩

theorem push_bits {ps : List (Int × Int)} (hn : LowsN ps) (hd : PsDom ps) {m : Nat} (hm : m < 18446744073709551616) : xsum (push1 ps) (listI m) = pushB ps m := by
  rw [push_law (listI_asc m) (fun x hx => (listI_bd m x hx).1) ps hn hd, bits_listI (by rw [e64]; exact hm)]
theorem bnd_bits (m : Nat) : bndL (listI m) = listI (bndB (listI m)) := bnd_law (listI_bd m)

set_option maxRecDepth 100000 in
set_option maxHeartbeats 2000000 in
theorem specFlow6 (v : Value) (ps : List (Int × Int)) (u : Value) (m : Nat) (w : World) (hv : ReadP w v ps) (hu : ReadI w u (listI m)) (hd : PsDom ps) (hn : LowsN ps) (hm : m < 18446744073709551616) (h0 : m.testBit 0 = false) :
    Calls Try.prog 68 #[v, u] w fun e w' => ∃ r, e = .returned r ∧ OwnI w.heap.size w' r (listI (flowB ps m)) ∧ Below w.heap.size w w' := by
  have HP1 := Aside0.mk (fun W (h : Below w.heap.size w W) => specPush6 v ps u (listI m) W (hv.below h) (hu.below h) hd)
  rw [push_bits hn hd hm] at HP1
  have hp := pushB_ltU hd m
  have HP2 := Aside0.mk (fun x W (h : Below w.heap.size w W) (hx : ReadI W x (listI (bndB (listI m)))) => specPush6 v ps x (listI (bndB (listI m))) W (hv.below h) hx hd)
  rw [push_bits hn hd (bndB_ltU m)] at HP2
  have HB1 := Aside0.mk (fun W (h : Below w.heap.size w W) => specBoundary u (listI m) W (hu.below h) (listI_pos h0))
  rw [bnd_bits m] at HB1
  have HB2 := Aside0.mk (fun x W (hx : ReadI W x (listI (pushB ps m))) => specBoundary x (listI (pushB ps m)) W hx (listI_pos (pushB_zero hd m)))
  rw [bnd_bits (pushB ps m)] at HB2
  have HF : Aside0 (flowB ps m = (m ^^^ bndB (listI (pushB ps m))) ^^^ pushB ps (bndB (listI m))) := ⟨rfl⟩
  have hb2 := bndB_ltU (pushB ps m)
  have hp2 := pushB_ltU hd (bndB (listI m))
  have HU := Aside0.mk hu
  obtain ⟨A1, d1, rfl, -⟩ := id hv
  obtain ⟨A2, d2, rfl, -⟩ := id hu
  obtain ⟨P1, hP1⟩ : ∃ P, P = pushB ps m := ⟨_, rfl⟩
  rw [← hP1] at HP1 HB2 HF hb2
  obtain ⟨B1, hB1⟩ : ∃ P, P = bndB (listI m) := ⟨_, rfl⟩
  rw [← hB1] at HB1 HP2 HF hp2
  obtain ⟨B2, hB2⟩ : ∃ P, P = bndB (listI P1) := ⟨_, rfl⟩
  rw [← hB2] at HB2 HF hb2
  obtain ⟨P2, hP2⟩ : ∃ P, P = pushB ps B1 := ⟨_, rfl⟩
  rw [← hP2] at HP2 HF hp2
  have HS1 := Aside0.mk (bits_listI (m := B2) (by rw [e64]; exact hb2))
  have HS2 := Aside0.mk (bits_listI (m := P2) (by rw [e64]; exact hp2))
  clear hv hd hm h0 hp hP1 hB1 hB2 hP2 hp2 hb2 hn hu
  go_enter Try.func68, Try.ntmps68
  go_wp2_with (first | (go_at_call 126; refine Aside0.out ?_))
  refine Aside0.mk ?_
  with_reducible refine (HP1.out _ (Below.refl _ _)).mono ?_
  rintro e w2 ⟨r2, rfl, ho, hb⟩
  have HO2 := Aside0.mk ho
  have HW2 := Aside0.mk hb
  obtain ⟨Ar2, dr2, rfl, -⟩ := ho.read
  clear hb ho
  go_wp2_with (first | (go_at_call 51; refine Aside0.out ?_))
  refine Aside0.mk ?_
  with_reducible refine (HB2.out _ _ HO2.out.read).mono ?_
  rintro e w3 ⟨r3, rfl, ho, hb⟩
  have HO3 := Aside0.mk ho
  have HW3 := Aside0.mk (HW2.out.trans (hb.mono HW2.out.size))
  obtain ⟨Ar3, dr3, rfl, -⟩ := ho.read
  clear hb ho
  go_wp2_with (first | (go_at_call 125; refine Aside0.out ?_))
  refine Aside0.mk ?_
  refine (specSum6 _ m _ (listI B2) _ (HU.out.below HW3.out) HO3.out.read (listI_bd B2)).mono ?_
  rw [HS1.out]
  rintro e w4 ⟨r4, rfl, ho, hb⟩
  have HO4 := Aside0.mk ho
  have HW4 := Aside0.mk (HW3.out.trans (hb.mono HW3.out.size))
  obtain ⟨Ar4, dr4, rfl, -⟩ := ho.read
  clear hb ho
  go_wp2_with (first | (go_at_call 51; refine Aside0.out ?_))
  refine Aside0.mk ?_
  with_reducible refine (HB1.out _ HW4.out).mono ?_
  rintro e w5 ⟨r5, rfl, ho, hb⟩
  have HO5 := Aside0.mk ho
  have HO45 := Aside0.mk (HO4.out.below hb)
  have HW5 := Aside0.mk (HW4.out.trans (hb.mono HW4.out.size))
  obtain ⟨Ar5, dr5, rfl, -⟩ := ho.read
  clear hb ho
  go_wp2_with (first | (go_at_call 126; refine Aside0.out ?_))
  refine Aside0.mk ?_
  with_reducible refine (HP2.out _ _ HW5.out HO5.out.read).mono ?_
  rintro e w6 ⟨r6, rfl, ho, hb⟩
  have HO6 := Aside0.mk ho
  have HO46 := Aside0.mk (HO45.out.below hb)
  have HW6 := Aside0.mk (HW5.out.trans (hb.mono HW5.out.size))
  obtain ⟨Ar6, dr6, rfl, -⟩ := ho.read
  clear hb ho
  go_wp2_with (first | (go_at_call 125; refine Aside0.out ?_))
  refine Aside0.mk ?_
  refine (specSum6 _ (m ^^^ B2) _ (listI P2) _ HO46.out.read HO6.out.read (listI_bd P2)).mono ?_
  rw [HS2.out]
  rintro e w7 ⟨r7, rfl, ho, hb⟩
  have HO7 := Aside0.mk (ho.lower HW6.out.size)
  have HW7 := Aside0.mk (HW6.out.trans (hb.mono HW6.out.size))
  clear hb ho
  go_wp2
  go_ret
  exact ⟨_, rfl, by rw [HF.out]; exact HO7.out, HW7.out⟩

set_option maxRecDepth 100000 in
set_option maxHeartbeats 4000000 in
theorem specChain6 (n : Nat) (ku : Value) (xs : List Int) (v : Value) (l : List Int) (w : World) (hk : ReadI w ku xs) (hv : ReadI w v l) (hc : Cx n xs) :
    Calls Try.prog 124 #[cx n ku, v] w fun e w' => e = .returned (.bool (chOk xs l)) ∧ Below w.heap.size w w' := by
  obtain ⟨w1, hw1⟩ : ∃ w1, w1 = w.alloc (.cells #[.int .i64 n, ku] 28) := ⟨_, rfl⟩
  have hB : Below w.heap.size w w1 := by rw [hw1]; exact Below.alloc (Below.refl _ _) (Nat.le_refl _) _
  have c0 : w1.cell? ⟨w.heap.size, 0, none⟩ = some (.int .i64 n) := by rw [hw1]; simp
  have c1 : w1.cell? ⟨w.heap.size, 1, none⟩ = some ku := by rw [hw1]; simp
  have HB := Aside0.mk hB
  have HK := Aside0.mk (hk.below hB)
  have l2 := hv.len
  obtain ⟨A1, d1, rfl, -⟩ := id hk
  obtain ⟨A2, d2, rfl, hcv, hrv⟩ := hv.below hB
  have HR := Aside0.mk hrv
  have HN := Aside0.mk hc
  clear hk hv hB hcv hrv hc
  go_enter Try.func124, Try.ntmps124
  go_wp2
  rw [← hw1]
  clear hw1
  go_loopw [5] (fun s wr => ∃ i : Nat, s = .int .i64 i ∧ i ≤ l.length ∧ Aside0 (∀ t, t < i → chAt xs l t = true) ∧ Aside0 (Below w1.heap.size w1 wr)) (fun s _ => l.length - (intOf s).toNat)
  case atStart => exact ⟨0, rfl, Nat.zero_le _, ⟨fun t h => absurd h (Nat.not_lt_zero _)⟩, ⟨Below.refl _ _⟩⟩
  case round =>
    obtain ⟨i, rfl, hi, HI, HBi⟩ := hrel
    have HBw := HBi
    have c0 := pw_cell_below HBi.out c0
    have c1 := pw_cell_below HBi.out c1
    by_cases hlt : i < l.length
    · obtain ⟨ad, y, rfl, hcell, HY⟩ := ReadI.get (Kd.C_below HR.out HBw.out) hlt
      have x0 : ∀ x : Ext wr, x.1.cell? ⟨w.heap.size, 0, none⟩ = some (.int .i64 n) := fun x => Ext.cell c0 x
      have x1 : ∀ x : Ext wr, x.1.cell? ⟨w.heap.size, 1, none⟩ = some (.slice A1 xs.length d1) := fun x => Ext.cell c1 x
      have xc : ∀ x : Ext wr, x.1.cell? (ad.add i) = some (.int .i64 y) := fun x => Ext.cell hcell x
      have hiI : (i : Int) < (l.length : Int) := by omega
      obtain ⟨b, hbm⟩ : ∃ b, b = decide (y ∈ xs) := ⟨_, rfl⟩
      have HH : Aside0 (∀ x : Ext wr, Calls Try.prog 100 #[cx n (.slice A1 xs.length d1), .int .i64 y] x.1 fun e w' => e = .returned (.bool b) ∧ Below x.1.heap.size x.1 w') := ⟨fun x => by rw [hbm]; exact specHas n _ xs y x.1 ((HK.out.below HBw.out).below x.2)⟩
      cases b with
      | false =>
        have HF : Aside0 (chOk xs l = false) := ⟨chOk_false hlt (by unfold chAt; rw [HY.out, ← hbm]; rfl)⟩
        clear hbm
        go_wp2
        refine wp_region_ext (by kernel_rfl) (by kernel_rfl) ?_
        repeat (go_big_quiet_step ((first | (go_at_call 100; exact Calls.ext_of (HH.out _)))))
        refine wpQuiet_nil ?_
        rintro _ ⟨x, rfl⟩
        have hbx := x.2
        go_wp2
        go_ret
        exact ⟨by rw [HF.out]; rfl, HB.out.trans ((HBw.out.trans (hbx.mono HBw.out.size)).mono HB.out.size)⟩
      | true =>
        have hym : y ∈ xs := of_decide_eq_true hbm.symm
        obtain ⟨z, rfl, hz1, hz2⟩ := HN.out.nat hym
        by_cases h0 : i = 0
        · have HF : Aside0 (∀ t, t < i + 1 → chAt xs l t = true) := ⟨fun t ht => by
            rcases Nat.lt_succ_iff_lt_or_eq.1 ht with h | h
            · exact HI.out t h
            · rw [h]; unfold chAt; rw [HY.out, ← hbm, decide_eq_true h0]; rw [show l.getD 0 0 = (z : Int) by rw [← HY.out, h0]]; simp⟩
          have h0' : decide (0 < i) = false := decide_eq_false (by omega)
          have hcz : wr.cell? ad = some (.int .i64 (z : Nat)) := by rw [h0, show ad.add 0 = ad by cases ad; rfl] at hcell; exact hcell
          have x2 : ∀ x : Ext wr, x.1.cell? ad = some (.int .i64 z) := fun x => Ext.cell hcz x
          have hl0 : (0 : Int) < (l.length : Int) := by omega
          obtain ⟨s1, hs1⟩ : ∃ s, s = ones z := ⟨_, rfl⟩
          have HS1 : Aside0 (∀ x : Ext wr, Calls Try.prog 101 #[.int .i64 z] x.1 fun e w' => e = .returned (.int .i64 (s1 : Nat)) ∧ Below x.1.heap.size x.1 w') := ⟨fun x => by rw [hs1]; exact specOnes z (by omega) x.1⟩
          clear h0 hbm hym hs1 hcz
          go_wp2
          refine wp_region_ext (by kernel_rfl) (by kernel_rfl) ?_
          repeat (go_big_quiet_step ((first | (go_at_call 100; exact Calls.ext_of (HH.out _)) | (go_at_call 101; with_reducible exact Calls.ext_of (HS1.out _)))))
          refine wpQuiet_nil ?_
          rintro _ ⟨x, rfl⟩
          have hbx := x.2
          go_wp2
          go_roundw
          case rel => exact ⟨i + 1, by go_num, by omega, HF, ⟨HBi.out.trans (hbx.mono HBi.out.size)⟩⟩
          case measure => simp [intOf]; omega
        · have h0lt : 0 < l.length := by omega
          obtain ⟨ad', y0, e0, hcell0, HY0⟩ := ReadI.get (Kd.C_below HR.out HBw.out) h0lt
          cases e0
          obtain ⟨z0, rfl, hz01, hz02⟩ : ∃ z0 : Nat, y0 = z0 ∧ 1 ≤ z0 ∧ z0 ≤ 63 := by
            have := chAt_mem (HI.out 0 (by omega)); rw [HY0.out] at this; exact HN.out.nat this
          rw [show ad.add 0 = ad by cases ad; rfl] at hcell0
          have x2 : ∀ x : Ext wr, x.1.cell? ad = some (.int .i64 z0) := fun x => Ext.cell hcell0 x
          obtain ⟨s1, hs1⟩ : ∃ s, s = ones z := ⟨_, rfl⟩
          obtain ⟨s0, hs0⟩ : ∃ s, s = ones z0 := ⟨_, rfl⟩
          have HS1 : Aside0 (∀ x : Ext wr, Calls Try.prog 101 #[.int .i64 z] x.1 fun e w' => e = .returned (.int .i64 (s1 : Nat)) ∧ Below x.1.heap.size x.1 w') := ⟨fun x => by rw [hs1]; exact specOnes z (by omega) x.1⟩
          have HS0 : Aside0 (∀ x : Ext wr, Calls Try.prog 101 #[.int .i64 z0] x.1 fun e w' => e = .returned (.int .i64 (s0 : Nat)) ∧ Below x.1.heap.size x.1 w') := ⟨fun x => by rw [hs0]; exact specOnes z0 (by omega) x.1⟩
          have h0' : decide (0 < i) = true := decide_eq_true (by omega)
          have h1i : (0 : Int) ≤ (i : Int) - 1 := by omega
          have h2i : (i : Int) - 1 < l.length := by omega
          have h3i : ((i : Int) - 1).toNat = i - 1 := by omega
          obtain ⟨ad'', y', e2, hcell2, HY2⟩ := ReadI.get (Kd.C_below HR.out HBw.out) (i := i - 1) (by omega)
          cases e2
          have hx3 : ∀ x : Ext wr, x.1.cell? (ad.add (i - 1)) = some (.int .i64 y') := fun x => Ext.cell hcell2 x
          have HC : Aside0 (chAt xs l i = ((((s1 : Nat) : Int) == ((s0 : Nat) : Int)) && decide (y' < (z : Int)))) := ⟨by unfold chAt; rw [HY.out, HY0.out, HY2.out, ← hbm, Bool.true_and, Int.toNat_natCast, Int.toNat_natCast, ← hs1, ← hs0, decide_eq_false h0, Bool.false_or]⟩
          clear hbm hym hs1 hs0 hcell0 hcell2 h0
          have hl0 : (0 : Int) < (l.length : Int) := by omega
          by_cases hss : s1 = s0
          · have hse : (((s1 : Nat) : Int) != ((s0 : Nat) : Int)) = false := by simp [hss]
            have hsb : (((s1 : Nat) : Int) == ((s0 : Nat) : Int)) = true := by simp [hss]
            rw [hsb, Bool.true_and] at HC
            clear hss hsb
            by_cases hle : (z : Int) ≤ y'
            · have hled : decide ((z : Int) ≤ y') = true := decide_eq_true hle
              have HF : Aside0 (chOk xs l = false) := ⟨chOk_false hlt (by rw [HC.out, decide_eq_false (show ¬ y' < (z : Int) by omega)])⟩
              go_wp2
              refine wp_region_ext (by kernel_rfl) (by kernel_rfl) ?_
              repeat (go_big_quiet_step ((first | (go_at_call 100; exact Calls.ext_of (HH.out _)) | (go_at_call 101; with_reducible exact Calls.ext_of (HS1.out _)) | (go_at_call 101; with_reducible exact Calls.ext_of (HS0.out _)))))
              refine wpQuiet_nil ?_
              rintro _ ⟨x, rfl⟩
              have hbx := x.2
              go_wp2
              go_ret
              exact ⟨by rw [HF.out]; rfl, HB.out.trans ((HBw.out.trans (hbx.mono HBw.out.size)).mono HB.out.size)⟩
            · have hled : decide ((z : Int) ≤ y') = false := decide_eq_false hle
              have HF : Aside0 (∀ t, t < i + 1 → chAt xs l t = true) := ⟨fun t ht => by
                rcases Nat.lt_succ_iff_lt_or_eq.1 ht with h | h
                · exact HI.out t h
                · rw [h, HC.out]; exact decide_eq_true (by omega)⟩
              go_wp2
              refine wp_region_ext (by kernel_rfl) (by kernel_rfl) ?_
              repeat (go_big_quiet_step ((first | (go_at_call 100; exact Calls.ext_of (HH.out _)) | (go_at_call 101; with_reducible exact Calls.ext_of (HS1.out _)) | (go_at_call 101; with_reducible exact Calls.ext_of (HS0.out _)))))
              refine wpQuiet_nil ?_
              rintro _ ⟨x, rfl⟩
              have hbx := x.2
              go_wp2
              go_roundw
              case rel => exact ⟨i + 1, by go_num, by omega, HF, ⟨HBi.out.trans (hbx.mono HBi.out.size)⟩⟩
              case measure => simp [intOf]; omega
          · have hse : (((s1 : Nat) : Int) != ((s0 : Nat) : Int)) = true := by simp; omega
            have HF : Aside0 (chOk xs l = false) := ⟨chOk_false hlt (by rw [HC.out]; simp; omega)⟩
            clear hss
            go_wp2
            refine wp_region_ext (by kernel_rfl) (by kernel_rfl) ?_
            repeat (go_big_quiet_step ((first | (go_at_call 100; exact Calls.ext_of (HH.out _)) | (go_at_call 101; with_reducible exact Calls.ext_of (HS1.out _)) | (go_at_call 101; with_reducible exact Calls.ext_of (HS0.out _)))))
            refine wpQuiet_nil ?_
            rintro _ ⟨x, rfl⟩
            have hbx := x.2
            go_wp2
            go_ret
            exact ⟨by rw [HF.out]; rfl, HB.out.trans ((HBw.out.trans (hbx.mono HBw.out.size)).mono HB.out.size)⟩
    · have HF := Aside0.mk (chOk_true (xs := xs) (fun t ht => HI.out t (by omega)))
      go_wp2
      go_ret
      exact ⟨by rw [HF.out]; rfl, HB.out.trans (HBw.out.mono HB.out.size)⟩

/-- the code of a flow -/
def codeFlow (a : Int) (xs : List Int) (ps : List (Int × Int)) (l : List Int) : Int := if cxOk a xs then (if pOk xs ps then (if chOk xs l then (if acyB ps then 0 else 5) else 2) else 2) else 1

set_option maxRecDepth 100000 in
set_option maxHeartbeats 2000000 in
theorem specCode6 (a : Int) (ku : Value) (xs : List Int) (v : Value) (ps : List (Int × Int)) (u : Value) (l : List Int) (w : World) (hk : ReadI w ku xs) (hv : ReadP w v ps) (hu : ReadI w u l) :
    Calls Try.prog 67 #[cx a ku, v, u] w fun e w' => e = .returned (.int .i64 (codeFlow a xs ps l)) ∧ Below w.heap.size w w' := by
  obtain ⟨w1, hw1⟩ : ∃ w1, w1 = w.alloc (.cells #[.int .i64 a, ku] 28) := ⟨_, rfl⟩
  have hB : Below w.heap.size w w1 := by rw [hw1]; exact Below.alloc (Below.refl _ _) (Nat.le_refl _) _
  have c0 : w1.cell? ⟨w.heap.size, 0, none⟩ = some (.int .i64 a) := by rw [hw1]; simp
  have c1 : w1.cell? ⟨w.heap.size, 1, none⟩ = some ku := by rw [hw1]; simp
  have HB := Aside0.mk hB
  have HM := Aside0.mk (specCode2 a ku xs v ps w1 (hk.below hB) (hv.below hB))
  have HS := Aside0.mk (fun (hd : PsDom ps) W (h : Below w1.heap.size w1 W) => specAcyclic v ps W (ReadP.below (hv.below hB) h) hd)
  have HC := Aside0.mk (fun (n : Nat) (hc : Cx n xs) W (h : Below w1.heap.size w1 W) => specChain6 n ku xs u l W ((hk.below hB).below h) ((hu.below hB).below h) hc)
  obtain ⟨A1, d1, rfl, -⟩ := id hk
  obtain ⟨A2, d2, rfl, -⟩ := id hv
  obtain ⟨A3, d3, rfl, -⟩ := id hu
  clear hk hv hB hu
  cases hx : cxOk a xs with
  | false =>
    have HA : Aside0 (codeFlow a xs ps l = 1) := ⟨by unfold codeFlow; rw [hx]; rfl⟩
    rw [hx] at HM
    clear hx
    go_enter Try.func67, Try.ntmps67
    go_wp2_with (first | (go_at_call 78; rw [← hw1]; clear hw1; refine HM.out.mono ?_; rintro e w2 ⟨rfl, hb⟩; have HB2 := Aside0.mk hb; clear hb))
    go_ret
    exact ⟨by rw [HA.out]; rfl, HB.out.trans (HB2.out.mono HB.out.size)⟩
  | true =>
    rw [hx] at HM
    obtain ⟨n, rfl, hc, -⟩ := cxOk_cx hx
    cases hp : pOk xs ps with
    | false =>
      have HA : Aside0 (codeFlow n xs ps l = 2) := ⟨by unfold codeFlow; rw [hx, hp]; rfl⟩
      rw [hp] at HM
      clear hp hx hc
      go_enter Try.func67, Try.ntmps67
      go_wp2_with (first | (go_at_call 78; rw [← hw1]; clear hw1; refine HM.out.mono ?_; rintro e w2 ⟨rfl, hb⟩; have HB2 := Aside0.mk hb; clear hb))
      go_ret
      exact ⟨by rw [HA.out]; rfl, HB.out.trans (HB2.out.mono HB.out.size)⟩
    | true =>
      rw [hp] at HM
      have HS2 := Aside0.mk (HS.out (pOk_dom hc hp))
      have HC2 := Aside0.mk (HC.out n hc)
      cases hl : chOk xs l with
      | false =>
        have HA : Aside0 (codeFlow n xs ps l = 2) := ⟨by unfold codeFlow; rw [hx, hp, hl]; rfl⟩
        rw [hl] at HC2
        clear hp hx hc HS hl
        go_enter Try.func67, Try.ntmps67
        go_wp2_with (first | (go_at_call 78; rw [← hw1]; clear hw1; refine HM.out.mono ?_; rintro e w2 ⟨rfl, hb⟩; have HB2 := Aside0.mk hb; replace c0 := pw_cell_below hb c0; replace c1 := pw_cell_below hb c1; clear hb) | (go_at_call 124; refine (HC2.out _ HB2.out).mono ?_; rintro e w3 ⟨rfl, hb⟩; have HB3 := Aside0.mk (HB2.out.trans (hb.mono HB2.out.size)); clear hb))
        go_ret
        exact ⟨by rw [HA.out]; rfl, HB.out.trans (HB3.out.mono HB.out.size)⟩
      | true =>
        rw [hl] at HC2
        obtain ⟨r, hr⟩ : ∃ r, r = acyB ps := ⟨_, rfl⟩
        rw [← hr] at HS2
        have HA : Aside0 (codeFlow n xs ps l = if r then 0 else 5) := ⟨by unfold codeFlow; rw [hx, hp, hl, ← hr]; rfl⟩
        clear hp hx hc HS hl hr
        cases r with
        | true =>
          go_enter Try.func67, Try.ntmps67
          go_wp2_with (first | (go_at_call 78; rw [← hw1]; clear hw1; refine HM.out.mono ?_; rintro e w2 ⟨rfl, hb⟩; have HB2 := Aside0.mk hb; replace c0 := pw_cell_below hb c0; replace c1 := pw_cell_below hb c1; clear hb) | (go_at_call 124; refine (HC2.out _ HB2.out).mono ?_; rintro e w3 ⟨rfl, hb⟩; have HB3 := Aside0.mk (HB2.out.trans (hb.mono HB2.out.size)); clear hb) | (go_at_call 80; refine (HS2.out _ HB3.out).mono ?_; rintro e w4 ⟨rfl, hb⟩; have HB4 := Aside0.mk (HB3.out.trans (hb.mono HB3.out.size)); clear hb))
          go_ret
          exact ⟨by rw [HA.out]; rfl, HB.out.trans (HB4.out.mono HB.out.size)⟩
        | false =>
          go_enter Try.func67, Try.ntmps67
          go_wp2_with (first | (go_at_call 78; rw [← hw1]; clear hw1; refine HM.out.mono ?_; rintro e w2 ⟨rfl, hb⟩; have HB2 := Aside0.mk hb; replace c0 := pw_cell_below hb c0; replace c1 := pw_cell_below hb c1; clear hb) | (go_at_call 124; refine (HC2.out _ HB2.out).mono ?_; rintro e w3 ⟨rfl, hb⟩; have HB3 := Aside0.mk (HB2.out.trans (hb.mono HB2.out.size)); clear hb) | (go_at_call 80; refine (HS2.out _ HB3.out).mono ?_; rintro e w4 ⟨rfl, hb⟩; have HB4 := Aside0.mk (HB3.out.trans (hb.mono HB3.out.size)); clear hb))
          go_ret
          exact ⟨by rw [HA.out]; rfl, HB.out.trans (HB4.out.mono HB.out.size)⟩
end Go.Proofs.Ytcbkchnfjeegmaa.H

namespace Go.Proofs.Ytcbkchnfjeegmaa.H
open Go.RowKit Go.Proofs.YtcbkchnfjeegmaaW.PrintWords Go.Proofs.YtcbkchnfjeegmaaW.PrintLast Go.Proofs.YtcbkchnfjeegmaaW.PrintMore
set_option linter.unusedVariables false
set_option linter.unusedSimpArgs false

theorem pOk_lows {xs : List Int} {ps : List (Int × Int)} (h : pOk xs ps = true) : LowsN ps := by
  unfold LowsN
  rw [List.pairwise_iff_getElem]
  intro i j hi hj hij e
  unfold pOk at h
  have h1 := List.all_eq_true.1 h j (List.mem_range.2 hj)
  unfold pOkAt at h1
  rw [Bool.and_eq_true, Bool.and_eq_true] at h1
  have h2 := List.all_eq_true.1 h1.2.2 i (List.mem_range.2 hij)
  rw [List.getD_eq_getElem?_getD, List.getElem?_eq_getElem hj, List.getD_eq_getElem?_getD, List.getElem?_eq_getElem hi] at h2
  unfold shares at h2
  simp only [Option.getD_some, e, beq_self_eq_true, Bool.true_or, Bool.not_true] at h2
  cases h2
theorem bitsI_zero {l : List Int} (hasc : l.Pairwise (· < ·)) (h : ∀ x ∈ l, 1 ≤ x ∧ x ≤ 63) : (bitsI l).testBit 0 = false := by
  rw [bits_test hasc (fun x hx => by have := h x hx; omega)]
  exact decide_eq_false (fun h0 => by have := h _ h0; omega)
theorem flowB_zero {ps : List (Int × Int)} (hd : PsDom ps) {m : Nat} (h0 : m.testBit 0 = false) : (flowB ps m).testBit 0 = false := by
  unfold flowB
  rw [Nat.testBit_xor, Nat.testBit_xor, h0, bnd_zero (listI_bd _), pushB_zero hd]; rfl
/-- what a flow wants -/
theorem flow_dom {a : Int} {xs : List Int} {ps : List (Int × Int)} {l : List Int} (h : codeFlow a xs ps l = 0) :
    ∃ n : Nat, a = n ∧ Cx n xs ∧ cxOk a xs = true ∧ pOk xs ps = true ∧ chOk xs l = true ∧ acyB ps = true := by
  unfold codeFlow at h
  cases hx : cxOk a xs with
  | false => rw [hx] at h; simp at h
  | true =>
    obtain ⟨n, e, hc, -⟩ := cxOk_cx hx
    cases hp : pOk xs ps with
    | false => rw [hx, hp] at h; simp at h
    | true =>
      cases hl : chOk xs l with
      | false => rw [hx, hp, hl] at h; simp at h
      | true =>
        cases ha : acyB ps with
        | false => rw [hx, hp, hl, ha] at h; simp at h
        | true => exact ⟨n, e, hc, rfl, rfl, rfl, rfl⟩
theorem code_two {a : Int} {xs : List Int} {ps : List (Int × Int)} {l : List Int} (h : codeChn a xs l ≠ 0) : codeFlow a xs ps l = codeChn a xs l := by
  unfold codeFlow codeChn at *
  cases hx : cxOk a xs with
  | false => rfl
  | true =>
    rw [hx] at h
    cases hl : chOk xs l with
    | false => cases pOk xs ps <;> rfl
    | true => rw [hl] at h; exact absurd rfl h
theorem code_acy {a : Int} {xs : List Int} {ps : List (Int × Int)} {l : List Int} (h : codeChn a xs l = 0) : codeFlow a xs ps l = if cxOk a xs then (if true && pOk xs ps then (if acyB ps then 0 else 5) else 2) else 1 := by
  unfold codeFlow codeChn at *
  cases hx : cxOk a xs with
  | false => rw [hx] at h; simp at h
  | true =>
    rw [hx] at h
    cases hl : chOk xs l with
    | false => rw [hl] at h; simp at h
    | true => cases pOk xs ps <;> rfl
/-- what FlowOf answers -/
def ansFlowOf (a : Int) (xs : List Int) (ps : List (Int × Int)) (l : List Int) : List Int × Int := if codeFlow a xs ps l = 0 then (listI (flowB ps (bitsI l)), 0) else ([], codeFlow a xs ps l)
theorem lenFlowOf (a : Int) (xs : List Int) (ps : List (Int × Int)) (l : List Int) : (ansFlowOf a xs ps l).1.length ≤ 1073741824 := by
  unfold ansFlowOf
  split
  · exact Nat.le_trans (listI_len _) (by decide)
  · simp

set_option maxRecDepth 100000 in
set_option maxHeartbeats 2000000 in
theorem specFlowOf (a : Int) (ku : Value) (xs : List Int) (v : Value) (ps : List (Int × Int)) (u : Value) (l : List Int) (w : World) (hk : ReadI w ku xs) (hv : ReadP w v ps) (hu : ReadI w u l) :
    Calls Try.prog 31 #[cx a ku, v, u] w fun e w' => ∃ r, e = .returned (.tuple #[r, .int .i64 (ansFlowOf a xs ps l).2]) ∧ OwnI w.heap.size w' r (ansFlowOf a xs ps l).1 ∧ Below w.heap.size w w' := by
  obtain ⟨w1, hw1⟩ : ∃ w1, w1 = w.alloc (.cells #[.int .i64 a, ku] 28) := ⟨_, rfl⟩
  have hB : Below w.heap.size w w1 := by rw [hw1]; exact Below.alloc (Below.refl _ _) (Nat.le_refl _) _
  have HB := Aside0.mk hB
  have HM := Aside0.mk (specCode6 a ku xs v ps u l w1 (hk.below hB) (hv.below hB) (hu.below hB))
  have HU := Aside0.mk (fun W (h : Below w1.heap.size w1 W) => (hu.below hB).below h)
  have HV := Aside0.mk (fun W (h : Below w1.heap.size w1 W) => (hv.below hB).below h)
  obtain ⟨A1, d1, rfl, -⟩ := id hk
  obtain ⟨A2, d2, rfl, -⟩ := id hv
  obtain ⟨A3, d3, rfl, -⟩ := id hu
  obtain ⟨q, hq⟩ : ∃ q, q = codeFlow a xs ps l := ⟨_, rfl⟩
  rw [← hq] at HM
  clear hk hv hu hB
  by_cases h0 : q = 0
  · obtain ⟨n, rfl, hc, -, hp, hl, -⟩ := flow_dom (hq.symm.trans h0)
    obtain ⟨hasc, hbd⟩ := chain_dom hc hl
    have hd := pOk_dom hc hp
    have HA : Aside0 (ansFlowOf n xs ps l = (listI (flowB ps (bitsI l)), 0)) := ⟨by unfold ansFlowOf; rw [← hq, if_pos h0]⟩
    have hbd0 : ∀ x ∈ l, 0 ≤ x ∧ x ≤ 63 := fun x hx => by have := hbd x hx; omega
    have HF := Aside0.mk (fun W (h : Below w1.heap.size w1 W) => specFlow6 (.slice A2 ps.length d2) ps (.slice A3 l.length d3) (bitsI l) W (HV.out W h) (by rw [list_bits hasc hbd0]; exact HU.out W h) hd (pOk_lows hp) (bitsI_lt hbd0) (bitsI_zero hasc hbd))
    rw [h0] at HM
    clear hq h0 hc hp hl hasc hbd hbd0 hd
    go_enter Try.func31, Try.ntmps31
    go_wp2_with (first | (go_at_call 67; rw [← hw1]; clear hw1; refine HM.out.mono ?_; rintro e w2 ⟨rfl, hb⟩; have HB2 := Aside0.mk hb; clear hb) | (go_at_call 68; refine (HF.out _ HB2.out).mono ?_; rintro e w3 ⟨r, rfl, ho, hb⟩; have HO3 := Aside0.mk (ho.lower (Nat.le_trans HB.out.size HB2.out.size)); have HB3 := Aside0.mk (HB2.out.trans (hb.mono HB2.out.size)); clear ho hb))
    go_ret2
    exact ⟨_, by rw [HA.out]; rfl, by rw [HA.out]; exact HO3.out, HB.out.trans (HB3.out.mono HB.out.size)⟩
  · have HA : Aside0 (ansFlowOf a xs ps l = ([], q)) := ⟨by unfold ansFlowOf; rw [← hq, if_neg h0]⟩
    have hqb : (q != 0) = true := by simpa using h0
    clear h0 hq
    go_enter Try.func31, Try.ntmps31
    go_wp2_with (first | (go_at_call 67; rw [← hw1]; clear hw1; refine HM.out.mono ?_; rintro e w2 ⟨rfl, hb⟩; have HB2 := Aside0.mk hb; clear hb))
    go_ret2
    exact ⟨_, by rw [HA.out]; rfl, by rw [HA.out]; exact OwnI.nil _ _, HB.out.trans (HB2.out.mono HB.out.size)⟩

set_option maxRecDepth 100000 in
set_option maxHeartbeats 2000000 in
theorem implFlowOf (a : Int) (ku : Value) (xs : List Int) (v : Value) (ps : List (Int × Int)) (u : Value) (l : List Int) (w : World) (hk : ReadI w ku xs) (hv : ReadP w v ps) (hu : ReadI w u l) :
    Calls Try.prog 33 #[cx a ku, v, u] w fun e w' => ∃ r, e = .returned (.tuple #[r, .int .i64 (ansFlowOf a xs ps l).2]) ∧ OwnI w.heap.size w' r (ansFlowOf a xs ps l).1 ∧ Below w.heap.size w w' := by
  obtain ⟨wb, hwb⟩ : ∃ wb, wb = w.alloc (.cells #[.int .i64 a, ku] 28) := ⟨_, rfl⟩
  obtain ⟨w1, hw1⟩ : ∃ w1, w1 = wb.alloc (.cells #[u] 22) := ⟨_, rfl⟩
  have hsb : wb.heap.size = w.heap.size + 1 := by rw [hwb]; simp
  have hBb : Below w.heap.size w wb := by rw [hwb]; exact Below.alloc (Below.refl _ _) (Nat.le_refl _) _
  have hB1 : Below wb.heap.size wb w1 := by rw [hw1]; exact Below.alloc (Below.refl _ _) (Nat.le_refl _) _
  have hB : Below w.heap.size w w1 := hBb.trans (hB1.mono hBb.size)
  have c0 : w1.cell? ⟨w.heap.size, 0, none⟩ = some (.int .i64 a) := pw_cell_below hB1 (by rw [hwb]; simp)
  have c1 : w1.cell? ⟨w.heap.size, 1, none⟩ = some ku := pw_cell_below hB1 (by rw [hwb]; simp)
  have HB := Aside0.mk hB
  have HK := Aside0.mk (hk.below hB)
  have HS := Aside0.mk (ReadS.one' (hu.below hBb))
  rw [← hw1, hsb] at HS
  have HU := Aside0.mk (fun W (h : Below w1.heap.size w1 W) => (hu.below hB).below h)
  have HV := Aside0.mk (fun W (h : Below w1.heap.size w1 W) => (hv.below hB).below h)
  have HK2 := Aside0.mk (fun W (h : Below w1.heap.size w1 W) => (hk.below hB).below h)
  obtain ⟨A1, d1, rfl, -⟩ := id hk
  obtain ⟨A2, d2, rfl, -⟩ := id hv
  obtain ⟨A3, d3, rfl, -⟩ := id hu
  subst hwb
  clear hk hv hu hB hBb hB1 hsb
  obtain ⟨q1, hq1⟩ : ∃ q, q = codeChn a xs l := ⟨_, rfl⟩
  have HQ1 := Aside0.mk hq1
  by_cases h1 : q1 = 0
  · have hca := code_acy (ps := ps) (hq1.symm.trans h1)
    obtain ⟨q, hq⟩ : ∃ q, q = codeFlow a xs ps l := ⟨_, rfl⟩
    have HAC := Aside0.mk (fun W (h : Below w1.heap.size w1 W) => acyclicCode a _ xs _ ps true W (HK2.out W h) (HV.out W h))
    rw [← hca, ← hq] at HAC
    subst h1
    by_cases h0 : q = 0
    · obtain ⟨n, rfl, hc, -, hp, hl, -⟩ := flow_dom (hq.symm.trans h0)
      obtain ⟨hasc, hbd⟩ := chain_dom hc hl
      have hd := pOk_dom hc hp
      have HA : Aside0 (ansFlowOf n xs ps l = (listI (flowB ps (bitsI l)), 0)) := ⟨by unfold ansFlowOf; rw [← hq, if_pos h0]⟩
      have hbd0 : ∀ x ∈ l, 0 ≤ x ∧ x ≤ 63 := fun x hx => by have := hbd x hx; omega
      have HF := Aside0.mk (fun W (h : Below w1.heap.size w1 W) => flow (.slice A2 ps.length d2) ps (bitsI l) W (HV.out W h) hd (bitsI_lt hbd0) (bitsI_zero hasc hbd))
      have HC := Aside0.mk (fun W (h : Below w1.heap.size w1 W) => chainOf (.slice A3 l.length d3) l W (HU.out W h) hbd0)
      have HL := Aside0.mk (fun W => chainList (flowB ps (bitsI l)) (flowB_ltU hd (bitsI_lt hbd0)) (flowB_zero hd (bitsI_zero hasc hbd)) W)
      rw [h0] at HAC
      clear hq h0 hc hp hl hasc hbd hbd0 hd hca hq1
      go_enter Try.func33, Try.ntmps33
      go_wp2_with (first | (go_at_call 52; rw [← hw1]; clear hw1; refine (chainCode n _ xs _ l _ HK.out HS.out).mono ?_; rintro e w2 ⟨rfl, hb⟩; rw [← HQ1.out]; replace c0 := pw_cell_below hb c0; replace c1 := pw_cell_below hb c1; have HB2 := Aside0.mk hb; clear hb) | (go_at_call 70; refine (HAC.out _ HB2.out).mono ?_; rintro e w3 ⟨rfl, hb⟩; have HB3 := Aside0.mk (HB2.out.trans (hb.mono HB2.out.size)); clear hb) | (go_at_call 53; refine (HC.out _ HB3.out).mono ?_; rintro e w4 ⟨rfl, hb⟩; have HB4 := Aside0.mk (HB3.out.trans (hb.mono HB3.out.size)); clear hb) | (go_at_call 71; refine (HF.out _ HB4.out).mono ?_; rintro e w5 ⟨rfl, hb⟩; have HB5 := Aside0.mk (HB4.out.trans (hb.mono HB4.out.size)); clear hb) | (go_at_call 55; refine (HL.out _).mono ?_; rintro e w6 ⟨r, rfl, ho, hb⟩; have HO6 := Aside0.mk (ho.lower (Nat.le_trans HB.out.size HB5.out.size)); have HB6 := Aside0.mk (HB5.out.trans (hb.mono HB5.out.size)); clear ho hb))
      go_ret2
      exact ⟨_, by rw [HA.out]; rfl, by rw [HA.out]; exact HO6.out, HB.out.trans (HB6.out.mono HB.out.size)⟩
    · have HA : Aside0 (ansFlowOf a xs ps l = ([], q)) := ⟨by unfold ansFlowOf; rw [← hq, if_neg h0]⟩
      have hqb : (q != 0) = true := by simpa using h0
      clear h0 hq hca hq1
      go_enter Try.func33, Try.ntmps33
      go_wp2_with (first | (go_at_call 52; rw [← hw1]; clear hw1; refine (chainCode a _ xs _ l _ HK.out HS.out).mono ?_; rintro e w2 ⟨rfl, hb⟩; rw [← HQ1.out]; replace c0 := pw_cell_below hb c0; replace c1 := pw_cell_below hb c1; have HB2 := Aside0.mk hb; clear hb) | (go_at_call 70; refine (HAC.out _ HB2.out).mono ?_; rintro e w3 ⟨rfl, hb⟩; have HB3 := Aside0.mk (HB2.out.trans (hb.mono HB2.out.size)); clear hb))
      go_ret2
      exact ⟨_, by rw [HA.out]; rfl, by rw [HA.out]; exact OwnI.nil _ _, HB.out.trans (HB3.out.mono HB.out.size)⟩
  · have hcf := code_two (ps := ps) (fun h => h1 (hq1.trans h))
    have HA : Aside0 (ansFlowOf a xs ps l = ([], q1)) := ⟨by unfold ansFlowOf; rw [hcf, ← hq1, if_neg h1]⟩
    have hqb : (q1 != 0) = true := by simpa using h1
    clear h1 hq1 hcf
    go_enter Try.func33, Try.ntmps33
    go_wp2_with (first | (go_at_call 52; rw [← hw1]; clear hw1; refine (chainCode a _ xs _ l _ HK.out HS.out).mono ?_; rintro e w2 ⟨rfl, hb⟩; rw [← HQ1.out]; have HB2 := Aside0.mk hb; clear hb))
    go_ret2
    exact ⟨_, by rw [HA.out]; rfl, by rw [HA.out]; exact OwnI.nil _ _, HB.out.trans (HB2.out.mono HB.out.size)⟩
end Go.Proofs.Ytcbkchnfjeegmaa.H

namespace Go.Proofs.Ytcbkchnfjeegmaa.H
open Go.RowKit Go.Proofs.YtcbkchnfjeegmaaW.PrintWords Go.Proofs.YtcbkchnfjeegmaaW.PrintLast Go.Proofs.YtcbkchnfjeegmaaW.PrintMore
set_option linter.unusedVariables false
set_option linter.unusedSimpArgs false

theorem grown_alloc {w w' : World} {o : Obj} {r : Option Nat} (h : (w.alloc o).grownBy w' r) : w.grownBy w' r :=
  ⟨h.os, h.tape, h.output, Nat.le_trans (by simp) h.size, fun k hk hne => (h.block k (by simp; omega) hne).trans ((World.grownBy_alloc w o none).block k hk (by simp))⟩

set_option maxRecDepth 100000 in
set_option maxHeartbeats 1000000 in
theorem markComplex (b : Nat) (a : Int) (v : Value) (xs : List Int) (k : Nat) (w : World) (ho : OwnI b w v xs) (hk : k ≤ 1073741824) (hl : xs.length ≤ 1073741824) (hbw : b ≤ w.heap.size) :
    Calls Try.prog 20 #[.agg #[.int .i64 a, v], .int .i64 k] w fun e w' => e = .returned (.int .i64 ((k : Int) + xs.length)) ∧ OwnI b w' v (marks k xs.length) ∧ w.grownBy w' v.ownBlock ∧ Below b w w' := by
  have hba : Below w.heap.size w (w.alloc (.cells #[.int .i64 a, v] 28)) := Below.alloc (Below.refl _ _) (Nat.le_refl _) _
  have HO := Aside0.mk (OwnI.below ho hba)
  have HB := Aside0.mk (hba.mono hbw)
  obtain ⟨A, c, rfl, -⟩ := ho.read
  clear ho hba
  go_enter Try.func20, Try.ntmps20
  go_wp2_with (first | (go_at_call 21; refine (markInt64S b _ xs k _ HO.out hk hl).mono ?_; rintro e w2 ⟨rfl, ho, hg, hb⟩; have HO2 := Aside0.mk ho; have HG2 := Aside0.mk hg; have HB2 := Aside0.mk hb; clear ho hg hb))
  go_ret
  exact ⟨rfl, HO2.out, grown_alloc HG2.out, HB.out.trans HB2.out⟩

end Go.Proofs.Ytcbkchnfjeegmaa.H

namespace Go.Proofs.Ytcbkchnfjeegmaa.H
open Go.RowKit Go.Proofs.YtcbkchnfjeegmaaW.PrintWords Go.Proofs.YtcbkchnfjeegmaaW.PrintLast Go.Proofs.YtcbkchnfjeegmaaW.PrintMore
set_option linter.unusedVariables false
set_option linter.unusedSimpArgs false

set_option maxRecDepth 100000 in
set_option maxHeartbeats 1000000 in
theorem eqPairS (u v : Value) (ps : List (Int × Int)) (w : World) (hu : ReadP w u ps) (hv : ReadP w v ps) :
    Calls Try.prog 34 #[u, v] w fun e w' => e = .returned (.bool true) ∧ Below w.heap.size w w' := by
  have HU := Aside0.mk hu
  have HV := Aside0.mk hv
  obtain ⟨A, c, rfl, hl, -⟩ := id hu
  obtain ⟨A', c', rfl, -⟩ := id hv
  clear hu hv
  go_enter Try.func34, Try.ntmps34
  go_wp2
  go_loopw [5] (fun s wr => ∃ i : Nat, s = .int .i64 i ∧ i ≤ ps.length ∧ Aside0 (Below w.heap.size w wr)) (fun s _ => ps.length - (intOf s).toNat)
  case atStart => exact ⟨0, rfl, Nat.zero_le _, ⟨Below.refl _ _⟩⟩
  case round =>
    obtain ⟨i, rfl, hi, HB⟩ := hrel
    by_cases hlt : i < ps.length
    · obtain ⟨g, x, y, e1, hxy, hc0, hc1⟩ := ReadP.get (HU.out.below HB.out) hlt
      cases e1
      obtain ⟨g', x', y', e1, hxy', hc0', hc1'⟩ := ReadP.get (HV.out.below HB.out) hlt
      cases e1
      rw [hxy] at hxy'
      cases hxy'
      have hiI : (i : Int) < (ps.length : Int) := by omega
      have x0 : ∀ z : Ext wr, z.1.cell? ⟨g, i * 2, none⟩ = some (.int .i64 x) := fun z => Ext.cell hc0 z
      have x1 : ∀ z : Ext wr, z.1.cell? ⟨g, i * 2 + 1, none⟩ = some (.int .i64 y) := fun z => Ext.cell hc1 z
      have x2 : ∀ z : Ext wr, z.1.cell? ⟨g', i * 2, none⟩ = some (.int .i64 x) := fun z => Ext.cell hc0' z
      have x3 : ∀ z : Ext wr, z.1.cell? ⟨g', i * 2 + 1, none⟩ = some (.int .i64 y) := fun z => Ext.cell hc1' z
      have HI : Aside0 (∀ z : Ext wr, Calls Try.prog 72 #[.agg #[.int .i64 x, .int .i64 y], .agg #[.int .i64 x, .int .i64 y]] z.1 fun e w' => e = .returned (.bool true) ∧ Below z.1.heap.size z.1 w') := ⟨fun z => by have := eqPair x y x y z.1; simpa using this⟩
      clear hc0 hc1 hc0' hc1' hxy
      go_wp2
      refine wp_region_ext (by kernel_rfl) (by kernel_rfl) ?_
      repeat (go_big_quiet_step ((first | (go_at_call 72; exact Calls.ext_of (HI.out _)))))
      refine wpQuiet_nil ?_
      rintro _ ⟨z, rfl⟩
      have hbz := z.2
      go_wp2
      go_roundw
      case rel => exact ⟨i + 1, by go_num, by omega, ⟨HB.out.trans (hbz.mono HB.out.size)⟩⟩
      case measure => simp [intOf]; omega
    · go_wp2
      go_ret
      exact ⟨rfl, HB.out⟩

/-- a row of pairs by its cells -/
def RowP (b : Nat) (w : World) (v : Value) (n : Nat) (xs : List Int) : Prop := w.ownsRow b 83 2 v n (xs.map (Value.int .i64))
section
variable {P : Program} {ops : Array Oper} {rest : List Oper} {o : Oper} {a : Act} {Q : Exit → Act → World → Prop}
theorem store_row {W : World} {b g n cap : Nat} {xs : List Int} (hgd : o.guard = none) {p : Tmp} {v : Operand} (ho : o.op = .store 2 (.tmp p) v) (hN : o.dst = none)
    (i : Nat) (x : Int) (HO : RowP b W (.slice (some ⟨g, 0, none⟩) n cap) n xs) (hi : i < xs.length) (hp : a.eval (.tmp p) = .pointer (some ⟨g, i, none⟩)) (hv : a.eval v = .int .i64 x)
    (h : ∀ w', RowP b w' (.slice (some ⟨g, 0, none⟩) n cap) n (xs.set i x) → W.grownBy w' (some g) → Below b W w' → wpList Try.prog ops Q rest a w') : wpList Try.prog ops Q (o :: rest) a W := by
  have hc : W.cell? ⟨g, i, none⟩ = some (.int .i64 xs[i]) ∧ W.frozen? ⟨g, i, none⟩ = false := by
    constructor
    · have hc := World.ownsRow.cells HO (g := g) rfl i (.int .i64 xs[i]) (by rw [List.getElem?_map, List.getElem?_eq_getElem hi]; rfl)
      rwa [add_plain] at hc
    · rcases HO.2 with ⟨h', _⟩ | ⟨g', cap', cur, h', _, hh, _⟩
      · cases h'
      · have : g = g' := by injection h' with h'; injection h' with h'; injection h' with h'
        subst this
        simp [World.frozen?, hh]
  have hs := World.ownsRow.stored HO i (.int .i64 x)
  have he : (xs.map (Value.int .i64)).set i (.int .i64 x) = (xs.set i x).map (Value.int .i64) := by simp [List.map_set]
  rw [he] at hs
  refine store_event (w1 := W.setCell ⟨g, i, none⟩ (.int .i64 x)) hgd ho hN ?_ (fun w' e => h w' ?_ ?_ ?_)
  · obtain ⟨h1, h2⟩ := hc
    generalize a.eval = ρ at hp hv ⊢
    simp [execOp, ho, hp, hv, go_sem, h1, h2]
  · rw [e]; exact hs.1
  · rw [e]; exact hs.2
  · rw [e]; exact Below.setCell (Below.refl _ _) (own_base HO g (by simp [Value.ownBlock])) _
end

set_option maxRecDepth 100000 in
set_option maxHeartbeats 2000000 in
theorem markPairS (b : Nat) (v : Value) (ps : List (Int × Int)) (k : Nat) (w : World) (ho : OwnP b w v ps) (hk : k ≤ 1073741824) (hl : ps.length ≤ 1073741824) :
    Calls Try.prog 35 #[v, .int .i64 k] w fun e w' => e = .returned (.int .i64 ((k : Int) + (ps.length * 2 : Nat))) ∧ RowP b w' v ps.length (marks k (ps.length * 2)) ∧ w.grownBy w' v.ownBlock ∧ Below b w w' := by
  have HO : Aside0 (RowP b w v ps.length (flat ps)) := ⟨ho⟩
  have hfl := flat_len ps
  obtain ⟨xs, hxs⟩ : ∃ xs, xs = flat ps := ⟨_, rfl⟩
  rw [← hxs] at HO hfl
  obtain ⟨A, c, rfl, -⟩ := ho.read
  clear ho hxs
  obtain ⟨n, hn⟩ : ∃ n, n = ps.length := ⟨_, rfl⟩
  rw [← hn] at HO hfl hl ⊢
  clear hn
  go_enter Try.func35, Try.ntmps35
  go_wp2
  go_loopw [1, 5] (fun vk vi wr => ∃ i : Nat, vi = .int .i64 i ∧ vk = .int .i64 ((k : Int) + (i * 2 : Nat)) ∧ i ≤ n ∧ Aside0 (RowP b wr (.slice A n c) n (marks k (i * 2) ++ xs.drop (i * 2))) ∧ Aside0 (w.grownBy wr (Value.slice A n c).ownBlock) ∧ Aside0 (Below b w wr)) (fun _ vi _ => n - (intOf vi).toNat)
  case atStart => exact ⟨0, rfl, by simp, Nat.zero_le _, by simpa [marks] using HO, ⟨⟨rfl, rfl, rfl, Nat.le_refl _, fun _ _ _ => rfl⟩⟩, ⟨Below.refl _ _⟩⟩
  case round =>
    obtain ⟨i, rfl, rfl, hi, HI, HG, HB⟩ := hrel
    by_cases hlt : i < n
    · obtain ⟨g, cap, e2⟩ : ∃ g cap, Value.slice A n c = .slice (some ⟨g, 0, none⟩) n cap := by
        rcases HI.out.2 with ⟨_, h0⟩ | ⟨g, cap, cur, e, _⟩
        · omega
        · exact ⟨g, cap, e⟩
      cases e2
      obtain ⟨wo, rfl⟩ : ∃ wo, wo = wr := ⟨_, rfl⟩
      go_wp2
      go_loopw [1, 6] (fun vk vj wr => ∃ j : Nat, vj = .int .i64 j ∧ vk = .int .i64 ((k : Int) + (i * 2 + j : Nat)) ∧ j ≤ 2 ∧ Aside0 (RowP b wr (.slice (some ⟨g, 0, none⟩) n c) n (marks k (i * 2 + j) ++ xs.drop (i * 2 + j))) ∧ Aside0 (w.grownBy wr (Value.slice (some ⟨g, 0, none⟩) n c).ownBlock) ∧ Aside0 (Below b w wr)) (fun _ vj _ => 2 - (intOf vj).toNat)
      case atStart => exact ⟨0, rfl, by simp, by decide, HI, HG, HB⟩
      case round =>
        obtain ⟨j, rfl, rfl, hj, HJ, HG2, HB2⟩ := hrel
        by_cases hlt2 : j < 2
        · have el : (marks (k : Int) (i * 2 + j) ++ xs.drop (i * 2 + j)).length = n * 2 := by rw [List.length_append, marks_len, List.length_drop]; omega
          have HM := Aside0.mk (marks_set (k := (k : Int)) (xs := xs) (i := i * 2 + j) (by omega))
          have hjI : (j : Int) < 2 := by omega
          have hiI : (i : Int) < (n : Int) := by omega
          go_wp2_with (first | ((with_reducible refine gate_store (t := 2) (p := 22) rfl ?_); refine store_row (W := wr) rfl (p := 22) rfl rfl (i * 2 + j) ((k : Int) + (i * 2 + j : Nat)) HJ.out ?ha ?hb ?hc ?_; (case ha => omega); (case hb => rfl); (case hc => rfl); intro w' ho hg hb; have HO2 := Aside0.mk ho; have HB3 := Aside0.mk (HB2.out.trans hb); have HG3 := Aside0.mk (grown_trans HG2.out hg); clear ho hg hb))
          go_roundw
          case rel => exact ⟨j + 1, by go_num, by rw [show i * 2 + (j + 1) = i * 2 + j + 1 by omega]; go_num, by omega, ⟨by rw [show i * 2 + (j + 1) = i * 2 + j + 1 by omega, ← HM.out]; exact HO2.out⟩, HG3, HB3⟩
          case measure => simp [intOf]; omega
        · have e : j = 2 := by omega
          subst e
          go_wp2
          go_roundw
          case rel => exact ⟨i + 1, by go_num, by rw [show (i + 1) * 2 = i * 2 + 2 by omega], by omega, by rw [show (i + 1) * 2 = i * 2 + 2 by omega]; exact HJ, HG2, HB2⟩
          case measure => simp [intOf]; omega
    · have e : i = n := by omega
      have HE := Aside0.mk e
      clear e
      go_wp2
      go_ret
      exact ⟨by rw [HE.out]; rfl, by have := HI.out; rw [HE.out, List.drop_eq_nil_of_le (by omega), List.append_nil] at this; exact this, HG.out, HB.out⟩

set_option maxRecDepth 100000 in
set_option maxHeartbeats 2000000 in
theorem heldPairS (b : Nat) (v : Value) (k n : Nat) (w : World) (ho : RowP b w v n (marks k (n * 2))) (hk : k ≤ 1073741824) (hl : n ≤ 1073741824) :
    Calls Try.prog 46 #[v, .int .i64 k] w fun e w' => e = .returned (.int .i64 ((k : Int) + (n * 2 : Nat))) ∧ Below w.heap.size w w' := by
  have hrd : ∃ A c, v = .slice A n c ∧ (0 < n → ∃ g, A = some ⟨g, 0, none⟩ ∧ ∀ m, m < n * 2 → w.cell? ⟨g, m, none⟩ = some (.int .i64 ((k : Int) + m))) := by
    rcases ho.2 with ⟨rfl, rfl⟩ | ⟨g, cap, cur, rfl, hb, hg, hnc, hcm, hcs, ht⟩
    · exact ⟨_, _, rfl, fun h => absurd h (by decide)⟩
    · refine ⟨_, _, rfl, fun _ => ⟨g, rfl, fun m hm => ?_⟩⟩
      have hc := World.ownsRow.cells ho (g := g) rfl m (.int .i64 ((k : Int) + m)) (by
        have h1 := marks_at (k : Int) hm
        rw [List.getD_eq_getElem?_getD] at h1
        rw [List.getElem?_map]
        have h2 : m < (marks (k : Int) (n * 2)).length := by rw [marks_len]; exact hm
        rw [List.getElem?_eq_getElem h2] at h1 ⊢
        rw [Option.getD_some] at h1
        rw [h1]; rfl)
      rwa [add_plain] at hc
  obtain ⟨A, c, rfl, hr⟩ := hrd
  have HR := Aside0.mk hr
  clear ho hr
  go_enter Try.func46, Try.ntmps46
  go_wp2
  go_loopw [1, 5] (fun vk vi wr => ∃ i : Nat, vi = .int .i64 i ∧ vk = .int .i64 ((k : Int) + (i * 2 : Nat)) ∧ i ≤ n ∧ wr = w) (fun _ vi _ => n - (intOf vi).toNat)
  case atStart => exact ⟨0, rfl, by simp, Nat.zero_le _, rfl⟩
  case round =>
    obtain ⟨i, rfl, rfl, hi, rfl⟩ := hrel
    by_cases hlt : i < n
    · obtain ⟨g, rfl, hcell⟩ := HR.out (by omega)
      have HC := Aside0.mk hcell
      clear hcell
      obtain ⟨wo, hwo⟩ : ∃ wo, wo = wr := ⟨_, rfl⟩
      subst hwo
      go_wp2
      go_loopw [1, 6] (fun vk vj wr => ∃ j : Nat, vj = .int .i64 j ∧ vk = .int .i64 ((k : Int) + (i * 2 + j : Nat)) ∧ j ≤ 2 ∧ wr = wo) (fun _ vj _ => 2 - (intOf vj).toNat)
      case atStart => exact ⟨0, rfl, by simp, by decide, rfl⟩
      case round =>
        obtain ⟨j, rfl, rfl, hj, rfl⟩ := hrel
        by_cases hlt2 : j < 2
        · have hcell := HC.out (i * 2 + j) (by omega)
          have hjI : (j : Int) < 2 := by omega
          have hiI : (i : Int) < (n : Int) := by omega
          go_wp2
          go_roundw
          case rel => exact ⟨j + 1, by go_num, by rw [show i * 2 + (j + 1) = i * 2 + j + 1 by omega]; go_num, by omega, trivial⟩
          case measure => simp [intOf]; omega
        · have e : j = 2 := by omega
          subst e
          go_wp2
          go_roundw
          case rel => exact ⟨i + 1, by go_num, by rw [show (i + 1) * 2 = i * 2 + 2 by omega], by omega, trivial⟩
          case measure => simp [intOf]; omega
    · have e : i = n := by omega
      have HE := Aside0.mk e
      clear e
      go_wp2
      go_ret
      exact ⟨by rw [HE.out]; rfl, Below.refl _ _⟩

theorem Aside0.ownP {b : Nat} {w w' : World} {v : Value} {ps : List (Int × Int)} (h : Aside0 (OwnP b w v ps)) (hb : Below w.heap.size w w') : Aside0 (OwnP b w' v ps) := ⟨OwnP.below h.out hb⟩
theorem Aside0.rowP {b n : Nat} {w w' : World} {v : Value} {xs : List Int} (h : Aside0 (RowP b w v n xs)) (hb : Below w.heap.size w w') : Aside0 (RowP b w' v n xs) := ⟨own_move h.out (fun k hk => hb.block k (own_lt h.out k hk))⟩
theorem own_grownP {W W' : World} {v u : Value} {b lo hi lo' hi' : Nat} {ps : List (Int × Int)} (hg : W.grownBy W' v.ownBlock) (hr : ∀ k, v.ownBlock = some k → lo ≤ k ∧ k < hi) (hr' : ∀ k, u.ownBlock = some k → lo' ≤ k ∧ k < hi') (hn : hi' ≤ lo ∨ hi ≤ lo') (ho : OwnP b W u ps) : OwnP b W' u ps :=
  ho.grown hg (fun k hk e => by have h1 := hr _ e.symm; have h2 := hr' _ hk; omega)
end Go.Proofs.Ytcbkchnfjeegmaa.H

namespace Go.Proofs.Ytcbkchnfjeegmaa.H
open Go.ChangeShapes Go.WideShapes Go.ChangeAt
open Go.RowKit Go.Proofs.YtcbkchnfjeegmaaW.PrintWords Go.Proofs.YtcbkchnfjeegmaaW.PrintLast Go.Proofs.YtcbkchnfjeegmaaW.PrintMore
set_option linter.unusedVariables false
set_option linter.unusedSimpArgs false

/-- an int64 -/
def W64 (a : Int) : Prop := (Lit.int .i64 a).wf = true
theorem W64.bd {a : Int} (h : W64 a) : -9223372036854775808 ≤ a ∧ a ≤ 9223372036854775807 := by
  simpa [W64, Lit.wf, IntKind.min, IntKind.max, IntKind.signed, IntKind.bits] using h

set_option maxRecDepth 100000 in
theorem read_list {H : Type} {enc : TypeId × Value → H} {W : World} {fuel : Nat} {v : Value} {y : DataW H × List MemPlace}
    (hf : DataW.trod enc Try.prog W 0 (fun _ => true) true fuel 22 [v] = some y) : ∃ l : List Int, ReadI W v l ∧ ∀ x ∈ l, W64 x := by
  rcases open_ints Try.underlying22 Try.underlying2 (by kernel_rfl) hf with ⟨hcs, _⟩ | ⟨x, l, c, zs, hcs, _, hl, hm, hz, _, hcell, hwz⟩
  · simp at hcs
    subst hcs
    exact ⟨[], ReadI.nil _, fun x hx => by cases hx⟩
  · simp at hcs
    subst hcs
    obtain ⟨l, rfl, hr, hm, hw, hc⟩ := ReadsInt.ofRowC (k := .i64) (w := W) (.inr ⟨_, rfl, hl, hm, by simpa using hz, hcell, hwz⟩)
    exact ⟨l, ⟨_, _, rfl, hc, Kd.C_of_reads (d := (0 : Int)) (h1 := fun _ => rfl) hr⟩, hw⟩
set_option maxRecDepth 100000 in
theorem open_list {H : Type} {enc : TypeId × Value → H} {W : World} {base : Nat} {v : Value} {d : DataW H} {p : List MemPlace}
    (hv : Value.okWide Try.prog W .any base 22 v) (h : DataW.Trod enc Try.prog W 0 (fun _ => true) true 22 v d p) : ∃ l : List Int, ReadI W v l ∧ ∀ x ∈ l, W64 x := by
  obtain ⟨a1, len1, cap1, rfl⟩ := okWide_slice Try.underlying22 hv
  obtain ⟨fuel, hf⟩ := h
  exact read_list hf
set_option maxRecDepth 100000 in
theorem open_complex {H : Type} {enc : TypeId × Value → H} {W : World} {base : Nat} {v : Value} {d : DataW H} {p : List MemPlace}
    (hv : Value.okWide Try.prog W .any base 24 v) (h : DataW.Trod enc Try.prog W 0 (fun _ => true) true 24 v d p) : ∃ (a : Int) (u : Value) (l : List Int), v = .agg #[.int .i64 a, u] ∧ W64 a ∧ ReadI W u l ∧ ∀ x ∈ l, W64 x := by
  obtain ⟨c0, c1, y0, y1, m, rfl, rfl, rfl, hy0, hy1⟩ := Joins.open_agg2 Try.underlying24 (by kernel_rfl) (by kernel_rfl) hv h
  obtain ⟨a, e0, rfl, wa⟩ := DataW.trod_int Try.underlying2 hy0
  simp at e0
  subst e0
  obtain ⟨l, hr, hw⟩ := read_list hy1
  exact ⟨a, c1, l, rfl, wa, hr, hw⟩
end Go.Proofs.Ytcbkchnfjeegmaa.H
