/- Flows of the reference. FlowOf of the program and of the reference. Flows of an acyclic pairing come to an end: the plain law. -/
import Derived.Test.YtomofijniefelaaGreatKFnFlows1
import Derived.Test.YtomofijniefelaaGreatKFnFlows2
import Derived.Test.YtomofijniefelaaGreatKFnFlows3
import Derived.Test.YtomofijniefelaaGreatKFnFlows4
import Derived.Test.YtomofijniefelaaGreatKFnFlows5
import Derived.Test.YtomofijniefelaaGreatKFnFlows6
import Derived.Test.YtomofijniefelaaGreatKFnFlows7
import Derived.Test.YtomofijniefelaaGreatKFnFlows8
import Derived.Test.YtomofijniefelaaGreatKFnFlows9
import Derived.Test.YtomofijniefelaaGreatKFnFlows10
import Derived.Test.YtomofijniefelaaGreatKFnFlows11
import Derived.Test.YtomofijniefelaaGreatKFnFlows12

namespace Go.Proofs.YtomofijniefelaaGreat.H
open Go.RowKit Go.Proofs.YtomofijniefelaaGreatW.PrintWords Go.Proofs.YtomofijniefelaaGreatW.PrintLast
set_option linter.unusedVariables false
set_option linter.unusedSimpArgs false
set_option maxRecDepth 100000 in
set_option maxHeartbeats 2000000 in
theorem specSum6 (v : Value) (m : Nat) (u : Value) (ys : List Int) (w : World) (hv : ReadI w v (listI m)) (hu : ReadI w u ys) (hy : ∀ y ∈ ys, 0 ≤ y ∧ y ≤ 63) :
  Calls Tryz.prog 289 #[v, u] w fun e w' => ∃ r, e = .returned r ∧ OwnI w.heap.size w' r (listI (m ^^^ bitsI ys)) ∧ Below w.heap.size w w' := by
 have HO := Aside0.mk (specOwnC v (listI m) w hv (by have := listI_len m; omega))
 have HU := Aside0.mk hu
 have HY := Aside0.mk hy
 have hul := hu.len
 obtain ⟨A1, d1, rfl, -⟩ := id hv
 obtain ⟨A2, d2, rfl, hcu, hru⟩ := id hu
 have HR := Aside0.mk hru
 clear hv hu hy hcu hru
 go_enter Tryz.func289, Tryz.ntmps289
 go_wp2_with (first | (go_at_call 153; refine HO.out.mono ?_; rintro e w2 ⟨r, rfl, ho, hb⟩; have HO2 := Aside0.mk ho; have HB2 := Aside0.mk hb; clear ho hb))
 go_loopw [5, 6] (fun s5 s6 wr => ∃ i : Nat, s6 = .int .i64 i ∧ i ≤ ys.length ∧ Aside0 (OwnI w.heap.size wr s5 (listI (m ^^^ bitsI (ys.take i)))) ∧ Aside0 (Below w.heap.size w wr)) (fun _ s6 _ => ys.length - (intOf s6).toNat)
 case atStart => exact ⟨0, rfl, Nat.zero_le _, ⟨by rw [List.take_zero, show bitsI [] = 0 from rfl, Nat.xor_zero]; exact HO2.out⟩, HB2⟩
 case round =>
  obtain ⟨i, rfl, hi, HOi, HBi⟩ := hrel
  by_cases hlt : i < ys.length
  ·obtain ⟨ad, y, rfl, hcell, HYi⟩ := ReadI.get (Kd.C_below HR.out HBi.out) hlt
   have hyd := HY.out y (mem_at hlt HYi.out)
   obtain ⟨f, rfl⟩ : ∃ f : Nat, y = f := ⟨y.toNat, by omega⟩
   have hf : f < 64 := by omega
   have HT : Aside0 (m ^^^ bitsI (ys.take (i + 1)) = (m ^^^ bitsI (ys.take i)) ^^^ 2 ^ f) := ⟨by rw [take_get hlt HYi.out, bits_snoc, Int.toNat_natCast, Nat.xor_assoc]⟩
   clear hyd
   go_wp2_with (first | (go_at_call 357; refine (specPut _ _ f _ HOi.out.read hf).mono ?_; rintro e w3 ⟨r, rfl, ho, hb⟩; have HO3 := Aside0.mk (ho.lower HBi.out.size); have HB3 := Aside0.mk (HBi.out.trans (hb.mono HBi.out.size)); clear ho hb))
   go_roundw
   case rel => exact ⟨i + 1, by go_num, by omega, ⟨by rw [HT.out]; exact HO3.out⟩, HB3⟩
   case measure => simp [intOf]; omega
  ·have e : i = ys.length := by omega
   have HE := Aside0.mk e
   clear e
   go_wp2
   go_ret
   exact ⟨_, rfl, by have := HOi.out; rw [HE.out, List.take_length] at this; exact this, HBi.out⟩
theorem xsum_snoc (f : Int → Nat) (l : List Int) (x : Int) : xsum f (l ++ [x]) = xsum f l ^^^ f x := by unfold xsum; rw [List.foldl_append]; rfl
set_option maxRecDepth 100000 in
set_option maxHeartbeats 2000000 in
theorem specPush6 (v : Value) (ps : List (Int × Int)) (u : Value) (l : List Int) (w : World) (hv : ReadP w v ps) (hu : ReadI w u l) (hd : PsDom ps) :
  Calls Tryz.prog 290 #[v, u] w fun e w' => ∃ r, e = .returned r ∧ OwnI w.heap.size w' r (listI (xsum (push1 ps) l)) ∧ Below w.heap.size w w' := by
 have HV := Aside0.mk hv
 have HD := Aside0.mk hd
 have hul := hu.len
 obtain ⟨A1, d1, rfl, -⟩ := id hv
 obtain ⟨A2, d2, rfl, hcu, hru⟩ := id hu
 have HR := Aside0.mk hru
 have HE0 := Aside0.mk (OwnI.empty w (Nat.le_refl w.heap.size))
 clear hv hu hd hcu hru
 go_enter Tryz.func290, Tryz.ntmps290
 go_wp2
 go_loopw [5, 6] (fun s5 s6 wr => ∃ i : Nat, s6 = .int .i64 i ∧ i ≤ l.length ∧ Aside0 (OwnI w.heap.size wr s5 (listI (xsum (push1 ps) (l.take i)))) ∧ Aside0 (Below w.heap.size w wr)) (fun _ s6 _ => l.length - (intOf s6).toNat)
 case atStart => exact ⟨0, rfl, Nat.zero_le _, ⟨by rw [List.take_zero, xsum_nil, show listI 0 = [] by decide]; exact HE0.out⟩, ⟨Below.alloc (Below.refl _ _) (Nat.le_refl _) _⟩⟩
 case round =>
  obtain ⟨i, rfl, hi, HOi, HBi⟩ := hrel
  by_cases hlt : i < l.length
  ·obtain ⟨ad, y, rfl, hcell, HYi⟩ := ReadI.get (Kd.C_below HR.out HBi.out) hlt
   have HH := Aside0.mk (specHigh (.slice A1 ps.length d1) ps y wr (HV.out.below HBi.out))
   have hh := high_dom HD.out y
   obtain ⟨h, hhe⟩ : ∃ h, h = highTo ps y := ⟨_, rfl⟩
   have HT : Aside0 (xsum (push1 ps) (l.take (i + 1)) = xsum (push1 ps) (l.take i) ^^^ (if h = 0 then 0 else 2 ^ h.toNat)) := ⟨by rw [take_get hlt HYi.out, xsum_snoc]; unfold push1; rw [← hhe]⟩
   rw [← hhe] at HH hh
   clear hhe
   by_cases h0 : h = 0
   ·rw [if_pos h0, Nat.xor_zero] at HT
    rw [h0] at HH
    clear h0 hh
    go_wp2_with (first | (go_at_call 253; refine HH.out.mono ?_; rintro e w3 ⟨rfl, hb⟩; have HO3 := Aside0.mk (HOi.out.below hb); have HB3 := Aside0.mk (HBi.out.trans (hb.mono HBi.out.size)); clear hb))
    go_roundw
    case rel => exact ⟨i + 1, by go_num, by omega, ⟨by rw [HT.out]; exact HO3.out⟩, HB3⟩
    case measure => simp [intOf]; omega
   ·rw [if_neg h0] at HT
    obtain ⟨f, rfl⟩ : ∃ f : Nat, h = f := ⟨h.toNat, by omega⟩
    rw [Int.toNat_natCast] at HT
    have hf : f < 64 := by omega
    have hf0 : ((f : Int) != 0) = true := by simpa using h0
    clear h0 hh
    go_wp2_with (first | (go_at_call 253; refine HH.out.mono ?_; rintro e w3 ⟨rfl, hb⟩; have HO3 := Aside0.mk (HOi.out.below hb); have HB3 := Aside0.mk (HBi.out.trans (hb.mono HBi.out.size)); clear hb) | (go_at_call 357; refine (specPut _ _ f _ HO3.out.read hf).mono ?_; rintro e w4 ⟨r, rfl, ho, hb⟩; have HO4 := Aside0.mk (ho.lower HB3.out.size); have HB4 := Aside0.mk (HB3.out.trans (hb.mono HB3.out.size)); clear ho hb))
    go_roundw
    case rel => exact ⟨i + 1, by go_num, by omega, ⟨by rw [HT.out]; exact HO4.out⟩, HB4⟩
    case measure => simp [intOf]; omega
  ·have e : i = l.length := by omega
   have HE := Aside0.mk e
   clear e
   go_wp2
   go_ret
   exact ⟨_, rfl, by have := HOi.out; rw [HE.out, List.take_length] at this; exact this, HBi.out⟩
theorem push_bits {ps : List (Int × Int)} (hn : LowsN ps) (hd : PsDom ps) {m : Nat} (hm : m < 18446744073709551616) : xsum (push1 ps) (listI m) = pushB ps m := by
 rw [push_law (listI_asc m) (fun x hx => (listI_bd m x hx).1) ps hn hd, bits_listI (by rw [e64]; exact hm)]
theorem bnd_bits (m : Nat) : bndL (listI m) = listI (bndB (listI m)) := bnd_law (listI_bd m)
set_option maxRecDepth 100000 in
set_option maxHeartbeats 2000000 in
theorem specFlow6 (v : Value) (ps : List (Int × Int)) (u : Value) (m : Nat) (w : World) (hv : ReadP w v ps) (hu : ReadI w u (listI m)) (hd : PsDom ps) (hn : LowsN ps) (hm : m < 18446744073709551616) (h0 : m.testBit 0 = false) :
  Calls Tryz.prog 169 #[v, u] w fun e w' => ∃ r, e = .returned r ∧ OwnI w.heap.size w' r (listI (flowB ps m)) ∧ Below w.heap.size w w' := by
 have HP1 := Aside0.mk (fun W (h : Below w.heap.size w W) => specPush6 v ps u (listI m) W (hv.below h) (hu.below h) hd)
 rw [push_bits hn hd hm] at HP1
 have hp := pushB_ltU hd m
 have HP2 := Aside0.mk (fun x W (h : Below w.heap.size w W) (hx : ReadI W x (listI (bndB (listI m)))) => specPush6 v ps x (listI (bndB (listI m))) W (hv.below h) hx hd)
 rw [push_bits hn hd (bndB_ltU m)] at HP2
 have HB1 := Aside0.mk (fun W (h : Below w.heap.size w W) => specBoundary u (listI m) W (hu.below h) (listI_pos h0))
 rw [bnd_bits m] at HB1
 have HB2 := Aside0.mk (fun x W (hx : ReadI W x (listI (pushB ps m))) => specBoundary x (listI (pushB ps m)) W hx (listI_pos (pushB_zero hd m)))
 rw [bnd_bits (pushB ps m)] at HB2
 have HF : Aside0 (flowB ps m = (m ^^^ bndB (listI (pushB ps m))) ^^^ pushB ps (bndB (listI m))) := ⟨rfl⟩
 have hb2 := bndB_ltU (pushB ps m)
 have hp2 := pushB_ltU hd (bndB (listI m))
 have HU := Aside0.mk hu
 obtain ⟨A1, d1, rfl, -⟩ := id hv
 obtain ⟨A2, d2, rfl, -⟩ := id hu
 obtain ⟨P1, hP1⟩ : ∃ P, P = pushB ps m := ⟨_, rfl⟩
 rw [← hP1] at HP1 HB2 HF hb2
 obtain ⟨B1, hB1⟩ : ∃ P, P = bndB (listI m) := ⟨_, rfl⟩
 rw [← hB1] at HB1 HP2 HF hp2
 obtain ⟨B2, hB2⟩ : ∃ P, P = bndB (listI P1) := ⟨_, rfl⟩
 rw [← hB2] at HB2 HF hb2
 obtain ⟨P2, hP2⟩ : ∃ P, P = pushB ps B1 := ⟨_, rfl⟩
 rw [← hP2] at HP2 HF hp2
 have HS1 := Aside0.mk (bits_listI (m := B2) (by rw [e64]; exact hb2))
 have HS2 := Aside0.mk (bits_listI (m := P2) (by rw [e64]; exact hp2))
 clear hv hd hm h0 hp hP1 hB1 hB2 hP2 hp2 hb2 hn hu
 go_enter Tryz.func169, Tryz.ntmps169
 go_wp2_with (first | (go_at_call 290; refine Aside0.out ?_))
 refine Aside0.mk ?_
 with_reducible refine (HP1.out _ (Below.refl _ _)).mono ?_
 rintro e w2 ⟨r2, rfl, ho, hb⟩
 have HO2 := Aside0.mk ho
 have HW2 := Aside0.mk hb
 obtain ⟨Ar2, dr2, rfl, -⟩ := ho.read
 clear hb ho
 go_wp2_with (first | (go_at_call 209; refine Aside0.out ?_))
 refine Aside0.mk ?_
 with_reducible refine (HB2.out _ _ HO2.out.read).mono ?_
 rintro e w3 ⟨r3, rfl, ho, hb⟩
 have HO3 := Aside0.mk ho
 have HW3 := Aside0.mk (HW2.out.trans (hb.mono HW2.out.size))
 obtain ⟨Ar3, dr3, rfl, -⟩ := ho.read
 clear hb ho
 go_wp2_with (first | (go_at_call 289; refine Aside0.out ?_))
 refine Aside0.mk ?_
 refine (specSum6 _ m _ (listI B2) _ (HU.out.below HW3.out) HO3.out.read (listI_bd B2)).mono ?_
 rw [HS1.out]
 rintro e w4 ⟨r4, rfl, ho, hb⟩
 have HO4 := Aside0.mk ho
 have HW4 := Aside0.mk (HW3.out.trans (hb.mono HW3.out.size))
 obtain ⟨Ar4, dr4, rfl, -⟩ := ho.read
 clear hb ho
 go_wp2_with (first | (go_at_call 209; refine Aside0.out ?_))
 refine Aside0.mk ?_
 with_reducible refine (HB1.out _ HW4.out).mono ?_
 rintro e w5 ⟨r5, rfl, ho, hb⟩
 have HO5 := Aside0.mk ho
 have HO45 := Aside0.mk (HO4.out.below hb)
 have HW5 := Aside0.mk (HW4.out.trans (hb.mono HW4.out.size))
 obtain ⟨Ar5, dr5, rfl, -⟩ := ho.read
 clear hb ho
 go_wp2_with (first | (go_at_call 290; refine Aside0.out ?_))
 refine Aside0.mk ?_
 with_reducible refine (HP2.out _ _ HW5.out HO5.out.read).mono ?_
 rintro e w6 ⟨r6, rfl, ho, hb⟩
 have HO6 := Aside0.mk ho
 have HO46 := Aside0.mk (HO45.out.below hb)
 have HW6 := Aside0.mk (HW5.out.trans (hb.mono HW5.out.size))
 obtain ⟨Ar6, dr6, rfl, -⟩ := ho.read
 clear hb ho
 go_wp2_with (first | (go_at_call 289; refine Aside0.out ?_))
 refine Aside0.mk ?_
 refine (specSum6 _ (m ^^^ B2) _ (listI P2) _ HO46.out.read HO6.out.read (listI_bd P2)).mono ?_
 rw [HS2.out]
 rintro e w7 ⟨r7, rfl, ho, hb⟩
 have HO7 := Aside0.mk (ho.lower HW6.out.size)
 have HW7 := Aside0.mk (HW6.out.trans (hb.mono HW6.out.size))
 clear hb ho
 go_wp2
 go_ret
 exact ⟨_, rfl, by rw [HF.out]; exact HO7.out, HW7.out⟩
set_option maxRecDepth 100000 in
set_option maxHeartbeats 4000000 in
theorem specChain6 (n : Nat) (ku : Value) (xs : List Int) (v : Value) (l : List Int) (w : World) (hk : ReadI w ku xs) (hv : ReadI w v l) (hc : Cx n xs) :
  Calls Tryz.prog 174 #[cx n ku, v] w fun e w' => e = .returned (.bool (chOk xs l)) ∧ Below w.heap.size w w' := by
 obtain ⟨w1, hw1⟩ : ∃ w1, w1 = w.alloc (.cells #[.int .i64 n, ku] 26) := ⟨_, rfl⟩
 have hB : Below w.heap.size w w1 := by rw [hw1]; exact Below.alloc (Below.refl _ _) (Nat.le_refl _) _
 have c0 : w1.cell? ⟨w.heap.size, 0, none⟩ = some (.int .i64 n) := by rw [hw1]; simp
 have c1 : w1.cell? ⟨w.heap.size, 1, none⟩ = some ku := by rw [hw1]; simp
 have HB := Aside0.mk hB
 have HK := Aside0.mk (hk.below hB)
 have l2 := hv.len
 obtain ⟨A1, d1, rfl, -⟩ := id hk
 obtain ⟨A2, d2, rfl, hcv, hrv⟩ := hv.below hB
 have HR := Aside0.mk hrv
 have HN := Aside0.mk hc
 clear hk hv hB hcv hrv hc
 go_enter Tryz.func174, Tryz.ntmps174
 go_wp2
 rw [← hw1]
 clear hw1
 go_loopw [5] (fun s wr => ∃ i : Nat, s = .int .i64 i ∧ i ≤ l.length ∧ Aside0 (∀ t, t < i → chAt xs l t = true) ∧ Aside0 (Below w1.heap.size w1 wr)) (fun s _ => l.length - (intOf s).toNat)
 case atStart => exact ⟨0, rfl, Nat.zero_le _, ⟨fun t h => absurd h (Nat.not_lt_zero _)⟩, ⟨Below.refl _ _⟩⟩
 case round =>
  obtain ⟨i, rfl, hi, HI, HBi⟩ := hrel
  have HBw := HBi
  have c0 := pw_cell_below HBi.out c0
  have c1 := pw_cell_below HBi.out c1
  by_cases hlt : i < l.length
  ·obtain ⟨ad, y, rfl, hcell, HY⟩ := ReadI.get (Kd.C_below HR.out HBw.out) hlt
   have x0 : ∀ x : Ext wr, x.1.cell? ⟨w.heap.size, 0, none⟩ = some (.int .i64 n) := fun x => Ext.cell c0 x
   have x1 : ∀ x : Ext wr, x.1.cell? ⟨w.heap.size, 1, none⟩ = some (.slice A1 xs.length d1) := fun x => Ext.cell c1 x
   have xc : ∀ x : Ext wr, x.1.cell? (ad.add i) = some (.int .i64 y) := fun x => Ext.cell hcell x
   have hiI : (i : Int) < (l.length : Int) := by omega
   obtain ⟨b, hbm⟩ : ∃ b, b = decide (y ∈ xs) := ⟨_, rfl⟩
   have HH : Aside0 (∀ x : Ext wr, Calls Tryz.prog 154 #[cx n (.slice A1 xs.length d1), .int .i64 y] x.1 fun e w' => e = .returned (.bool b) ∧ Below x.1.heap.size x.1 w') := ⟨fun x => by rw [hbm]; exact specHas n _ xs y x.1 ((HK.out.below HBw.out).below x.2)⟩
   cases b with
   | false =>
    have HF : Aside0 (chOk xs l = false) := ⟨chOk_false hlt (by unfold chAt; rw [HY.out, ← hbm]; rfl)⟩
    clear hbm
    go_wp2
    refine wp_region_ext (by kernel_rfl) (by kernel_rfl) ?_
    repeat (go_big_quiet_step ((first | (go_at_call 154; exact Calls.ext_of (HH.out _)))))
    refine wpQuiet_nil ?_
    rintro _ ⟨x, rfl⟩
    have hbx := x.2
    go_wp2
    go_ret
    exact ⟨by rw [HF.out]; rfl, HB.out.trans ((HBw.out.trans (hbx.mono HBw.out.size)).mono HB.out.size)⟩
   | true =>
    have hym : y ∈ xs := of_decide_eq_true hbm.symm
    obtain ⟨z, rfl, hz1, hz2⟩ := HN.out.nat hym
    by_cases h0 : i = 0
    ·have HF : Aside0 (∀ t, t < i + 1 → chAt xs l t = true) := ⟨fun t ht => by
      rcases Nat.lt_succ_iff_lt_or_eq.1 ht with h | h
      ·exact HI.out t h
      ·rw [h]; unfold chAt; rw [HY.out, ← hbm, decide_eq_true h0]; rw [show l.getD 0 0 = (z : Int) by rw [← HY.out, h0]]; simp⟩
     have h0' : decide (0 < i) = false := decide_eq_false (by omega)
     have hcz : wr.cell? ad = some (.int .i64 (z : Nat)) := by rw [h0, show ad.add 0 = ad by cases ad; rfl] at hcell; exact hcell
     have x2 : ∀ x : Ext wr, x.1.cell? ad = some (.int .i64 z) := fun x => Ext.cell hcz x
     have hl0 : (0 : Int) < (l.length : Int) := by omega
     obtain ⟨s1, hs1⟩ : ∃ s, s = ones z := ⟨_, rfl⟩
     have HS1 : Aside0 (∀ x : Ext wr, Calls Tryz.prog 213 #[.int .i64 z] x.1 fun e w' => e = .returned (.int .i64 (s1 : Nat)) ∧ Below x.1.heap.size x.1 w') := ⟨fun x => by rw [hs1]; exact specOnes z (by omega) x.1⟩
     clear h0 hbm hym hs1 hcz
     go_wp2
     refine wp_region_ext (by kernel_rfl) (by kernel_rfl) ?_
     repeat (go_big_quiet_step ((first | (go_at_call 154; exact Calls.ext_of (HH.out _)) | (go_at_call 213; with_reducible exact Calls.ext_of (HS1.out _)))))
     refine wpQuiet_nil ?_
     rintro _ ⟨x, rfl⟩
     have hbx := x.2
     go_wp2
     go_roundw
     case rel => exact ⟨i + 1, by go_num, by omega, HF, ⟨HBi.out.trans (hbx.mono HBi.out.size)⟩⟩
     case measure => simp [intOf]; omega
    ·have h0lt : 0 < l.length := by omega
     obtain ⟨ad', y0, e0, hcell0, HY0⟩ := ReadI.get (Kd.C_below HR.out HBw.out) h0lt
     cases e0
     obtain ⟨z0, rfl, hz01, hz02⟩ : ∃ z0 : Nat, y0 = z0 ∧ 1 ≤ z0 ∧ z0 ≤ 63 := by
      have := chAt_mem (HI.out 0 (by omega)); rw [HY0.out] at this; exact HN.out.nat this
     rw [show ad.add 0 = ad by cases ad; rfl] at hcell0
     have x2 : ∀ x : Ext wr, x.1.cell? ad = some (.int .i64 z0) := fun x => Ext.cell hcell0 x
     obtain ⟨s1, hs1⟩ : ∃ s, s = ones z := ⟨_, rfl⟩
     obtain ⟨s0, hs0⟩ : ∃ s, s = ones z0 := ⟨_, rfl⟩
     have HS1 : Aside0 (∀ x : Ext wr, Calls Tryz.prog 213 #[.int .i64 z] x.1 fun e w' => e = .returned (.int .i64 (s1 : Nat)) ∧ Below x.1.heap.size x.1 w') := ⟨fun x => by rw [hs1]; exact specOnes z (by omega) x.1⟩
     have HS0 : Aside0 (∀ x : Ext wr, Calls Tryz.prog 213 #[.int .i64 z0] x.1 fun e w' => e = .returned (.int .i64 (s0 : Nat)) ∧ Below x.1.heap.size x.1 w') := ⟨fun x => by rw [hs0]; exact specOnes z0 (by omega) x.1⟩
     have h0' : decide (0 < i) = true := decide_eq_true (by omega)
     have h1i : (0 : Int) ≤ (i : Int) - 1 := by omega
     have h2i : (i : Int) - 1 < l.length := by omega
     have h3i : ((i : Int) - 1).toNat = i - 1 := by omega
     obtain ⟨ad'', y', e2, hcell2, HY2⟩ := ReadI.get (Kd.C_below HR.out HBw.out) (i := i - 1) (by omega)
     cases e2
     have hx3 : ∀ x : Ext wr, x.1.cell? (ad.add (i - 1)) = some (.int .i64 y') := fun x => Ext.cell hcell2 x
     have HC : Aside0 (chAt xs l i = ((((s1 : Nat) : Int) == ((s0 : Nat) : Int)) && decide (y' < (z : Int)))) := ⟨by unfold chAt; rw [HY.out, HY0.out, HY2.out, ← hbm, Bool.true_and, Int.toNat_natCast, Int.toNat_natCast, ← hs1, ← hs0, decide_eq_false h0, Bool.false_or]⟩
     clear hbm hym hs1 hs0 hcell0 hcell2 h0
     have hl0 : (0 : Int) < (l.length : Int) := by omega
     by_cases hss : s1 = s0
     ·have hse : (((s1 : Nat) : Int) != ((s0 : Nat) : Int)) = false := by simp [hss]
      have hsb : (((s1 : Nat) : Int) == ((s0 : Nat) : Int)) = true := by simp [hss]
      rw [hsb, Bool.true_and] at HC
      clear hss hsb
      by_cases hle : (z : Int) ≤ y'
      ·have hled : decide ((z : Int) ≤ y') = true := decide_eq_true hle
       have HF : Aside0 (chOk xs l = false) := ⟨chOk_false hlt (by rw [HC.out, decide_eq_false (show ¬ y' < (z : Int) by omega)])⟩
       go_wp2
       refine wp_region_ext (by kernel_rfl) (by kernel_rfl) ?_
       repeat (go_big_quiet_step ((first | (go_at_call 154; exact Calls.ext_of (HH.out _)) | (go_at_call 213; with_reducible exact Calls.ext_of (HS1.out _)) | (go_at_call 213; with_reducible exact Calls.ext_of (HS0.out _)))))
       refine wpQuiet_nil ?_
       rintro _ ⟨x, rfl⟩
       have hbx := x.2
       go_wp2
       go_ret
       exact ⟨by rw [HF.out]; rfl, HB.out.trans ((HBw.out.trans (hbx.mono HBw.out.size)).mono HB.out.size)⟩
      ·have hled : decide ((z : Int) ≤ y') = false := decide_eq_false hle
       have HF : Aside0 (∀ t, t < i + 1 → chAt xs l t = true) := ⟨fun t ht => by
        rcases Nat.lt_succ_iff_lt_or_eq.1 ht with h | h
        ·exact HI.out t h
        ·rw [h, HC.out]; exact decide_eq_true (by omega)⟩
       go_wp2
       refine wp_region_ext (by kernel_rfl) (by kernel_rfl) ?_
       repeat (go_big_quiet_step ((first | (go_at_call 154; exact Calls.ext_of (HH.out _)) | (go_at_call 213; with_reducible exact Calls.ext_of (HS1.out _)) | (go_at_call 213; with_reducible exact Calls.ext_of (HS0.out _)))))
       refine wpQuiet_nil ?_
       rintro _ ⟨x, rfl⟩
       have hbx := x.2
       go_wp2
       go_roundw
       case rel => exact ⟨i + 1, by go_num, by omega, HF, ⟨HBi.out.trans (hbx.mono HBi.out.size)⟩⟩
       case measure => simp [intOf]; omega
     ·have hse : (((s1 : Nat) : Int) != ((s0 : Nat) : Int)) = true := by simp; omega
      have HF : Aside0 (chOk xs l = false) := ⟨chOk_false hlt (by rw [HC.out]; simp; omega)⟩
      clear hss
      go_wp2
      refine wp_region_ext (by kernel_rfl) (by kernel_rfl) ?_
      repeat (go_big_quiet_step ((first | (go_at_call 154; exact Calls.ext_of (HH.out _)) | (go_at_call 213; with_reducible exact Calls.ext_of (HS1.out _)) | (go_at_call 213; with_reducible exact Calls.ext_of (HS0.out _)))))
      refine wpQuiet_nil ?_
      rintro _ ⟨x, rfl⟩
      have hbx := x.2
      go_wp2
      go_ret
      exact ⟨by rw [HF.out]; rfl, HB.out.trans ((HBw.out.trans (hbx.mono HBw.out.size)).mono HB.out.size)⟩
  ·have HF := Aside0.mk (chOk_true (xs := xs) (fun t ht => HI.out t (by omega)))
   go_wp2
   go_ret
   exact ⟨by rw [HF.out]; rfl, HB.out.trans (HBw.out.mono HB.out.size)⟩
/-- the code of a flow -/
def codeFlow (a : Int) (xs : List Int) (ps : List (Int × Int)) (l : List Int) : Int := if cxOk a xs then (if pOk xs ps then (if chOk xs l then (if acyB ps then 0 else 5) else 2) else 2) else 1
set_option maxRecDepth 100000 in
set_option maxHeartbeats 2000000 in
theorem specCode6 (a : Int) (ku : Value) (xs : List Int) (v : Value) (ps : List (Int × Int)) (u : Value) (l : List Int) (w : World) (hk : ReadI w ku xs) (hv : ReadP w v ps) (hu : ReadI w u l) :
  Calls Tryz.prog 168 #[cx a ku, v, u] w fun e w' => e = .returned (.int .i64 (codeFlow a xs ps l)) ∧ Below w.heap.size w w' := by
 obtain ⟨w1, hw1⟩ : ∃ w1, w1 = w.alloc (.cells #[.int .i64 a, ku] 26) := ⟨_, rfl⟩
 have hB : Below w.heap.size w w1 := by rw [hw1]; exact Below.alloc (Below.refl _ _) (Nat.le_refl _) _
 have c0 : w1.cell? ⟨w.heap.size, 0, none⟩ = some (.int .i64 a) := by rw [hw1]; simp
 have c1 : w1.cell? ⟨w.heap.size, 1, none⟩ = some ku := by rw [hw1]; simp
 have HB := Aside0.mk hB
 have HM := Aside0.mk (specCode2 a ku xs v ps w1 (hk.below hB) (hv.below hB))
 have HS := Aside0.mk (fun (hd : PsDom ps) W (h : Below w1.heap.size w1 W) => specAcyclic v ps W (ReadP.below (hv.below hB) h) hd)
 have HC := Aside0.mk (fun (n : Nat) (hc : Cx n xs) W (h : Below w1.heap.size w1 W) => specChain6 n ku xs u l W ((hk.below hB).below h) ((hu.below hB).below h) hc)
 obtain ⟨A1, d1, rfl, -⟩ := id hk
 obtain ⟨A2, d2, rfl, -⟩ := id hv
 obtain ⟨A3, d3, rfl, -⟩ := id hu
 clear hk hv hB hu
 cases hx : cxOk a xs with
 | false =>
  have HA : Aside0 (codeFlow a xs ps l = 1) := ⟨by unfold codeFlow; rw [hx]; rfl⟩
  rw [hx] at HM
  clear hx
  go_enter Tryz.func168, Tryz.ntmps168
  go_wp2_with (first | (go_at_call 179; rw [← hw1]; clear hw1; refine HM.out.mono ?_; rintro e w2 ⟨rfl, hb⟩; have HB2 := Aside0.mk hb; clear hb))
  go_ret
  exact ⟨by rw [HA.out]; rfl, HB.out.trans (HB2.out.mono HB.out.size)⟩
 | true =>
  rw [hx] at HM
  obtain ⟨n, rfl, hc, -⟩ := cxOk_cx hx
  cases hp : pOk xs ps with
  | false =>
   have HA : Aside0 (codeFlow n xs ps l = 2) := ⟨by unfold codeFlow; rw [hx, hp]; rfl⟩
   rw [hp] at HM
   clear hp hx hc
   go_enter Tryz.func168, Tryz.ntmps168
   go_wp2_with (first | (go_at_call 179; rw [← hw1]; clear hw1; refine HM.out.mono ?_; rintro e w2 ⟨rfl, hb⟩; have HB2 := Aside0.mk hb; clear hb))
   go_ret
   exact ⟨by rw [HA.out]; rfl, HB.out.trans (HB2.out.mono HB.out.size)⟩
  | true =>
   rw [hp] at HM
   have HS2 := Aside0.mk (HS.out (pOk_dom hc hp))
   have HC2 := Aside0.mk (HC.out n hc)
   cases hl : chOk xs l with
   | false =>
    have HA : Aside0 (codeFlow n xs ps l = 2) := ⟨by unfold codeFlow; rw [hx, hp, hl]; rfl⟩
    rw [hl] at HC2
    clear hp hx hc HS hl
    go_enter Tryz.func168, Tryz.ntmps168
    go_wp2_with (first | (go_at_call 179; rw [← hw1]; clear hw1; refine HM.out.mono ?_; rintro e w2 ⟨rfl, hb⟩; have HB2 := Aside0.mk hb; replace c0 := pw_cell_below hb c0; replace c1 := pw_cell_below hb c1; clear hb) | (go_at_call 174; refine (HC2.out _ HB2.out).mono ?_; rintro e w3 ⟨rfl, hb⟩; have HB3 := Aside0.mk (HB2.out.trans (hb.mono HB2.out.size)); clear hb))
    go_ret
    exact ⟨by rw [HA.out]; rfl, HB.out.trans (HB3.out.mono HB.out.size)⟩
   | true =>
    rw [hl] at HC2
    obtain ⟨r, hr⟩ : ∃ r, r = acyB ps := ⟨_, rfl⟩
    rw [← hr] at HS2
    have HA : Aside0 (codeFlow n xs ps l = if r then 0 else 5) := ⟨by unfold codeFlow; rw [hx, hp, hl, ← hr]; rfl⟩
    clear hp hx hc HS hl hr
    cases r with
    | true =>
     go_enter Tryz.func168, Tryz.ntmps168
     go_wp2_with (first | (go_at_call 179; rw [← hw1]; clear hw1; refine HM.out.mono ?_; rintro e w2 ⟨rfl, hb⟩; have HB2 := Aside0.mk hb; replace c0 := pw_cell_below hb c0; replace c1 := pw_cell_below hb c1; clear hb) | (go_at_call 174; refine (HC2.out _ HB2.out).mono ?_; rintro e w3 ⟨rfl, hb⟩; have HB3 := Aside0.mk (HB2.out.trans (hb.mono HB2.out.size)); clear hb) | (go_at_call 181; refine (HS2.out _ HB3.out).mono ?_; rintro e w4 ⟨rfl, hb⟩; have HB4 := Aside0.mk (HB3.out.trans (hb.mono HB3.out.size)); clear hb))
     go_ret
     exact ⟨by rw [HA.out]; rfl, HB.out.trans (HB4.out.mono HB.out.size)⟩
    | false =>
     go_enter Tryz.func168, Tryz.ntmps168
     go_wp2_with (first | (go_at_call 179; rw [← hw1]; clear hw1; refine HM.out.mono ?_; rintro e w2 ⟨rfl, hb⟩; have HB2 := Aside0.mk hb; replace c0 := pw_cell_below hb c0; replace c1 := pw_cell_below hb c1; clear hb) | (go_at_call 174; refine (HC2.out _ HB2.out).mono ?_; rintro e w3 ⟨rfl, hb⟩; have HB3 := Aside0.mk (HB2.out.trans (hb.mono HB2.out.size)); clear hb) | (go_at_call 181; refine (HS2.out _ HB3.out).mono ?_; rintro e w4 ⟨rfl, hb⟩; have HB4 := Aside0.mk (HB3.out.trans (hb.mono HB3.out.size)); clear hb))
     go_ret
     exact ⟨by rw [HA.out]; rfl, HB.out.trans (HB4.out.mono HB.out.size)⟩
theorem pOk_lows {xs : List Int} {ps : List (Int × Int)} (h : pOk xs ps = true) : LowsN ps := by
 unfold LowsN
 rw [List.pairwise_iff_getElem]
 intro i j hi hj hij e
 unfold pOk at h
 have h1 := List.all_eq_true.1 h j (List.mem_range.2 hj)
 unfold pOkAt at h1
 rw [Bool.and_eq_true, Bool.and_eq_true] at h1
 have h2 := List.all_eq_true.1 h1.2.2 i (List.mem_range.2 hij)
 rw [List.getD_eq_getElem?_getD, List.getElem?_eq_getElem hj, List.getD_eq_getElem?_getD, List.getElem?_eq_getElem hi] at h2
 unfold shares at h2
 simp only [Option.getD_some, e, beq_self_eq_true, Bool.true_or, Bool.not_true] at h2
 cases h2
theorem bitsI_zero {l : List Int} (hasc : l.Pairwise (· < ·)) (h : ∀ x ∈ l, 1 ≤ x ∧ x ≤ 63) : (bitsI l).testBit 0 = false := by
 rw [bits_test hasc (fun x hx => by have := h x hx; omega)]
 exact decide_eq_false (fun h0 => by have := h _ h0; omega)
theorem flowB_zero {ps : List (Int × Int)} (hd : PsDom ps) {m : Nat} (h0 : m.testBit 0 = false) : (flowB ps m).testBit 0 = false := by
 unfold flowB
 rw [Nat.testBit_xor, Nat.testBit_xor, h0, bnd_zero (listI_bd _), pushB_zero hd]; rfl
/-- what a flow wants -/
theorem flow_dom {a : Int} {xs : List Int} {ps : List (Int × Int)} {l : List Int} (h : codeFlow a xs ps l = 0) :
  ∃ n : Nat, a = n ∧ Cx n xs ∧ cxOk a xs = true ∧ pOk xs ps = true ∧ chOk xs l = true ∧ acyB ps = true := by
 unfold codeFlow at h
 cases hx : cxOk a xs with
 | false => rw [hx] at h; simp at h
 | true =>
  obtain ⟨n, e, hc, -⟩ := cxOk_cx hx
  cases hp : pOk xs ps with
  | false => rw [hx, hp] at h; simp at h
  | true =>
   cases hl : chOk xs l with
   | false => rw [hx, hp, hl] at h; simp at h
   | true =>
    cases ha : acyB ps with
    | false => rw [hx, hp, hl, ha] at h; simp at h
    | true => exact ⟨n, e, hc, rfl, rfl, rfl, rfl⟩
theorem code_two {a : Int} {xs : List Int} {ps : List (Int × Int)} {l : List Int} (h : codeChn a xs l ≠ 0) : codeFlow a xs ps l = codeChn a xs l := by
 unfold codeFlow codeChn at *
 cases hx : cxOk a xs with
 | false => rfl
 | true =>
  rw [hx] at h
  cases hl : chOk xs l with
  | false => cases pOk xs ps <;> rfl
  | true => rw [hl] at h; exact absurd rfl h
theorem code_acy {a : Int} {xs : List Int} {ps : List (Int × Int)} {l : List Int} (h : codeChn a xs l = 0) : codeFlow a xs ps l = if cxOk a xs then (if true && pOk xs ps then (if acyB ps then 0 else 5) else 2) else 1 := by
 unfold codeFlow codeChn at *
 cases hx : cxOk a xs with
 | false => rw [hx] at h; simp at h
 | true =>
  rw [hx] at h
  cases hl : chOk xs l with
  | false => rw [hl] at h; simp at h
  | true => cases pOk xs ps <;> rfl
/-- what FlowOf answers -/
def ansFlowOf (a : Int) (xs : List Int) (ps : List (Int × Int)) (l : List Int) : List Int × Int := if codeFlow a xs ps l = 0 then (listI (flowB ps (bitsI l)), 0) else ([], codeFlow a xs ps l)
set_option maxRecDepth 100000 in
set_option maxHeartbeats 2000000 in
theorem specFlowOf (a : Int) (ku : Value) (xs : List Int) (v : Value) (ps : List (Int × Int)) (u : Value) (l : List Int) (w : World) (hk : ReadI w ku xs) (hv : ReadP w v ps) (hu : ReadI w u l) :
  Calls Tryz.prog 38 #[cx a ku, v, u] w fun e w' => ∃ r, e = .returned (.tuple #[r, .int .i64 (ansFlowOf a xs ps l).2]) ∧ OwnI w.heap.size w' r (ansFlowOf a xs ps l).1 ∧ Below w.heap.size w w' := by
 obtain ⟨w1, hw1⟩ : ∃ w1, w1 = w.alloc (.cells #[.int .i64 a, ku] 26) := ⟨_, rfl⟩
 have hB : Below w.heap.size w w1 := by rw [hw1]; exact Below.alloc (Below.refl _ _) (Nat.le_refl _) _
 have HB := Aside0.mk hB
 have HM := Aside0.mk (specCode6 a ku xs v ps u l w1 (hk.below hB) (hv.below hB) (hu.below hB))
 have HU := Aside0.mk (fun W (h : Below w1.heap.size w1 W) => (hu.below hB).below h)
 have HV := Aside0.mk (fun W (h : Below w1.heap.size w1 W) => (hv.below hB).below h)
 obtain ⟨A1, d1, rfl, -⟩ := id hk
 obtain ⟨A2, d2, rfl, -⟩ := id hv
 obtain ⟨A3, d3, rfl, -⟩ := id hu
 obtain ⟨q, hq⟩ : ∃ q, q = codeFlow a xs ps l := ⟨_, rfl⟩
 rw [← hq] at HM
 clear hk hv hu hB
 by_cases h0 : q = 0
 ·obtain ⟨n, rfl, hc, -, hp, hl, -⟩ := flow_dom (hq.symm.trans h0)
  obtain ⟨hasc, hbd⟩ := chain_dom hc hl
  have hd := pOk_dom hc hp
  have HA : Aside0 (ansFlowOf n xs ps l = (listI (flowB ps (bitsI l)), 0)) := ⟨by unfold ansFlowOf; rw [← hq, if_pos h0]⟩
  have hbd0 : ∀ x ∈ l, 0 ≤ x ∧ x ≤ 63 := fun x hx => by have := hbd x hx; omega
  have HF := Aside0.mk (fun W (h : Below w1.heap.size w1 W) => specFlow6 (.slice A2 ps.length d2) ps (.slice A3 l.length d3) (bitsI l) W (HV.out W h) (by rw [list_bits hasc hbd0]; exact HU.out W h) hd (pOk_lows hp) (bitsI_lt hbd0) (bitsI_zero hasc hbd))
  rw [h0] at HM
  clear hq h0 hc hp hl hasc hbd hbd0 hd
  go_enter Tryz.func38, Tryz.ntmps38
  go_wp2_with (first | (go_at_call 168; rw [← hw1]; clear hw1; refine HM.out.mono ?_; rintro e w2 ⟨rfl, hb⟩; have HB2 := Aside0.mk hb; clear hb) | (go_at_call 169; refine (HF.out _ HB2.out).mono ?_; rintro e w3 ⟨r, rfl, ho, hb⟩; have HO3 := Aside0.mk (ho.lower (Nat.le_trans HB.out.size HB2.out.size)); have HB3 := Aside0.mk (HB2.out.trans (hb.mono HB2.out.size)); clear ho hb))
  go_ret2
  exact ⟨_, by rw [HA.out]; rfl, by rw [HA.out]; exact HO3.out, HB.out.trans (HB3.out.mono HB.out.size)⟩
 ·have HA : Aside0 (ansFlowOf a xs ps l = ([], q)) := ⟨by unfold ansFlowOf; rw [← hq, if_neg h0]⟩
  have hqb : (q != 0) = true := by simpa using h0
  clear h0 hq
  go_enter Tryz.func38, Tryz.ntmps38
  go_wp2_with (first | (go_at_call 168; rw [← hw1]; clear hw1; refine HM.out.mono ?_; rintro e w2 ⟨rfl, hb⟩; have HB2 := Aside0.mk hb; clear hb))
  go_ret2
  exact ⟨_, by rw [HA.out]; rfl, by rw [HA.out]; exact OwnI.nil _ _, HB.out.trans (HB2.out.mono HB.out.size)⟩
set_option maxRecDepth 100000 in
set_option maxHeartbeats 2000000 in
theorem implFlowOf (a : Int) (ku : Value) (xs : List Int) (v : Value) (ps : List (Int × Int)) (u : Value) (l : List Int) (w : World) (hk : ReadI w ku xs) (hv : ReadP w v ps) (hu : ReadI w u l) :
  Calls Tryz.prog 37 #[cx a ku, v, u] w fun e w' => ∃ r, e = .returned (.tuple #[r, .int .i64 (ansFlowOf a xs ps l).2]) ∧ OwnI w.heap.size w' r (ansFlowOf a xs ps l).1 ∧ Below w.heap.size w w' := by
 obtain ⟨wb, hwb⟩ : ∃ wb, wb = w.alloc (.cells #[.int .i64 a, ku] 26) := ⟨_, rfl⟩
 obtain ⟨w1, hw1⟩ : ∃ w1, w1 = wb.alloc (.cells #[u] 24) := ⟨_, rfl⟩
 have hsb : wb.heap.size = w.heap.size + 1 := by rw [hwb]; simp
 have hBb : Below w.heap.size w wb := by rw [hwb]; exact Below.alloc (Below.refl _ _) (Nat.le_refl _) _
 have hB1 : Below wb.heap.size wb w1 := by rw [hw1]; exact Below.alloc (Below.refl _ _) (Nat.le_refl _) _
 have hB : Below w.heap.size w w1 := hBb.trans (hB1.mono hBb.size)
 have c0 : w1.cell? ⟨w.heap.size, 0, none⟩ = some (.int .i64 a) := pw_cell_below hB1 (by rw [hwb]; simp)
 have c1 : w1.cell? ⟨w.heap.size, 1, none⟩ = some ku := pw_cell_below hB1 (by rw [hwb]; simp)
 have HB := Aside0.mk hB
 have HK := Aside0.mk (hk.below hB)
 have HS := Aside0.mk (ReadS.one' (hu.below hBb))
 rw [← hw1, hsb] at HS
 have HU := Aside0.mk (fun W (h : Below w1.heap.size w1 W) => (hu.below hB).below h)
 have HV := Aside0.mk (fun W (h : Below w1.heap.size w1 W) => (hv.below hB).below h)
 have HK2 := Aside0.mk (fun W (h : Below w1.heap.size w1 W) => (hk.below hB).below h)
 obtain ⟨A1, d1, rfl, -⟩ := id hk
 obtain ⟨A2, d2, rfl, -⟩ := id hv
 obtain ⟨A3, d3, rfl, -⟩ := id hu
 subst hwb
 clear hk hv hu hB hBb hB1 hsb
 obtain ⟨q1, hq1⟩ : ∃ q, q = codeChn a xs l := ⟨_, rfl⟩
 have HQ1 := Aside0.mk hq1
 by_cases h1 : q1 = 0
 ·have hca := code_acy (ps := ps) (hq1.symm.trans h1)
  obtain ⟨q, hq⟩ : ∃ q, q = codeFlow a xs ps l := ⟨_, rfl⟩
  have HAC := Aside0.mk (fun W (h : Below w1.heap.size w1 W) => acyclicCode a _ xs _ ps true W (HK2.out W h) (HV.out W h))
  rw [← hca, ← hq] at HAC
  subst h1
  by_cases h0 : q = 0
  ·obtain ⟨n, rfl, hc, -, hp, hl, -⟩ := flow_dom (hq.symm.trans h0)
   obtain ⟨hasc, hbd⟩ := chain_dom hc hl
   have hd := pOk_dom hc hp
   have HA : Aside0 (ansFlowOf n xs ps l = (listI (flowB ps (bitsI l)), 0)) := ⟨by unfold ansFlowOf; rw [← hq, if_pos h0]⟩
   have hbd0 : ∀ x ∈ l, 0 ≤ x ∧ x ≤ 63 := fun x hx => by have := hbd x hx; omega
   have HF := Aside0.mk (fun W (h : Below w1.heap.size w1 W) => flow (.slice A2 ps.length d2) ps (bitsI l) W (HV.out W h) hd (bitsI_lt hbd0) (bitsI_zero hasc hbd))
   have HC := Aside0.mk (fun W (h : Below w1.heap.size w1 W) => chainOf (.slice A3 l.length d3) l W (HU.out W h) hbd0)
   have HL := Aside0.mk (fun W => chainList (flowB ps (bitsI l)) (flowB_ltU hd (bitsI_lt hbd0)) (flowB_zero hd (bitsI_zero hasc hbd)) W)
   rw [h0] at HAC
   clear hq h0 hc hp hl hasc hbd hbd0 hd hca hq1
   go_enter Tryz.func37, Tryz.ntmps37
   go_wp2_with (first | (go_at_call 163; rw [← hw1]; clear hw1; refine (chainCode n _ xs _ l _ HK.out HS.out).mono ?_; rintro e w2 ⟨rfl, hb⟩; rw [← HQ1.out]; replace c0 := pw_cell_below hb c0; replace c1 := pw_cell_below hb c1; have HB2 := Aside0.mk hb; clear hb) | (go_at_call 164; refine (HAC.out _ HB2.out).mono ?_; rintro e w3 ⟨rfl, hb⟩; have HB3 := Aside0.mk (HB2.out.trans (hb.mono HB2.out.size)); clear hb) | (go_at_call 166; refine (HC.out _ HB3.out).mono ?_; rintro e w4 ⟨rfl, hb⟩; have HB4 := Aside0.mk (HB3.out.trans (hb.mono HB3.out.size)); clear hb) | (go_at_call 165; refine (HF.out _ HB4.out).mono ?_; rintro e w5 ⟨rfl, hb⟩; have HB5 := Aside0.mk (HB4.out.trans (hb.mono HB4.out.size)); clear hb) | (go_at_call 167; refine (HL.out _).mono ?_; rintro e w6 ⟨r, rfl, ho, hb⟩; have HO6 := Aside0.mk (ho.lower (Nat.le_trans HB.out.size HB5.out.size)); have HB6 := Aside0.mk (HB5.out.trans (hb.mono HB5.out.size)); clear ho hb))
   go_ret2
   exact ⟨_, by rw [HA.out]; rfl, by rw [HA.out]; exact HO6.out, HB.out.trans (HB6.out.mono HB.out.size)⟩
  ·have HA : Aside0 (ansFlowOf a xs ps l = ([], q)) := ⟨by unfold ansFlowOf; rw [← hq, if_neg h0]⟩
   have hqb : (q != 0) = true := by simpa using h0
   clear h0 hq hca hq1
   go_enter Tryz.func37, Tryz.ntmps37
   go_wp2_with (first | (go_at_call 163; rw [← hw1]; clear hw1; refine (chainCode a _ xs _ l _ HK.out HS.out).mono ?_; rintro e w2 ⟨rfl, hb⟩; rw [← HQ1.out]; replace c0 := pw_cell_below hb c0; replace c1 := pw_cell_below hb c1; have HB2 := Aside0.mk hb; clear hb) | (go_at_call 164; refine (HAC.out _ HB2.out).mono ?_; rintro e w3 ⟨rfl, hb⟩; have HB3 := Aside0.mk (HB2.out.trans (hb.mono HB2.out.size)); clear hb))
   go_ret2
   exact ⟨_, by rw [HA.out]; rfl, by rw [HA.out]; exact OwnI.nil _ _, HB.out.trans (HB3.out.mono HB.out.size)⟩
 ·have hcf := code_two (ps := ps) (fun h => h1 (hq1.trans h))
  have HA : Aside0 (ansFlowOf a xs ps l = ([], q1)) := ⟨by unfold ansFlowOf; rw [hcf, ← hq1, if_neg h1]⟩
  have hqb : (q1 != 0) = true := by simpa using h1
  clear h1 hq1 hcf
  go_enter Tryz.func37, Tryz.ntmps37
  go_wp2_with (first | (go_at_call 163; rw [← hw1]; clear hw1; refine (chainCode a _ xs _ l _ HK.out HS.out).mono ?_; rintro e w2 ⟨rfl, hb⟩; rw [← HQ1.out]; have HB2 := Aside0.mk hb; clear hb))
  go_ret2
  exact ⟨_, by rw [HA.out]; rfl, by rw [HA.out]; exact OwnI.nil _ _, HB.out.trans (HB2.out.mono HB.out.size)⟩
theorem Reach.trans {N : Int → List Int} {a b c : Int} (h : Reach N a b) (k : Reach N b c) : Reach N a c :=
 k (fun z => Reach N a z) (fun y hy => h.step hy) (fun y z hy hz => hy.step hz)
theorem Reach.head {N : Int → List Int} {a b c : Int} (h : b ∈ N a) (k : Reach N b c) : Reach N a c := (Reach.one h).trans k
theorem cnt_mono {S S' : Int → Bool} (h : ∀ z, S z = true → S' z = true) : cnt S ≤ cnt S' := List.countP_mono_left (fun z _ hz => h _ hz)
theorem cnt_strict {S S' : Int → Bool} {y : Int} (h : ∀ z, S z = true → S' z = true) (h1 : S y = false) (h2 : S' y = true) (h3 : 0 ≤ y) (h4 : y < 64) : cnt S < cnt S' := by
 have e := cnt_add h1 h3 h4
 have := cnt_mono (S := fun z => z == y || S z) (S' := S') (fun z hz => by
  simp only [Bool.or_eq_true, beq_iff_eq] at hz
  rcases hz with rfl | hz
  ·exact h2
  ·exact h z hz)
 omega
theorem high_mem {ps : List (Int × Int)} {x : Int} (h : highTo ps x ≠ 0) : (x, highTo ps x) ∈ ps := by
 unfold highTo at h ⊢
 cases hf : ps.find? (fun p => p.1 == x) with
 | none => rw [hf] at h; exact absurd rfl h
 | some p =>
  have h1 := List.find?_some hf
  have h2 := List.mem_of_find?_eq_some hf
  simp only at h1 ⊢
  rw [beq_iff_eq] at h1
  rw [← h1]
  exact h2
/-- what is known of an acyclic pairing -/
def AcyP (ps : List (Int × Int)) : Prop := PsDom ps ∧ LowsN ps ∧ acyB ps = true ∧ (∀ p ∈ ps, highTo ps p.2 = 0) ∧ ∀ p ∈ ps, p.1 ∈ below p.2.toNat
theorem pair_below : ∀ x, x < 64 → ∀ y, y < 64 → (1 ≤ x ∧ x &&& y = x ∧ ones y = ones x + 1) → ((x : Nat) : Int) ∈ below y := by decide +kernel
theorem acyP_of {n : Nat} {xs : List Int} {ps : List (Int × Int)} (hc : Cx n xs) (hp : pOk xs ps = true) (ha : acyB ps = true) : AcyP ps := by
 have hd := pOk_dom hc hp
 have hat : ∀ i, i < ps.length → pOkAt xs ps i = true := fun i hi => by
  unfold pOk at hp
  exact List.all_eq_true.1 hp i (List.mem_range.2 hi)
 refine ⟨hd, pOk_lows hp, ha, fun p hpm => high_not (fun q hqm e => ?_), fun p hpm => ?_⟩
 ·obtain ⟨i, hi, ei⟩ := List.getElem_of_mem hpm
  obtain ⟨j, hj, ej⟩ := List.getElem_of_mem hqm
  have hsh : ∀ i j (hi : i < ps.length) (hj : j < ps.length), j < i → shares ps[i] ps[j] = false := by
   intro i j hi hj hij
   have h1 := hat i hi
   unfold pOkAt at h1
   rw [Bool.and_eq_true, Bool.and_eq_true] at h1
   have h2 := List.all_eq_true.1 h1.2.2 j (List.mem_range.2 hij)
   rw [List.getD_eq_getElem?_getD, List.getElem?_eq_getElem hi, List.getD_eq_getElem?_getD, List.getElem?_eq_getElem hj] at h2
   simpa using h2
  rcases Nat.lt_trichotomy i j with h | h | h
  ·have := hsh j i hj hi h
   rw [ei, ej] at this
   unfold shares at this
   simp [e] at this
  ·subst h
   rw [ei] at ej
   subst ej
   have h1 := hat i hi
   unfold pOkAt pairAt at h1
   rw [List.getD_eq_getElem?_getD, List.getElem?_eq_getElem hi, Option.getD_some, ei, e] at h1
   simp at h1
  ·have := hsh i j hi hj h
   rw [ei, ej] at this
   unfold shares at this
   simp [e] at this
 ·obtain ⟨i, hi, ei⟩ := List.getElem_of_mem hpm
  have h1 := hat i hi
  unfold pOkAt pairAt at h1
  rw [List.getD_eq_getElem?_getD, List.getElem?_eq_getElem hi, Option.getD_some, ei] at h1
  simp only [Bool.and_eq_true, decide_eq_true_eq, beq_iff_eq] at h1
  have hb := hd p hpm
  have h2 := pair_below p.1.toNat (by omega) p.2.toNat (by omega) ⟨by omega, h1.1.2.2.1, h1.1.2.2.2⟩
  rwa [show ((p.1.toNat : Nat) : Int) = p.1 by omega] at h2
/-- how many faces are reached -/
def rank (ps : List (Int × Int)) (x : Int) : Nat := cnt (reachB (nextOf ps) x)
theorem rank_le (ps : List (Int × Int)) (x : Int) : rank ps x < 65 := Nat.lt_succ_of_le (cnt_le _)
theorem no_self {ps : List (Int × Int)} (h : AcyP ps) (x : Int) : reachB (nextOf ps) x x = false := by
 obtain ⟨hd, -, ha, -⟩ := h
 cases hr : reachB (nextOf ps) x x with
 | false => rfl
 | true =>
  exfalso
  by_cases hl : highTo ps x = 0
  ·have h1 := (reachB_iff (fun x => (next_dom hd x).1) (fun x => (next_dom hd x).2) x x).1 hr
   exact h1 (fun _ => False) (fun y hy => by unfold nextOf at hy; rw [if_pos hl] at hy; cases hy) (fun _ _ h _ => h)
  ·have h1 := List.all_eq_true.1 ha _ (high_mem hl)
   simp only [hr, Bool.not_true] at h1
   cases h1
theorem rank_lt {ps : List (Int × Int)} (h : AcyP ps) {x y : Int} (hy : y ∈ nextOf ps x) : rank ps y < rank ps x := by
 have hd := h.1
 have hI := fun a b => reachB_iff (fun x => (next_dom hd x).1) (fun x => (next_dom hd x).2) a b
 have hb := (next_dom hd x).1 y hy
 exact cnt_strict (y := y) (fun z hz => (hI x z).2 (Reach.head hy ((hI y z).1 hz))) (no_self h y) ((hI x y).2 (Reach.one hy)) hb.1 hb.2
/-! sums -/
theorem xsum_test {f : Int → Nat} {z : Nat} : ∀ l : List Int, (xsum f l).testBit z = true → ∃ x ∈ l, (f x).testBit z = true
 | [], h => by rw [xsum_nil] at h; simp at h
 | a :: r, h => by
  rw [xsum_cons, Nat.testBit_xor] at h
  cases ha : (f a).testBit z with
  | true => exact ⟨a, by simp, ha⟩
  | false =>
   rw [ha] at h
   obtain ⟨x, hx, h2⟩ := xsum_test r (by simpa using h)
   exact ⟨x, List.mem_cons_of_mem _ hx, h2⟩
theorem xsum_out {f : Int → Nat} {a : Int} : ∀ l : List Int, l.Pairwise (· < ·) → a ∈ l → xsum f l = f a ^^^ xsum f (l.filter fun x => !(x == a))
 | [], _, h => by cases h
 | b :: r, hp, h => by
  have hp' := List.pairwise_cons.1 hp
  rw [xsum_cons]
  by_cases e : b = a
  ·subst e
   have hr : r.filter (fun x => !(x == b)) = r := List.filter_eq_self.2 (fun x hx => by
    have := hp'.1 x hx
    have h2 : (x == b) = false := by rw [beq_eq_false_iff_ne]; omega
    rw [h2]; rfl)
   have h2 : ((b :: r).filter fun x => !(x == b)) = r := by
    rw [List.filter_cons, if_neg (by simp), hr]
   rw [h2]
  ·have hb : (b == a) = false := by rw [beq_eq_false_iff_ne]; exact e
   have ha : a ∈ r := (List.mem_cons.1 h).resolve_left (fun h => e h.symm)
   rw [List.filter_cons, if_pos (by rw [hb]; rfl), xsum_cons, xsum_out r hp'.2 ha, ← Nat.xor_assoc, ← Nat.xor_assoc, Nat.xor_comm (f b)]
theorem xsum_map {F : Nat → Nat} (h0 : F 0 = 0) (hF : ∀ a b, F (a ^^^ b) = F a ^^^ F b) (f : Int → Nat) : ∀ l : List Int, F (xsum f l) = xsum (fun x => F (f x)) l
 | [] => h0
 | a :: r => by rw [xsum_cons, xsum_cons, hF, xsum_map h0 hF f r]
theorem bits_xsum (l : List Int) : bitsI l = xsum (fun x => 2 ^ x.toNat) l := rfl
theorem xsum_listB (f : Int → Nat) (a b : Nat) : ∀ k, xsum f (listB (a ^^^ b) k) = xsum f (listB a k) ^^^ xsum f (listB b k)
 | 0 => by simp [listB, xsum_nil]
 | k + 1 => by
  have ih := xsum_listB f a b k
  cases ha : a.testBit k with
  | true =>
   cases hb : b.testBit k with
   | true => rw [listB_hit ha, listB_hit hb, listB_miss (by rw [Nat.testBit_xor, ha, hb]; rfl), xsum_snoc, xsum_snoc, ih, xor_swap4, Nat.xor_self, Nat.xor_zero]
   | false => rw [listB_hit ha, listB_miss hb, listB_hit (by rw [Nat.testBit_xor, ha, hb]; rfl), xsum_snoc, xsum_snoc, ih, Nat.xor_assoc, Nat.xor_assoc, Nat.xor_comm (f k)]
  | false =>
   cases hb : b.testBit k with
   | true => rw [listB_miss ha, listB_hit hb, listB_hit (by rw [Nat.testBit_xor, ha, hb]; rfl), xsum_snoc, xsum_snoc, ih, Nat.xor_assoc]
   | false => rw [listB_miss ha, listB_miss hb, listB_miss (by rw [Nat.testBit_xor, ha, hb]; rfl), ih]
theorem bnd_add (a b : Nat) : bndB (listI (a ^^^ b)) = bndB (listI a) ^^^ bndB (listI b) := xsum_listB (fun x => bitsI (below x.toNat)) a b 64
theorem push_add (a b : Nat) : ∀ ps : List (Int × Int), pushB ps (a ^^^ b) = pushB ps a ^^^ pushB ps b
 | [] => by simp [pushB]
 | p :: r => by
  rw [pushB_cons, pushB_cons, pushB_cons, push_add a b r, xor_swap4, Nat.testBit_xor]
  congr 1
  cases a.testBit p.1.toNat <;> cases b.testBit p.1.toNat <;> simp
theorem flow_add (ps : List (Int × Int)) (a b : Nat) : flowB ps (a ^^^ b) = flowB ps a ^^^ flowB ps b := by
 unfold flowB
 rw [push_add, bnd_add, bnd_add, push_add, xor_swap4 a b, xor_swap4]
theorem flow_zero (ps : List (Int × Int)) : flowB ps 0 = 0 := by
 have h := flow_add ps 0 0
 rw [Nat.xor_self, Nat.xor_self] at h
 exact h
theorem flow_bits (ps : List (Int × Int)) {m : Nat} (hm : m < 18446744073709551616) : flowB ps m = xsum (fun x => flowB ps (2 ^ x.toNat)) (listI m) := by
 have h := xsum_map (flow_zero ps) (flow_add ps) (fun x => 2 ^ x.toNat) (listI m)
 rw [← bits_xsum, bits_listI (by rw [e64]; exact hm)] at h
 exact h
theorem listI_one {t : Nat} (ht : t < 64) : listI (2 ^ t) = [(t : Int)] := by
 have h := list_bits (l := [(t : Int)]) (by simp) (fun x hx => by simp at hx; omega)
 have e : bitsI [(t : Int)] = 2 ^ t := by unfold bitsI; simp
 rwa [e] at h
theorem bnd_one {t : Nat} (ht : t < 64) : bndB (listI (2 ^ t)) = bitsI (below t) := by
 rw [listI_one ht]
 unfold bndB
 simp
theorem push_one {ps : List (Int × Int)} (hn : LowsN ps) (hd : PsDom ps) {t : Nat} (ht : t < 64) : pushB ps (2 ^ t) = push1 ps t := by
 have h := push_law (l := [(t : Int)]) (by simp) (fun x hx => by simp at hx; omega) ps hn hd
 have e : bitsI [(t : Int)] = 2 ^ t := by unfold bitsI; simp
 rw [e] at h
 rw [← h, xsum_cons, xsum_nil, Nat.xor_zero]
theorem flow_one {ps : List (Int × Int)} (h : AcyP ps) {t : Nat} (ht : t < 64) : flowB ps (2 ^ t) = (2 ^ t ^^^ bndB (listI (push1 ps t))) ^^^ xsum (push1 ps) (below t) := by
 obtain ⟨hd, hn, -⟩ := h
 unfold flowB
 rw [push_one hn hd ht, bnd_one ht, push_law (below_asc t ht) (fun x hx => (below_bd t ht x hx).1) ps hn hd]
theorem push1_test {ps : List (Int × Int)} {x : Int} {z : Nat} (hd : PsDom ps) (h : (push1 ps x).testBit z = true) : highTo ps x ≠ 0 ∧ highTo ps x = z := by
 unfold push1 at h
 by_cases h0 : highTo ps x = 0
 ·rw [if_pos h0] at h; simp at h
 ·rw [if_neg h0, Nat.testBit_two_pow, decide_eq_true_eq] at h
  have := high_dom hd x
  exact ⟨h0, by omega⟩
theorem next_high {ps : List (Int × Int)} {x : Int} (h0 : highTo ps x ≠ 0) : nextOf ps x = (below (highTo ps x).toNat).filter fun f => !(f == x) := by
 unfold nextOf; rw [if_neg h0]
/-- what a face flows to -/
theorem flow_image {ps : List (Int × Int)} (h : AcyP ps) {t : Nat} (ht : t < 64) {z : Nat} (hz : (flowB ps (2 ^ t)).testBit z = true) :
  (∃ r, highTo ps r ≠ 0 ∧ highTo ps r = z) ∨ (highTo ps t ≠ 0 ∧ (z : Int) ∈ nextOf ps t) ∨ (highTo ps t = 0 ∧ z = t) := by
 rw [flow_one h ht, Nat.testBit_xor, Nat.testBit_xor] at hz
 cases h3 : (xsum (push1 ps) (below t)).testBit z with
 | true =>
  obtain ⟨r, -, hr⟩ := xsum_test _ h3
  exact .inl ⟨r, push1_test h.1 hr⟩
 | false =>
  rw [h3, Bool.xor_false, Nat.testBit_two_pow] at hz
  by_cases h0 : highTo ps t = 0
  ·refine .inr (.inr ⟨h0, ?_⟩)
   have e : push1 ps t = 0 := by unfold push1; rw [if_pos h0]
   rw [e, show bndB (listI 0) = 0 by decide] at hz
   simp at hz
   exact hz.symm
  ·refine .inr (.inl ⟨h0, ?_⟩)
   have hhd := high_dom h.1 (t : Int)
   obtain ⟨u, hu⟩ : ∃ u : Nat, highTo ps t = u := ⟨(highTo ps t).toNat, by omega⟩
   have hu64 : u < 64 := by omega
   have e : push1 ps t = 2 ^ u := by unfold push1; rw [if_neg h0, hu, Int.toNat_natCast]
   rw [e, bnd_one hu64, bits_test (below_asc u hu64) (fun x hx => (below_bd u hu64 x hx).1)] at hz
   rw [next_high h0, hu, Int.toNat_natCast, List.mem_filter]
   have hbel := h.2.2.2.2 _ (high_mem h0)
   simp only [hu, Int.toNat_natCast] at hbel
   by_cases hzt : t = z
   ·subst hzt
    rw [decide_eq_true hbel] at hz
    simp at hz
   ·have hzt' : ((z : Int) == (t : Int)) = false := by rw [beq_eq_false_iff_ne]; omega
    simp [hzt] at hz
    exact ⟨hz, by rw [hzt']; rfl⟩
theorem flow_high {ps : List (Int × Int)} (h : AcyP ps) {t : Nat} (ht : t < 64) {r : Int} (h0 : highTo ps r ≠ 0) (hr : highTo ps r = t) : flowB ps (2 ^ t) = xsum (push1 ps) (nextOf ps r) := by
 have hm := high_mem h0
 have hnl := h.2.2.2.1 _ hm
 have hbel := h.2.2.2.2 _ hm
 simp only [hr, Int.toNat_natCast] at hnl hbel
 have e : push1 ps t = 0 := by unfold push1; rw [if_pos hnl]
 have e2 : push1 ps r = 2 ^ t := by unfold push1; rw [if_neg h0, hr, Int.toNat_natCast]
 rw [flow_one h ht, e, show bndB (listI 0) = 0 by decide, Nat.xor_zero, xsum_out _ (below_asc t ht) hbel, e2, ← Nat.xor_assoc, Nat.xor_self, Nat.zero_xor, next_high h0, hr, Int.toNat_natCast]
/-! the end -/
def PL (ps : List (Int × Int)) (R m : Nat) : Prop := ∀ z : Nat, m.testBit z = true → highTo ps z ≠ 0 → rank ps z < R
def QH (ps : List (Int × Int)) (R d : Nat) : Prop := ∀ z : Nat, d.testBit z = true → ∃ r, highTo ps r ≠ 0 ∧ highTo ps r = z ∧ rank ps r < R
theorem flow_from {ps : List (Int × Int)} {m z : Nat} (hm : m < 18446744073709551616) (h : (flowB ps m).testBit z = true) : ∃ t, t < 64 ∧ m.testBit t = true ∧ (flowB ps (2 ^ t)).testBit z = true := by
 rw [flow_bits ps hm] at h
 obtain ⟨x, hx, h2⟩ := xsum_test _ h
 obtain ⟨t, rfl, h3, h4⟩ := listI_mem.1 hx
 exact ⟨t, h3, h4, by simpa using h2⟩
theorem PL.step {ps : List (Int × Int)} (h : AcyP ps) {R m : Nat} (hm : m < 18446744073709551616) (hp : PL ps (R + 1) m) : PL ps R (flowB ps m) := by
 intro z hz hl
 obtain ⟨t, ht, h1, h2⟩ := flow_from hm hz
 rcases flow_image h ht h2 with ⟨r, hr, e⟩ | ⟨hl2, hn⟩ | ⟨hl2, e⟩
 ·have := h.2.2.2.1 _ (high_mem hr)
  simp only [e] at this
  exact absurd this hl
 ·have h3 := rank_lt h hn
  have h4 := hp t h1 hl2
  omega
 ·rw [e] at hl; exact absurd hl2 hl
theorem QH.start {ps : List (Int × Int)} (h : AcyP ps) {m : Nat} (hm : m < 18446744073709551616) (hp : PL ps 0 m) : QH ps 65 (flowB ps m ^^^ m) := by
 intro z hz
 have hl := xsum_map (F := fun x => flowB ps x ^^^ x) (by rw [flow_zero]; rfl) (fun a b => by rw [flow_add, xor_swap4]) (fun x => 2 ^ x.toNat) (listI m)
 rw [← bits_xsum, bits_listI (by rw [e64]; exact hm)] at hl
 rw [hl] at hz
 obtain ⟨x, hx, h2⟩ := xsum_test _ hz
 obtain ⟨t, rfl, ht, h4⟩ := listI_mem.1 hx
 rw [Int.toNat_natCast] at h2
 have hnl : highTo ps t = 0 := by
  by_cases h0 : highTo ps t = 0
  ·exact h0
  ·have := hp t h4 h0; omega
 have e : push1 ps t = 0 := by unfold push1; rw [if_pos hnl]
 rw [flow_one h ht, e, show bndB (listI 0) = 0 by decide, Nat.xor_zero, Nat.xor_comm (2 ^ t), Nat.xor_assoc, Nat.xor_self, Nat.xor_zero] at h2
 obtain ⟨r, -, hr⟩ := xsum_test _ h2
 obtain ⟨h5, h6⟩ := push1_test h.1 hr
 exact ⟨r, h5, h6, rank_le ps r⟩
theorem QH.step {ps : List (Int × Int)} (h : AcyP ps) {R d : Nat} (hm : d < 18446744073709551616) (hp : QH ps (R + 1) d) : QH ps R (flowB ps d) := by
 intro z hz
 obtain ⟨t, ht, h1, h2⟩ := flow_from hm hz
 obtain ⟨r, hr, e, hk⟩ := hp t h1
 rw [flow_high h ht hr e] at h2
 obtain ⟨y, hy, h3⟩ := xsum_test _ h2
 obtain ⟨h5, h6⟩ := push1_test h.1 h3
 have := rank_lt h hy
 exact ⟨y, h5, h6, by omega⟩
theorem QH.fin {ps : List (Int × Int)} {d : Nat} (hp : QH ps 0 d) : d = 0 := by
 apply Nat.eq_of_testBit_eq
 intro z
 rw [Nat.zero_testBit]
 cases hz : d.testBit z with
 | false => rfl
 | true => obtain ⟨r, -, -, h⟩ := hp z hz; omega
/-- flows, one behind the other -/
def flowN (ps : List (Int × Int)) : Nat → Nat → Nat
 | 0, m => m
 | n + 1, m => flowB ps (flowN ps n m)
theorem flowN_lt {ps : List (Int × Int)} (hd : PsDom ps) {m : Nat} (hm : m < 18446744073709551616) : ∀ n, flowN ps n m < 18446744073709551616
 | 0 => hm
 | n + 1 => flowB_ltU hd (flowN_lt hd hm n)
theorem flowN_zero {ps : List (Int × Int)} (hd : PsDom ps) {m : Nat} (h0 : m.testBit 0 = false) : ∀ n, (flowN ps n m).testBit 0 = false
 | 0 => h0
 | n + 1 => flowB_zero hd (flowN_zero hd h0 n)
theorem flowN_PL {ps : List (Int × Int)} (h : AcyP ps) {m : Nat} (hm : m < 18446744073709551616) : ∀ n, n ≤ 65 → PL ps (65 - n) (flowN ps n m)
 | 0, _ => fun z _ _ => rank_le ps z
 | n + 1, hn => by
  have := flowN_PL h hm n (by omega)
  rw [show 65 - n = 65 - (n + 1) + 1 by omega] at this
  exact this.step h (flowN_lt h.1 hm n)
theorem flowN_QH {ps : List (Int × Int)} (h : AcyP ps) {m : Nat} (hm : m < 18446744073709551616) : ∀ n, n ≤ 65 → QH ps (65 - n) (flowN ps (65 + n + 1) m ^^^ flowN ps (65 + n) m)
 | 0, _ => QH.start h (flowN_lt h.1 hm 65) (flowN_PL h hm 65 (Nat.le_refl _))
 | n + 1, hn => by
  have ih := flowN_QH h hm n (by omega)
  rw [show 65 - n = 65 - (n + 1) + 1 by omega] at ih
  have := ih.step h (xor_ltU (flowN_lt h.1 hm _) (flowN_lt h.1 hm _))
  rw [flow_add] at this
  exact this
theorem flow_end {ps : List (Int × Int)} (h : AcyP ps) {m : Nat} (hm : m < 18446744073709551616) : flowN ps 131 m = flowN ps 130 m := by
 have h1 := (flowN_QH h hm 65 (Nat.le_refl _)).fin
 have h2 := congrArg (· ^^^ flowN ps 130 m) h1
 simp only [Nat.xor_assoc, Nat.xor_self, Nat.xor_zero, Nat.zero_xor] at h2
 exact h2
theorem flow_stay {ps : List (Int × Int)} {m n : Nat} (h : flowN ps (n + 1) m = flowN ps n m) : ∀ k, flowN ps (n + k) m = flowN ps n m
 | 0 => rfl
 | k + 1 => by
  show flowB ps (flowN ps (n + k) m) = _
  rw [flow_stay h k]
  exact h
/-- the end of a chain -/
def endB (ps : List (Int × Int)) (m : Nat) : Nat := flowN ps 130 m
theorem end_at {ps : List (Int × Int)} {m n : Nat} (hn : n ≤ 130) (h : flowN ps (n + 1) m = flowN ps n m) : endB ps m = flowN ps n m := by
 have := flow_stay h (130 - n)
 rwa [show n + (130 - n) = 130 by omega] at this
end Go.Proofs.YtomofijniefelaaGreat.H
