/- PairingOfTree of the reference. Marks over complexes. The laws' eqPairS, markPairS, heldPairS. What the arguments of the laws read as. -/
import Derived.WalkKit
import Derived.ProofKit
import Derived.OpenShut
import Derived.ShutString
import Derived.ChangeOld
import Derived.Lib.SmallJoins
import Derived.Test.YthbkboigbkadjaaKFnExactPairingOfTree1
import Derived.Test.YthbkboigbkadjaaKFnExactPairingOfTree2
import Derived.Test.YthbkboigbkadjaaKFnExactPairingOfTree3
import Derived.Test.YthbkboigbkadjaaKFnExactPairingOfTree4
import Derived.Test.YthbkboigbkadjaaKFnExactPairingOfTree5
import Derived.Test.YthbkboigbkadjaaKFnExactPairingOfTree6
import Derived.Test.YthbkboigbkadjaaKFnExactPairingOfTree7
import Derived.Test.YthbkboigbkadjaaKFnExactPairingOfTree8
import Derived.Test.YthbkboigbkadjaaKFnExactPairingOfTree9
import Derived.Test.YthbkboigbkadjaaKFnExactPairingOfTree10
import Derived.Test.YthbkboigbkadjaaKFnExactPairingOfTree11
import Derived.Test.YthbkboigbkadjaaKFnExactPairingOfTree12

namespace Go.Proofs.Ythbkboigbkadjaa.H
open Go.RowKit Go.Proofs.YthbkboigbkadjaaW.PrintWords Go.Proofs.YthbkboigbkadjaaW.PrintLast Go.Proofs.YthbkboigbkadjaaW.PrintMore
set_option linter.unusedVariables false
set_option linter.unusedSimpArgs false

set_option maxRecDepth 100000 in
set_option maxHeartbeats 4000000 in
theorem specPairingOfTree (a : Int) (ku : Value) (xs : List Int) (v : Value) (t : List Int) (w : World) (hk : ReadI w ku xs) (hv : ReadI w v t) :
    Calls Try.prog 20 #[cx a ku, v] w fun e w' => ∃ u, e = .returned (.tuple #[u, .int .i64 (ansPairingOfTree a xs t).2]) ∧ OwnP w.heap.size w' u (ansPairingOfTree a xs t).1 ∧ Below w.heap.size w w' := by
  obtain ⟨w1, hw1⟩ : ∃ w1, w1 = w.alloc (.cells #[.int .i64 a, ku] 28) := ⟨_, rfl⟩
  have hB : Below w.heap.size w w1 := by rw [hw1]; exact Below.alloc (Below.refl _ _) (Nat.le_refl _) _
  have c0 : w1.cell? ⟨w.heap.size, 0, none⟩ = some (.int .i64 a) := by rw [hw1]; simp
  have c1 : w1.cell? ⟨w.heap.size, 1, none⟩ = some ku := by rw [hw1]; simp
  have HB := Aside0.mk hB
  have HK := Aside0.mk (hk.below hB)
  have HV := Aside0.mk (hv.below hB)
  have HM := Aside0.mk (specTreeCode a ku xs v t w1 HK.out HV.out)
  obtain ⟨A1, d1, rfl, -⟩ := id hk
  obtain ⟨A2, d2, rfl, -⟩ := id hv
  clear hk hv hB
  have hmx : Try.prog.follows .mixedOrders = true := by kernel_rfl
  cases hx : cxOk a xs with
  | false =>
    have HA : Aside0 (ansPairingOfTree a xs t = ([], 1)) := ⟨by unfold ansPairingOfTree; rw [hx]; rfl⟩
    rw [hx] at HM
    clear hx
    go_enter Try.func20, Try.ntmps20
    go_wp2_with (first | (go_at_call 55; rw [← hw1]; clear hw1; refine HM.out.mono ?_; rintro e w2 ⟨rfl, hb⟩; have HB2 := Aside0.mk hb; clear hb))
    go_ret2
    exact ⟨_, by rw [HA.out]; rfl, by rw [HA.out]; exact OwnP.nil _ _, HB.out.trans (HB2.out.mono HB.out.size)⟩
  | true =>
    obtain ⟨n, rfl, hc⟩ := cxOk_nat hx
    rw [hx] at HM
    cases hto : treeOk n t with
    | false =>
      have HA : Aside0 (ansPairingOfTree n xs t = ([], 2)) := ⟨by unfold ansPairingOfTree; rw [hx]; show (if treeOk n t = true then _ else _) = _; rw [hto]; rfl⟩
      rw [show treeOk (n : Int).toNat t = false from hto] at HM
      clear hx hto hc
      go_enter Try.func20, Try.ntmps20
      go_wp2_with (first | (go_at_call 55; rw [← hw1]; clear hw1; refine HM.out.mono ?_; rintro e w2 ⟨rfl, hb⟩; have HB2 := Aside0.mk hb; clear hb))
      go_ret2
      exact ⟨_, by rw [HA.out]; rfl, by rw [HA.out]; exact OwnP.nil _ _, HB.out.trans (HB2.out.mono HB.out.size)⟩
    | true =>
      have HA : Aside0 (ansPairingOfTree n xs t = (sortL (potL n xs t xs), 0)) := ⟨by unfold ansPairingOfTree; rw [hx]; show (if treeOk n t = true then _ else _) = _; rw [hto]; rfl⟩
      rw [show treeOk (n : Int).toNat t = true from hto] at HM
      have HC := Aside0.mk hc
      have HTO := Aside0.mk hto
      have hn := hc.hi
      have hn1 := hc.lo
      have hxl := hc.len
      clear hx hto hc
      go_enter Try.func20, Try.ntmps20
      go_wp2_with (first | (go_at_call 55; rw [← hw1]; clear hw1; refine HM.out.mono ?_; rintro e w2 ⟨rfl, hb⟩; have HB2 := Aside0.mk hb; replace c0 := pw_cell_below hb c0; replace c1 := pw_cell_below hb c1; clear hb))
      go_loopw [7, 8] (fun s7 s8 wr => ∃ iv : Nat, s8 = .int .i64 iv ∧ iv ≤ xs.length ∧ Aside0 (OwnP w2.heap.size wr s7 (sortL (potL n xs t (xs.take iv)))) ∧ Aside0 (Below w2.heap.size w2 wr)) (fun _ s8 _ => xs.length - (intOf s8).toNat)
      case atStart => exact ⟨0, rfl, Nat.zero_le _, ⟨by rw [List.take_zero, show potL n xs t [] = [] from rfl, sortL_nil]; exact OwnP.empty w2 (Nat.le_refl _)⟩, ⟨Below.alloc (Below.refl _ _) (Nat.le_refl _) _⟩⟩
      case round =>
        obtain ⟨iv, rfl, hi, HO, HBr⟩ := hrel
        have c0 := pw_cell_below HBr.out c0
        have c1 := pw_cell_below HBr.out c1
        have HBw := Aside0.mk (HB2.out.trans (HBr.out.mono HB2.out.size))
        have HPL : Aside0 ((sortL (potL n xs t (xs.take iv))).length ≤ 63) := ⟨by have h1 := potL_len n xs t (xs.take iv); rw [List.length_take] at h1; rw [sortL_len]; omega⟩
        obtain ⟨A7, c7, e7, -⟩ := id HO.out.readQ
        obtain ⟨L7, hL7⟩ : ∃ L7, L7 = (sortL (potL n xs t (xs.take iv))).length := ⟨_, rfl⟩
        rw [← hL7] at e7
        subst e7
        clear hL7
        by_cases hlt : iv < xs.length
        · obtain ⟨A_, c_, e_, -, hcc⟩ := HK.out.below HBw.out
          cases e_
          obtain ⟨ad, y, rfl, hcell, HY⟩ := ReadI.get hcc hlt
          obtain ⟨b, rfl, hb1, hb2⟩ := HC.out.nat (mem_at hlt HY.out)
          have hivI : (iv : Int) < (xs.length : Int) := by omega
          clear hcc
          have HWY := Aside0.mk (fun (W : World) hv => specWay n hn (.slice A2 t.length d2) t b (by omega) W hv HTO.out)
          have hb64 : b < 64 := by omega
          have hlq := last_q HC.out.lo hn HTO.out b
          have HPB : Aside0 (potB n xs t b = (b.testBit (lastQ n t b) && decide (((b ^^^ 2 ^ lastQ n t b : Nat) : Int) ∈ xs))) := ⟨rfl⟩
          have HHIT := Aside0.mk (fun h => potL_hit (n := n) (xs := xs) (t := t) hlt HY.out h)
          have HMISS := Aside0.mk (fun h => potL_miss (n := n) (xs := xs) (t := t) hlt HY.out h)
          obtain ⟨q, hq⟩ : ∃ q, q = lastQ n t b := ⟨_, rfl⟩
          rw [← hq] at hlq HPB HHIT
          obtain ⟨hlq1, hlq2⟩ := hlq
          have hsh := pow_wrap' q (by omega)
          have hpp := pow_bd q (by omega)
          have hand := and_i64 b (2 ^ q) (by omega) (by omega)
          have hxor := xor_i64 b (2 ^ q) (by omega) (by omega)
          have hnot := andNot_i64 b (2 ^ q) (by omega) (by omega)
          rw [and_bitP] at hand hnot
          obtain ⟨P, hP⟩ : ∃ P, P = 2 ^ q := ⟨_, rfl⟩
          have hP0 : P ≠ 0 := by rw [hP]; exact Nat.ne_of_gt (Nat.two_pow_pos q)
          rw [← hP] at hsh hpp hand hxor hnot HPB HHIT
          obtain ⟨lo, hlo⟩ : ∃ lo, lo = b ^^^ P := ⟨_, rfl⟩
          have hlo64 : lo < 64 := by rw [hlo]; exact Nat.xor_lt_two_pow (n := 6) (by omega) (by omega)
          rw [← hlo] at hxor HPB HHIT
          have HWL := Aside0.mk (wayL_len t b n)
          have HWG := Aside0.mk hlq1
          have hqn6 : q < 7 := by omega
          have hqI : (q : Int) < 64 := by omega
          clear hlq1 hlq2 hP hq
          have HXOR := Aside0.mk hxor
          go_wp2
          refine wp_region_tail 8 (fun i => match i with | 0 => fun v _ => v = .pointer (some ⟨w.heap.size, 0, none⟩) | 1 => fun v _ => v = .int .i64 (n : Int) | 2 => fun v _ => v = .slice A2 t.length d2 | 3 => fun v _ => v = .pointer (some ⟨w.heap.size, 1, none⟩) | 4 => fun v _ => v = .slice (some ad) xs.length d1 | 5 => fun v _ => v = .int .i64 (iv : Int) | 6 => fun v _ => v = .pointer (some (ad.add iv)) | 7 => fun v _ => v = .int .i64 (b : Int) | _ => fun _ _ => True)
            [0, 1, 0, 0, 8, 0, 56, 120, 255, 511] hmx (by kernel_rfl) ?st ?steps ?rest
          case st =>
            intro i v w1_ w2_ hb
            match i with
            | 0 | 1 | 2 | 3 | 4 | 5 | 6 | 7 => exact id
            | n + 8 => exact id
          case steps =>
            refine ⟨?_, ?_, ?_, ?_, ?_, ?_, ?_, ?_, trivial⟩
            · intro s w_ hb hd R hR
              generalize hA : putAll _ 0 s _ = A
              have hR' := hR (.pointer (some ⟨w.heap.size, 0, none⟩)) _ (Below.refl _ _) rfl
              clear hR hd
              refine opGives_value ?_ hR'
              subst hA
              simp only [dsOf, List.take, List.map_cons, List.map_nil, Option.getD_some, putAll, Act.put, List.setIfInBounds_toArray, List.set_cons_zero, List.set_cons_succ]
              go_simp
            · intro s w_ hb hd R hR
              generalize hA : putAll _ 0 s _ = A
              have e0 : s 0 = _ := hd 0 (by kernel_rfl)
              have c0 := pw_cell_below hb c0
              have hR' := hR (.int .i64 (n : Int)) _ (Below.refl _ _) rfl
              clear hR hd
              refine opGives_value ?_ hR'
              subst hA
              simp only [dsOf, List.take, List.map_cons, List.map_nil, Option.getD_some, putAll, Act.put, List.setIfInBounds_toArray, List.set_cons_zero, List.set_cons_succ]
              go_simp
            · intro s w_ hb hd R hR
              generalize hA : putAll _ 0 s _ = A
              have hR' := hR (.slice A2 t.length d2) _ (Below.refl _ _) rfl
              clear hR hd
              refine opGives_value ?_ hR'
              subst hA
              simp only [dsOf, List.take, List.map_cons, List.map_nil, Option.getD_some, putAll, Act.put, List.setIfInBounds_toArray, List.set_cons_zero, List.set_cons_succ]
              go_simp
            · intro s w_ hb hd R hR
              generalize hA : putAll _ 0 s _ = A
              have hR' := hR (.pointer (some ⟨w.heap.size, 1, none⟩)) _ (Below.refl _ _) rfl
              clear hR hd
              refine opGives_value ?_ hR'
              subst hA
              simp only [dsOf, List.take, List.map_cons, List.map_nil, Option.getD_some, putAll, Act.put, List.setIfInBounds_toArray, List.set_cons_zero, List.set_cons_succ]
              go_simp
            · intro s w_ hb hd R hR
              generalize hA : putAll _ 0 s _ = A
              have e3 : s 3 = _ := hd 3 (by kernel_rfl)
              have c1 := pw_cell_below hb c1
              have hR' := hR (.slice (some ad) xs.length d1) _ (Below.refl _ _) rfl
              clear hR hd
              refine opGives_value ?_ hR'
              subst hA
              simp only [dsOf, List.take, List.map_cons, List.map_nil, Option.getD_some, putAll, Act.put, List.setIfInBounds_toArray, List.set_cons_zero, List.set_cons_succ]
              go_simp
            · intro s w_ hb hd R hR
              generalize hA : putAll _ 0 s _ = A
              have hR' := hR (.int .i64 (iv : Int)) _ (Below.refl _ _) rfl
              clear hR hd
              refine opGives_value ?_ hR'
              subst hA
              simp only [dsOf, List.take, List.map_cons, List.map_nil, Option.getD_some, putAll, Act.put, List.setIfInBounds_toArray, List.set_cons_zero, List.set_cons_succ]
              go_simp
            · intro s w_ hb hd R hR
              generalize hA : putAll _ 0 s _ = A
              have e4 : s 4 = _ := hd 4 (by kernel_rfl)
              have e5 : s 5 = _ := hd 5 (by kernel_rfl)
              have hR' := hR (.pointer (some (ad.add iv))) _ (Below.refl _ _) rfl
              clear hR hd
              refine opGives_value ?_ hR'
              subst hA
              simp only [dsOf, List.take, List.map_cons, List.map_nil, Option.getD_some, putAll, Act.put, List.setIfInBounds_toArray, List.set_cons_zero, List.set_cons_succ]
              go_simp
            · intro s w_ hb hd R hR
              generalize hA : putAll _ 0 s _ = A
              have e6 : s 6 = _ := hd 6 (by kernel_rfl)
              have hcell := pw_cell_below hb hcell
              have hR' := hR (.int .i64 (b : Int)) _ (Below.refl _ _) rfl
              clear hR hd
              refine opGives_value ?_ hR'
              subst hA
              simp only [dsOf, List.take, List.map_cons, List.map_nil, Option.getD_some, putAll, Act.put, List.setIfInBounds_toArray, List.set_cons_zero, List.set_cons_succ]
              go_simp
          case rest =>
            intro s8 w4 hb hv
            have e1_ : s8 1 = _ := hv 1 (by decide)
            have e2_ : s8 2 = _ := hv 2 (by decide)
            have e7_ : s8 7 = _ := hv 7 (by decide)
            clear hv
            simp only [dsOf, List.take, List.map_cons, List.map_nil, Option.getD_some, putAll, Act.put, List.setIfInBounds_toArray, List.set_cons_zero, List.set_cons_succ]
            rw [e1_, e2_, e7_]
            refine .inl (opGives_call (f := 56) (args := #[.int .i64 (n : Int), .slice A2 t.length d2, .int .i64 (b : Int)]) (by go_simp) ?_)
            refine (HWY.out _ (HV.out.below (HBw.out.trans (hb.mono HBw.out.size)))).mono ?_
            rintro e w5 ⟨u5, rfl, ho, hb5⟩
            refine ⟨_, rfl, ?_⟩
            simp only [List.drop, Act.put, List.setIfInBounds_toArray, List.set_cons_zero, List.set_cons_succ]
            refine .inl (opGives_value (v := u5) (w' := w5) (by go_simp) ?_)
            simp only [List.drop, Act.put, List.setIfInBounds_toArray, List.set_cons_zero, List.set_cons_succ]
            unfold tailList
            obtain ⟨A5, c5, e5, hc5, hr5⟩ := id ho.read
            rw [HWL.out] at e5
            subst e5
            obtain ⟨ad5, y5, rfl, hcell5, HY5⟩ := ReadI.get hr5 (i := n - 1) (by rw [HWL.out]; omega)
            have hy5 : y5 = (q : Int) := (HY5.out.symm.trans HWG.out)
            subst hy5
            have hbb := hb.trans (hb5.mono hb.size)
            have HO5 := Aside0.mk (OwnP.below HO.out hbb)
            have HB5 := Aside0.mk (HBr.out.trans (hbb.mono HBr.out.size))
            replace c0 := pw_cell_below hbb c0
            replace c1 := pw_cell_below hbb c1
            replace hcell := pw_cell_below hbb hcell
            have hn1I : (0 : Int) ≤ (n : Int) - 1 := by omega
            have hn1J : ((n : Int) - 1).toNat = n - 1 := by omega
            have hnw : IntKind.i64.wrap ((n : Int) - 1) = (n : Int) - 1 := IntWalk.i64_in _ (by omega)
            clear ho hb hb5 hbb hr5 hc5 e1_ e2_ e7_
            have b0 : ∀ z : Ext w5, z.1.cell? ⟨w.heap.size, 0, none⟩ = some (.int .i64 n) := fun z => Ext.cell c0 z
            have b1 : ∀ z : Ext w5, z.1.cell? ⟨w.heap.size, 1, none⟩ = some (.slice (some ad) xs.length d1) := fun z => Ext.cell c1 z
            have b2 : ∀ z : Ext w5, z.1.cell? (ad.add iv) = some (.int .i64 b) := fun z => Ext.cell hcell z
            obtain ⟨hb_, hhb⟩ : ∃ hb_, hb_ = decide ((lo : Int) ∈ xs) := ⟨_, rfl⟩
            have HH : Aside0 (∀ z : Ext w5, Calls Try.prog 57 #[cx n (.slice (some ad) xs.length d1), .int .i64 (lo : Int)] z.1 fun e w' => e = .returned (.bool hb_) ∧ Below z.1.heap.size z.1 w') := ⟨fun z => by rw [hhb]; exact specHas n _ xs _ z.1 (HK.out.below (HB2.out.trans ((HB5.out.trans (z.2.mono HB5.out.size)).mono HB2.out.size)))⟩
            rw [← hhb] at HPB
            clear hhb
            cases htb : b.testBit q with
            | false =>
              rw [htb, if_neg (by decide)] at hand
              have HK2 := Aside0.mk (HMISS.out (by rw [HPB.out, htb]; rfl))
              clear htb hnot hlo
              go_wp2
              refine wp_region_ext (by kernel_rfl) (by kernel_rfl) ?_
              repeat (go_big_quiet_step (fail))
              refine wpQuiet_nil ?_
              rintro _ ⟨z, rfl⟩
              have HO6 := Aside0.mk (OwnP.below HO5.out z.2)
              have HB6 := Aside0.mk (HB5.out.trans (z.2.mono HB5.out.size))
              go_wp2
              go_roundw
              case rel => exact ⟨iv + 1, by go_num, by omega, ⟨by rw [HK2.out]; exact HO6.out⟩, HB6⟩
              case measure => simp [intOf]; omega
            | true =>
              rw [htb, if_pos rfl] at hand
              have hPb : ((P : Int) != 0) = true := by simpa using hP0
              cases hb_ with
              | false =>
                have HK2 := Aside0.mk (HMISS.out (by rw [HPB.out, htb]; rfl))
                clear htb hlo hnot
                go_wp2
                refine wp_region_ext (by kernel_rfl) (by kernel_rfl) ?_
                repeat (go_big_quiet_step (first | (go_at_call 57; with_reducible exact Calls.ext_of (HH.out _))))
                refine wpQuiet_nil ?_
                rintro _ ⟨z, rfl⟩
                have HO6 := Aside0.mk (OwnP.below HO5.out z.2)
                have HB6 := Aside0.mk (HB5.out.trans (z.2.mono HB5.out.size))
                go_wp2
                go_roundw
                case rel => exact ⟨iv + 1, by go_num, by omega, ⟨by rw [HK2.out]; exact HO6.out⟩, HB6⟩
                case measure => simp [intOf]; omega
              | true =>
                have HK2 := Aside0.mk (HHIT.out (by rw [HPB.out, htb]; rfl))
                clear htb hlo hnot
                go_wp2
                refine wp_region_ext (by kernel_rfl) (by kernel_rfl) ?_
                repeat (go_big_quiet_step (first | (go_at_call 57; with_reducible exact Calls.ext_of (HH.out _))))
                refine wpQuiet_nil ?_
                rintro _ ⟨z, rfl⟩
                have hbz := z.2
                obtain ⟨wz, hwz⟩ : ∃ wz, wz = z.1 := ⟨_, rfl⟩
                rw [← hwz] at hbz ⊢
                clear b0 b1 b2 HH hwz
                have HOA := Aside0.mk (OwnP.below HO5.out hbz)
                have HB6 := Aside0.mk (HB5.out.trans (hbz.mono HB5.out.size))
                replace c0 := pw_cell_below hbz c0
                replace c1 := pw_cell_below hbz c1
                replace hcell := pw_cell_below hbz hcell
                have HKW := Aside0.mk (fun W (h : Below wz.heap.size wz W) => HK.out.below (HB2.out.trans ((HB6.out.trans (h.mono HB6.out.size)).mono HB2.out.size)))
                have HZ5 : Aside0 (w2.heap.size ≤ wz.heap.size) := ⟨HB6.out.size⟩
                have HPUT := Aside0.mk (put_in ((lo : Int), (b : Int)) (rfl : sortL (potL n xs t (xs.take iv)) = _))
                rw [← HK2.out] at HPUT
                obtain ⟨acc, hacc⟩ : ∃ acc, acc = sortL (potL n xs t (xs.take iv)) := ⟨_, rfl⟩
                rw [← hacc] at HOA HPL HPUT
                obtain ⟨acc2, hacc2⟩ : ∃ acc2, acc2 = putP acc (insAt acc ((lo : Int), (b : Int))) ((lo : Int), (b : Int)) := ⟨_, rfl⟩
                obtain ⟨ok, hok⟩ : ∃ ok, ok = pOk xs (putP acc (insAt acc ((lo : Int), (b : Int))) ((lo : Int), (b : Int))) := ⟨_, rfl⟩
                have HOK := Aside0.mk hok
                have HACC2 := Aside0.mk hacc2
                rw [← hacc2] at HPUT
                have HAL : Aside0 (acc.length ≤ 100000) := ⟨by have := HPL.out; omega⟩
                clear hacc hacc2 hok hbz
                go_wp2
                refine wp_region_g Bl (fun w => (Below.refl _ w).drew) (fun _ _ _ => Bl.trans) (fun i => match i with | 0 => fun v _ => v = .agg #[.int .i64 (n : Int), .slice (some ad) xs.length d1] | 1 => fun v _ => v = .slice A7 L7 c7 | 2 => fun v _ => v = .pointer (some ⟨w.heap.size, 1, none⟩) | 3 => fun v _ => v = .slice (some ad) xs.length d1 | 4 => fun v _ => v = .int .i64 (iv : Int) | 5 => fun v _ => v = .pointer (some (ad.add iv)) | 6 => fun v _ => v = .int .i64 (b : Int) | 7 => fun v _ => v = .int .i64 (P : Int) | 8 => fun v _ => v = .int .i64 (lo : Int) | 9 => fun v _ => v = .pointer (some ⟨w.heap.size, 1, none⟩) | 10 => fun v _ => v = .slice (some ad) xs.length d1 | 11 => fun v _ => v = .int .i64 (iv : Int) | 12 => fun v _ => v = .pointer (some (ad.add iv)) | 13 => fun v _ => v = .int .i64 (b : Int) | 14 => fun v _ => v = .agg #[.int .i64 (lo : Int), .int .i64 (b : Int)] | 15 => fun v W => ∃ u, v = .tuple #[u, .bool ok] ∧ OwnP w2.heap.size W u acc2 | 16 => fun v W => ∃ u, v = .tuple #[u, .bool ok] ∧ OwnP w2.heap.size W u acc2 | 17 => fun v W => OwnP w2.heap.size W v acc2 | 18 => fun v _ => v = .bool ok | 19 => fun v W => OwnP w2.heap.size W v acc2 | _ => fun _ _ => True)
                  [0, 0, 0, 4, 0, 28, 60, 0, 252, 0, 512, 0, 3584, 7680, 16380, 32767, 65535, 131071, 131071, 262143] hmx (by kernel_rfl) ?st ?steps ?rest
                case st =>
                  intro i v w1_ w2_ hb
                  match i with
                  | 0 | 1 | 2 | 3 | 4 | 5 | 6 | 7 | 8 | 9 | 10 | 11 | 12 | 13 | 14 | 18 => exact id
                  | 15 => exact fun h => by obtain ⟨u, e, ho⟩ := h; exact ⟨u, e, OwnP.below ho hb⟩
                  | 16 => exact fun h => by obtain ⟨u, e, ho⟩ := h; exact ⟨u, e, OwnP.below ho hb⟩
                  | 17 => exact fun h => OwnP.below h hb
                  | 19 => exact fun h => OwnP.below h hb
                  | n + 20 => exact id
                case steps =>
                  refine ⟨?_, ?_, ?_, ?_, ?_, ?_, ?_, ?_, ?_, ?_, ?_, ?_, ?_, ?_, ?_, ?_, ?_, ?_, ?_, ?_, trivial⟩
                  · intro s w_ hb hd hq R hR
                    generalize hA : putAll _ 0 s _ = A
                    clear hq
                    have c0 := pw_cell_below hb c0
                    have c1 := pw_cell_below hb c1
                    have hR' := hR (.agg #[.int .i64 (n : Int), .slice (some ad) xs.length d1]) _ (Below.refl _ _) rfl
                    clear hR hd
                    refine opGives_value ?_ hR'
                    subst hA
                    simp only [dsOf, List.map_cons, List.map_nil, Option.getD_some, putAll, Act.put, List.setIfInBounds_toArray, List.set_cons_zero, List.set_cons_succ]
                    go_simp
                  · intro s w_ hb hd hq R hR
                    generalize hA : putAll _ 0 s _ = A
                    have q19 : s 19 = .slice A7 L7 c7 := hq 19 (by kernel_rfl)
                    clear hq
                    have hR' := hR (.slice A7 L7 c7) _ (Below.refl _ _) rfl
                    clear hR hd
                    refine opGives_value ?_ hR'
                    subst hA
                    simp only [dsOf, List.map_cons, List.map_nil, Option.getD_some, putAll, Act.put, List.setIfInBounds_toArray, List.set_cons_zero, List.set_cons_succ]
                    go_simp
                  · intro s w_ hb hd hq R hR
                    generalize hA : putAll _ 0 s _ = A
                    clear hq
                    have hR' := hR (.pointer (some ⟨w.heap.size, 1, none⟩)) _ (Below.refl _ _) rfl
                    clear hR hd
                    refine opGives_value ?_ hR'
                    subst hA
                    simp only [dsOf, List.map_cons, List.map_nil, Option.getD_some, putAll, Act.put, List.setIfInBounds_toArray, List.set_cons_zero, List.set_cons_succ]
                    go_simp
                  · intro s w_ hb hd hq R hR
                    generalize hA : putAll _ 0 s _ = A
                    have e2 : s 2 = _ := hd 2 (by kernel_rfl)
                    clear hq
                    have c1 := pw_cell_below hb c1
                    have hR' := hR (.slice (some ad) xs.length d1) _ (Below.refl _ _) rfl
                    clear hR hd
                    refine opGives_value ?_ hR'
                    subst hA
                    simp only [dsOf, List.map_cons, List.map_nil, Option.getD_some, putAll, Act.put, List.setIfInBounds_toArray, List.set_cons_zero, List.set_cons_succ]
                    go_simp
                  · intro s w_ hb hd hq R hR
                    generalize hA : putAll _ 0 s _ = A
                    clear hq
                    have hR' := hR (.int .i64 (iv : Int)) _ (Below.refl _ _) rfl
                    clear hR hd
                    refine opGives_value ?_ hR'
                    subst hA
                    simp only [dsOf, List.map_cons, List.map_nil, Option.getD_some, putAll, Act.put, List.setIfInBounds_toArray, List.set_cons_zero, List.set_cons_succ]
                    go_simp
                  · intro s w_ hb hd hq R hR
                    generalize hA : putAll _ 0 s _ = A
                    have e3 : s 3 = _ := hd 3 (by kernel_rfl)
                    have e4 : s 4 = _ := hd 4 (by kernel_rfl)
                    clear hq
                    have hR' := hR (.pointer (some (ad.add iv))) _ (Below.refl _ _) rfl
                    clear hR hd
                    refine opGives_value ?_ hR'
                    subst hA
                    simp only [dsOf, List.map_cons, List.map_nil, Option.getD_some, putAll, Act.put, List.setIfInBounds_toArray, List.set_cons_zero, List.set_cons_succ]
                    go_simp
                  · intro s w_ hb hd hq R hR
                    generalize hA : putAll _ 0 s _ = A
                    have e5 : s 5 = _ := hd 5 (by kernel_rfl)
                    clear hq
                    have hcell := pw_cell_below hb hcell
                    have hR' := hR (.int .i64 (b : Int)) _ (Below.refl _ _) rfl
                    clear hR hd
                    refine opGives_value ?_ hR'
                    subst hA
                    simp only [dsOf, List.map_cons, List.map_nil, Option.getD_some, putAll, Act.put, List.setIfInBounds_toArray, List.set_cons_zero, List.set_cons_succ]
                    go_simp
                  · intro s w_ hb hd hq R hR
                    generalize hA : putAll _ 0 s _ = A
                    clear hq
                    have hR' := hR (.int .i64 (P : Int)) _ (Below.refl _ _) rfl
                    clear hR hd
                    refine opGives_value ?_ hR'
                    subst hA
                    simp only [dsOf, List.map_cons, List.map_nil, Option.getD_some, putAll, Act.put, List.setIfInBounds_toArray, List.set_cons_zero, List.set_cons_succ]
                    go_simp
                  · intro s w_ hb hd hq R hR
                    generalize hA : putAll _ 0 s _ = A
                    have e6 : s 6 = _ := hd 6 (by kernel_rfl)
                    have e7 : s 7 = _ := hd 7 (by kernel_rfl)
                    clear hq
                    have hx9 := HXOR.out
                    have hR' := hR (.int .i64 (lo : Int)) _ (Below.refl _ _) rfl
                    clear hR hd
                    refine opGives_value ?_ hR'
                    subst hA
                    simp only [dsOf, List.map_cons, List.map_nil, Option.getD_some, putAll, Act.put, List.setIfInBounds_toArray, List.set_cons_zero, List.set_cons_succ]
                    go_simp
                  · intro s w_ hb hd hq R hR
                    generalize hA : putAll _ 0 s _ = A
                    clear hq
                    have hR' := hR (.pointer (some ⟨w.heap.size, 1, none⟩)) _ (Below.refl _ _) rfl
                    clear hR hd
                    refine opGives_value ?_ hR'
                    subst hA
                    simp only [dsOf, List.map_cons, List.map_nil, Option.getD_some, putAll, Act.put, List.setIfInBounds_toArray, List.set_cons_zero, List.set_cons_succ]
                    go_simp
                  · intro s w_ hb hd hq R hR
                    generalize hA : putAll _ 0 s _ = A
                    have e9 : s 9 = _ := hd 9 (by kernel_rfl)
                    clear hq
                    have c1 := pw_cell_below hb c1
                    have hR' := hR (.slice (some ad) xs.length d1) _ (Below.refl _ _) rfl
                    clear hR hd
                    refine opGives_value ?_ hR'
                    subst hA
                    simp only [dsOf, List.map_cons, List.map_nil, Option.getD_some, putAll, Act.put, List.setIfInBounds_toArray, List.set_cons_zero, List.set_cons_succ]
                    go_simp
                  · intro s w_ hb hd hq R hR
                    generalize hA : putAll _ 0 s _ = A
                    clear hq
                    have hR' := hR (.int .i64 (iv : Int)) _ (Below.refl _ _) rfl
                    clear hR hd
                    refine opGives_value ?_ hR'
                    subst hA
                    simp only [dsOf, List.map_cons, List.map_nil, Option.getD_some, putAll, Act.put, List.setIfInBounds_toArray, List.set_cons_zero, List.set_cons_succ]
                    go_simp
                  · intro s w_ hb hd hq R hR
                    generalize hA : putAll _ 0 s _ = A
                    have e10 : s 10 = _ := hd 10 (by kernel_rfl)
                    have e11 : s 11 = _ := hd 11 (by kernel_rfl)
                    clear hq
                    have hR' := hR (.pointer (some (ad.add iv))) _ (Below.refl _ _) rfl
                    clear hR hd
                    refine opGives_value ?_ hR'
                    subst hA
                    simp only [dsOf, List.map_cons, List.map_nil, Option.getD_some, putAll, Act.put, List.setIfInBounds_toArray, List.set_cons_zero, List.set_cons_succ]
                    go_simp
                  · intro s w_ hb hd hq R hR
                    generalize hA : putAll _ 0 s _ = A
                    have e12 : s 12 = _ := hd 12 (by kernel_rfl)
                    clear hq
                    have hcell := pw_cell_below hb hcell
                    have hR' := hR (.int .i64 (b : Int)) _ (Below.refl _ _) rfl
                    clear hR hd
                    refine opGives_value ?_ hR'
                    subst hA
                    simp only [dsOf, List.map_cons, List.map_nil, Option.getD_some, putAll, Act.put, List.setIfInBounds_toArray, List.set_cons_zero, List.set_cons_succ]
                    go_simp
                  · intro s w_ hb hd hq R hR
                    generalize hA : putAll _ 0 s _ = A
                    have e8 : s 8 = _ := hd 8 (by kernel_rfl)
                    have e13 : s 13 = _ := hd 13 (by kernel_rfl)
                    clear hq
                    have hR' := hR (.agg #[.int .i64 (lo : Int), .int .i64 (b : Int)]) _ (Below.refl _ _) rfl
                    clear hR hd
                    refine opGives_value ?_ hR'
                    subst hA
                    simp only [dsOf, List.map_cons, List.map_nil, Option.getD_some, putAll, Act.put, List.setIfInBounds_toArray, List.set_cons_zero, List.set_cons_succ]
                    go_simp
                  · intro s w_ hb hd hq R hR
                    generalize hA : putAll _ 0 s _ = A
                    have e0 : s 0 = _ := hd 0 (by kernel_rfl)
                    have e1 : s 1 = _ := hd 1 (by kernel_rfl)
                    have e14 : s 14 = _ := hd 14 (by kernel_rfl)
                    clear hq
                    refine opGives_call (f := 58) (args := #[.agg #[.int .i64 (n : Int), .slice (some ad) xs.length d1], .slice A7 L7 c7, .agg #[.int .i64 (lo : Int), .int .i64 (b : Int)]]) ?_ ?_
                    · subst hA
                      clear hR hd
                      simp only [dsOf, List.map_cons, List.map_nil, Option.getD_some, putAll, Act.put, List.setIfInBounds_toArray, List.set_cons_zero, List.set_cons_succ]
                      go_simp
                    clear hA A hd
                    refine (specWith n _ xs _ acc (lo : Int) (b : Int) w_ (HKW.out w_ hb) HC.out (OwnP.below HOA.out hb).read (OwnP.below HOA.out hb).readQ HAL.out).mono ?_
                    rintro e w3_ ⟨u3, rfl, ho, hb3⟩
                    refine ⟨_, rfl, hR _ _ hb3 ⟨u3, by rw [HOK.out], ?_⟩⟩
                    rw [HACC2.out]
                    exact OwnP.lower ho (Nat.le_trans HZ5.out hb.size)
                  · intro s w_ hb hd hq R hR
                    generalize hA : putAll _ 0 s _ = A
                    obtain ⟨uu, e15, oo⟩ : ∃ u, s 15 = .tuple #[u, .bool ok] ∧ OwnP w2.heap.size w_ u acc2 := hd 15 (by kernel_rfl)
                    clear hq
                    have hR' := hR (.tuple #[uu, .bool ok]) _ (Below.refl _ _) (⟨uu, rfl, oo⟩)
                    clear hR hd
                    refine opGives_value ?_ hR'
                    subst hA
                    simp only [dsOf, List.map_cons, List.map_nil, Option.getD_some, putAll, Act.put, List.setIfInBounds_toArray, List.set_cons_zero, List.set_cons_succ]
                    go_simp
                  · intro s w_ hb hd hq R hR
                    generalize hA : putAll _ 0 s _ = A
                    obtain ⟨uu, e16, oo⟩ : ∃ u, s 16 = .tuple #[u, .bool ok] ∧ OwnP w2.heap.size w_ u acc2 := hd 16 (by kernel_rfl)
                    clear hq
                    have hR' := hR (uu) _ (Below.refl _ _) (oo)
                    clear hR hd
                    refine opGives_value ?_ hR'
                    subst hA
                    simp only [dsOf, List.map_cons, List.map_nil, Option.getD_some, putAll, Act.put, List.setIfInBounds_toArray, List.set_cons_zero, List.set_cons_succ]
                    go_simp
                  · intro s w_ hb hd hq R hR
                    generalize hA : putAll _ 0 s _ = A
                    obtain ⟨uu, e16, oo⟩ : ∃ u, s 16 = .tuple #[u, .bool ok] ∧ OwnP w2.heap.size w_ u acc2 := hd 16 (by kernel_rfl)
                    clear hq
                    have hR' := hR (.bool ok) _ (Below.refl _ _) rfl
                    clear hR hd
                    refine opGives_value ?_ hR'
                    subst hA
                    simp only [dsOf, List.map_cons, List.map_nil, Option.getD_some, putAll, Act.put, List.setIfInBounds_toArray, List.set_cons_zero, List.set_cons_succ]
                    go_simp
                  · intro s w_ hb hd hq R hR
                    generalize hA : putAll _ 0 s _ = A
                    have o17 : OwnP w2.heap.size w_ (s 17) acc2 := hd 17 (by kernel_rfl)
                    obtain ⟨u17, e17⟩ : ∃ u, s 17 = u := ⟨_, rfl⟩
                    rw [e17] at o17
                    clear hq
                    have hR' := hR (u17) _ (Below.refl _ _) (o17)
                    clear hR hd
                    refine opGives_value ?_ hR'
                    subst hA
                    simp only [dsOf, List.map_cons, List.map_nil, Option.getD_some, putAll, Act.put, List.setIfInBounds_toArray, List.set_cons_zero, List.set_cons_succ]
                    go_simp
                case rest =>
                  intro s9 w9 hb hv
                  have o19 : OwnP w2.heap.size w9 (s9 19) acc2 := hv 19 (by decide)
                  simp only [dsOf, List.map_cons, List.map_nil, Option.getD_some, putAll, Act.put, List.setIfInBounds_toArray, List.set_cons_zero, List.set_cons_succ]
                  clear hv
                  have HO9 := Aside0.mk o19
                  have HB9 := Aside0.mk (HB6.out.trans (hb.mono HB6.out.size))
                  clear hb o19
                  obtain ⟨z9, e19⟩ : ∃ z9, s9 19 = z9 := ⟨_, rfl⟩
                  rw [e19] at HO9 ⊢
                  go_wp2
                  go_roundw
                  case rel => exact ⟨iv + 1, by go_num, by omega, ⟨by rw [← HPUT.out]; exact HO9.out⟩, HB9⟩
                  case measure => simp [intOf]; omega
        · have e : iv = xs.length := by omega
          have HE : Aside0 (OwnP w2.heap.size wr (.slice A7 L7 c7) (sortL (potL n xs t xs))) := ⟨by have h := HO.out; rw [e, List.take_length] at h; exact h⟩
          have hivI : ¬ (iv : Int) < (xs.length : Int) := by omega
          clear e
          go_wp2
          go_ret2
          exact ⟨_, by rw [HA.out]; rfl, by rw [HA.out]; exact OwnP.lower HE.out (HB.out.trans (HB2.out.mono HB.out.size)).size, HB.out.trans (HBw.out.mono HB.out.size)⟩
end Go.Proofs.Ythbkboigbkadjaa.H

namespace Go.Proofs.Ythbkboigbkadjaa.H
open Go.RowKit Go.Proofs.YthbkboigbkadjaaW.PrintWords Go.Proofs.YthbkboigbkadjaaW.PrintLast Go.Proofs.YthbkboigbkadjaaW.PrintMore
set_option linter.unusedVariables false
set_option linter.unusedSimpArgs false

theorem grown_alloc {w w' : World} {o : Obj} {r : Option Nat} (h : (w.alloc o).grownBy w' r) : w.grownBy w' r :=
  ⟨h.os, h.tape, h.output, Nat.le_trans (by simp) h.size, fun k hk hne => (h.block k (by simp; omega) hne).trans ((World.grownBy_alloc w o none).block k hk (by simp))⟩

set_option maxRecDepth 100000 in
set_option maxHeartbeats 1000000 in
theorem markComplex (b : Nat) (a : Int) (v : Value) (xs : List Int) (k : Nat) (w : World) (ho : OwnI b w v xs) (hk : k ≤ 1073741824) (hl : xs.length ≤ 1073741824) (hbw : b ≤ w.heap.size) :
    Calls Try.prog 17 #[.agg #[.int .i64 a, v], .int .i64 k] w fun e w' => e = .returned (.int .i64 ((k : Int) + xs.length)) ∧ OwnI b w' v (marks k xs.length) ∧ w.grownBy w' v.ownBlock ∧ Below b w w' := by
  have hba : Below w.heap.size w (w.alloc (.cells #[.int .i64 a, v] 28)) := Below.alloc (Below.refl _ _) (Nat.le_refl _) _
  have HO := Aside0.mk (OwnI.below ho hba)
  have HB := Aside0.mk (hba.mono hbw)
  obtain ⟨A, c, rfl, -⟩ := ho.read
  clear ho hba
  go_enter Try.func17, Try.ntmps17
  go_wp2_with (first | (go_at_call 18; refine (markInt64S b _ xs k _ HO.out hk hl).mono ?_; rintro e w2 ⟨rfl, ho, hg, hb⟩; have HO2 := Aside0.mk ho; have HG2 := Aside0.mk hg; have HB2 := Aside0.mk hb; clear ho hg hb))
  go_ret
  exact ⟨rfl, HO2.out, grown_alloc HG2.out, HB.out.trans HB2.out⟩

end Go.Proofs.Ythbkboigbkadjaa.H

namespace Go.Proofs.Ythbkboigbkadjaa.H
open Go.RowKit Go.Proofs.YthbkboigbkadjaaW.PrintWords Go.Proofs.YthbkboigbkadjaaW.PrintLast Go.Proofs.YthbkboigbkadjaaW.PrintMore
set_option linter.unusedVariables false
set_option linter.unusedSimpArgs false

set_option maxRecDepth 100000 in
set_option maxHeartbeats 1000000 in
theorem eqPairS (u v : Value) (ps : List (Int × Int)) (w : World) (hu : ReadP w u ps) (hv : ReadP w v ps) :
    Calls Try.prog 23 #[u, v] w fun e w' => e = .returned (.bool true) ∧ Below w.heap.size w w' := by
  have HU := Aside0.mk hu
  have HV := Aside0.mk hv
  obtain ⟨A, c, rfl, hl, -⟩ := id hu
  obtain ⟨A', c', rfl, -⟩ := id hv
  clear hu hv
  go_enter Try.func23, Try.ntmps23
  go_wp2
  go_loopw [5] (fun s wr => ∃ i : Nat, s = .int .i64 i ∧ i ≤ ps.length ∧ Aside0 (Below w.heap.size w wr)) (fun s _ => ps.length - (intOf s).toNat)
  case atStart => exact ⟨0, rfl, Nat.zero_le _, ⟨Below.refl _ _⟩⟩
  case round =>
    obtain ⟨i, rfl, hi, HB⟩ := hrel
    by_cases hlt : i < ps.length
    · obtain ⟨g, x, y, e1, hxy, hc0, hc1⟩ := ReadP.get (HU.out.below HB.out) hlt
      cases e1
      obtain ⟨g', x', y', e1, hxy', hc0', hc1'⟩ := ReadP.get (HV.out.below HB.out) hlt
      cases e1
      rw [hxy] at hxy'
      cases hxy'
      have hiI : (i : Int) < (ps.length : Int) := by omega
      have x0 : ∀ z : Ext wr, z.1.cell? ⟨g, i * 2, none⟩ = some (.int .i64 x) := fun z => Ext.cell hc0 z
      have x1 : ∀ z : Ext wr, z.1.cell? ⟨g, i * 2 + 1, none⟩ = some (.int .i64 y) := fun z => Ext.cell hc1 z
      have x2 : ∀ z : Ext wr, z.1.cell? ⟨g', i * 2, none⟩ = some (.int .i64 x) := fun z => Ext.cell hc0' z
      have x3 : ∀ z : Ext wr, z.1.cell? ⟨g', i * 2 + 1, none⟩ = some (.int .i64 y) := fun z => Ext.cell hc1' z
      have HI : Aside0 (∀ z : Ext wr, Calls Try.prog 65 #[.agg #[.int .i64 x, .int .i64 y], .agg #[.int .i64 x, .int .i64 y]] z.1 fun e w' => e = .returned (.bool true) ∧ Below z.1.heap.size z.1 w') := ⟨fun z => by have := eqPair x y x y z.1; simpa using this⟩
      clear hc0 hc1 hc0' hc1' hxy
      go_wp2
      refine wp_region_ext (by kernel_rfl) (by kernel_rfl) ?_
      repeat (go_big_quiet_step ((first | (go_at_call 65; exact Calls.ext_of (HI.out _)))))
      refine wpQuiet_nil ?_
      rintro _ ⟨z, rfl⟩
      have hbz := z.2
      go_wp2
      go_roundw
      case rel => exact ⟨i + 1, by go_num, by omega, ⟨HB.out.trans (hbz.mono HB.out.size)⟩⟩
      case measure => simp [intOf]; omega
    · go_wp2
      go_ret
      exact ⟨rfl, HB.out⟩

/-- a row of pairs by its cells -/
def RowP (b : Nat) (w : World) (v : Value) (n : Nat) (xs : List Int) : Prop := w.ownsRow b 70 2 v n (xs.map (Value.int .i64))
section
variable {P : Program} {ops : Array Oper} {rest : List Oper} {o : Oper} {a : Act} {Q : Exit → Act → World → Prop}
theorem store_row {W : World} {b g n cap : Nat} {xs : List Int} (hgd : o.guard = none) {p : Tmp} {v : Operand} (ho : o.op = .store 2 (.tmp p) v) (hN : o.dst = none)
    (i : Nat) (x : Int) (HO : RowP b W (.slice (some ⟨g, 0, none⟩) n cap) n xs) (hi : i < xs.length) (hp : a.eval (.tmp p) = .pointer (some ⟨g, i, none⟩)) (hv : a.eval v = .int .i64 x)
    (h : ∀ w', RowP b w' (.slice (some ⟨g, 0, none⟩) n cap) n (xs.set i x) → W.grownBy w' (some g) → Below b W w' → wpList Try.prog ops Q rest a w') : wpList Try.prog ops Q (o :: rest) a W := by
  have hc : W.cell? ⟨g, i, none⟩ = some (.int .i64 xs[i]) ∧ W.frozen? ⟨g, i, none⟩ = false := by
    constructor
    · have hc := World.ownsRow.cells HO (g := g) rfl i (.int .i64 xs[i]) (by rw [List.getElem?_map, List.getElem?_eq_getElem hi]; rfl)
      rwa [add_plain] at hc
    · rcases HO.2 with ⟨h', _⟩ | ⟨g', cap', cur, h', _, hh, _⟩
      · cases h'
      · have : g = g' := by injection h' with h'; injection h' with h'; injection h' with h'
        subst this
        simp [World.frozen?, hh]
  have hs := World.ownsRow.stored HO i (.int .i64 x)
  have he : (xs.map (Value.int .i64)).set i (.int .i64 x) = (xs.set i x).map (Value.int .i64) := by simp [List.map_set]
  rw [he] at hs
  refine store_event (w1 := W.setCell ⟨g, i, none⟩ (.int .i64 x)) hgd ho hN ?_ (fun w' e => h w' ?_ ?_ ?_)
  · obtain ⟨h1, h2⟩ := hc
    generalize a.eval = ρ at hp hv ⊢
    simp [execOp, ho, hp, hv, go_sem, h1, h2]
  · rw [e]; exact hs.1
  · rw [e]; exact hs.2
  · rw [e]; exact Below.setCell (Below.refl _ _) (own_base HO g (by simp [Value.ownBlock])) _
end

set_option maxRecDepth 100000 in
set_option maxHeartbeats 2000000 in
theorem markPairS (b : Nat) (v : Value) (ps : List (Int × Int)) (k : Nat) (w : World) (ho : OwnP b w v ps) (hk : k ≤ 1073741824) (hl : ps.length ≤ 1073741824) :
    Calls Try.prog 24 #[v, .int .i64 k] w fun e w' => e = .returned (.int .i64 ((k : Int) + (ps.length * 2 : Nat))) ∧ RowP b w' v ps.length (marks k (ps.length * 2)) ∧ w.grownBy w' v.ownBlock ∧ Below b w w' := by
  have HO : Aside0 (RowP b w v ps.length (flat ps)) := ⟨ho⟩
  have hfl := flat_len ps
  obtain ⟨xs, hxs⟩ : ∃ xs, xs = flat ps := ⟨_, rfl⟩
  rw [← hxs] at HO hfl
  obtain ⟨A, c, rfl, -⟩ := ho.read
  clear ho hxs
  obtain ⟨n, hn⟩ : ∃ n, n = ps.length := ⟨_, rfl⟩
  rw [← hn] at HO hfl hl ⊢
  clear hn
  go_enter Try.func24, Try.ntmps24
  go_wp2
  go_loopw [1, 5] (fun vk vi wr => ∃ i : Nat, vi = .int .i64 i ∧ vk = .int .i64 ((k : Int) + (i * 2 : Nat)) ∧ i ≤ n ∧ Aside0 (RowP b wr (.slice A n c) n (marks k (i * 2) ++ xs.drop (i * 2))) ∧ Aside0 (w.grownBy wr (Value.slice A n c).ownBlock) ∧ Aside0 (Below b w wr)) (fun _ vi _ => n - (intOf vi).toNat)
  case atStart => exact ⟨0, rfl, by simp, Nat.zero_le _, by simpa [marks] using HO, ⟨⟨rfl, rfl, rfl, Nat.le_refl _, fun _ _ _ => rfl⟩⟩, ⟨Below.refl _ _⟩⟩
  case round =>
    obtain ⟨i, rfl, rfl, hi, HI, HG, HB⟩ := hrel
    by_cases hlt : i < n
    · obtain ⟨g, cap, e2⟩ : ∃ g cap, Value.slice A n c = .slice (some ⟨g, 0, none⟩) n cap := by
        rcases HI.out.2 with ⟨_, h0⟩ | ⟨g, cap, cur, e, _⟩
        · omega
        · exact ⟨g, cap, e⟩
      cases e2
      obtain ⟨wo, rfl⟩ : ∃ wo, wo = wr := ⟨_, rfl⟩
      go_wp2
      go_loopw [1, 6] (fun vk vj wr => ∃ j : Nat, vj = .int .i64 j ∧ vk = .int .i64 ((k : Int) + (i * 2 + j : Nat)) ∧ j ≤ 2 ∧ Aside0 (RowP b wr (.slice (some ⟨g, 0, none⟩) n c) n (marks k (i * 2 + j) ++ xs.drop (i * 2 + j))) ∧ Aside0 (w.grownBy wr (Value.slice (some ⟨g, 0, none⟩) n c).ownBlock) ∧ Aside0 (Below b w wr)) (fun _ vj _ => 2 - (intOf vj).toNat)
      case atStart => exact ⟨0, rfl, by simp, by decide, HI, HG, HB⟩
      case round =>
        obtain ⟨j, rfl, rfl, hj, HJ, HG2, HB2⟩ := hrel
        by_cases hlt2 : j < 2
        · have el : (marks (k : Int) (i * 2 + j) ++ xs.drop (i * 2 + j)).length = n * 2 := by rw [List.length_append, marks_len, List.length_drop]; omega
          have HM := Aside0.mk (marks_set (k := (k : Int)) (xs := xs) (i := i * 2 + j) (by omega))
          have hjI : (j : Int) < 2 := by omega
          have hiI : (i : Int) < (n : Int) := by omega
          go_wp2_with (first | ((with_reducible refine gate_store (t := 2) (p := 22) rfl ?_); refine store_row (W := wr) rfl (p := 22) rfl rfl (i * 2 + j) ((k : Int) + (i * 2 + j : Nat)) HJ.out ?ha ?hb ?hc ?_; (case ha => omega); (case hb => rfl); (case hc => rfl); intro w' ho hg hb; have HO2 := Aside0.mk ho; have HB3 := Aside0.mk (HB2.out.trans hb); have HG3 := Aside0.mk (grown_trans HG2.out hg); clear ho hg hb))
          go_roundw
          case rel => exact ⟨j + 1, by go_num, by rw [show i * 2 + (j + 1) = i * 2 + j + 1 by omega]; go_num, by omega, ⟨by rw [show i * 2 + (j + 1) = i * 2 + j + 1 by omega, ← HM.out]; exact HO2.out⟩, HG3, HB3⟩
          case measure => simp [intOf]; omega
        · have e : j = 2 := by omega
          subst e
          go_wp2
          go_roundw
          case rel => exact ⟨i + 1, by go_num, by rw [show (i + 1) * 2 = i * 2 + 2 by omega], by omega, by rw [show (i + 1) * 2 = i * 2 + 2 by omega]; exact HJ, HG2, HB2⟩
          case measure => simp [intOf]; omega
    · have e : i = n := by omega
      have HE := Aside0.mk e
      clear e
      go_wp2
      go_ret
      exact ⟨by rw [HE.out]; rfl, by have := HI.out; rw [HE.out, List.drop_eq_nil_of_le (by omega), List.append_nil] at this; exact this, HG.out, HB.out⟩

set_option maxRecDepth 100000 in
set_option maxHeartbeats 2000000 in
theorem heldPairS (b : Nat) (v : Value) (k n : Nat) (w : World) (ho : RowP b w v n (marks k (n * 2))) (hk : k ≤ 1073741824) (hl : n ≤ 1073741824) :
    Calls Try.prog 25 #[v, .int .i64 k] w fun e w' => e = .returned (.int .i64 ((k : Int) + (n * 2 : Nat))) ∧ Below w.heap.size w w' := by
  have hrd : ∃ A c, v = .slice A n c ∧ (0 < n → ∃ g, A = some ⟨g, 0, none⟩ ∧ ∀ m, m < n * 2 → w.cell? ⟨g, m, none⟩ = some (.int .i64 ((k : Int) + m))) := by
    rcases ho.2 with ⟨rfl, rfl⟩ | ⟨g, cap, cur, rfl, hb, hg, hnc, hcm, hcs, ht⟩
    · exact ⟨_, _, rfl, fun h => absurd h (by decide)⟩
    · refine ⟨_, _, rfl, fun _ => ⟨g, rfl, fun m hm => ?_⟩⟩
      have hc := World.ownsRow.cells ho (g := g) rfl m (.int .i64 ((k : Int) + m)) (by
        have h1 := marks_at (k : Int) hm
        rw [List.getD_eq_getElem?_getD] at h1
        rw [List.getElem?_map]
        have h2 : m < (marks (k : Int) (n * 2)).length := by rw [marks_len]; exact hm
        rw [List.getElem?_eq_getElem h2] at h1 ⊢
        rw [Option.getD_some] at h1
        rw [h1]; rfl)
      rwa [add_plain] at hc
  obtain ⟨A, c, rfl, hr⟩ := hrd
  have HR := Aside0.mk hr
  clear ho hr
  go_enter Try.func25, Try.ntmps25
  go_wp2
  go_loopw [1, 5] (fun vk vi wr => ∃ i : Nat, vi = .int .i64 i ∧ vk = .int .i64 ((k : Int) + (i * 2 : Nat)) ∧ i ≤ n ∧ wr = w) (fun _ vi _ => n - (intOf vi).toNat)
  case atStart => exact ⟨0, rfl, by simp, Nat.zero_le _, rfl⟩
  case round =>
    obtain ⟨i, rfl, rfl, hi, rfl⟩ := hrel
    by_cases hlt : i < n
    · obtain ⟨g, rfl, hcell⟩ := HR.out (by omega)
      have HC := Aside0.mk hcell
      clear hcell
      obtain ⟨wo, hwo⟩ : ∃ wo, wo = wr := ⟨_, rfl⟩
      subst hwo
      go_wp2
      go_loopw [1, 6] (fun vk vj wr => ∃ j : Nat, vj = .int .i64 j ∧ vk = .int .i64 ((k : Int) + (i * 2 + j : Nat)) ∧ j ≤ 2 ∧ wr = wo) (fun _ vj _ => 2 - (intOf vj).toNat)
      case atStart => exact ⟨0, rfl, by simp, by decide, rfl⟩
      case round =>
        obtain ⟨j, rfl, rfl, hj, rfl⟩ := hrel
        by_cases hlt2 : j < 2
        · have hcell := HC.out (i * 2 + j) (by omega)
          have hjI : (j : Int) < 2 := by omega
          have hiI : (i : Int) < (n : Int) := by omega
          go_wp2
          go_roundw
          case rel => exact ⟨j + 1, by go_num, by rw [show i * 2 + (j + 1) = i * 2 + j + 1 by omega]; go_num, by omega, trivial⟩
          case measure => simp [intOf]; omega
        · have e : j = 2 := by omega
          subst e
          go_wp2
          go_roundw
          case rel => exact ⟨i + 1, by go_num, by rw [show (i + 1) * 2 = i * 2 + 2 by omega], by omega, trivial⟩
          case measure => simp [intOf]; omega
    · have e : i = n := by omega
      have HE := Aside0.mk e
      clear e
      go_wp2
      go_ret
      exact ⟨by rw [HE.out]; rfl, Below.refl _ _⟩

theorem Aside0.ownP {b : Nat} {w w' : World} {v : Value} {ps : List (Int × Int)} (h : Aside0 (OwnP b w v ps)) (hb : Below w.heap.size w w') : Aside0 (OwnP b w' v ps) := ⟨OwnP.below h.out hb⟩
theorem Aside0.rowP {b n : Nat} {w w' : World} {v : Value} {xs : List Int} (h : Aside0 (RowP b w v n xs)) (hb : Below w.heap.size w w') : Aside0 (RowP b w' v n xs) := ⟨own_move h.out (fun k hk => hb.block k (own_lt h.out k hk))⟩
theorem own_grownP {W W' : World} {v u : Value} {b lo hi lo' hi' : Nat} {ps : List (Int × Int)} (hg : W.grownBy W' v.ownBlock) (hr : ∀ k, v.ownBlock = some k → lo ≤ k ∧ k < hi) (hr' : ∀ k, u.ownBlock = some k → lo' ≤ k ∧ k < hi') (hn : hi' ≤ lo ∨ hi ≤ lo') (ho : OwnP b W u ps) : OwnP b W' u ps :=
  ho.grown hg (fun k hk e => by have h1 := hr _ e.symm; have h2 := hr' _ hk; omega)
end Go.Proofs.Ythbkboigbkadjaa.H

namespace Go.Proofs.Ythbkboigbkadjaa.H
open Go.ChangeShapes Go.WideShapes Go.ChangeAt
open Go.RowKit Go.Proofs.YthbkboigbkadjaaW.PrintWords Go.Proofs.YthbkboigbkadjaaW.PrintLast Go.Proofs.YthbkboigbkadjaaW.PrintMore
set_option linter.unusedVariables false
set_option linter.unusedSimpArgs false

/-- an int64 -/
def W64 (a : Int) : Prop := (Lit.int .i64 a).wf = true
theorem W64.bd {a : Int} (h : W64 a) : -9223372036854775808 ≤ a ∧ a ≤ 9223372036854775807 := by
  simpa [W64, Lit.wf, IntKind.min, IntKind.max, IntKind.signed, IntKind.bits] using h

set_option maxRecDepth 100000 in
theorem read_list {H : Type} {enc : TypeId × Value → H} {W : World} {fuel : Nat} {v : Value} {y : DataW H × List MemPlace}
    (hf : DataW.trod enc Try.prog W 0 (fun _ => true) true fuel 22 [v] = some y) : ∃ l : List Int, ReadI W v l ∧ ∀ x ∈ l, W64 x := by
  rcases open_ints Try.underlying22 Try.underlying2 (by kernel_rfl) hf with ⟨hcs, _⟩ | ⟨x, l, c, zs, hcs, _, hl, hm, hz, _, hcell, hwz⟩
  · simp at hcs
    subst hcs
    exact ⟨[], ReadI.nil _, fun x hx => by cases hx⟩
  · simp at hcs
    subst hcs
    obtain ⟨l, rfl, hr, hm, hw, hc⟩ := ReadsInt.ofRowC (k := .i64) (w := W) (.inr ⟨_, rfl, hl, hm, by simpa using hz, hcell, hwz⟩)
    exact ⟨l, ⟨_, _, rfl, hc, Kd.C_of_reads (d := (0 : Int)) (h1 := fun _ => rfl) hr⟩, hw⟩
set_option maxRecDepth 100000 in
theorem open_list {H : Type} {enc : TypeId × Value → H} {W : World} {base : Nat} {v : Value} {d : DataW H} {p : List MemPlace}
    (hv : Value.okWide Try.prog W .any base 22 v) (h : DataW.Trod enc Try.prog W 0 (fun _ => true) true 22 v d p) : ∃ l : List Int, ReadI W v l ∧ ∀ x ∈ l, W64 x := by
  obtain ⟨a1, len1, cap1, rfl⟩ := okWide_slice Try.underlying22 hv
  obtain ⟨fuel, hf⟩ := h
  exact read_list hf
set_option maxRecDepth 100000 in
theorem open_complex {H : Type} {enc : TypeId × Value → H} {W : World} {base : Nat} {v : Value} {d : DataW H} {p : List MemPlace}
    (hv : Value.okWide Try.prog W .any base 24 v) (h : DataW.Trod enc Try.prog W 0 (fun _ => true) true 24 v d p) : ∃ (a : Int) (u : Value) (l : List Int), v = .agg #[.int .i64 a, u] ∧ W64 a ∧ ReadI W u l ∧ ∀ x ∈ l, W64 x := by
  obtain ⟨c0, c1, y0, y1, m, rfl, rfl, rfl, hy0, hy1⟩ := Joins.open_agg2 Try.underlying24 (by kernel_rfl) (by kernel_rfl) hv h
  obtain ⟨a, e0, rfl, wa⟩ := DataW.trod_int Try.underlying2 hy0
  simp at e0
  subst e0
  obtain ⟨l, hr, hw⟩ := read_list hy1
  exact ⟨a, c1, l, rfl, wa, hr, hw⟩
end Go.Proofs.Ythbkboigbkadjaa.H
