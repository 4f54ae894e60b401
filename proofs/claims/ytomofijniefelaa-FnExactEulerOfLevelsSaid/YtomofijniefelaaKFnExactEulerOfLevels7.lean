/- One number, as a list. A number put to an ascending list: l04Put of the reference (printed by genupt.py). LevelAt of the reference: codes. append(v, p) as one operation of a region of open order. A filter of a part of a list. LevelAt of the reference. LevelAt of the reference, joined. -/
import Derived.Deep.AppendLies
import Derived.Test.YtomofijniefelaaKFnExactEulerOfLevels1
import Derived.Test.YtomofijniefelaaKFnExactEulerOfLevels2
import Derived.Test.YtomofijniefelaaKFnExactEulerOfLevels3
import Derived.Test.YtomofijniefelaaKFnExactEulerOfLevels4
import Derived.Test.YtomofijniefelaaKFnExactEulerOfLevels5
import Derived.Test.YtomofijniefelaaKFnExactEulerOfLevels6

namespace Go.Proofs.Ytomofijniefelaa.H
open Go.RowKit Go.Proofs.YtomofijniefelaaW.PrintWords Go.Proofs.YtomofijniefelaaW.PrintLast
set_option linter.unusedVariables false
set_option linter.unusedSimpArgs false
/-- one number, as a list of the call's own -/
theorem OwnI.single {b : Nat} (W : World) (x : Int) (hb : b ≤ W.heap.size) : OwnI b (W.alloc (.cells #[.int .i64 x] 2)) (.slice (some ⟨W.heap.size, 0, none⟩) 1 1) [x] := by
 have h := own_lit W b 2 .i64 [x] hb (by simp)
 exact OwnI.of_row (b := b) h (Nat.le_refl _)
set_option maxRecDepth 100000 in
set_option maxHeartbeats 4000000 in
theorem specPutU (b : Nat) (v : Value) (l : List Int) (n : Int) (w : World) (hv : OwnI b w v l) (hbw : b ≤ w.heap.size) (hl : l.length ≤ 1000) :
  Calls Try.prog 19 #[v, .int .i64 n] w fun e w' => ∃ u, e = .returned u ∧ OwnI b w' u (putU l n) ∧ (u = v ∨ OwnI w.heap.size w' u (putU l n)) ∧ Below w.heap.size w w' := by
 have HOV := Aside0.mk (fun W (h : Below w.heap.size w W) => hv.below h)
 have HV := Aside0.mk hv.read
 have HR := Aside0.mk (fun W (h : Below w.heap.size w W) => hv.read.below h)
 obtain ⟨A1, d1, rfl, -⟩ := id hv.read
 have hmx : Try.prog.follows .mixedOrders = true := by kernel_rfl
 clear hv
 go_enter Try.func19, Try.ntmps19
 go_wp2
 go_loopw [5] (fun s5 wr => ∃ k : Nat, s5 = .int .i64 k ∧ k ≤ l.length ∧ Aside0 (lowAt l n = lowTo l n k) ∧ Aside0 (Below w.heap.size w wr)) (fun s5 _ => (intOf s5).toNat)
 case atStart => exact ⟨_, rfl, Nat.le_refl _, ⟨rfl⟩, ⟨Below.refl _ _⟩⟩
 case round =>
  obtain ⟨k, rfl, hk, HK0, HBr⟩ := hrel
  by_cases hk0 : 0 < k
  ·obtain ⟨ad, y0, rfl, hcell0, HY0⟩ := ReadI.get (by obtain ⟨_, _, e, _, h⟩ := HR.out _ HBr.out; cases e; exact h) (i := k - 1) (by omega)
   have h0I : (0 : Int) < (k : Int) := by omega
   have h1i : (0 : Int) ≤ (k : Int) - 1 := by omega
   have h2i : (k : Int) - 1 < (l.length : Int) := by omega
   have h3i : ((k : Int) - 1).toNat = k - 1 := by omega
   obtain ⟨k', hk'⟩ : ∃ k', k = k' + 1 := ⟨k - 1, by omega⟩
   by_cases hge : n ≤ y0
   ·have HKN : Aside0 (lowAt l n = lowTo l n (k - 1)) := ⟨by
     rw [HK0.out, hk', Nat.add_sub_cancel]
     show (if n ≤ l.getD k' 0 then lowTo l n k' else k' + 1) = _
     rw [if_pos (by have := HY0.out; rw [hk', Nat.add_sub_cancel] at this; rw [this]; exact hge)]⟩
    clear hk'
    go_wp2
    go_roundw
    case rel => exact ⟨k - 1, by go_num, by omega, HKN, HBr⟩
    case measure => simp [intOf]; omega
   ·have HK : Aside0 (lowAt l n = k) := ⟨by
     rw [HK0.out, hk']
     show (if n ≤ l.getD k' 0 then lowTo l n k' else k' + 1) = _
     rw [if_neg (by have := HY0.out; rw [hk', Nat.add_sub_cancel] at this; rw [this]; exact hge)]⟩
    clear hk' HK0
    by_cases hlt : k < l.length
    ·have hltI : (k : Int) < (l.length : Int) := by omega
     obtain ⟨ad2, y2, e2, hcell2, HY2⟩ := ReadI.get (by obtain ⟨_, _, e, _, h⟩ := HR.out _ HBr.out; cases e; exact h) hlt
     cases e2
     by_cases hy : y2 = n
     ·have HPH := Aside0.mk (putU_hit (l := l) (n := n) (by rw [HK.out]; exact hlt) (by rw [HK.out, HY2.out]; exact hy))
      have hyb : (y2 == n) = true := by rw [beq_iff_eq]; exact hy
      clear hy
      go_wp2
      go_ret
      exact ⟨_, rfl, by rw [HPH.out]; exact HOV.out _ HBr.out, .inl rfl, HBr.out⟩
     ·have hyb : (y2 == n) = false := by rw [beq_eq_false_iff_ne]; exact hy
      have hno : ¬ (k < l.length ∧ l.getD k 0 = n) := fun h => hy (by rw [← HY2.out]; exact h.2)
      clear hy
      have HPN := Aside0.mk (putU_new (l := l) (n := n) (by rw [HK.out]; exact hno))
      clear hno
      obtain ⟨Af, cf, hslf, hrf, -⟩ := (HR.out _ HBr.out).from_ hk
      obtain ⟨hslt, hrt⟩ := (HR.out _ HBr.out).to_ hk
      have HSF := Aside0.mk hslf
      have HST := Aside0.mk hslt
      obtain ⟨A0_, c0_, e0_, -, hrc⟩ := id hrf
      injection e0_ with e1_ e2_ e3_
      subst e1_ e3_
      rw [← e2_] at hrc
      have HRF := Aside0.mk hrc
      have HRT := Aside0.mk hrt
      have HLT : Aside0 ((l.take k).length = k) := ⟨by rw [List.length_take]; omega⟩
      have HLD : Aside0 ((l.drop k).length = l.length - k) := ⟨List.length_drop⟩
      have hz := HBr.out.size
      obtain ⟨wa, hwa⟩ : ∃ wa, wa = wr.alloc (.cells #[.int .i64 n] 2) := ⟨_, rfl⟩
      have hBa : Below wr.heap.size wr wa := by rw [hwa]; exact Below.alloc (Below.refl _ _) (Nat.le_refl _) _
      have HOS := Aside0.mk (show OwnI w.heap.size wa (.slice (some ⟨wr.heap.size, 0, none⟩) 1 1) [n] by rw [hwa]; exact OwnI.single wr n hz)
      have HBa := Aside0.mk (HBr.out.trans (hBa.mono hz))
      have HRFa := Aside0.mk (Kd.C_below HRF.out hBa)
      have HRTa := Aside0.mk (ReadI.below HRT.out hBa)
      clear hslf hslt hrf hrt hrc hBa e2_
      go_wp2_with (first | ((with_reducible refine gate_dst (N := 39) rfl ?_); refine slice_told (u := .slice Af (l.length - k) cf) Try.underlying22 rfl rfl HSF.out ?_) | ((with_reducible refine gate_builtin (b := .append) (xs := #[.tmp 36, .tmp 39]) rfl ?_); rw [← hwa]; clear hwa; refine Kd.R_append_row (Value.int .i64) (0 : Int) (w0 := w) w.heap.size rfl (.tmp 36) (.tmp 39) 22 2 (.int .i64 0) 8 rfl Try.underlying22 info64 rfl (by decide) _ [n] (l.drop k) Af (l.length - k) cf (fun _ => True) rfl rfl (fun _ _ => trivial) HOS.out HRFa.out HBa.out HBa.out.size (by simp; omega) ?_; intro v1 w2 ho hb hg hat; have HO2 := Aside0.mk (show OwnI w.heap.size w2 v1 ([n] ++ l.drop k) from ho); have HB2 := Aside0.mk hb; have HRT2 := Aside0.mk (show ReadI w2 _ (l.take k) from by have h := HV.out.below hb; exact (h.to_ hk).2); have hLn : ([n] ++ l.drop k).length = l.length - k + 1 := (by rw [List.length_append, HLD.out]; simp; omega); have hz2 := hb.size; clear ho hb hg hat; obtain ⟨A2, c2, rfl, -⟩ := id HO2.out.read; generalize hn6 : List.length ([n] ++ l.drop k) = n6 at HO2 hLn ⊢; have HN6 := Aside0.mk hLn; clear hn6 hLn) | ((with_reducible refine gate_dst (N := 43) rfl ?_); refine slice_told (u := .slice _ k d1) Try.underlying22 rfl rfl HST.out ?_) | (go_at_call 44; refine (specOwnC _ (l.take k) _ HRT2.out (by rw [HLT.out]; omega)).mono ?_; rintro e w3 ⟨u, rfl, ho, hb⟩; have HO3 := Aside0.mk (ho.lower hz2); have HO3b := Aside0.mk (HO2.out.below hb); have HB3 := Aside0.mk (HB2.out.trans (hb.mono hz2)); have hz3 := HB3.out.size; obtain ⟨A3, c3, rfl, -⟩ := id ho.read; clear ho hb; rw [HLT.out] at HO3 ⊢) | ((with_reducible refine gate_builtin (b := .append) (xs := #[.tmp 44, .tmp 45]) rfl ?_); obtain ⟨A0_, c0_, e0_, -, hrc⟩ := id HO3b.out.read; injection e0_ with e1_ e2_ e3_; subst e1_ e3_; rw [← e2_] at hrc; have HRC := Aside0.mk hrc; clear hrc e2_; refine Kd.R_append_row (Value.int .i64) (0 : Int) (w0 := w) w.heap.size rfl (.tmp 44) (.tmp 45) 22 2 (.int .i64 0) 8 rfl Try.underlying22 info64 rfl (by decide) _ (l.take k) ([n] ++ l.drop k) A2 n6 c2 (fun _ => True) rfl rfl (fun _ _ => trivial) HO3.out HRC.out HB3.out hz3 (by have h3 := HN6.out; rw [HLT.out]; omega) ?_; intro v4 w4 ho hb hg hat; have HO4 := Aside0.mk (show OwnI w.heap.size w4 v4 (l.take k ++ ([n] ++ l.drop k)) from ho); have HB4 := Aside0.mk hb; clear ho hb hg hat; obtain ⟨A4, c4, rfl, -⟩ := id HO4.out.read; generalize hn4 : List.length (l.take k ++ ([n] ++ l.drop k)) = n4 at HO4 ⊢; clear hn4))
      go_ret
      exact ⟨_, rfl, by rw [HPN.out, HK.out]; exact HO4.out.lower hbw, .inr (by rw [HPN.out, HK.out]; exact HO4.out), HB4.out⟩
    ·have hltI : ¬ (k : Int) < (l.length : Int) := by omega
     have hno : ¬ (k < l.length ∧ l.getD k 0 = n) := fun h => hlt h.1
     have HPN := Aside0.mk (putU_new (l := l) (n := n) (by rw [HK.out]; exact hno))
     clear hno
     obtain ⟨Af, cf, hslf, hrf, -⟩ := (HR.out _ HBr.out).from_ hk
     obtain ⟨hslt, hrt⟩ := (HR.out _ HBr.out).to_ hk
     have HSF := Aside0.mk hslf
     have HST := Aside0.mk hslt
     obtain ⟨A0_, c0_, e0_, -, hrc⟩ := id hrf
     injection e0_ with e1_ e2_ e3_
     subst e1_ e3_
     rw [← e2_] at hrc
     have HRF := Aside0.mk hrc
     have HRT := Aside0.mk hrt
     have HLT : Aside0 ((l.take k).length = k) := ⟨by rw [List.length_take]; omega⟩
     have HLD : Aside0 ((l.drop k).length = l.length - k) := ⟨List.length_drop⟩
     have hz := HBr.out.size
     obtain ⟨wa, hwa⟩ : ∃ wa, wa = wr.alloc (.cells #[.int .i64 n] 2) := ⟨_, rfl⟩
     have hBa : Below wr.heap.size wr wa := by rw [hwa]; exact Below.alloc (Below.refl _ _) (Nat.le_refl _) _
     have HOS := Aside0.mk (show OwnI w.heap.size wa (.slice (some ⟨wr.heap.size, 0, none⟩) 1 1) [n] by rw [hwa]; exact OwnI.single wr n hz)
     have HBa := Aside0.mk (HBr.out.trans (hBa.mono hz))
     have HRFa := Aside0.mk (Kd.C_below HRF.out hBa)
     have HRTa := Aside0.mk (ReadI.below HRT.out hBa)
     clear hslf hslt hrf hrt hrc hBa e2_
     go_wp2_with (first | ((with_reducible refine gate_dst (N := 39) rfl ?_); refine slice_told (u := .slice Af (l.length - k) cf) Try.underlying22 rfl rfl HSF.out ?_) | ((with_reducible refine gate_builtin (b := .append) (xs := #[.tmp 36, .tmp 39]) rfl ?_); rw [← hwa]; clear hwa; refine Kd.R_append_row (Value.int .i64) (0 : Int) (w0 := w) w.heap.size rfl (.tmp 36) (.tmp 39) 22 2 (.int .i64 0) 8 rfl Try.underlying22 info64 rfl (by decide) _ [n] (l.drop k) Af (l.length - k) cf (fun _ => True) rfl rfl (fun _ _ => trivial) HOS.out HRFa.out HBa.out HBa.out.size (by simp; omega) ?_; intro v1 w2 ho hb hg hat; have HO2 := Aside0.mk (show OwnI w.heap.size w2 v1 ([n] ++ l.drop k) from ho); have HB2 := Aside0.mk hb; have HRT2 := Aside0.mk (show ReadI w2 _ (l.take k) from by have h := HV.out.below hb; exact (h.to_ hk).2); have hLn : ([n] ++ l.drop k).length = l.length - k + 1 := (by rw [List.length_append, HLD.out]; simp; omega); have hz2 := hb.size; clear ho hb hg hat; obtain ⟨A2, c2, rfl, -⟩ := id HO2.out.read; generalize hn6 : List.length ([n] ++ l.drop k) = n6 at HO2 hLn ⊢; have HN6 := Aside0.mk hLn; clear hn6 hLn) | ((with_reducible refine gate_dst (N := 43) rfl ?_); refine slice_told (u := .slice _ k d1) Try.underlying22 rfl rfl HST.out ?_) | (go_at_call 44; refine (specOwnC _ (l.take k) _ HRT2.out (by rw [HLT.out]; omega)).mono ?_; rintro e w3 ⟨u, rfl, ho, hb⟩; have HO3 := Aside0.mk (ho.lower hz2); have HO3b := Aside0.mk (HO2.out.below hb); have HB3 := Aside0.mk (HB2.out.trans (hb.mono hz2)); have hz3 := HB3.out.size; obtain ⟨A3, c3, rfl, -⟩ := id ho.read; clear ho hb; rw [HLT.out] at HO3 ⊢) | ((with_reducible refine gate_builtin (b := .append) (xs := #[.tmp 44, .tmp 45]) rfl ?_); obtain ⟨A0_, c0_, e0_, -, hrc⟩ := id HO3b.out.read; injection e0_ with e1_ e2_ e3_; subst e1_ e3_; rw [← e2_] at hrc; have HRC := Aside0.mk hrc; clear hrc e2_; refine Kd.R_append_row (Value.int .i64) (0 : Int) (w0 := w) w.heap.size rfl (.tmp 44) (.tmp 45) 22 2 (.int .i64 0) 8 rfl Try.underlying22 info64 rfl (by decide) _ (l.take k) ([n] ++ l.drop k) A2 n6 c2 (fun _ => True) rfl rfl (fun _ _ => trivial) HO3.out HRC.out HB3.out hz3 (by have h3 := HN6.out; rw [HLT.out]; omega) ?_; intro v4 w4 ho hb hg hat; have HO4 := Aside0.mk (show OwnI w.heap.size w4 v4 (l.take k ++ ([n] ++ l.drop k)) from ho); have HB4 := Aside0.mk hb; clear ho hb hg hat; obtain ⟨A4, c4, rfl, -⟩ := id HO4.out.read; generalize hn4 : List.length (l.take k ++ ([n] ++ l.drop k)) = n4 at HO4 ⊢; clear hn4))
     go_ret
     exact ⟨_, rfl, by rw [HPN.out, HK.out]; exact HO4.out.lower hbw, .inr (by rw [HPN.out, HK.out]; exact HO4.out), HB4.out⟩
  ·have h0I : ¬ (0 : Int) < (k : Int) := by omega
   have HK : Aside0 (lowAt l n = k) := ⟨by
    rw [HK0.out, show k = 0 by omega]; rfl⟩
   clear HK0
   by_cases hlt : k < l.length
   ·have hltI : (k : Int) < (l.length : Int) := by omega
    obtain ⟨ad2, y2, rfl, hcell2, HY2⟩ := ReadI.get (by obtain ⟨_, _, e, _, h⟩ := HR.out _ HBr.out; cases e; exact h) hlt
    by_cases hy : y2 = n
    ·have HPH := Aside0.mk (putU_hit (l := l) (n := n) (by rw [HK.out]; exact hlt) (by rw [HK.out, HY2.out]; exact hy))
     have hyb : (y2 == n) = true := by rw [beq_iff_eq]; exact hy
     clear hy
     go_wp2
     go_ret
     exact ⟨_, rfl, by rw [HPH.out]; exact HOV.out _ HBr.out, .inl rfl, HBr.out⟩
    ·have hyb : (y2 == n) = false := by rw [beq_eq_false_iff_ne]; exact hy
     have hno : ¬ (k < l.length ∧ l.getD k 0 = n) := fun h => hy (by rw [← HY2.out]; exact h.2)
     clear hy
     have HPN := Aside0.mk (putU_new (l := l) (n := n) (by rw [HK.out]; exact hno))
     clear hno
     obtain ⟨Af, cf, hslf, hrf, -⟩ := (HR.out _ HBr.out).from_ hk
     obtain ⟨hslt, hrt⟩ := (HR.out _ HBr.out).to_ hk
     have HSF := Aside0.mk hslf
     have HST := Aside0.mk hslt
     obtain ⟨A0_, c0_, e0_, -, hrc⟩ := id hrf
     injection e0_ with e1_ e2_ e3_
     subst e1_ e3_
     rw [← e2_] at hrc
     have HRF := Aside0.mk hrc
     have HRT := Aside0.mk hrt
     have HLT : Aside0 ((l.take k).length = k) := ⟨by rw [List.length_take]; omega⟩
     have HLD : Aside0 ((l.drop k).length = l.length - k) := ⟨List.length_drop⟩
     have hz := HBr.out.size
     obtain ⟨wa, hwa⟩ : ∃ wa, wa = wr.alloc (.cells #[.int .i64 n] 2) := ⟨_, rfl⟩
     have hBa : Below wr.heap.size wr wa := by rw [hwa]; exact Below.alloc (Below.refl _ _) (Nat.le_refl _) _
     have HOS := Aside0.mk (show OwnI w.heap.size wa (.slice (some ⟨wr.heap.size, 0, none⟩) 1 1) [n] by rw [hwa]; exact OwnI.single wr n hz)
     have HBa := Aside0.mk (HBr.out.trans (hBa.mono hz))
     have HRFa := Aside0.mk (Kd.C_below HRF.out hBa)
     have HRTa := Aside0.mk (ReadI.below HRT.out hBa)
     clear hslf hslt hrf hrt hrc hBa e2_
     go_wp2_with (first | ((with_reducible refine gate_dst (N := 39) rfl ?_); refine slice_told (u := .slice Af (l.length - k) cf) Try.underlying22 rfl rfl HSF.out ?_) | ((with_reducible refine gate_builtin (b := .append) (xs := #[.tmp 36, .tmp 39]) rfl ?_); rw [← hwa]; clear hwa; refine Kd.R_append_row (Value.int .i64) (0 : Int) (w0 := w) w.heap.size rfl (.tmp 36) (.tmp 39) 22 2 (.int .i64 0) 8 rfl Try.underlying22 info64 rfl (by decide) _ [n] (l.drop k) Af (l.length - k) cf (fun _ => True) rfl rfl (fun _ _ => trivial) HOS.out HRFa.out HBa.out HBa.out.size (by simp; omega) ?_; intro v1 w2 ho hb hg hat; have HO2 := Aside0.mk (show OwnI w.heap.size w2 v1 ([n] ++ l.drop k) from ho); have HB2 := Aside0.mk hb; have HRT2 := Aside0.mk (show ReadI w2 _ (l.take k) from by have h := HV.out.below hb; exact (h.to_ hk).2); have hLn : ([n] ++ l.drop k).length = l.length - k + 1 := (by rw [List.length_append, HLD.out]; simp; omega); have hz2 := hb.size; clear ho hb hg hat; obtain ⟨A2, c2, rfl, -⟩ := id HO2.out.read; generalize hn6 : List.length ([n] ++ l.drop k) = n6 at HO2 hLn ⊢; have HN6 := Aside0.mk hLn; clear hn6 hLn) | ((with_reducible refine gate_dst (N := 43) rfl ?_); refine slice_told (u := .slice _ k d1) Try.underlying22 rfl rfl HST.out ?_) | (go_at_call 44; refine (specOwnC _ (l.take k) _ HRT2.out (by rw [HLT.out]; omega)).mono ?_; rintro e w3 ⟨u, rfl, ho, hb⟩; have HO3 := Aside0.mk (ho.lower hz2); have HO3b := Aside0.mk (HO2.out.below hb); have HB3 := Aside0.mk (HB2.out.trans (hb.mono hz2)); have hz3 := HB3.out.size; obtain ⟨A3, c3, rfl, -⟩ := id ho.read; clear ho hb; rw [HLT.out] at HO3 ⊢) | ((with_reducible refine gate_builtin (b := .append) (xs := #[.tmp 44, .tmp 45]) rfl ?_); obtain ⟨A0_, c0_, e0_, -, hrc⟩ := id HO3b.out.read; injection e0_ with e1_ e2_ e3_; subst e1_ e3_; rw [← e2_] at hrc; have HRC := Aside0.mk hrc; clear hrc e2_; refine Kd.R_append_row (Value.int .i64) (0 : Int) (w0 := w) w.heap.size rfl (.tmp 44) (.tmp 45) 22 2 (.int .i64 0) 8 rfl Try.underlying22 info64 rfl (by decide) _ (l.take k) ([n] ++ l.drop k) A2 n6 c2 (fun _ => True) rfl rfl (fun _ _ => trivial) HO3.out HRC.out HB3.out hz3 (by have h3 := HN6.out; rw [HLT.out]; omega) ?_; intro v4 w4 ho hb hg hat; have HO4 := Aside0.mk (show OwnI w.heap.size w4 v4 (l.take k ++ ([n] ++ l.drop k)) from ho); have HB4 := Aside0.mk hb; clear ho hb hg hat; obtain ⟨A4, c4, rfl, -⟩ := id HO4.out.read; generalize hn4 : List.length (l.take k ++ ([n] ++ l.drop k)) = n4 at HO4 ⊢; clear hn4))
     go_ret
     exact ⟨_, rfl, by rw [HPN.out, HK.out]; exact HO4.out.lower hbw, .inr (by rw [HPN.out, HK.out]; exact HO4.out), HB4.out⟩
   ·have hltI : ¬ (k : Int) < (l.length : Int) := by omega
    have hno : ¬ (k < l.length ∧ l.getD k 0 = n) := fun h => hlt h.1
    have HPN := Aside0.mk (putU_new (l := l) (n := n) (by rw [HK.out]; exact hno))
    clear hno
    obtain ⟨Af, cf, hslf, hrf, -⟩ := (HR.out _ HBr.out).from_ hk
    obtain ⟨hslt, hrt⟩ := (HR.out _ HBr.out).to_ hk
    have HSF := Aside0.mk hslf
    have HST := Aside0.mk hslt
    obtain ⟨A0_, c0_, e0_, -, hrc⟩ := id hrf
    injection e0_ with e1_ e2_ e3_
    subst e1_ e3_
    rw [← e2_] at hrc
    have HRF := Aside0.mk hrc
    have HRT := Aside0.mk hrt
    have HLT : Aside0 ((l.take k).length = k) := ⟨by rw [List.length_take]; omega⟩
    have HLD : Aside0 ((l.drop k).length = l.length - k) := ⟨List.length_drop⟩
    have hz := HBr.out.size
    obtain ⟨wa, hwa⟩ : ∃ wa, wa = wr.alloc (.cells #[.int .i64 n] 2) := ⟨_, rfl⟩
    have hBa : Below wr.heap.size wr wa := by rw [hwa]; exact Below.alloc (Below.refl _ _) (Nat.le_refl _) _
    have HOS := Aside0.mk (show OwnI w.heap.size wa (.slice (some ⟨wr.heap.size, 0, none⟩) 1 1) [n] by rw [hwa]; exact OwnI.single wr n hz)
    have HBa := Aside0.mk (HBr.out.trans (hBa.mono hz))
    have HRFa := Aside0.mk (Kd.C_below HRF.out hBa)
    have HRTa := Aside0.mk (ReadI.below HRT.out hBa)
    clear hslf hslt hrf hrt hrc hBa e2_
    go_wp2_with (first | ((with_reducible refine gate_dst (N := 39) rfl ?_); refine slice_told (u := .slice Af (l.length - k) cf) Try.underlying22 rfl rfl HSF.out ?_) | ((with_reducible refine gate_builtin (b := .append) (xs := #[.tmp 36, .tmp 39]) rfl ?_); rw [← hwa]; clear hwa; refine Kd.R_append_row (Value.int .i64) (0 : Int) (w0 := w) w.heap.size rfl (.tmp 36) (.tmp 39) 22 2 (.int .i64 0) 8 rfl Try.underlying22 info64 rfl (by decide) _ [n] (l.drop k) Af (l.length - k) cf (fun _ => True) rfl rfl (fun _ _ => trivial) HOS.out HRFa.out HBa.out HBa.out.size (by simp; omega) ?_; intro v1 w2 ho hb hg hat; have HO2 := Aside0.mk (show OwnI w.heap.size w2 v1 ([n] ++ l.drop k) from ho); have HB2 := Aside0.mk hb; have HRT2 := Aside0.mk (show ReadI w2 _ (l.take k) from by have h := HV.out.below hb; exact (h.to_ hk).2); have hLn : ([n] ++ l.drop k).length = l.length - k + 1 := (by rw [List.length_append, HLD.out]; simp; omega); have hz2 := hb.size; clear ho hb hg hat; obtain ⟨A2, c2, rfl, -⟩ := id HO2.out.read; generalize hn6 : List.length ([n] ++ l.drop k) = n6 at HO2 hLn ⊢; have HN6 := Aside0.mk hLn; clear hn6 hLn) | ((with_reducible refine gate_dst (N := 43) rfl ?_); refine slice_told (u := .slice _ k d1) Try.underlying22 rfl rfl HST.out ?_) | (go_at_call 44; refine (specOwnC _ (l.take k) _ HRT2.out (by rw [HLT.out]; omega)).mono ?_; rintro e w3 ⟨u, rfl, ho, hb⟩; have HO3 := Aside0.mk (ho.lower hz2); have HO3b := Aside0.mk (HO2.out.below hb); have HB3 := Aside0.mk (HB2.out.trans (hb.mono hz2)); have hz3 := HB3.out.size; obtain ⟨A3, c3, rfl, -⟩ := id ho.read; clear ho hb; rw [HLT.out] at HO3 ⊢) | ((with_reducible refine gate_builtin (b := .append) (xs := #[.tmp 44, .tmp 45]) rfl ?_); obtain ⟨A0_, c0_, e0_, -, hrc⟩ := id HO3b.out.read; injection e0_ with e1_ e2_ e3_; subst e1_ e3_; rw [← e2_] at hrc; have HRC := Aside0.mk hrc; clear hrc e2_; refine Kd.R_append_row (Value.int .i64) (0 : Int) (w0 := w) w.heap.size rfl (.tmp 44) (.tmp 45) 22 2 (.int .i64 0) 8 rfl Try.underlying22 info64 rfl (by decide) _ (l.take k) ([n] ++ l.drop k) A2 n6 c2 (fun _ => True) rfl rfl (fun _ _ => trivial) HO3.out HRC.out HB3.out hz3 (by have h3 := HN6.out; rw [HLT.out]; omega) ?_; intro v4 w4 ho hb hg hat; have HO4 := Aside0.mk (show OwnI w.heap.size w4 v4 (l.take k ++ ([n] ++ l.drop k)) from ho); have HB4 := Aside0.mk hb; clear ho hb hg hat; obtain ⟨A4, c4, rfl, -⟩ := id HO4.out.read; generalize hn4 : List.length (l.take k ++ ([n] ++ l.drop k)) = n4 at HO4 ⊢; clear hn4))
    go_ret
    exact ⟨_, rfl, by rw [HPN.out, HK.out]; exact HO4.out.lower hbw, .inr (by rw [HPN.out, HK.out]; exact HO4.out), HB4.out⟩
set_option maxRecDepth 100000 in
set_option maxHeartbeats 2000000 in
theorem specIsFun (a : Int) (ku : Value) (xs : List Int) (v : Value) (f : List Int) (w : World) (hk : ReadI w ku xs) (hv : ReadI w v f) :
  Calls Try.prog 43 #[cx a ku, v] w fun e w' => e = .returned (.bool (isFun xs.length f)) ∧ Below w.heap.size w w' := by
 obtain ⟨w1, hw1⟩ : ∃ w1, w1 = w.alloc (.cells #[.int .i64 a, ku] 28) := ⟨_, rfl⟩
 have hB : Below w.heap.size w w1 := by rw [hw1]; exact Below.alloc (Below.refl _ _) (Nat.le_refl _) _
 have c0 : w1.cell? ⟨w.heap.size, 0, none⟩ = some (.int .i64 a) := by rw [hw1]; simp
 have c1 : w1.cell? ⟨w.heap.size, 1, none⟩ = some ku := by rw [hw1]; simp
 have HB := Aside0.mk hB
 have l1 := hk.len
 have l2 := hv.len
 obtain ⟨A1, d1, rfl, -⟩ := id hk
 obtain ⟨A2, d2, rfl, hcv, hrv⟩ := hv.below hB
 have HRV := Aside0.mk hrv
 clear hk hv hB hcv hrv
 by_cases hl : f.length = xs.length
 ·have hlb : ((f.length : Int) != (xs.length : Int)) = false := by simp; omega
  have HA : Aside0 (isFun xs.length f = f.all isVal) := ⟨by unfold isFun; rw [decide_eq_true hl, Bool.true_and]⟩
  clear hl
  go_enter Try.func43, Try.ntmps43
  go_wp2
  rw [← hw1]
  clear hw1
  go_loopw [5] (fun s wr => ∃ i : Nat, s = .int .i64 i ∧ i ≤ f.length ∧ Aside0 (∀ t, t < i → isVal (f.getD t 0) = true) ∧ Aside0 (Below w1.heap.size w1 wr)) (fun s _ => f.length - (intOf s).toNat)
  case atStart => exact ⟨0, rfl, Nat.zero_le _, ⟨fun t h => absurd h (Nat.not_lt_zero _)⟩, ⟨Below.refl _ _⟩⟩
  case round =>
   obtain ⟨i, rfl, hi, HI, HBw⟩ := hrel
   by_cases hlt : i < f.length
   ·obtain ⟨ad, y, rfl, hcell, HY⟩ := ReadI.get (Kd.C_below HRV.out HBw.out) hlt
    have HX : Aside0 ((decide (-1000 ≤ y) && decide (y ≤ 1000)) = isVal y) := ⟨rfl⟩
    cases hin : isVal y with
    | false =>
     have HF : Aside0 (f.all isVal = false) := ⟨List.all_eq_false.2 ⟨y, mem_at hlt HY.out, by rw [hin]; decide⟩⟩
     go_wp2_with (first | (go_at_call 54; refine (specIn _ _ _ _).mono ?_; rintro e w2 ⟨rfl, hb⟩; rw [HX.out, hin]))
     go_ret
     exact ⟨by rw [HA.out, HF.out]; rfl, HB.out.trans ((HBw.out.trans (hb.mono HBw.out.size)).mono HB.out.size)⟩
    | true =>
     have HI2 : Aside0 (∀ t, t < i + 1 → isVal (f.getD t 0) = true) := ⟨fun t ht => by
      rcases Nat.lt_succ_iff_lt_or_eq.1 ht with h2 | rfl
      ·exact HI.out t h2
      ·rw [HY.out]; exact hin⟩
     go_wp2_with (first | (go_at_call 54; refine (specIn _ _ _ _).mono ?_; rintro e w2 ⟨rfl, hb⟩; rw [HX.out, hin]))
     go_roundw
     case rel => exact ⟨i + 1, by go_num, by omega, HI2, ⟨HBw.out.trans (hb.mono HBw.out.size)⟩⟩
     case measure => simp [intOf]; omega
   ·have HF : Aside0 (f.all isVal = true) := ⟨by
     rw [List.all_eq_true]
     intro y hy
     obtain ⟨t, ht, e⟩ := List.getElem_of_mem hy
     have := HI.out t (by omega)
     rw [List.getD_eq_getElem?_getD, List.getElem?_eq_getElem ht, Option.getD_some, e] at this
     exact this⟩
    go_wp2
    go_ret
    exact ⟨by rw [HA.out, HF.out]; rfl, HB.out.trans (HBw.out.mono HB.out.size)⟩
 ·have hlb : ((f.length : Int) != (xs.length : Int)) = true := by simp; omega
  have HA : Aside0 (isFun xs.length f = false) := ⟨by unfold isFun; rw [decide_eq_false hl, Bool.false_and]⟩
  clear hl
  go_enter Try.func43, Try.ntmps43
  go_wp2
  rw [← hw1]
  go_ret
  exact ⟨by rw [HA.out]; rfl, HB.out⟩
set_option maxRecDepth 100000 in
set_option maxHeartbeats 2000000 in
theorem specFunCode (a : Int) (ku : Value) (xs : List Int) (lv : Value) (f : List Int) (w : World) (hk : ReadI w ku xs) (hl : ReadS w lv [f]) :
  Calls Try.prog 18 #[cx a ku, lv] w fun e w' => e = .returned (.int .i64 (codeFun a xs true [f])) ∧ Below w.heap.size w w' := by
 obtain ⟨w1, hw1⟩ : ∃ w1, w1 = w.alloc (.cells #[.int .i64 a, ku] 28) := ⟨_, rfl⟩
 have hB : Below w.heap.size w w1 := by rw [hw1]; exact Below.alloc (Below.refl _ _) (Nat.le_refl _) _
 have c0 : w1.cell? ⟨w.heap.size, 0, none⟩ = some (.int .i64 a) := by rw [hw1]; simp
 have c1 : w1.cell? ⟨w.heap.size, 1, none⟩ = some ku := by rw [hw1]; simp
 have HB := Aside0.mk hB
 have HK := Aside0.mk (hk.below hB)
 obtain ⟨A1, d1, rfl, -⟩ := id hk
 obtain ⟨A2, d2, rfl, -, hr⟩ := hl.below hB
 obtain ⟨ad, u, rfl, hcell, hu⟩ := hr 0 f rfl
 obtain ⟨A3, d3, rfl, -⟩ := id hu
 have HU := Aside0.mk hu
 clear hk hl hB hr
 cases h1 : cxOk a xs with
 | false =>
  have HA : Aside0 (codeFun a xs true [f] = 1) := ⟨by unfold codeFun; rw [h1]; rfl⟩
  go_enter Try.func18, Try.ntmps18
  go_wp2_with (first | (rw [← hw1]; clear hw1; go_at_call 28; refine (specIs _ _ xs _ HK.out).mono ?_; rintro e w2 ⟨rfl, hb⟩; rw [h1]))
  go_ret
  exact ⟨by rw [HA.out]; rfl, HB.out.trans (hb.mono HB.out.size)⟩
 | true =>
  have HA : Aside0 (codeFun a xs true [f] = if isFun xs.length f then 0 else 2) := ⟨by unfold codeFun; rw [h1]; simp⟩
  go_enter Try.func18, Try.ntmps18
  go_wp2_with (first | (rw [← hw1]; clear hw1; go_at_call 28; refine (specIs _ _ xs _ HK.out).mono ?_; rintro e w2 ⟨rfl, hb⟩; rw [h1]; have HB2 := Aside0.mk hb; have c0 := pw_cell_below hb c0; have c1 := pw_cell_below hb c1; have hcell := pw_cell_below hb hcell; clear hb))
  go_loopw [5] (fun s wr => ∃ i : Nat, s = .int .i64 i ∧ i ≤ 1 ∧ Aside0 (i = 1 → isFun xs.length f = true) ∧ Aside0 (Below w2.heap.size w2 wr)) (fun s _ => 1 - (intOf s).toNat)
  case atStart => exact ⟨0, rfl, Nat.zero_le _, ⟨fun h => absurd h (by decide)⟩, ⟨Below.refl _ _⟩⟩
  case round =>
   obtain ⟨i, rfl, hi, HI, HBw⟩ := hrel
   have HB13 := Aside0.mk (HB2.out.trans (HBw.out.mono HB2.out.size))
   by_cases hlt : i < 1
   ·obtain rfl : i = 0 := by omega
    have c0 := pw_cell_below HBw.out c0
    have c1 := pw_cell_below HBw.out c1
    have hcell := pw_cell_below HBw.out hcell
    obtain ⟨r, hr⟩ : ∃ r, r = isFun xs.length f := ⟨_, rfl⟩
    have HF : Aside0 (∀ x : Ext wr, Calls Try.prog 43 #[cx a (.slice A1 xs.length d1), .slice A3 f.length d3] x.1 fun e w' => e = .returned (.bool r) ∧ Below x.1.heap.size x.1 w') := ⟨fun x => by rw [hr]; exact specIsFun a _ xs _ f x.1 ((HK.out.below HB13.out).below x.2) ((HU.out.below HB13.out).below x.2)⟩
    have x0 : ∀ x : Ext wr, x.1.cell? ⟨w.heap.size, 0, none⟩ = some (.int .i64 a) := fun x => Ext.cell c0 x
    have x1 : ∀ x : Ext wr, x.1.cell? ⟨w.heap.size, 1, none⟩ = some (.slice A1 xs.length d1) := fun x => Ext.cell c1 x
    have x2 : ∀ x : Ext wr, x.1.cell? ad = some (.slice A3 f.length d3) := fun x => by have h := Ext.cell hcell x; rw [show ad.add 0 = ad by cases ad; rfl] at h; exact h
    have HRR := Aside0.mk hr
    clear hr
    go_wp2
    refine wp_region_ext (by kernel_rfl) (by kernel_rfl) ?_
    repeat (go_big_quiet_step ((first | (go_at_call 43; exact Calls.ext_of (HF.out _)))))
    refine wpQuiet_nil ?_
    rintro _ ⟨x, rfl⟩
    have hbx := x.2
    cases r with
    | true =>
     go_wp2
     go_roundw
     case rel => exact ⟨1, by go_num, by omega, ⟨fun _ => HRR.out.symm⟩, ⟨HBw.out.trans (hbx.mono HBw.out.size)⟩⟩
     case measure => simp [intOf]
    | false =>
     go_wp2
     go_ret
     exact ⟨by rw [HA.out, ← HRR.out]; rfl, HB.out.trans ((HB13.out.trans (hbx.mono HB13.out.size)).mono HB.out.size)⟩
   ·have hf := HI.out (by omega)
    go_wp2
    go_ret
    exact ⟨by rw [HA.out, hf]; rfl, HB.out.trans (HB13.out.mono HB.out.size)⟩
/-- into the kit's own word -/
theorem OwnI.row {b : Nat} {w : World} {v : Value} {xs : List Int} (h : OwnI b w v xs) : w.ownsRow b 2 1 v xs.length (xs.map (Value.int .i64)) := by
 obtain ⟨-, inner, ho, hl, hr⟩ := h
 have e : inner = xs.map (Value.int .i64) := by
  refine List.ext_getElem? (fun j => ?_)
  by_cases hj : j < xs.length
  ·have h3 : List.take 1 (List.drop (j * 1) inner) = [Value.int .i64 xs[j]] := hr j xs[j] (List.getElem?_eq_getElem hj)
   rw [Nat.mul_one] at h3
   have h2 : (List.take 1 (List.drop j inner))[0]? = some (Value.int .i64 xs[j]) := by rw [h3]; rfl
   rw [List.getElem?_take_of_lt (by decide), List.getElem?_drop] at h2
   rw [Nat.add_zero] at h2
   rw [h2, List.getElem?_map, List.getElem?_eq_getElem hj]; rfl
  ·have hl' : inner.length = xs.length * 1 := hl
   rw [List.getElem?_eq_none (by rw [hl']; omega), List.getElem?_eq_none (by rw [List.length_map]; omega)]
 rw [← e]
 exact ho
set_option maxRecDepth 100000 in
theorem append_gives {o : Oper} {ev : Operand → Value} {W : World} (base : Nat) (s x : Operand) (ho : o.op = .call { callee := .builtin .append, args := #[s, x], argTypes := #[22, 22] })
  (v : Value) (xs : List Int) (p : Int) (b c : Nat) (hs : ev s = v) (hx : ev x = .slice (some ⟨b, 0, none⟩) 1 c) (hc : W.cell? ⟨b, 0, none⟩ = some (.int .i64 p))
  (HO : OwnI base W v xs) (hbase : base ≤ W.heap.size) (hl : xs.length < 17592186044416) {R : Value → World → Prop}
  (h : ∀ v1 w1, OwnI base w1 v1 (xs ++ [p]) → W.grownBy w1 v.ownBlock → (v1.ownBlock = v.ownBlock ∨ v1.ownBlock = some W.heap.size) → R v1 w1) : opGives Try.prog o ev W R := by
 obtain ⟨i64, hi, hii⟩ : ∃ i, Try.prog.info? 2 = some i ∧ (i.zero, i.size, i.bytes) = (some (Value.int .i64 0), 1, 8) := by
  have h64 := info64
  cases hi : Try.prog.info? 2 with
  | none => rw [hi] at h64; cases h64
  | some i => rw [hi] at h64; exact ⟨i, rfl, Option.some.inj h64⟩
 have hi0 : i64.zero = some (Value.int .i64 0) := (Prod.mk.inj hii).1
 have hi1 : i64.size = 1 := (Prod.mk.inj (Prod.mk.inj hii).2).1
 have hi2 : i64.bytes = 8 := (Prod.mk.inj (Prod.mk.inj hii).2).2
 obtain ⟨v', w', hr, h2, h3, -, h5⟩ := run_append_own_at (P := Try.prog) W base 22 o.type 2 _ (.int .i64 0) 1 8 Try.underlying22 hi hi0 hi1 hi2 rfl (by decide) v xs.length (xs.map (Value.int .i64)) HO.row ⟨b, 0, none⟩ 1 c [.int .i64 p] rfl
  (fun j u hj => by
   cases j with
   | zero => cases hj; exact hc
   | succ j => cases hj) (fun u hu => by rw [List.mem_singleton] at hu; subst hu; rfl) (by simp only [maxLen]; omega) (by omega) hbase
 refine opGives_value (w' := w') (v := v') ?_ (h v' w' (OwnI.of_row (b := base) (by rw [List.length_append, List.map_append]; exact h2) (Nat.le_refl _)) h3 h5)
 unfold execOp
 simp only [ho, resolve, invoke, builtin, Sem.run_bind, Sem.run_pure, Result.andThen_ok, List.map_toArray, List.map_cons, List.map_nil, hs, hx, hr]
theorem filter_take {xs : List Int} {i : Nat} {y : Int} (p : Int → Bool) (h : i < xs.length) (hy : xs.getD i 0 = y) : (xs.take (i + 1)).filter p = if p y then (xs.take i).filter p ++ [y] else (xs.take i).filter p := by
 rw [take_get h hy, List.filter_append]
 cases hp : p y <;> simp [hp]
theorem made_snoc (l : List Int) (s g : Int) : madeAt (l ++ [s]) g = (madeAt l g || decide (g.toNat &&& s.toNat = g.toNat)) := by
 unfold madeAt; rw [List.any_append]; simp
set_option maxRecDepth 100000 in
set_option maxHeartbeats 4000000 in
theorem specLevel (n : Nat) (ku : Value) (xs : List Int) (v : Value) (f : List Int) (c : Int) (w : World) (hk : ReadI w ku xs) (hv : ReadI w v f) (hc : Cx n xs) (hl : f.length = xs.length) :
  Calls Try.prog 21 #[cx n ku, v, .int .i64 c] w fun e w' => ∃ u, e = .returned (.agg #[.int .i64 n, u]) ∧ OwnI w.heap.size w' u (xs.filter (madeAt (levTo xs f c xs.length))) ∧ Below w.heap.size w w' := by
 obtain ⟨wa, hwa⟩ : ∃ wa, wa = w.alloc (.cells #[.int .i64 n, ku] 28) := ⟨_, rfl⟩
 obtain ⟨w1, hw1⟩ : ∃ w1, w1 = wa.alloc (.cells #[.int .i64 0, .slice none 0 0] 28) := ⟨_, rfl⟩
 have hsa : wa.heap.size = w.heap.size + 1 := by rw [hwa]; simp
 have hs1 : w1.heap.size = w.heap.size + 1 + 1 := by rw [hw1]; simp [hsa]
 have hBa : Below w.heap.size w wa := by rw [hwa]; exact Below.alloc (Below.refl _ _) (Nat.le_refl _) _
 have hB1 : Below wa.heap.size wa w1 := by rw [hw1]; exact Below.alloc (Below.refl _ _) (Nat.le_refl _) _
 have hB : Below w.heap.size w w1 := hBa.trans (hB1.mono hBa.size)
 have c0 : w1.cell? ⟨w.heap.size, 0, none⟩ = some (.int .i64 n) := pw_cell_below hB1 (by rw [hwa]; simp)
 have c1 : w1.cell? ⟨w.heap.size, 1, none⟩ = some ku := pw_cell_below hB1 (by rw [hwa]; simp)
 have c0a : wa.cell? ⟨w.heap.size, 0, none⟩ = some (.int .i64 n) := by rw [hwa]; simp
 have hk1 : w1.heap[w.heap.size + 1]? = some (.cells #[.int .i64 0, .slice none 0 0] 28) := by rw [hw1, ← hsa]; exact blk_new _ _
 have HBK := Aside0.mk hk1
 have HB := Aside0.mk hB
 have hsz := Aside0.mk hs1
 have HN := Aside0.mk hc
 have hl63 := hc.len
 have hlf := Aside0.mk hl
 have hmx : Try.prog.follows .mixedOrders = true := by kernel_rfl
 obtain ⟨A1, d1, rfl, hcc, hr⟩ := hk.below hB
 obtain ⟨A2, d2, rfl, hcv, hrv⟩ := hv.below hB
 have HR := Aside0.mk hr
 have HRV := Aside0.mk hrv
 clear hk hv hB hBa hB1 hk1 hr hrv hsa hcc hcv hl hc
 subst hwa
 go_enter Try.func21, Try.ntmps21
 go_wp2
 rw [← hw1]
 have hsw : w.heap.size + 1 + 1 = w1.heap.size := hs1.symm
 simp only [hsw]
 clear hw1 c0a hs1
 go_loopw [8] (fun s8 wr => ∃ i : Nat, s8 = .int .i64 i ∧ i ≤ xs.length ∧ (∃ s, Aside0 (wr.heap[w1.heap.size + 1]? = some (.cells #[.int .i64 n, s] 28)) ∧ Aside0 (OwnI w1.heap.size wr s ((xs.take i).filter (madeAt (levTo xs f c xs.length)))) ∧ Aside0 (∀ j, s.ownBlock = some j → j ≠ w1.heap.size + 1)) ∧ Aside0 (Below w1.heap.size w1 wr)) (fun s8 _ => xs.length - (intOf s8).toNat)
 case atStart =>
  refine ⟨0, rfl, Nat.zero_le _, ⟨_, ⟨by simpa using blk_new (w1.alloc (.cells #[] 2)) _⟩, ⟨(OwnI.empty w1 (Nat.le_refl _)).below (Below.alloc (Below.refl _ _) (Nat.le_refl _) _)⟩, ⟨fun j hj e => ?_⟩⟩, ⟨(Below.alloc (Below.refl _ _) (Nat.le_refl _) _).alloc (by simp) _⟩⟩
  have : w1.heap.size = j := by simpa [Value.ownBlock] using hj
  omega
 case round =>
  obtain ⟨i, rfl, hi, ⟨sv, HKb, HO, HNE⟩, HBw⟩ := hrel
  obtain ⟨Av, cv, rfl, -⟩ := HO.out.read
  have hll : ((xs.take i).filter (madeAt (levTo xs f c xs.length))).length ≤ 63 := Nat.le_trans (List.length_filter_le _ _) (by rw [List.length_take]; omega)
  obtain ⟨wo, rfl⟩ : ∃ wo, wo = wr := ⟨_, rfl⟩
  have c0 := pw_cell_below HBw.out c0
  have c1 := pw_cell_below HBw.out c1
  by_cases hlt : i < xs.length
  ·obtain ⟨ad, y, rfl, hcell, HY⟩ := ReadI.get (Kd.C_below HR.out HBw.out) hlt
   obtain ⟨z, rfl, hz1, hz2⟩ := HN.out.nat (mem_at hlt HY.out)
   have HT := Aside0.mk (filter_take (madeAt (levTo xs f c xs.length)) hlt HY.out)
   go_wp2
   go_loopw [9, 10] (fun s9 s10 wr => ∃ j : Nat, s10 = .int .i64 j ∧ j ≤ xs.length ∧ s9 = .bool (madeAt (levTo xs f c j) z) ∧ Aside0 (Below wo.heap.size wo wr)) (fun _ s10 _ => xs.length - (intOf s10).toNat)
   case atStart => exact ⟨0, rfl, Nat.zero_le _, rfl, ⟨Below.refl _ _⟩⟩
   case round =>
    obtain ⟨j, rfl, hj, rfl, HBi⟩ := hrel
    have HB13 := Aside0.mk (HBw.out.trans (HBi.out.mono HBw.out.size))
    have c0 := pw_cell_below HBi.out c0
    have c1 := pw_cell_below HBi.out c1
    have hcell := pw_cell_below HBi.out hcell
    by_cases hlt2 : j < xs.length
    ·obtain ⟨ad', y', e', hcell', HY'⟩ := ReadI.get (Kd.C_below HR.out HB13.out) hlt2
     cases e'
     obtain ⟨z', rfl, hz1', hz2'⟩ := HN.out.nat (mem_at hlt2 HY'.out)
     have hlt3 : j < f.length := by rw [hlf.out]; exact hlt2
     obtain ⟨ad2, q, rfl, hcell2, HZ⟩ := ReadI.get (Kd.C_below HRV.out HB13.out) hlt3
     have hand := and_i64 z z' (by omega) (by omega)
     have x1 : ∀ x : Ext wr, x.1.cell? ⟨w.heap.size, 1, none⟩ = some (.slice (some ad) xs.length d1) := fun x => Ext.cell c1 x
     have x2 : ∀ x : Ext wr, x.1.cell? (ad.add i) = some (.int .i64 z) := fun x => Ext.cell hcell x
     have x3 : ∀ x : Ext wr, x.1.cell? (ad.add j) = some (.int .i64 z') := fun x => Ext.cell hcell' x
     have x4 : ∀ x : Ext wr, x.1.cell? (ad2.add j) = some (.int .i64 q) := fun x => Ext.cell hcell2 x
     have hiI : (i : Int) < (xs.length : Int) := by omega
     have hjI : (j : Int) < (xs.length : Int) := by omega
     have hjF : (j : Int) < (f.length : Int) := by omega
     cases hb1 : madeAt (levTo xs f c j) z with
     | true =>
      have HM : Aside0 (madeAt (levTo xs f c (j + 1)) z = true) := ⟨by
       by_cases hq : q ≤ c
       ·rw [levTo_hit HY'.out HZ.out hq, made_snoc, hb1]; rfl
       ·rw [levTo_miss (xs := xs) HZ.out hq, hb1]⟩
      go_wp2
      refine wp_region_ext (by kernel_rfl) (by kernel_rfl) ?_
      repeat (go_big_quiet_step (fail))
      refine wpQuiet_nil ?_
      rintro _ ⟨x, rfl⟩
      have hbx := x.2
      go_wp2
      go_roundw
      case rel => exact ⟨j + 1, by go_num, by omega, by rw [HM.out], ⟨HBi.out.trans (hbx.mono HBi.out.size)⟩⟩
      case measure => simp [intOf]; omega
     | false =>
      by_cases hq : q ≤ c
      ·have hqd : decide (q ≤ c) = true := decide_eq_true hq
       have HM : Aside0 (madeAt (levTo xs f c (j + 1)) z = (((z &&& z' : Nat) : Int) == (z : Int))) := ⟨by
        rw [levTo_hit HY'.out HZ.out hq, made_snoc, hb1, Bool.false_or, Int.toNat_natCast, Int.toNat_natCast, Bool.eq_iff_iff, decide_eq_true_eq, beq_iff_eq]; omega⟩
       go_wp2
       refine wp_region_ext (by kernel_rfl) (by kernel_rfl) ?_
       repeat (go_big_quiet_step (fail))
       refine wpQuiet_nil ?_
       rintro _ ⟨x, rfl⟩
       have hbx := x.2
       go_wp2
       go_roundw
       case rel => exact ⟨j + 1, by go_num, by omega, by rw [HM.out], ⟨HBi.out.trans (hbx.mono HBi.out.size)⟩⟩
       case measure => simp [intOf]; omega
      ·have hqd : decide (q ≤ c) = false := decide_eq_false hq
       have HM : Aside0 (madeAt (levTo xs f c (j + 1)) z = false) := ⟨by rw [levTo_miss (xs := xs) HZ.out hq, hb1]⟩
       go_wp2
       refine wp_region_ext (by kernel_rfl) (by kernel_rfl) ?_
       repeat (go_big_quiet_step (fail))
       refine wpQuiet_nil ?_
       rintro _ ⟨x, rfl⟩
       have hbx := x.2
       go_wp2
       go_roundw
       case rel => exact ⟨j + 1, by go_num, by omega, by rw [HM.out], ⟨HBi.out.trans (hbx.mono HBi.out.size)⟩⟩
       case measure => simp [intOf]; omega
    ·have e : j = xs.length := by omega
     subst e
     cases hfx : madeAt (levTo xs f c xs.length) z with
     | true =>
      have HXX := Aside0.mk hfx
      have HO5 := Aside0.mk (OwnI.below HO.out HBi.out)
      have HKb5 := Aside0.mk (blk_below HKb.out HBi.out)
      have HB5 := HB13
      go_wp2
      refine wp_region_tail 8 (fun j => match j with | 0 => fun v _ => v = .pointer (some ⟨w1.heap.size + 1, 1, none⟩) | 1 => fun v _ => v = .slice Av ((xs.take i).filter (madeAt (levTo xs f c xs.length))).length cv | 2 => fun v _ => v = .pointer (some ⟨w.heap.size, 1, none⟩) | 3 => fun v _ => v = .slice (some ad) xs.length d1 | 4 => fun v _ => v = .int .i64 i | 5 => fun v _ => v = .pointer (some (ad.add i)) | 6 => fun v _ => v = .int .i64 z | 7 => fun v W => ∃ b, v = .slice (some ⟨b, 0, none⟩) 1 1 ∧ W.cell? ⟨b, 0, none⟩ = some (.int .i64 z) | _ => fun _ _ => True) [0, 1, 0, 4, 0, 28, 60, 124, 255, 511, 1023] hmx (by kernel_rfl) ?st ?steps ?rest
      case st =>
       intro j v w1_ w2_ hb
       match j with
       | 0 | 1 | 2 | 3 | 4 | 5 | 6 => exact id
       | 7 => exact fun ⟨b, e, h⟩ => ⟨b, e, pw_cell_below hb h⟩
       | n + 8 => exact id
      case steps =>
       refine ⟨?_, ?_, ?_, ?_, ?_, ?_, ?_, ?_, trivial⟩
       ·intro s w_ hb hd R hR
        generalize hA : putAll _ 0 s _ = A
        have hR' := hR (.pointer (some ⟨w1.heap.size + 1, 1, none⟩)) _ (Below.refl _ _) (rfl)
        clear hR hd
        refine opGives_value ?_ hR'
        subst hA
        simp only [dsOf, List.take, List.map_cons, List.map_nil, Option.getD_some, putAll, Act.put, List.setIfInBounds_toArray, List.set_cons_zero, List.set_cons_succ]
        go_simp
       ·intro s w_ hb hd R hR
        generalize hA : putAll _ 0 s _ = A
        have e0 : s 0 = _ := hd 0 (by kernel_rfl)
        have c11 : w_.cell? ⟨w1.heap.size + 1, 1, none⟩ = some (.slice Av ((xs.take i).filter (madeAt (levTo xs f c xs.length))).length cv) := blk_cell (blk_below HKb5.out hb) 1
        have hR' := hR (.slice Av ((xs.take i).filter (madeAt (levTo xs f c xs.length))).length cv) _ (Below.refl _ _) (rfl)
        clear hR hd
        refine opGives_value ?_ hR'
        subst hA
        simp only [dsOf, List.take, List.map_cons, List.map_nil, Option.getD_some, putAll, Act.put, List.setIfInBounds_toArray, List.set_cons_zero, List.set_cons_succ]
        go_simp
       ·intro s w_ hb hd R hR
        generalize hA : putAll _ 0 s _ = A
        have hR' := hR (.pointer (some ⟨w.heap.size, 1, none⟩)) _ (Below.refl _ _) (rfl)
        clear hR hd
        refine opGives_value ?_ hR'
        subst hA
        simp only [dsOf, List.take, List.map_cons, List.map_nil, Option.getD_some, putAll, Act.put, List.setIfInBounds_toArray, List.set_cons_zero, List.set_cons_succ]
        go_simp
       ·intro s w_ hb hd R hR
        generalize hA : putAll _ 0 s _ = A
        have e2 : s 2 = _ := hd 2 (by kernel_rfl)
        have c1 := pw_cell_below hb c1
        have hR' := hR (.slice (some ad) xs.length d1) _ (Below.refl _ _) (rfl)
        clear hR hd
        refine opGives_value ?_ hR'
        subst hA
        simp only [dsOf, List.take, List.map_cons, List.map_nil, Option.getD_some, putAll, Act.put, List.setIfInBounds_toArray, List.set_cons_zero, List.set_cons_succ]
        go_simp
       ·intro s w_ hb hd R hR
        generalize hA : putAll _ 0 s _ = A
        have hR' := hR (.int .i64 i) _ (Below.refl _ _) (rfl)
        clear hR hd
        refine opGives_value ?_ hR'
        subst hA
        simp only [dsOf, List.take, List.map_cons, List.map_nil, Option.getD_some, putAll, Act.put, List.setIfInBounds_toArray, List.set_cons_zero, List.set_cons_succ]
        go_simp
       ·intro s w_ hb hd R hR
        generalize hA : putAll _ 0 s _ = A
        have e3 : s 3 = _ := hd 3 (by kernel_rfl)
        have e4 : s 4 = _ := hd 4 (by kernel_rfl)
        have hR' := hR (.pointer (some (ad.add i))) _ (Below.refl _ _) (rfl)
        clear hR hd
        refine opGives_value ?_ hR'
        subst hA
        simp only [dsOf, List.take, List.map_cons, List.map_nil, Option.getD_some, putAll, Act.put, List.setIfInBounds_toArray, List.set_cons_zero, List.set_cons_succ]
        go_simp
       ·intro s w_ hb hd R hR
        generalize hA : putAll _ 0 s _ = A
        have e5 : s 5 = _ := hd 5 (by kernel_rfl)
        have hcell := pw_cell_below hb hcell
        have hR' := hR (.int .i64 z) _ (Below.refl _ _) (rfl)
        clear hR hd
        refine opGives_value ?_ hR'
        subst hA
        simp only [dsOf, List.take, List.map_cons, List.map_nil, Option.getD_some, putAll, Act.put, List.setIfInBounds_toArray, List.set_cons_zero, List.set_cons_succ]
        go_simp
       ·intro s w_ hb hd R hR
        generalize hA : putAll _ 0 s _ = A
        have e6 : s 6 = _ := hd 6 (by kernel_rfl)
        have hR' := hR (.slice (some ⟨w_.heap.size, 0, none⟩) 1 1) (w_.alloc (.cells #[.int .i64 z] 2)) (Below.alloc (Below.refl _ _) (Nat.le_refl _) _) ⟨_, rfl, by simp⟩
        clear hR hd
        refine opGives_value ?_ hR'
        subst hA
        simp only [dsOf, List.take, List.map_cons, List.map_nil, Option.getD_some, putAll, Act.put, List.setIfInBounds_toArray, List.set_cons_zero, List.set_cons_succ]
        go_simp
      case rest =>
       intro s w6 hb hv
       have e1 : s 1 = _ := hv 1 (by decide)
       obtain ⟨b7, e7, hc7⟩ : ∃ b, s 7 = .slice (some ⟨b, 0, none⟩) 1 1 ∧ w6.cell? ⟨b, 0, none⟩ = some (.int .i64 z) := hv 7 (by decide)
       have HO6 := Aside0.mk (OwnI.below HO5.out hb)
       have HKb6 := Aside0.mk (blk_below HKb5.out hb)
       have HB6 := Aside0.mk (HB5.out.trans (hb.mono HB5.out.size))
       clear hv hb
       simp only [dsOf, List.take, List.map_cons, List.map_nil, Option.getD_some, putAll, Act.put, List.setIfInBounds_toArray, List.set_cons_zero, List.set_cons_succ]
       refine .inl (append_gives w1.heap.size (.tmp 59) (.tmp 65) rfl (.slice Av ((xs.take i).filter (madeAt (levTo xs f c xs.length))).length cv) ((xs.take i).filter (madeAt (levTo xs f c xs.length))) z b7 1 e1 e7 hc7 HO6.out HB6.out.size (by omega) ?_)
       intro v1 w7 ho hg hat
       have hne : some (w1.heap.size + 1) ≠ (Value.slice Av ((xs.take i).filter (madeAt (levTo xs f c xs.length))).length cv).ownBlock := fun e => HNE.out _ e.symm rfl
       have HKb7 := Aside0.mk ((hg.block _ (blk_lt HKb6.out) hne).trans HKb6.out)
       have HB7 := Aside0.mk (HB6.out.grown hg HB6.out.size (fun j hj => HO6.out.base j hj))
       have HNE7 : Aside0 (∀ j, v1.ownBlock = some j → j ≠ w1.heap.size + 1) := ⟨fun j hj => by
        rcases hat with hat | hat
        ·rw [hat] at hj; exact HNE.out j hj
        ·rw [hat] at hj; have := blk_lt HKb6.out; cases hj; omega⟩
       have HO7 := Aside0.mk ho
       obtain ⟨A7, d7, rfl, -⟩ := ho.read
       have c71 : w7.cell? ⟨w1.heap.size + 1, 1, none⟩ = some (.slice Av ((xs.take i).filter (madeAt (levTo xs f c xs.length))).length cv) := blk_cell HKb7.out 1
       have f71 : w7.frozen? ⟨w1.heap.size + 1, 1, none⟩ = false := blk_frozen HKb7.out 1
       clear ho hg hat hne
       simp only [List.drop, Act.put, List.setIfInBounds_toArray, List.set_cons_zero, List.set_cons_succ]
       refine .inl (opGives_value (v := .pointer (some ⟨w1.heap.size + 1, 1, none⟩)) (w' := w7) (by go_simp) ?_)
       simp only [List.drop, Act.put, List.setIfInBounds_toArray, List.set_cons_zero, List.set_cons_succ]
       refine .inr ⟨w7.setCell ⟨w1.heap.size + 1, 1, none⟩ (.slice A7 (((xs.take i).filter (madeAt (levTo xs f c xs.length))) ++ [(z : Int)]).length d7), by go_simp, ?_⟩
       simp only [List.drop, Act.put, List.setIfInBounds_toArray, List.set_cons_zero, List.set_cons_succ]
       unfold tailList
       go_wp2
       go_roundw
       case rel =>
        have h6 := HO7.out
        have h7 := HNE7.out
        rw [List.length_append, List.length_singleton] at h6 h7
        refine ⟨i + 1, by go_num, by omega, ⟨_, ⟨blk_put HKb7.out 1 _ rfl⟩, ⟨?_⟩, ⟨h7⟩⟩, ⟨HB7.out.setCell (by simp) _⟩⟩
        rw [HT.out, HXX.out, if_pos rfl]
        exact h6.grown (set_grown' _ (w1.heap.size + 1) _ _) (fun j hj e => by have := h7 j hj; cases e; omega)
       case measure => simp [intOf]; omega
     | false =>
      have HXX := Aside0.mk hfx
      go_wp2
      go_roundw
      case rel => exact ⟨i + 1, by go_num, by omega, ⟨_, ⟨blk_below HKb.out HBi.out⟩, ⟨by rw [HT.out, HXX.out, if_neg (by decide)]; exact OwnI.below HO.out HBi.out⟩, HNE⟩, HB13⟩
      case measure => simp [intOf]; omega
  ·have e : i = xs.length := by omega
   have HE := Aside0.mk e
   clear e
   have HK2 := Aside0.mk (blk_below HBK.out HBw.out)
   have c10 : wo.cell? ⟨w1.heap.size + 1, 0, none⟩ = some (.int .i64 n) := blk_cell HKb.out 0
   have c11 : wo.cell? ⟨w1.heap.size + 1, 1, none⟩ = some (.slice Av ((xs.take i).filter (madeAt (levTo xs f c xs.length))).length cv) := blk_cell HKb.out 1
   have c60 : wo.cell? ⟨w.heap.size + 1, 0, none⟩ = some (.int .i64 0) := blk_cell HK2.out 0
   have c61 : wo.cell? ⟨w.heap.size + 1, 1, none⟩ = some (.slice none 0 0) := blk_cell HK2.out 1
   have f60 : wo.frozen? ⟨w.heap.size + 1, 0, none⟩ = false := blk_frozen HK2.out 0
   have f61 : wo.frozen? ⟨w.heap.size + 1, 1, none⟩ = false := blk_frozen HK2.out 1
   go_wp2
   refine bodyPost_ret (results_cell_row rfl _ _ (w.heap.size + 1) 28 #[.int .i64 n, .slice Av ((xs.take i).filter (madeAt (levTo xs f c xs.length))).length cv] (0, 0) _ rfl (by refine blk_put (cs := #[.int .i64 n, .slice none 0 0]) ?_ 1 _ rfl; refine blk_put (cs := #[.int .i64 0, .slice none 0 0]) ?_ 0 _ rfl; exact HK2.out) Try.underlying28 rfl (by kernel_rfl)) rfl ?_
   have hb := HB.out.trans (HBw.out.mono HB.out.size)
   refine ⟨_, rfl, ?_, (hb.setCell (by simp) _).setCell (by simp) _⟩
   have hs := hsz.out
   have hbs := HO.out.base
   have ho := HO.out.lower (b' := w.heap.size) (by omega)
   rw [HE.out, List.take_length] at ho hbs ⊢
   exact (ho.grown (set_grown' _ (w.heap.size + 1) _ _) (fun j hj e => by have := hbs _ hj; cases e; omega)).grown (set_grown' _ (w.heap.size + 1) _ _) (fun j hj e => by have := hbs _ hj; cases e; omega)
end Go.Proofs.Ytomofijniefelaa.H
