/- A chain with a face turned: the walk of l06Put. Slices of bools of the call's own. -/
import Derived.Test.YtomofijniefelaaGreatKFnFlows1
import Derived.Test.YtomofijniefelaaGreatKFnFlows2
import Derived.Test.YtomofijniefelaaGreatKFnFlows3
import Derived.Test.YtomofijniefelaaGreatKFnFlows4
import Derived.Test.YtomofijniefelaaGreatKFnFlows5
import Derived.Test.YtomofijniefelaaGreatKFnFlows6
import Derived.Test.YtomofijniefelaaGreatKFnFlows7
import Derived.Test.YtomofijniefelaaGreatKFnFlows8
import Derived.Test.YtomofijniefelaaGreatKFnFlows9
import Derived.Test.YtomofijniefelaaGreatKFnFlows10

namespace Go.Proofs.YtomofijniefelaaGreat.H
open Go.RowKit Go.Proofs.YtomofijniefelaaGreatW.PrintWords Go.Proofs.YtomofijniefelaaGreatW.PrintLast
set_option linter.unusedVariables false
set_option linter.unusedSimpArgs false
theorem drop_ne {l : List Int} (hl : l.Pairwise (· < ·)) {k : Nat} {y f : Int} (h : k < l.length) (hy : l.getD k 0 = y) (hf : f ≤ y) (hn : y ≠ f) : ∀ z ∈ l.drop k, f < z := by
 intro z hz
 rw [List.drop_eq_getElem_cons h, List.mem_cons] at hz
 have e : l[k] = y := by rw [List.getD_eq_getElem?_getD, List.getElem?_eq_getElem h] at hy; simpa using hy
 rcases hz with hz | hz
 ·omega
 ·obtain ⟨j, hj, rfl⟩ := List.getElem_of_mem hz
  rw [List.length_drop] at hj
  rw [List.getElem_drop]
  have := List.pairwise_iff_getElem.1 hl k (k + 1 + j) h (by omega) (by omega)
  omega
set_option maxRecDepth 100000 in
set_option maxHeartbeats 4000000 in
theorem specPut (v : Value) (m f : Nat) (w : World) (hv : ReadI w v (listI m)) (hf : f < 64) :
  Calls Tryz.prog 357 #[v, .int .i64 (f : Nat)] w fun e w' => ∃ u, e = .returned u ∧ OwnI w.heap.size w' u (listI (m ^^^ 2 ^ f)) ∧ Below w.heap.size w w' := by
 have HV := Aside0.mk hv
 have hll := listI_len m
 obtain ⟨A1, d1, rfl, -, hr⟩ := id hv
 have HR := Aside0.mk hr
 have hmx : Tryz.prog.follows .mixedOrders = true := by kernel_rfl
 clear hv hr
 go_enter Tryz.func357, Tryz.ntmps357
 go_wp2
 go_loopw [5] (fun s5 wr => ∃ k : Nat, s5 = .int .i64 k ∧ k ≤ (listI m).length ∧ Aside0 (∀ z ∈ (listI m).drop k, (f : Int) ≤ z) ∧ Aside0 (Below w.heap.size w wr)) (fun s5 _ => (intOf s5).toNat)
 case atStart => exact ⟨_, rfl, Nat.le_refl _, ⟨fun z hz => by rw [List.drop_length] at hz; cases hz⟩, ⟨Below.refl _ _⟩⟩
 case round =>
  obtain ⟨k, rfl, hk, HD, HBr⟩ := hrel
  have hend : (k = 0 ∨ (listI m).getD (k - 1) 0 < (f : Int)) → Aside0 (∀ z ∈ (listI m).take k, z < (f : Int)) := fun h => ⟨fun z hz => by
   rcases h with h | h
   ·rw [h] at hz; cases hz
   ·obtain ⟨j, hj, rfl⟩ := List.getElem_of_mem hz
    rw [List.length_take] at hj
    rw [List.getElem_take]
    by_cases he : j = k - 1
    ·rw [List.getD_eq_getElem?_getD, List.getElem?_eq_getElem (by omega)] at h
     simpa [he] using h
    ·have hp := List.pairwise_iff_getElem.1 (listI_asc m) j (k - 1) (by omega) (by omega) (by omega)
     rw [List.getD_eq_getElem?_getD, List.getElem?_eq_getElem (by omega)] at h
     simp at h
     omega⟩
  have HEND := Aside0.mk hend
  clear hend
  have HRR := Aside0.mk (HV.out.below HBr.out)
  have HRR0 := Aside0.mk (fun W (h : Below w.heap.size w W) => (ReadI.to_ (HV.out.below h) hk).2)
  by_cases hk0 : 0 < k
  ·obtain ⟨ad, y0, rfl, hcell0, HY0⟩ := ReadI.get (Kd.C_below HR.out HBr.out) (i := k - 1) (by omega)
   have h1i : (0 : Int) ≤ (k : Int) - 1 := by omega
   have h2i : (k : Int) - 1 < ((listI m).length : Int) := by omega
   have h3i : ((k : Int) - 1).toNat = k - 1 := by omega
   by_cases hge : (f : Int) ≤ y0
   ·have HDN : Aside0 (∀ z ∈ (listI m).drop (k - 1), (f : Int) ≤ z) := ⟨fun z hz => by
     rw [List.drop_eq_getElem_cons (by omega), List.mem_cons] at hz
     rcases hz with h | h
     ·have h9 := HY0.out
      rw [List.getD_eq_getElem?_getD, List.getElem?_eq_getElem (by omega)] at h9
      simp at h9
      omega
     ·rw [show k - 1 + 1 = k by omega] at h; exact HD.out z h⟩
    go_wp2
    go_roundw
    case rel => exact ⟨k - 1, by go_num, by omega, HDN, HBr⟩
    case measure => simp [intOf]; omega
   ·have HTK := HEND.out (.inr (by rw [HY0.out]; omega))
    by_cases hlt : k < (listI m).length
    ·obtain ⟨ad2, y, e2, hcell, HY⟩ := ReadI.get (Kd.C_below HR.out HBr.out) hlt
     cases e2
     have hyf := HD.out y (by rw [List.drop_eq_getElem_cons hlt]; have := HY.out; rw [List.getD_eq_getElem?_getD, List.getElem?_eq_getElem hlt] at this; simp at this; rw [this]; simp)
     have hltI : (k : Int) < ((listI m).length : Int) := by omega
     cases hq : (y == (f : Int)) with
     | true =>
      have hkf : (listI m)[k]? = some (f : Int) := by rw [List.getElem?_eq_getElem hlt]; have := HY.out; rw [List.getD_eq_getElem?_getD, List.getElem?_eq_getElem hlt] at this; simp at this; rw [this, eq_of_beq hq]
      obtain ⟨Af, cf, hslf, hrf, hnf⟩ := HRR.out.from_ (k := k + 1) (by omega)
      obtain ⟨adf, rfl⟩ : ∃ adf, Af = some adf := by
       cases Af with
       | none => exact absurd rfl (hnf (by simp))
       | some a => exact ⟨a, rfl⟩
      obtain ⟨hslt, hrt⟩ := HRR.out.to_ hk
      have HSL := Aside0.mk hslt
      have HSF := Aside0.mk hslf
      have HTK1 := Aside0.mk hrt
      have HRF := Aside0.mk hrf
      have HTL : Aside0 (((listI m).take k).length ≤ 1000000) := ⟨by rw [List.length_take]; omega⟩
      have HRESO := Aside0.mk (turn_out hf hkf)
      clear hrf hrt hslf hslt hnf hkf
      go_wp2
      refine wp_region_tail 8 (fun i => match i with | 0 => fun v _ => v = .slice (some ad) (listI m).length d1 | 1 => fun v _ => v = .int .i64 (k : Nat) | 2 => fun v _ => v = .slice (some ad) k d1 | 3 => fun v W => OwnI w.heap.size W v ((listI m).take k) | 4 => fun v _ => v = .slice (some ad) (listI m).length d1 | 5 => fun v _ => v = .int .i64 (k : Nat) | 6 => fun v _ => v = .int .i64 ((k : Nat) + 1) | 7 => fun v _ => v = .slice (some adf) ((listI m).length - (k + 1)) cf | _ => fun _ _ => True)
       [0, 0, 3, 7, 0, 0, 32, 112, 255, 511] hmx (by kernel_rfl) ?st ?steps ?rest
      case st =>
       intro i v w1_ w2_ hb
       match i with
       | 0 | 1 | 2 | 4 | 5 | 6 | 7 => exact id
       | 3 => exact fun h => OwnI.below h hb
       | n + 8 => exact id
      case steps =>
       refine ⟨?_, ?_, ?_, ?_, ?_, ?_, ?_, ?_, trivial⟩
       ·intro s w_ hb hd R hR
        generalize hA : putAll _ 0 s _ = A
        have hR' := hR (.slice (some ad) (listI m).length d1) _ (Below.refl _ _) rfl
        clear hR hd
        refine opGives_value ?_ hR'
        subst hA
        simp only [dsOf, List.take, List.map_cons, List.map_nil, Option.getD_some, putAll, Act.put, List.setIfInBounds_toArray, List.set_cons_zero, List.set_cons_succ]
        go_simp
       ·intro s w_ hb hd R hR
        generalize hA : putAll _ 0 s _ = A
        have hR' := hR (.int .i64 (k : Nat)) _ (Below.refl _ _) rfl
        clear hR hd
        refine opGives_value ?_ hR'
        subst hA
        simp only [dsOf, List.take, List.map_cons, List.map_nil, Option.getD_some, putAll, Act.put, List.setIfInBounds_toArray, List.set_cons_zero, List.set_cons_succ]
        go_simp
       ·intro s w_ hb hd R hR
        generalize hA : putAll _ 0 s _ = A
        have e0 : s 0 = _ := hd 0 (by kernel_rfl)
        have e1 : s 1 = _ := hd 1 (by kernel_rfl)
        have hR' := hR (.slice (some ad) k d1) _ (Below.refl _ _) rfl
        clear hR hd
        refine opGives_value (slice_exec Tryz.underlying24 rfl ?_) hR'
        subst hA
        simp only [dsOf, List.take, List.map_cons, List.map_nil, Option.getD_some, putAll, Act.put, List.setIfInBounds_toArray, List.set_cons_zero, List.set_cons_succ]
        show (Instr.slice 24 (s 0) none (some (s 1)) none).run Tryz.prog w_ = _
        rw [e0, e1]
        exact HSL.out w_
       ·intro s w_ hb hd R hR
        generalize hA : putAll _ 0 s _ = A
        have e2 : s 2 = _ := hd 2 (by kernel_rfl)
        refine opGives_call (f := 153) (args := #[.slice (some ad) k d1]) ?_ ?_
        ·subst hA
         clear hR hd
         simp only [dsOf, List.take, List.map_cons, List.map_nil, Option.getD_some, putAll, Act.put, List.setIfInBounds_toArray, List.set_cons_zero, List.set_cons_succ]
         go_simp
        clear hA A hd
        refine (specOwnC _ ((listI m).take k) _ (ReadI.below HTK1.out hb) HTL.out).mono ?_
        rintro e w3_ ⟨u, rfl, ho, hb3⟩
        exact ⟨_, rfl, hR _ _ hb3 (OwnI.lower ho (HBr.out.trans (hb.mono HBr.out.size)).size)⟩
       ·intro s w_ hb hd R hR
        generalize hA : putAll _ 0 s _ = A
        have hR' := hR (.slice (some ad) (listI m).length d1) _ (Below.refl _ _) rfl
        clear hR hd
        refine opGives_value ?_ hR'
        subst hA
        simp only [dsOf, List.take, List.map_cons, List.map_nil, Option.getD_some, putAll, Act.put, List.setIfInBounds_toArray, List.set_cons_zero, List.set_cons_succ]
        go_simp
       ·intro s w_ hb hd R hR
        generalize hA : putAll _ 0 s _ = A
        have hR' := hR (.int .i64 (k : Nat)) _ (Below.refl _ _) rfl
        clear hR hd
        refine opGives_value ?_ hR'
        subst hA
        simp only [dsOf, List.take, List.map_cons, List.map_nil, Option.getD_some, putAll, Act.put, List.setIfInBounds_toArray, List.set_cons_zero, List.set_cons_succ]
        go_simp
       ·intro s w_ hb hd R hR
        generalize hA : putAll _ 0 s _ = A
        have e5 : s 5 = _ := hd 5 (by kernel_rfl)
        have hw1 : IntKind.i64.wrap ((k : Int) + 1) = (k : Int) + 1 := IntWalk.i64_in _ (by omega)
        have hR' := hR (.int .i64 ((k : Nat) + 1)) _ (Below.refl _ _) rfl
        clear hR hd
        refine opGives_value ?_ hR'
        subst hA
        simp only [dsOf, List.take, List.map_cons, List.map_nil, Option.getD_some, putAll, Act.put, List.setIfInBounds_toArray, List.set_cons_zero, List.set_cons_succ]
        go_simp
       ·intro s w_ hb hd R hR
        generalize hA : putAll _ 0 s _ = A
        have e4 : s 4 = _ := hd 4 (by kernel_rfl)
        have e6 : s 6 = _ := hd 6 (by kernel_rfl)
        have hR' := hR (.slice (some adf) ((listI m).length - (k + 1)) cf) _ (Below.refl _ _) rfl
        clear hR hd
        refine opGives_value (slice_exec Tryz.underlying24 rfl ?_) hR'
        subst hA
        simp only [dsOf, List.take, List.map_cons, List.map_nil, Option.getD_some, putAll, Act.put, List.setIfInBounds_toArray, List.set_cons_zero, List.set_cons_succ]
        show (Instr.slice 24 (s 4) (some (s 6)) none none).run Tryz.prog w_ = _
        rw [e4, e6]
        exact HSF.out w_
      case rest =>
       intro s9 w9 hb hv
       have o3_ : OwnI w.heap.size w9 (s9 3) ((listI m).take k) := hv 3 (by decide)
       obtain ⟨A3_, d3_, e3_, -⟩ := o3_.read
       rw [e3_] at o3_
       have e7_ : s9 7 = _ := hv 7 (by decide)
       clear hv
       simp only [dsOf, List.take, List.map_cons, List.map_nil, Option.getD_some, putAll, Act.put, List.setIfInBounds_toArray, List.set_cons_zero, List.set_cons_succ]
       have h9 := Below.size hb
       refine .inl (appendRow_gives w.heap.size (.tmp 37) (.tmp 41) rfl (.slice A3_ ((listI m).take k).length d3_) ((listI m).take k) ((listI m).drop (k + 1)) adf _ cf e3_ e7_ (by rw [List.length_drop]) (HRF.out.below hb) o3_ (by have := HBr.out.size; omega) (by have := HTL.out; rw [List.length_drop]; have := hll; rw [List.length_take]; omega) ?_)
       intro v1 w10 ho10 hg10
       simp only [List.drop, Act.put, List.setIfInBounds_toArray, List.set_cons_zero, List.set_cons_succ]
       refine .inl (opGives_value (v := v1) (w' := w10) (by go_simp) ?_)
       simp only [List.drop, Act.put, List.setIfInBounds_toArray, List.set_cons_zero, List.set_cons_succ]
       unfold tailList
       have HO10 := Aside0.mk ho10
       have HB10 := Aside0.mk ((HBr.out.trans (hb.mono HBr.out.size)).grown hg10 (by have := HBr.out.size; omega) (fun j hj => OwnI.base o3_ j hj))
       clear ho10 hg10 hb o3_ e3_ e7_
       go_wp2
       go_ret
       exact ⟨_, rfl, by rw [← HRESO.out]; exact HO10.out, HB10.out⟩
     | false =>
      have HGT : Aside0 (∀ z ∈ (listI m).drop k, (f : Int) < z) := ⟨drop_ne (listI_asc m) hlt HY.out hyf (by simpa using hq)⟩
      obtain ⟨Af, cf, hslf, hrf, -⟩ := HRR.out.from_ hk
      obtain ⟨hslt, hrt⟩ := HRR.out.to_ hk
      have HRT := Aside0.mk hrt
      have HTL : Aside0 (((listI m).take k).length ≤ 1000000) := ⟨by rw [List.length_take]; omega⟩
      have HLD : Aside0 (((listI m).drop k).length = (listI m).length - k) := ⟨List.length_drop⟩
      have HSG := Aside0.mk (OwnI.single (b := w.heap.size) wr (f : Nat) HBr.out.size)
      have HBA : Aside0 (Below w.heap.size w (wr.alloc (.cells #[.int .i64 (f : Nat)] 2))) := ⟨HBr.out.alloc HBr.out.size _⟩
      have HRF : Aside0 (Kd.C (Kd.int .i64) (wr.alloc (.cells #[.int .i64 (f : Nat)] 2)) Af ((listI m).length - k) ((listI m).drop k)) := ⟨by
       have h9 := hrf.below (Below.alloc (Below.refl _ _) (Nat.le_refl _) (.cells #[.int .i64 (f : Nat)] 2))
       obtain ⟨A9, c9, e9, -, hr9⟩ := h9
       rw [List.length_drop] at e9 hr9
       cases e9
       exact hr9⟩
      have HRESI := Aside0.mk (turn_in hf (HTK.out) (HGT.out))
      clear hrf hrt
      go_wp2_with (first | ((with_reducible refine gate_dst (N := 47) rfl ?_); refine slice_told (u := .slice Af ((listI m).length - k) cf) Tryz.underlying24 rfl rfl hslf ?_) | ((with_reducible refine gate_dst (N := 51) rfl ?_); refine slice_told (u := .slice _ k d1) Tryz.underlying24 rfl rfl hslt ?_) | ((with_reducible refine gate_builtin (b := .append) (xs := #[.tmp 44, .tmp 47]) rfl ?_); refine Kd.R_append_row (Value.int .i64) (0 : Int) (w0 := w) w.heap.size rfl (.tmp 44) (.tmp 47) 24 2 (.int .i64 0) 8 rfl Tryz.underlying24 info64 rfl (by decide) (.slice (some ⟨wr.heap.size, 0, none⟩) 1 1) [(f : Int)] ((listI m).drop k) Af ((listI m).length - k) cf (fun _ => True) rfl rfl (fun _ _ => trivial) HSG.out HRF.out HBA.out HBA.out.size (by simp; omega) ?_; intro v6 w6 ho6 hb6 hg6 hat6; replace ho6 : OwnI w.heap.size w6 v6 ([(f : Int)] ++ (listI m).drop k) := ho6; obtain ⟨A6, c6, rfl, -⟩ := ho6.read; generalize hn6 : List.length ([(f : Int)] ++ (listI m).drop k) = n6 at ho6 ⊢; have HN6 := Aside0.mk hn6; clear hn6; have HO6 := Aside0.mk ho6; have HB6 := Aside0.mk hb6; have HRT6 := Aside0.mk (HRR0.out w6 hb6); clear ho6 hb6 hg6 hat6) | (go_at_call 153; refine (specOwnC _ ((listI m).take k) _ HRT6.out HTL.out).mono ?_; rintro e w7 ⟨u7, rfl, ho, hb⟩; obtain ⟨A7, c7, rfl, -⟩ := ho.read; generalize hn7 : List.length ((listI m).take k) = n7 at ho ⊢; clear hn7; have HO7 := Aside0.mk (ho.lower HB6.out.size); have HB7 := Aside0.mk (HB6.out.trans (hb.mono HB6.out.size)); obtain ⟨A8, c8, e8, -, hr8⟩ := (HO6.out.below hb).read; injection e8 with e81 e82 e83; rw [← e81, ← e82] at hr8; have HR8 := Aside0.mk hr8; clear ho hb hr8 e81 e82 e83) | ((with_reducible refine gate_builtin (b := .append) (xs := #[.tmp 52, .tmp 53]) rfl ?_); refine Kd.R_append_row (Value.int .i64) (0 : Int) (w0 := w) w.heap.size rfl (.tmp 52) (.tmp 53) 24 2 (.int .i64 0) 8 rfl Tryz.underlying24 info64 rfl (by decide) (.slice A7 n7 c7) ((listI m).take k) ([(f : Int)] ++ (listI m).drop k) A6 n6 c6 (fun _ => True) rfl rfl (fun _ _ => trivial) HO7.out HR8.out HB7.out HB7.out.size (by have h1 := HTL.out; have h2 := HLD.out; have h3 := HN6.out; rw [List.length_append, h2] at h3; simp only [List.length_cons, List.length_nil] at h3; omega) ?_; intro v9 w9 ho9 hb9 hg9 hat9; have HO9 := Aside0.mk (show OwnI w.heap.size w9 v9 ((listI m).take k ++ ([(f : Int)] ++ (listI m).drop k)) from ho9); have HB9 := Aside0.mk hb9; clear ho9 hb9 hg9 hat9))
      go_ret
      exact ⟨_, rfl, by rw [← HRESI.out]; simpa using HO9.out, HB9.out⟩
    ·have hltI : ¬ (k : Int) < ((listI m).length : Int) := by omega
     have HGT : Aside0 (∀ z ∈ (listI m).drop k, (f : Int) < z) := ⟨fun z hz => by rw [List.drop_eq_nil_of_le (by omega)] at hz; cases hz⟩
     obtain ⟨Af, cf, hslf, hrf, -⟩ := HRR.out.from_ hk
     obtain ⟨hslt, hrt⟩ := HRR.out.to_ hk
     have HRT := Aside0.mk hrt
     have HTL : Aside0 (((listI m).take k).length ≤ 1000000) := ⟨by rw [List.length_take]; omega⟩
     have HLD : Aside0 (((listI m).drop k).length = (listI m).length - k) := ⟨List.length_drop⟩
     have HSG := Aside0.mk (OwnI.single (b := w.heap.size) wr (f : Nat) HBr.out.size)
     have HBA : Aside0 (Below w.heap.size w (wr.alloc (.cells #[.int .i64 (f : Nat)] 2))) := ⟨HBr.out.alloc HBr.out.size _⟩
     have HRF : Aside0 (Kd.C (Kd.int .i64) (wr.alloc (.cells #[.int .i64 (f : Nat)] 2)) Af ((listI m).length - k) ((listI m).drop k)) := ⟨by
      have h9 := hrf.below (Below.alloc (Below.refl _ _) (Nat.le_refl _) (.cells #[.int .i64 (f : Nat)] 2))
      obtain ⟨A9, c9, e9, -, hr9⟩ := h9
      rw [List.length_drop] at e9 hr9
      cases e9
      exact hr9⟩
     have HRESI := Aside0.mk (turn_in hf (HTK.out) (HGT.out))
     clear hrf hrt
     go_wp2_with (first | ((with_reducible refine gate_dst (N := 47) rfl ?_); refine slice_told (u := .slice Af ((listI m).length - k) cf) Tryz.underlying24 rfl rfl hslf ?_) | ((with_reducible refine gate_dst (N := 51) rfl ?_); refine slice_told (u := .slice _ k d1) Tryz.underlying24 rfl rfl hslt ?_) | ((with_reducible refine gate_builtin (b := .append) (xs := #[.tmp 44, .tmp 47]) rfl ?_); refine Kd.R_append_row (Value.int .i64) (0 : Int) (w0 := w) w.heap.size rfl (.tmp 44) (.tmp 47) 24 2 (.int .i64 0) 8 rfl Tryz.underlying24 info64 rfl (by decide) (.slice (some ⟨wr.heap.size, 0, none⟩) 1 1) [(f : Int)] ((listI m).drop k) Af ((listI m).length - k) cf (fun _ => True) rfl rfl (fun _ _ => trivial) HSG.out HRF.out HBA.out HBA.out.size (by simp; omega) ?_; intro v6 w6 ho6 hb6 hg6 hat6; replace ho6 : OwnI w.heap.size w6 v6 ([(f : Int)] ++ (listI m).drop k) := ho6; obtain ⟨A6, c6, rfl, -⟩ := ho6.read; generalize hn6 : List.length ([(f : Int)] ++ (listI m).drop k) = n6 at ho6 ⊢; have HN6 := Aside0.mk hn6; clear hn6; have HO6 := Aside0.mk ho6; have HB6 := Aside0.mk hb6; have HRT6 := Aside0.mk (HRR0.out w6 hb6); clear ho6 hb6 hg6 hat6) | (go_at_call 153; refine (specOwnC _ ((listI m).take k) _ HRT6.out HTL.out).mono ?_; rintro e w7 ⟨u7, rfl, ho, hb⟩; obtain ⟨A7, c7, rfl, -⟩ := ho.read; generalize hn7 : List.length ((listI m).take k) = n7 at ho ⊢; clear hn7; have HO7 := Aside0.mk (ho.lower HB6.out.size); have HB7 := Aside0.mk (HB6.out.trans (hb.mono HB6.out.size)); obtain ⟨A8, c8, e8, -, hr8⟩ := (HO6.out.below hb).read; injection e8 with e81 e82 e83; rw [← e81, ← e82] at hr8; have HR8 := Aside0.mk hr8; clear ho hb hr8 e81 e82 e83) | ((with_reducible refine gate_builtin (b := .append) (xs := #[.tmp 52, .tmp 53]) rfl ?_); refine Kd.R_append_row (Value.int .i64) (0 : Int) (w0 := w) w.heap.size rfl (.tmp 52) (.tmp 53) 24 2 (.int .i64 0) 8 rfl Tryz.underlying24 info64 rfl (by decide) (.slice A7 n7 c7) ((listI m).take k) ([(f : Int)] ++ (listI m).drop k) A6 n6 c6 (fun _ => True) rfl rfl (fun _ _ => trivial) HO7.out HR8.out HB7.out HB7.out.size (by have h1 := HTL.out; have h2 := HLD.out; have h3 := HN6.out; rw [List.length_append, h2] at h3; simp only [List.length_cons, List.length_nil] at h3; omega) ?_; intro v9 w9 ho9 hb9 hg9 hat9; have HO9 := Aside0.mk (show OwnI w.heap.size w9 v9 ((listI m).take k ++ ([(f : Int)] ++ (listI m).drop k)) from ho9); have HB9 := Aside0.mk hb9; clear ho9 hb9 hg9 hat9))
     go_ret
     exact ⟨_, rfl, by rw [← HRESI.out]; simpa using HO9.out, HB9.out⟩
  ·have HTK := HEND.out (.inl (by omega))
   by_cases hlt : k < (listI m).length
   ·obtain ⟨ad2, y, e2, hcell, HY⟩ := ReadI.get (Kd.C_below HR.out HBr.out) hlt
    cases e2
    have hyf := HD.out y (by rw [List.drop_eq_getElem_cons hlt]; have := HY.out; rw [List.getD_eq_getElem?_getD, List.getElem?_eq_getElem hlt] at this; simp at this; rw [this]; simp)
    have hltI : (k : Int) < ((listI m).length : Int) := by omega
    cases hq : (y == (f : Int)) with
    | true =>
     have hkf : (listI m)[k]? = some (f : Int) := by rw [List.getElem?_eq_getElem hlt]; have := HY.out; rw [List.getD_eq_getElem?_getD, List.getElem?_eq_getElem hlt] at this; simp at this; rw [this, eq_of_beq hq]
     obtain ⟨Af, cf, hslf, hrf, hnf⟩ := HRR.out.from_ (k := k + 1) (by omega)
     obtain ⟨adf, rfl⟩ : ∃ adf, Af = some adf := by
      cases Af with
      | none => exact absurd rfl (hnf (by simp))
      | some a => exact ⟨a, rfl⟩
     obtain ⟨hslt, hrt⟩ := HRR.out.to_ hk
     have HSL := Aside0.mk hslt
     have HSF := Aside0.mk hslf
     have HTK1 := Aside0.mk hrt
     have HRF := Aside0.mk hrf
     have HTL : Aside0 (((listI m).take k).length ≤ 1000000) := ⟨by rw [List.length_take]; omega⟩
     have HRESO := Aside0.mk (turn_out hf hkf)
     clear hrf hrt hslf hslt hnf hkf
     go_wp2
     refine wp_region_tail 8 (fun i => match i with | 0 => fun v _ => v = .slice (some ad2) (listI m).length d1 | 1 => fun v _ => v = .int .i64 (k : Nat) | 2 => fun v _ => v = .slice (some ad2) k d1 | 3 => fun v W => OwnI w.heap.size W v ((listI m).take k) | 4 => fun v _ => v = .slice (some ad2) (listI m).length d1 | 5 => fun v _ => v = .int .i64 (k : Nat) | 6 => fun v _ => v = .int .i64 ((k : Nat) + 1) | 7 => fun v _ => v = .slice (some adf) ((listI m).length - (k + 1)) cf | _ => fun _ _ => True)
      [0, 0, 3, 7, 0, 0, 32, 112, 255, 511] hmx (by kernel_rfl) ?st ?steps ?rest
     case st =>
      intro i v w1_ w2_ hb
      match i with
      | 0 | 1 | 2 | 4 | 5 | 6 | 7 => exact id
      | 3 => exact fun h => OwnI.below h hb
      | n + 8 => exact id
     case steps =>
      refine ⟨?_, ?_, ?_, ?_, ?_, ?_, ?_, ?_, trivial⟩
      ·intro s w_ hb hd R hR
       generalize hA : putAll _ 0 s _ = A
       have hR' := hR (.slice (some ad2) (listI m).length d1) _ (Below.refl _ _) rfl
       clear hR hd
       refine opGives_value ?_ hR'
       subst hA
       simp only [dsOf, List.take, List.map_cons, List.map_nil, Option.getD_some, putAll, Act.put, List.setIfInBounds_toArray, List.set_cons_zero, List.set_cons_succ]
       go_simp
      ·intro s w_ hb hd R hR
       generalize hA : putAll _ 0 s _ = A
       have hR' := hR (.int .i64 (k : Nat)) _ (Below.refl _ _) rfl
       clear hR hd
       refine opGives_value ?_ hR'
       subst hA
       simp only [dsOf, List.take, List.map_cons, List.map_nil, Option.getD_some, putAll, Act.put, List.setIfInBounds_toArray, List.set_cons_zero, List.set_cons_succ]
       go_simp
      ·intro s w_ hb hd R hR
       generalize hA : putAll _ 0 s _ = A
       have e0 : s 0 = _ := hd 0 (by kernel_rfl)
       have e1 : s 1 = _ := hd 1 (by kernel_rfl)
       have hR' := hR (.slice (some ad2) k d1) _ (Below.refl _ _) rfl
       clear hR hd
       refine opGives_value (slice_exec Tryz.underlying24 rfl ?_) hR'
       subst hA
       simp only [dsOf, List.take, List.map_cons, List.map_nil, Option.getD_some, putAll, Act.put, List.setIfInBounds_toArray, List.set_cons_zero, List.set_cons_succ]
       show (Instr.slice 24 (s 0) none (some (s 1)) none).run Tryz.prog w_ = _
       rw [e0, e1]
       exact HSL.out w_
      ·intro s w_ hb hd R hR
       generalize hA : putAll _ 0 s _ = A
       have e2 : s 2 = _ := hd 2 (by kernel_rfl)
       refine opGives_call (f := 153) (args := #[.slice (some ad2) k d1]) ?_ ?_
       ·subst hA
        clear hR hd
        simp only [dsOf, List.take, List.map_cons, List.map_nil, Option.getD_some, putAll, Act.put, List.setIfInBounds_toArray, List.set_cons_zero, List.set_cons_succ]
        go_simp
       clear hA A hd
       refine (specOwnC _ ((listI m).take k) _ (ReadI.below HTK1.out hb) HTL.out).mono ?_
       rintro e w3_ ⟨u, rfl, ho, hb3⟩
       exact ⟨_, rfl, hR _ _ hb3 (OwnI.lower ho (HBr.out.trans (hb.mono HBr.out.size)).size)⟩
      ·intro s w_ hb hd R hR
       generalize hA : putAll _ 0 s _ = A
       have hR' := hR (.slice (some ad2) (listI m).length d1) _ (Below.refl _ _) rfl
       clear hR hd
       refine opGives_value ?_ hR'
       subst hA
       simp only [dsOf, List.take, List.map_cons, List.map_nil, Option.getD_some, putAll, Act.put, List.setIfInBounds_toArray, List.set_cons_zero, List.set_cons_succ]
       go_simp
      ·intro s w_ hb hd R hR
       generalize hA : putAll _ 0 s _ = A
       have hR' := hR (.int .i64 (k : Nat)) _ (Below.refl _ _) rfl
       clear hR hd
       refine opGives_value ?_ hR'
       subst hA
       simp only [dsOf, List.take, List.map_cons, List.map_nil, Option.getD_some, putAll, Act.put, List.setIfInBounds_toArray, List.set_cons_zero, List.set_cons_succ]
       go_simp
      ·intro s w_ hb hd R hR
       generalize hA : putAll _ 0 s _ = A
       have e5 : s 5 = _ := hd 5 (by kernel_rfl)
       have hw1 : IntKind.i64.wrap ((k : Int) + 1) = (k : Int) + 1 := IntWalk.i64_in _ (by omega)
       have hR' := hR (.int .i64 ((k : Nat) + 1)) _ (Below.refl _ _) rfl
       clear hR hd
       refine opGives_value ?_ hR'
       subst hA
       simp only [dsOf, List.take, List.map_cons, List.map_nil, Option.getD_some, putAll, Act.put, List.setIfInBounds_toArray, List.set_cons_zero, List.set_cons_succ]
       go_simp
      ·intro s w_ hb hd R hR
       generalize hA : putAll _ 0 s _ = A
       have e4 : s 4 = _ := hd 4 (by kernel_rfl)
       have e6 : s 6 = _ := hd 6 (by kernel_rfl)
       have hR' := hR (.slice (some adf) ((listI m).length - (k + 1)) cf) _ (Below.refl _ _) rfl
       clear hR hd
       refine opGives_value (slice_exec Tryz.underlying24 rfl ?_) hR'
       subst hA
       simp only [dsOf, List.take, List.map_cons, List.map_nil, Option.getD_some, putAll, Act.put, List.setIfInBounds_toArray, List.set_cons_zero, List.set_cons_succ]
       show (Instr.slice 24 (s 4) (some (s 6)) none none).run Tryz.prog w_ = _
       rw [e4, e6]
       exact HSF.out w_
     case rest =>
      intro s9 w9 hb hv
      have o3_ : OwnI w.heap.size w9 (s9 3) ((listI m).take k) := hv 3 (by decide)
      obtain ⟨A3_, d3_, e3_, -⟩ := o3_.read
      rw [e3_] at o3_
      have e7_ : s9 7 = _ := hv 7 (by decide)
      clear hv
      simp only [dsOf, List.take, List.map_cons, List.map_nil, Option.getD_some, putAll, Act.put, List.setIfInBounds_toArray, List.set_cons_zero, List.set_cons_succ]
      have h9 := Below.size hb
      refine .inl (appendRow_gives w.heap.size (.tmp 37) (.tmp 41) rfl (.slice A3_ ((listI m).take k).length d3_) ((listI m).take k) ((listI m).drop (k + 1)) adf _ cf e3_ e7_ (by rw [List.length_drop]) (HRF.out.below hb) o3_ (by have := HBr.out.size; omega) (by have := HTL.out; rw [List.length_drop]; have := hll; rw [List.length_take]; omega) ?_)
      intro v1 w10 ho10 hg10
      simp only [List.drop, Act.put, List.setIfInBounds_toArray, List.set_cons_zero, List.set_cons_succ]
      refine .inl (opGives_value (v := v1) (w' := w10) (by go_simp) ?_)
      simp only [List.drop, Act.put, List.setIfInBounds_toArray, List.set_cons_zero, List.set_cons_succ]
      unfold tailList
      have HO10 := Aside0.mk ho10
      have HB10 := Aside0.mk ((HBr.out.trans (hb.mono HBr.out.size)).grown hg10 (by have := HBr.out.size; omega) (fun j hj => OwnI.base o3_ j hj))
      clear ho10 hg10 hb o3_ e3_ e7_
      go_wp2
      go_ret
      exact ⟨_, rfl, by rw [← HRESO.out]; exact HO10.out, HB10.out⟩
    | false =>
     have HGT : Aside0 (∀ z ∈ (listI m).drop k, (f : Int) < z) := ⟨drop_ne (listI_asc m) hlt HY.out hyf (by simpa using hq)⟩
     obtain ⟨Af, cf, hslf, hrf, -⟩ := HRR.out.from_ hk
     obtain ⟨hslt, hrt⟩ := HRR.out.to_ hk
     have HRT := Aside0.mk hrt
     have HTL : Aside0 (((listI m).take k).length ≤ 1000000) := ⟨by rw [List.length_take]; omega⟩
     have HLD : Aside0 (((listI m).drop k).length = (listI m).length - k) := ⟨List.length_drop⟩
     have HSG := Aside0.mk (OwnI.single (b := w.heap.size) wr (f : Nat) HBr.out.size)
     have HBA : Aside0 (Below w.heap.size w (wr.alloc (.cells #[.int .i64 (f : Nat)] 2))) := ⟨HBr.out.alloc HBr.out.size _⟩
     have HRF : Aside0 (Kd.C (Kd.int .i64) (wr.alloc (.cells #[.int .i64 (f : Nat)] 2)) Af ((listI m).length - k) ((listI m).drop k)) := ⟨by
      have h9 := hrf.below (Below.alloc (Below.refl _ _) (Nat.le_refl _) (.cells #[.int .i64 (f : Nat)] 2))
      obtain ⟨A9, c9, e9, -, hr9⟩ := h9
      rw [List.length_drop] at e9 hr9
      cases e9
      exact hr9⟩
     have HRESI := Aside0.mk (turn_in hf (HTK.out) (HGT.out))
     clear hrf hrt
     go_wp2_with (first | ((with_reducible refine gate_dst (N := 47) rfl ?_); refine slice_told (u := .slice Af ((listI m).length - k) cf) Tryz.underlying24 rfl rfl hslf ?_) | ((with_reducible refine gate_dst (N := 51) rfl ?_); refine slice_told (u := .slice _ k d1) Tryz.underlying24 rfl rfl hslt ?_) | ((with_reducible refine gate_builtin (b := .append) (xs := #[.tmp 44, .tmp 47]) rfl ?_); refine Kd.R_append_row (Value.int .i64) (0 : Int) (w0 := w) w.heap.size rfl (.tmp 44) (.tmp 47) 24 2 (.int .i64 0) 8 rfl Tryz.underlying24 info64 rfl (by decide) (.slice (some ⟨wr.heap.size, 0, none⟩) 1 1) [(f : Int)] ((listI m).drop k) Af ((listI m).length - k) cf (fun _ => True) rfl rfl (fun _ _ => trivial) HSG.out HRF.out HBA.out HBA.out.size (by simp; omega) ?_; intro v6 w6 ho6 hb6 hg6 hat6; replace ho6 : OwnI w.heap.size w6 v6 ([(f : Int)] ++ (listI m).drop k) := ho6; obtain ⟨A6, c6, rfl, -⟩ := ho6.read; generalize hn6 : List.length ([(f : Int)] ++ (listI m).drop k) = n6 at ho6 ⊢; have HN6 := Aside0.mk hn6; clear hn6; have HO6 := Aside0.mk ho6; have HB6 := Aside0.mk hb6; have HRT6 := Aside0.mk (HRR0.out w6 hb6); clear ho6 hb6 hg6 hat6) | (go_at_call 153; refine (specOwnC _ ((listI m).take k) _ HRT6.out HTL.out).mono ?_; rintro e w7 ⟨u7, rfl, ho, hb⟩; obtain ⟨A7, c7, rfl, -⟩ := ho.read; generalize hn7 : List.length ((listI m).take k) = n7 at ho ⊢; clear hn7; have HO7 := Aside0.mk (ho.lower HB6.out.size); have HB7 := Aside0.mk (HB6.out.trans (hb.mono HB6.out.size)); obtain ⟨A8, c8, e8, -, hr8⟩ := (HO6.out.below hb).read; injection e8 with e81 e82 e83; rw [← e81, ← e82] at hr8; have HR8 := Aside0.mk hr8; clear ho hb hr8 e81 e82 e83) | ((with_reducible refine gate_builtin (b := .append) (xs := #[.tmp 52, .tmp 53]) rfl ?_); refine Kd.R_append_row (Value.int .i64) (0 : Int) (w0 := w) w.heap.size rfl (.tmp 52) (.tmp 53) 24 2 (.int .i64 0) 8 rfl Tryz.underlying24 info64 rfl (by decide) (.slice A7 n7 c7) ((listI m).take k) ([(f : Int)] ++ (listI m).drop k) A6 n6 c6 (fun _ => True) rfl rfl (fun _ _ => trivial) HO7.out HR8.out HB7.out HB7.out.size (by have h1 := HTL.out; have h2 := HLD.out; have h3 := HN6.out; rw [List.length_append, h2] at h3; simp only [List.length_cons, List.length_nil] at h3; omega) ?_; intro v9 w9 ho9 hb9 hg9 hat9; have HO9 := Aside0.mk (show OwnI w.heap.size w9 v9 ((listI m).take k ++ ([(f : Int)] ++ (listI m).drop k)) from ho9); have HB9 := Aside0.mk hb9; clear ho9 hb9 hg9 hat9))
     go_ret
     exact ⟨_, rfl, by rw [← HRESI.out]; simpa using HO9.out, HB9.out⟩
   ·have hltI : ¬ (k : Int) < ((listI m).length : Int) := by omega
    have HGT : Aside0 (∀ z ∈ (listI m).drop k, (f : Int) < z) := ⟨fun z hz => by rw [List.drop_eq_nil_of_le (by omega)] at hz; cases hz⟩
    obtain ⟨Af, cf, hslf, hrf, -⟩ := HRR.out.from_ hk
    obtain ⟨hslt, hrt⟩ := HRR.out.to_ hk
    have HRT := Aside0.mk hrt
    have HTL : Aside0 (((listI m).take k).length ≤ 1000000) := ⟨by rw [List.length_take]; omega⟩
    have HLD : Aside0 (((listI m).drop k).length = (listI m).length - k) := ⟨List.length_drop⟩
    have HSG := Aside0.mk (OwnI.single (b := w.heap.size) wr (f : Nat) HBr.out.size)
    have HBA : Aside0 (Below w.heap.size w (wr.alloc (.cells #[.int .i64 (f : Nat)] 2))) := ⟨HBr.out.alloc HBr.out.size _⟩
    have HRF : Aside0 (Kd.C (Kd.int .i64) (wr.alloc (.cells #[.int .i64 (f : Nat)] 2)) Af ((listI m).length - k) ((listI m).drop k)) := ⟨by
     have h9 := hrf.below (Below.alloc (Below.refl _ _) (Nat.le_refl _) (.cells #[.int .i64 (f : Nat)] 2))
     obtain ⟨A9, c9, e9, -, hr9⟩ := h9
     rw [List.length_drop] at e9 hr9
     cases e9
     exact hr9⟩
    have HRESI := Aside0.mk (turn_in hf (HTK.out) (HGT.out))
    clear hrf hrt
    go_wp2_with (first | ((with_reducible refine gate_dst (N := 47) rfl ?_); refine slice_told (u := .slice Af ((listI m).length - k) cf) Tryz.underlying24 rfl rfl hslf ?_) | ((with_reducible refine gate_dst (N := 51) rfl ?_); refine slice_told (u := .slice _ k d1) Tryz.underlying24 rfl rfl hslt ?_) | ((with_reducible refine gate_builtin (b := .append) (xs := #[.tmp 44, .tmp 47]) rfl ?_); refine Kd.R_append_row (Value.int .i64) (0 : Int) (w0 := w) w.heap.size rfl (.tmp 44) (.tmp 47) 24 2 (.int .i64 0) 8 rfl Tryz.underlying24 info64 rfl (by decide) (.slice (some ⟨wr.heap.size, 0, none⟩) 1 1) [(f : Int)] ((listI m).drop k) Af ((listI m).length - k) cf (fun _ => True) rfl rfl (fun _ _ => trivial) HSG.out HRF.out HBA.out HBA.out.size (by simp; omega) ?_; intro v6 w6 ho6 hb6 hg6 hat6; replace ho6 : OwnI w.heap.size w6 v6 ([(f : Int)] ++ (listI m).drop k) := ho6; obtain ⟨A6, c6, rfl, -⟩ := ho6.read; generalize hn6 : List.length ([(f : Int)] ++ (listI m).drop k) = n6 at ho6 ⊢; have HN6 := Aside0.mk hn6; clear hn6; have HO6 := Aside0.mk ho6; have HB6 := Aside0.mk hb6; have HRT6 := Aside0.mk (HRR0.out w6 hb6); clear ho6 hb6 hg6 hat6) | (go_at_call 153; refine (specOwnC _ ((listI m).take k) _ HRT6.out HTL.out).mono ?_; rintro e w7 ⟨u7, rfl, ho, hb⟩; obtain ⟨A7, c7, rfl, -⟩ := ho.read; generalize hn7 : List.length ((listI m).take k) = n7 at ho ⊢; clear hn7; have HO7 := Aside0.mk (ho.lower HB6.out.size); have HB7 := Aside0.mk (HB6.out.trans (hb.mono HB6.out.size)); obtain ⟨A8, c8, e8, -, hr8⟩ := (HO6.out.below hb).read; injection e8 with e81 e82 e83; rw [← e81, ← e82] at hr8; have HR8 := Aside0.mk hr8; clear ho hb hr8 e81 e82 e83) | ((with_reducible refine gate_builtin (b := .append) (xs := #[.tmp 52, .tmp 53]) rfl ?_); refine Kd.R_append_row (Value.int .i64) (0 : Int) (w0 := w) w.heap.size rfl (.tmp 52) (.tmp 53) 24 2 (.int .i64 0) 8 rfl Tryz.underlying24 info64 rfl (by decide) (.slice A7 n7 c7) ((listI m).take k) ([(f : Int)] ++ (listI m).drop k) A6 n6 c6 (fun _ => True) rfl rfl (fun _ _ => trivial) HO7.out HR8.out HB7.out HB7.out.size (by have h1 := HTL.out; have h2 := HLD.out; have h3 := HN6.out; rw [List.length_append, h2] at h3; simp only [List.length_cons, List.length_nil] at h3; omega) ?_; intro v9 w9 ho9 hb9 hg9 hat9; have HO9 := Aside0.mk (show OwnI w.heap.size w9 v9 ((listI m).take k ++ ([(f : Int)] ++ (listI m).drop k)) from ho9); have HB9 := Aside0.mk hb9; clear ho9 hb9 hg9 hat9))
    go_ret
    exact ⟨_, rfl, by rw [← HRESI.out]; simpa using HO9.out, HB9.out⟩
theorem infoBool : (Tryz.prog.info? 4).map (fun i => (i.zero, i.size, i.bytes)) = some (some (.bool false), 1, 1) := by kernel_rfl
/-- a slice of bools that lies in a block of its own, from block b on -/
def OwnB (b : Nat) (w : World) (v : Value) (xs : List Bool) : Prop := Kd.R Kd.bool 4 w b (fun _ => True) v xs
theorem OwnB.below {b : Nat} {w w' : World} {v : Value} {xs : List Bool} (h : OwnB b w v xs) (hb : Below w.heap.size w w') : OwnB b w' v xs := Kd.R_below h hb
theorem OwnB.lower {b b' : Nat} {w : World} {v : Value} {xs : List Bool} (h : OwnB b w v xs) (hb : b' ≤ b) : OwnB b' w v xs := Kd.R_lower h hb
theorem OwnB.base {b : Nat} {w : World} {v : Value} {xs : List Bool} (h : OwnB b w v xs) : ∀ k, v.ownBlock = some k → b ≤ k := by
 obtain ⟨inner, ho⟩ := Kd.R_own h
 exact fun k hk => own_base ho k hk
theorem OwnB.lt {b : Nat} {w : World} {v : Value} {xs : List Bool} (h : OwnB b w v xs) : ∀ k, v.ownBlock = some k → k < w.heap.size := by
 obtain ⟨inner, ho⟩ := Kd.R_own h
 exact fun k hk => own_lt ho k hk
theorem OwnB.grown {b : Nat} {w w' : World} {v : Value} {xs : List Bool} (h : OwnB b w v xs) {row : Option Nat} (hg : w.grownBy w' row) (hn : ∀ k, v.ownBlock = some k → some k ≠ row) : OwnB b w' v xs := by
 obtain ⟨h0, inner, ho, hr⟩ := h
 exact ⟨h0, inner, own_move ho (fun k hk => hg.block k (own_lt ho k hk) (hn k hk)), hr⟩
/-- its form -/
theorem OwnB.form {b : Nat} {w : World} {v : Value} {xs : List Bool} (h : OwnB b w v xs) (hn : 0 < xs.length) : ∃ g cap, v = .slice (some ⟨g, 0, none⟩) xs.length cap ∧ b ≤ g ∧ g < w.heap.size := by
 obtain ⟨g, cap, e, h1, h2, -⟩ := Kd.R_form h hn
 exact ⟨g, cap, e, h1, h2⟩
theorem OwnB.cell {b g n cap : Nat} {w : World} {xs : List Bool} (h : OwnB b w (.slice (some ⟨g, 0, none⟩) n cap) xs) {i : Nat} (hi : i < n) : w.cell? ⟨g, i, none⟩ = some (.bool (xs.getD i false)) ∧ w.frozen? ⟨g, i, none⟩ = false := by
 have hc := Kd.R_celln false h (i : Int) (by omega) (by omega)
 simp only [Int.toNat_natCast] at hc
 exact ⟨by simpa [rdOf] using hc.1, hc.2⟩
theorem run_makeB (n : Nat) (hn : n ≤ 1000000) (W : World) : (Instr.makeSlice 181 (.int .i64 (n : Int)) (.int .i64 (n : Int))).run Tryz.prog W = .ok (.slice (some ⟨W.heap.size, 0, none⟩) n n) (W.alloc (.cells (madeCells #[.bool false] n) 4)) :=
 run_make_row' 181 4 (.bool false) 1 Tryz.underlying181 infoBool rfl .i64 .i64 n (by omega) (by omega) W
theorem OwnB.made {b : Nat} (W : World) (n : Nat) (hn : n ≤ 1000000) (hb : b ≤ W.heap.size) : OwnB b (W.alloc (.cells (madeCells #[.bool false] n) 4)) (.slice (some ⟨W.heap.size, 0, none⟩) n n) (List.replicate n false) :=
 Kd.R_of_own (own_made_of' (enc := Value.bool) (d := false) W b 4 n hb (by omega)) (fun _ _ => trivial)
section
variable {P : Program} {ops : Array Oper} {rest : List Oper} {o : Oper} {a : Act} {Q : Exit → Act → World → Prop}
/-- out[i] = x -/
theorem store_bool {w0 W : World} {b g n cap : Nat} {xs : List Bool} (hgd : o.guard = none) {p : Tmp} {v : Operand} (ho : o.op = .store 4 (.tmp p) v) (hN : o.dst = none)
  (i : Nat) (x : Bool) (HO : OwnB b W (.slice (some ⟨g, 0, none⟩) n cap) xs) (hi : i < n) (hp : a.eval (.tmp p) = .pointer (some ⟨g, i, none⟩)) (hv : a.eval v = .bool x)
  (h : ∀ w', OwnB b w' (.slice (some ⟨g, 0, none⟩) n cap) (xs.set i x) → W.grownBy w' (some g) → Below b W w' → wpList Tryz.prog ops Q rest a w') : wpList Tryz.prog ops Q (o :: rest) a W := by
 have hc := OwnB.cell HO hi
 have hp' := Kd.R_putg HO (i : Int) x
 simp only [Int.toNat_natCast] at hp'
 refine store_event (w1 := W.setCell ⟨g, i, none⟩ (.bool x)) hgd ho hN ?_ (fun w' e => h w' ?_ ?_ ?_)
 ·obtain ⟨h1, h2⟩ := hc
  generalize a.eval = ρ at hp hv ⊢
  simp [execOp, ho, hp, hv, go_sem, h1, h2]
 ·rw [e]; exact hp'.1
 ·rw [e]; exact hp'.2
 ·rw [e]; exact Below.setCell (Below.refl _ _) (OwnB.base HO g (by simp [Value.ownBlock])) _
end
end Go.Proofs.YtomofijniefelaaGreat.H
