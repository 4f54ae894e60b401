/- What is known of a world is carried to the next one: the words of the printed laws. ImageComplex of the reference. What a complex is, of the reference. The code of a complex. Maps between complexes: plain words. Maps between complexes: isMap, mapCode, IsMap. slices.IndexFunc, slices.ContainsFunc and areAll at [][]int64. The code for maps; IsMap. -/
import Derived.Test.YtomofijniefelaaGreatKFnMaps1
import Derived.Test.YtomofijniefelaaGreatKFnMaps2
import Derived.Test.YtomofijniefelaaGreatKFnMaps3

namespace Go.Proofs.YtomofijniefelaaGreat.H
open Go.RowKit Go.Proofs.YtomofijniefelaaGreatW.PrintWords Go.Proofs.YtomofijniefelaaGreatW.PrintLast
set_option linter.unusedVariables false
set_option linter.unusedSimpArgs false
/-- where a walk stands -/
structure Stg (n : Nat) : Prop where
theorem stg_next (k k' : Nat) (h : Stg k) : Stg k' := ⟨⟩
theorem new_cell (W : World) (cs : Array Value) (t : TypeId) (i : Nat) (v : Value) (h : cs[i]? = some v) : (W.alloc (.cells cs t)).cell? ⟨W.heap.size, i, none⟩ = some v := by
 rw [blk_cell (blk_new W _) i, h]
theorem below_unalloc {W W' : World} {o : Obj} (h : Below (W.alloc o).heap.size (W.alloc o) W') : Below W.heap.size W W' :=
 (Below.alloc (Below.refl _ _) (Nat.le_refl _) o).trans (h.mono (by simp))
theorem Aside0.belowC {w w1 w' : World} (h : Aside0 (Below w.heap.size w w1)) (hb : Below w1.heap.size w1 w') : Aside0 (Below w.heap.size w w') := ⟨h.out.trans (hb.mono h.out.size)⟩
theorem made_hit {ss : List Int} {t : Nat} {k z : Nat} (ht : t < ss.length) (hz : ss.getD t 0 = z) (h : k &&& z = k) : madeAt ss k = true := by
 unfold madeAt
 rw [List.any_eq_true]
 exact ⟨z, mem_at ht hz, by simp [h]⟩
theorem made_miss {ss : List Int} {k : Nat} (h : ∀ t, t < ss.length → ∀ z : Nat, ss.getD t 0 = z → k &&& z ≠ k) (hn : ∀ s ∈ ss, ∃ z : Nat, s = z ∧ z < 64) : madeAt ss k = false := by
 unfold madeAt
 rw [List.any_eq_false]
 intro s hs
 obtain ⟨z, rfl, -⟩ := hn s hs
 obtain ⟨t, ht, e⟩ := List.getElem_of_mem hs
 have := h t ht z (by rw [List.getD_eq_getElem?_getD, List.getElem?_eq_getElem ht]; simpa using e)
 simpa using this
set_option maxRecDepth 100000 in
set_option maxHeartbeats 2000000 in
theorem specMade (n : Nat) (hn : n ≤ 6) (v : Value) (ss : List Int) (w : World) (hv : ReadI w v ss) (hss : ∀ s ∈ ss, ∃ z : Nat, s = z ∧ z < 64) :
  Calls Tryz.prog 127 #[.int .i64 n, v] w fun e w' => ∃ u, e = .returned (.agg #[.int .i64 n, u]) ∧ OwnI w.heap.size w' u (thL (madeAt ss) (2 ^ n)) ∧ Below w.heap.size w w' := by
 have hb64 : 1 ≤ 2 ^ n ∧ 2 ^ n ≤ 64 := by
  rcases (by omega : n = 0 ∨ n = 1 ∨ n = 2 ∨ n = 3 ∨ n = 4 ∨ n = 5 ∨ n = 6) with rfl | rfl | rfl | rfl | rfl | rfl | rfl <;> decide
 obtain ⟨N, hN⟩ : ∃ N : Nat, N = 2 ^ n := ⟨_, rfl⟩
 have HALL : Aside0 (∀ W : World, Calls Tryz.prog 268 #[.int .i64 n] W fun e w' => e = .returned (.int .i64 ((N : Int) - 1)) ∧ Below W.heap.size W w') := ⟨fun W => by rw [hN]; exact specAll n hn W⟩
 rw [← hN] at hb64 ⊢
 clear hN
 have hlen := hv.len
 obtain ⟨A1, d1, rfl, hcc, hr⟩ := hv
 have HR := Aside0.mk hr
 have HSS := Aside0.mk hss
 obtain ⟨wb, hwb⟩ : ∃ wb, wb = (w.alloc (.cells #[.int .i64 0, .slice none 0 0] 26)).alloc (.cells #[] 2) := ⟨_, rfl⟩
 obtain ⟨w0, hw0⟩ : ∃ w0, w0 = wb.alloc (.cells #[.int .i64 n, .slice (some ⟨w.heap.size + 1, 0, none⟩) 0 0] 26) := ⟨_, rfl⟩
 have hsb : wb.heap.size = w.heap.size + 1 + 1 := by rw [hwb]; simp
 have hbb : Below w.heap.size w wb := by rw [hwb]; exact ((Below.refl _ w).alloc (Nat.le_refl _) _).alloc (by simp) _
 have hb0 : Below wb.heap.size wb w0 := by rw [hw0]; exact Below.alloc (Below.refl _ _) (Nat.le_refl _) _
 have hB0 : Below w.heap.size w w0 := hbb.trans (hb0.mono hbb.size)
 have hk1 : w0.heap[w.heap.size]? = some (.cells #[.int .i64 0, .slice none 0 0] 26) := by rw [hw0]; refine blk_alloc ?_ _; rw [hwb]; exact blk_alloc (blk_new w _) _
 have hk2 : w0.heap[w.heap.size + 1 + 1]? = some (.cells #[.int .i64 n, .slice (some ⟨w.heap.size + 1, 0, none⟩) 0 0] 26) := by rw [hw0, ← hsb]; exact blk_new _ _
 have ho0 : OwnI (w.heap.size + 1) w0 (.slice (some ⟨w.heap.size + 1, 0, none⟩) 0 0) [] := by
  have h1 := (OwnI.empty (b := w.heap.size + 1) (w.alloc (.cells #[.int .i64 0, .slice none 0 0] 26)) (by simp))
  rw [← hwb] at h1
  rw [World.size_alloc] at h1
  exact h1.below hb0
 have HB0 := Aside0.mk hB0
 have HK1 := Aside0.mk hk1
 have HK2 := Aside0.mk hk2
 have HO0 := Aside0.mk ho0
 clear hB0 hk1 hk2 ho0 hb0 hbb hsb hcc hr hss
 subst hwb
 go_enter Tryz.func127, Tryz.ntmps127
 go_wp2
 rw [← hw0]
 clear hw0
 go_loopw [6] (fun s wr => ∃ k : Nat, s = .int .i64 k ∧ 1 ≤ k ∧ k ≤ N ∧ (∃ v, Aside0 (wr.heap[w.heap.size + 1 + 1]? = some (Obj.cells #[.int .i64 n, v] 26)) ∧ Aside0 (OwnI (w.heap.size + 1) wr v (thL (madeAt ss) k)) ∧ Aside0 (∀ j, v.ownBlock = some j → j ≠ w.heap.size + 1 + 1)) ∧ Aside0 (wr.heap[w.heap.size]? = some (Obj.cells #[.int .i64 0, .slice none 0 0] 26)) ∧ Aside0 (Below w.heap.size w wr)) (fun s _ => N - (intOf s).toNat)
 case atStart =>
  refine ⟨1, rfl, by omega, hb64.1, ⟨_, HK2, ⟨by rw [thL_one]; exact HO0.out⟩, ⟨fun j hj e => ?_⟩⟩, HK1, HB0⟩
  have : w.heap.size + 1 = j := by simpa [Value.ownBlock] using hj
  omega
 case round =>
  obtain ⟨k, rfl, hk1, hkN, ⟨v, HKb, HO, HNE⟩, HKa, HB⟩ := hrel
  obtain ⟨Av, cv, rfl, -⟩ := HO.out.read
  by_cases hlt : k < N
  ·have hle : (k : Int) ≤ (N : Int) - 1 := by omega
   have hll := thL_len (madeAt ss) k
   go_wp2_with (first | (go_at_call 268; refine (HALL.out _).mono ?_; rintro e w5 ⟨rfl, hb⟩; have HKb5 := Aside0.mk (blk_below HKb.out hb); have HKa5 := Aside0.mk (blk_below HKa.out hb); have HO5 := Aside0.mk (OwnI.below HO.out hb); have HB5 := Aside0.mk (HB.out.trans (hb.mono HB.out.size)); clear hb HKb HKa HO HB))
   go_loopw [7] (fun s wr => ∃ j : Nat, s = .int .i64 j ∧ j ≤ ss.length ∧ Aside0 (∀ t, t < j → ∀ z : Nat, ss.getD t 0 = z → k &&& z ≠ k) ∧ wr = w5) (fun s _ => ss.length - (intOf s).toNat)
   case atStart => exact ⟨0, rfl, Nat.zero_le _, ⟨fun t h => absurd h (Nat.not_lt_zero _)⟩, rfl⟩
   case round =>
    obtain ⟨j, rfl, hj, HJ, rfl⟩ := hrel
    obtain ⟨w6, hw6⟩ : ∃ w6, w6 = wr := ⟨_, rfl⟩
    subst hw6
    by_cases hlt2 : j < ss.length
    ·obtain ⟨ad, y, rfl, hcell, HY⟩ := ReadI.get (Kd.C_below HR.out HB5.out) hlt2
     obtain ⟨z, rfl, hz⟩ := HSS.out y (mem_at hlt2 HY.out)
     have hand := and_i64 k z (by omega) (by omega)
     cases hh : (((k &&& z : Nat) : Int) == (k : Int)) with
     | true =>
      have HH := Aside0.mk (thL_hit hk1 (made_hit hlt2 HY.out (by have := beq_iff_eq.1 hh; omega)))
      have c51 := blk_cell HKb5.out 1
      go_wp2_with (first | (at_builtin; refine app_own (w0 := w6) (w.heap.size + 1) rfl (.tmp 32) (.tmp 34) rfl _ (thL (madeAt ss) k) k rfl rfl HO5.out (Below.refl _ _) (by have := blk_lt HKb5.out; omega) ?hl ?_; (case hl => omega); intro v1 w7 ho hb2 hg hat; have hne : some (w.heap.size + 1 + 1) ≠ (Value.slice Av (thL (madeAt ss) k).length cv).ownBlock := (fun e => HNE.out _ e.symm rfl); have hne2 : some w.heap.size ≠ (Value.slice Av (thL (madeAt ss) k).length cv).ownBlock := (fun e => by have := HO5.out.base _ e.symm; omega); have HKb6 := Aside0.mk ((hg.block _ (blk_lt HKb5.out) hne).trans HKb5.out); have HKa6 := Aside0.mk ((hg.block _ (blk_lt HKa5.out) hne2).trans HKa5.out); have HO6 := Aside0.mk ho; have HB6 := Aside0.mk (HB5.out.trans (hb2.mono (by omega))); have HNE6 : Aside0 (∀ i, v1.ownBlock = some i → i ≠ w.heap.size + 1 + 1) := ⟨(fun i hi => by rcases hat with hat | ⟨b, hb, hlb⟩; (rw [hat] at hi; exact HNE.out i hi); (rw [hb] at hi; have := blk_lt HKb5.out; cases hi; omega))⟩; have c61 := blk_cell HKb6.out 1; have f61 := blk_frozen HKb6.out 1; obtain ⟨A6, d6, rfl, -⟩ := ho.read; clear ho hb2 hg hat hne hne2))
      go_roundw
      case rel =>
       have h6 := HO6.out
       have h7 := HNE6.out
       rw [List.length_append, List.length_singleton] at h6 h7
       refine ⟨k + 1, by go_num, by omega, by omega, ⟨_, ⟨blk_put HKb6.out 1 _ rfl⟩, ⟨?_⟩, ⟨h7⟩⟩, ⟨blk_far HKa6.out (by simp <;> omega) _⟩, ⟨HB6.out.setCell (by simp; omega) _⟩⟩
       rw [HH.out]
       exact h6.grown (set_grown' _ (w.heap.size + 1 + 1) _ _) (fun i hi e => by have := h7 i hi; cases e; omega)
      case measure => simp [intOf]; omega
     | false =>
      have hh' : k &&& z ≠ k := fun e => by rw [e] at hh; simp at hh
      go_wp2
      go_roundw
      case rel =>
       refine ⟨j + 1, by go_num, by omega, ⟨fun t ht z' hz' => ?_⟩, trivial⟩
       rcases Nat.lt_succ_iff_lt_or_eq.1 ht with h2 | rfl
       ·exact HJ.out t h2 z' hz'
       ·have e := HY.out.symm.trans hz'
        have : z = z' := by omega
        rw [← this]; exact hh'
      case measure => simp [intOf]; omega
    ·have HH := Aside0.mk (thL_miss (made_miss (k := k) (fun t ht => HJ.out t (by omega)) HSS.out))
     go_wp2
     go_roundw
     case rel => exact ⟨k + 1, by go_num, by omega, by omega, ⟨_, HKb5, ⟨by rw [HH.out]; exact HO5.out⟩, HNE⟩, HKa5, HB5⟩
     case measure => simp [intOf]; omega
  ·have e : k = N := by omega
   have HE := Aside0.mk e
   have hle : ¬ (k : Int) ≤ (N : Int) - 1 := by omega
   clear e
   go_wp2_with (first | (go_at_call 268; refine (HALL.out _).mono ?_; rintro e w5 ⟨rfl, hb⟩; have HKb5 := Aside0.mk (blk_below HKb.out hb); have HKa5 := Aside0.mk (blk_below HKa.out hb); have HO5 := Aside0.mk (OwnI.below HO.out hb); have HB5 := Aside0.mk (HB.out.trans (hb.mono HB.out.size)); have c10 : w5.cell? ⟨w.heap.size + 1 + 1, 0, none⟩ = some (.int .i64 n) := blk_cell HKb5.out 0; have c11 : w5.cell? ⟨w.heap.size + 1 + 1, 1, none⟩ = some (.slice Av (thL (madeAt ss) k).length cv) := blk_cell HKb5.out 1; have c00 : w5.cell? ⟨w.heap.size, 0, none⟩ = some (.int .i64 0) := blk_cell HKa5.out 0; have c01 : w5.cell? ⟨w.heap.size, 1, none⟩ = some (.slice none 0 0) := blk_cell HKa5.out 1; have f00 : w5.frozen? ⟨w.heap.size, 0, none⟩ = false := blk_frozen HKa5.out 0; have f01 : w5.frozen? ⟨w.heap.size, 1, none⟩ = false := blk_frozen HKa5.out 1; clear hb HKb HKa HO HB))
   refine bodyPost_ret (results_cell_row rfl _ _ w.heap.size 26 #[.int .i64 n, .slice Av (thL (madeAt ss) k).length cv] (0, 0) _ rfl (by refine blk_put (cs := #[.int .i64 n, .slice none 0 0]) ?_ 1 _ rfl; refine blk_put (cs := #[.int .i64 0, .slice none 0 0]) ?_ 0 _ rfl; exact HKa5.out) Tryz.underlying26 rfl (by kernel_rfl)) rfl ?_
   refine ⟨_, rfl, ?_, (HB5.out.setCell (by simp) _).setCell (by simp) _⟩
   have ho := HO5.out
   have hbs := ho.base
   have ho := ho.lower (b' := w.heap.size) (by omega)
   rw [← HE.out]
   exact (ho.grown (set_grown' _ w.heap.size _ _) (fun j hj e => by have := hbs _ hj; cases e; omega)).grown (set_grown' _ w.heap.size _ _) (fun j hj e => by have := hbs _ hj; cases e; omega)
theorem all_false {l : List Int} {p : Int → Bool} {i : Nat} {y : Int} (hi : i < l.length) (hy : l.getD i 0 = y) (h : p y = false) : l.all p = false := by
 rw [List.all_eq_false]
 exact ⟨y, mem_at hi hy, by rw [h]; decide⟩
theorem all_true {l : List Int} {p : Int → Bool} (h : ∀ i, i < l.length → p (l.getD i 0) = true) : l.all p = true := by
 rw [List.all_eq_true]
 intro x hx
 obtain ⟨j, hj, rfl⟩ := List.getElem_of_mem hx
 have := h j hj
 simpa [List.getD_eq_getElem?_getD, hj] using this
set_option maxHeartbeats 4000000 in
theorem specIs (a : Int) (u : Value) (l : List Int) (w : World) (hr : ReadI w u l) :
  Calls Tryz.prog 155 #[cx a u] w fun e w' => e = .returned (.bool (cxOk a l)) ∧ Below w.heap.size w w' := by
 have hba : Below w.heap.size w (w.alloc (.cells #[.int .i64 a, u] 26)) := Below.alloc (Below.refl _ _) (Nat.le_refl _) _
 have HB := Aside0.mk hba
 have HR0 := Aside0.mk (hr.below hba)
 obtain ⟨A, c, rfl, hc, hr⟩ := id hr
 have HR := Aside0.mk (Kd.C_below hr hba)
 have hlen : l.length ≤ 9223372036854775807 := hr.2.1
 clear hr hba
 obtain ⟨w1, hw1⟩ : ∃ w1, w1 = w.alloc (Obj.cells #[.int .i64 a, Value.slice A l.length c] 26) := ⟨_, rfl⟩
 have hc0 : w1.cell? ⟨w.heap.size, 0, none⟩ = some (.int .i64 a) := by rw [hw1]; simp
 have hc1 : w1.cell? ⟨w.heap.size, 1, none⟩ = some (Value.slice A l.length c) := by rw [hw1]; simp
 rw [← hw1] at HB HR HR0
 by_cases ha : 1 ≤ a ∧ a ≤ 6
 ·obtain ⟨n, rfl⟩ : ∃ n : Nat, a = n := ⟨a.toNat, by omega⟩
  have hs : (decide ((1 : Int) ≤ n) && decide ((n : Int) ≤ 6)) = true := by simp; omega
  have hn : 1 ≤ n ∧ n ≤ 6 := by omega
  have HA : Aside0 (cxOk n l = (cxUp n l && l.all (belowIn l))) := ⟨by unfold cxOk; rw [hs]; rfl⟩
  obtain ⟨N, hN⟩ : ∃ N : Nat, N = 2 ^ n := ⟨_, rfl⟩
  have HN := Aside0.mk hN
  clear hN ha
  go_enter Tryz.func155, Tryz.ntmps155
  go_wp2_with (first | (rw [← hw1]; clear hw1; go_at_call 148; refine (specIn _ _ _ _).mono ?_; rintro e w2 ⟨rfl, hb⟩; rw [hs]; have hc0 := pw_cell_below hb hc0; have hc1 := pw_cell_below hb hc1; have HB2 := Aside0.mk hb; clear hb))
  go_loopw [3] (fun v wr => ∃ i : Nat, v = .int .i64 i ∧ i ≤ l.length ∧ Aside0 (∀ k, k < i → upAt n l k = true) ∧ Below w2.heap.size w2 wr) (fun v _ => l.length - (intOf v).toNat)
  case atStart => exact ⟨0, rfl, Nat.zero_le _, ⟨fun j hj => absurd hj (Nat.not_lt_zero _)⟩, Below.refl _ _⟩
  case round =>
   obtain ⟨i, rfl, hi, HU, hb⟩ := hrel
   have hc0r := pw_cell_below hb hc0
   have hc1r := pw_cell_below hb hc1
   have HBr := Aside0.mk (HB2.out.trans (hb.mono HB2.out.size))
   have HB3 := Aside0.mk hb
   clear hb hc0 hc1
   by_cases hlt : i < l.length
   ·obtain ⟨ad, y, rfl, hcell, HY⟩ := ReadI.get (Kd.C_below HR.out HBr.out) hlt
    have hx0 : ∀ x : Ext wr, x.1.cell? ⟨w.heap.size, 0, none⟩ = some (.int .i64 n) := fun x => Ext.cell hc0r x
    have hx1 : ∀ x : Ext wr, x.1.cell? ⟨w.heap.size, 1, none⟩ = some (Value.slice (some ad) l.length c) := fun x => Ext.cell hc1r x
    have hx2 : ∀ x : Ext wr, x.1.cell? (ad.add i) = some (.int .i64 y) := fun x => Ext.cell hcell x
    clear hcell
    have HSA : Aside0 (∀ w : World, Calls Tryz.prog 268 #[.int .i64 n] w fun e w' => e = .returned (.int .i64 ((N : Int) - 1)) ∧ Below w.heap.size w w') := ⟨fun w => by rw [HN.out]; exact specAll n hn.2 w⟩
    cases hwi : (decide ((1 : Int) ≤ y) && decide (y ≤ (N : Int) - 1)) with
    | false =>
     have HSI : Aside0 (∀ w : World, Calls Tryz.prog 148 #[.int .i64 y, .int .i64 1, .int .i64 ((N : Int) - 1)] w fun e w' => e = .returned (.bool false) ∧ Below w.heap.size w w') := ⟨fun w => by rw [← hwi]; exact specIn _ _ _ w⟩
     have HWI := Aside0.mk hwi
     clear hwi
     go_wp2
     refine wp_region_ext (by kernel_rfl) (by kernel_rfl) ?_
     repeat (go_big_quiet_step ((first | (go_at_call 268; exact Calls.ext_of (HSA.out _)) | (go_at_call 148; exact Calls.ext_of (HSI.out _)))))
     refine wpQuiet_nil ?_
     rintro _ ⟨x, rfl⟩
     have hbx := x.2
     go_wp2
     go_ret
     exact ⟨by rw [HA.out, up_false hlt (by unfold upAt; rw [HY.out, ← HN.out, HWI.out]; rfl)]; rfl, by have := HB.out; have := HBr.out; (repeat (first | (with_reducible exact Below.refl _ _) | (with_reducible assumption) | (with_reducible refine below_step ?_ (by assumption)) | (with_reducible apply below_alloc) | (with_reducible apply below_drewN)))⟩
    | true =>
     have HSI : Aside0 (∀ w : World, Calls Tryz.prog 148 #[.int .i64 y, .int .i64 1, .int .i64 ((N : Int) - 1)] w fun e w' => e = .returned (.bool true) ∧ Below w.heap.size w w') := ⟨fun w => by rw [← hwi]; exact specIn _ _ _ w⟩
     have HWI := Aside0.mk hwi
     clear hwi
     by_cases h0 : i = 0
     ·have h0' : decide (0 < i) = false := decide_eq_false (by omega)
      clear h0
      have h0'' : ¬ 0 < i := by simpa using h0'
      have H0 := Aside0.mk h0''
      clear h0''
      go_wp2
      refine wp_region_ext (by kernel_rfl) (by kernel_rfl) ?_
      repeat (go_big_quiet_step ((first | (go_at_call 268; exact Calls.ext_of (HSA.out _)) | (go_at_call 148; exact Calls.ext_of (HSI.out _)))))
      refine wpQuiet_nil ?_
      rintro _ ⟨x, rfl⟩
      have hbx := x.2
      go_wp2
      go_roundw
      case rel =>
       refine ⟨i + 1, by go_num, by omega, ⟨fun k hk => ?_⟩, by have := HB3.out; (repeat (first | (with_reducible exact Below.refl _ _) | (with_reducible assumption) | (with_reducible refine below_step ?_ (by assumption)) | (with_reducible apply below_alloc) | (with_reducible apply below_drewN)))⟩
       rcases Nat.lt_succ_iff_lt_or_eq.1 hk with h | rfl
       ·exact HU.out k h
       ·unfold upAt; rw [HY.out, ← HN.out, HWI.out, decide_eq_false H0.out]; rfl
      case measure => simp [intOf]; omega
     ·have h0' : decide (0 < i) = true := decide_eq_true (by omega)
      have h1i : (0 : Int) ≤ (i : Int) - 1 := by omega
      have h2i : (i : Int) - 1 < l.length := by omega
      have h3i : ((i : Int) - 1).toNat = i - 1 := by omega
      obtain ⟨ad', y', e2, hcell2, HY2⟩ := ReadI.get (Kd.C_below HR.out HBr.out) (i := i - 1) (by omega)
      cases e2
      have hx3 : ∀ x : Ext wr, x.1.cell? (ad.add (i - 1)) = some (.int .i64 y') := fun x => Ext.cell hcell2 x
      clear hcell2
      by_cases hle : y ≤ y'
      ·have HLE := Aside0.mk (decide_eq_true hle)
       go_wp2
       refine wp_region_ext (by kernel_rfl) (by kernel_rfl) ?_
       repeat (go_big_quiet_step ((first | (go_at_call 268; exact Calls.ext_of (HSA.out _)) | (go_at_call 148; exact Calls.ext_of (HSI.out _)))))
       refine wpQuiet_nil ?_
       rintro _ ⟨x, rfl⟩
       have hbx := x.2
       go_wp2
       go_ret
       exact ⟨by rw [HA.out, up_false hlt (by unfold upAt; rw [HY.out, HY2.out, ← HN.out, HWI.out, HLE.out, decide_eq_true (by omega)]; rfl)]; rfl, by have := HB.out; have := HBr.out; (repeat (first | (with_reducible exact Below.refl _ _) | (with_reducible assumption) | (with_reducible refine below_step ?_ (by assumption)) | (with_reducible apply below_alloc) | (with_reducible apply below_drewN)))⟩
      ·have HLE := Aside0.mk (decide_eq_false hle)
       go_wp2
       refine wp_region_ext (by kernel_rfl) (by kernel_rfl) ?_
       repeat (go_big_quiet_step ((first | (go_at_call 268; exact Calls.ext_of (HSA.out _)) | (go_at_call 148; exact Calls.ext_of (HSI.out _)))))
       refine wpQuiet_nil ?_
       rintro _ ⟨x, rfl⟩
       have hbx := x.2
       go_wp2
       go_roundw
       case rel =>
        refine ⟨i + 1, by go_num, by omega, ⟨fun k hk => ?_⟩, by have := HB3.out; (repeat (first | (with_reducible exact Below.refl _ _) | (with_reducible assumption) | (with_reducible refine below_step ?_ (by assumption)) | (with_reducible apply below_alloc) | (with_reducible apply below_drewN)))⟩
        rcases Nat.lt_succ_iff_lt_or_eq.1 hk with h | rfl
        ·exact HU.out k h
        ·unfold upAt; rw [HY.out, HY2.out, ← HN.out, HWI.out, HLE.out, Bool.and_false]; rfl
       case measure => simp [intOf]; omega
   ·have hu : cxUp n l = true := up_true (fun k hk => HU.out k (by omega))
    have HUU := Aside0.mk hu
    have HBD : Aside0 (∀ x ∈ l, 1 ≤ x ∧ x ≤ 63) := ⟨fun x hx => by have := cxUp_bd hu x hx; have := pw6 hn.2; omega⟩
    clear hu
    go_wp2
    go_loopw [4] (fun v wr2 => ∃ i : Nat, v = .int .i64 i ∧ i ≤ l.length ∧ Aside0 (∀ k, k < i → belowIn l (l.getD k 0) = true) ∧ Below wr.heap.size wr wr2) (fun v _ => l.length - (intOf v).toNat)
    case atStart => exact ⟨0, rfl, Nat.zero_le _, ⟨fun j hj => absurd hj (Nat.not_lt_zero _)⟩, Below.refl _ _⟩
    case round =>
     obtain ⟨i2, rfl, hi2, HI2, hb2⟩ := hrel
     have hc1s := pw_cell_below hb2 hc1r
     have hc0s := pw_cell_below hb2 hc0r
     have HBs := Aside0.mk (HBr.out.trans (hb2.mono HBr.out.size))
     have HBt := Aside0.mk hb2
     clear hb2
     by_cases hlt2 : i2 < l.length
     ·obtain ⟨ad, y, rfl, hcell, HY⟩ := ReadI.get (Kd.C_below HR.out HBs.out) hlt2
      have hyb := HBD.out y (mem_at hlt2 HY.out)
      obtain ⟨f, rfl⟩ : ∃ f : Nat, y = f := ⟨y.toNat, by omega⟩
      have hf : f ≤ 63 := by omega
      clear hyb
      go_wp2_with (first | (go_at_call 285; refine (specBelow f hf _).mono ?_; rintro e w3 ⟨v3, rfl, ho, hb⟩; obtain ⟨A3, c3, rfl, hc3, hr3⟩ := ho.read; have hc1u := pw_cell_below hb hc1s; have hc0u := pw_cell_below hb hc0s; have HR3 := Aside0.mk hr3; have HB3a := Aside0.mk hb; have hl3 : (below f).length ≤ 9223372036854775807 := hr3.2.1; clear ho hb hr3))
      go_loopw [6] (fun v wr3 => ∃ j : Nat, v = .int .i64 j ∧ j ≤ (below f).length ∧ Aside0 (∀ k, k < j → decide ((below f).getD k 0 ∈ l) = true) ∧ Below w3.heap.size w3 wr3) (fun v _ => (below f).length - (intOf v).toNat)
      case atStart => exact ⟨0, rfl, Nat.zero_le _, ⟨fun j hj => absurd hj (Nat.not_lt_zero _)⟩, Below.refl _ _⟩
      case round =>
       obtain ⟨j, rfl, hj, HJ, hb5⟩ := hrel
       have hc1v := pw_cell_below hb5 hc1u
       have hc0v := pw_cell_below hb5 hc0u
       have HBv := Aside0.mk (HB3a.out.trans (hb5.mono HB3a.out.size))
       have HBx := Aside0.mk (HBs.out.trans (HBv.out.mono HBs.out.size))
       have HBy := Aside0.mk hb5
       by_cases hlt3 : j < (below f).length
       ·obtain ⟨ad3, g, rfl, hcell3, HG⟩ := ReadI.get (Kd.C_below HR3.out hb5) hlt3
        clear hb5 hcell
        have hx0 : ∀ x : Ext wr, x.1.cell? ⟨w.heap.size, 0, none⟩ = some (.int .i64 n) := fun x => Ext.cell hc0v x
        have hx1 : ∀ x : Ext wr, x.1.cell? ⟨w.heap.size, 1, none⟩ = some (Value.slice (some ad) l.length c) := fun x => Ext.cell hc1v x
        have hx2 : ∀ x : Ext wr, x.1.cell? (ad3.add j) = some (.int .i64 g) := fun x => Ext.cell hcell3 x
        clear hcell3
        have hj1 : (0 : Int) ≤ (j : Int) := by omega
        have hj2 : (j : Int) < ((below f).length : Int) := by omega
        cases hg : decide (g ∈ l) with
        | false =>
         have HSH : Aside0 (∀ x : Ext wr, Calls Tryz.prog 154 #[cx n (.slice (some ad) l.length c), .int .i64 g] x.1 fun e w' => e = .returned (.bool false) ∧ Below x.1.heap.size x.1 w') := ⟨fun x => by rw [← hg]; exact specHas n _ l g x.1 (HR0.out.below (HBx.out.trans (x.2.mono HBx.out.size)))⟩
         have HGG := Aside0.mk hg
         clear hg
         go_wp2
         refine wp_region_ext (by kernel_rfl) (by kernel_rfl) ?_
         repeat (go_big_quiet_step ((first | (go_at_call 154; exact Calls.ext_of (HSH.out _)))))
         refine wpQuiet_nil ?_
         rintro _ ⟨x, rfl⟩
         have hbx := x.2
         go_wp2
         go_ret
         refine ⟨?_, by have := HB.out; have := HBx.out; (repeat (first | (with_reducible exact Below.refl _ _) | (with_reducible assumption) | (with_reducible refine below_step ?_ (by assumption)) | (with_reducible apply below_alloc) | (with_reducible apply below_drewN)))⟩
         have e1 : belowIn l (f : Int) = false := all_false hlt3 HG.out HGG.out
         rw [HA.out, HUU.out, all_false hlt2 HY.out e1]; rfl
        | true =>
         have HSH : Aside0 (∀ x : Ext wr, Calls Tryz.prog 154 #[cx n (.slice (some ad) l.length c), .int .i64 g] x.1 fun e w' => e = .returned (.bool true) ∧ Below x.1.heap.size x.1 w') := ⟨fun x => by rw [← hg]; exact specHas n _ l g x.1 (HR0.out.below (HBx.out.trans (x.2.mono HBx.out.size)))⟩
         have HGG := Aside0.mk hg
         clear hg
         go_wp2
         refine wp_region_ext (by kernel_rfl) (by kernel_rfl) ?_
         repeat (go_big_quiet_step ((first | (go_at_call 154; exact Calls.ext_of (HSH.out _)))))
         refine wpQuiet_nil ?_
         rintro _ ⟨x, rfl⟩
         have hbx := x.2
         go_wp2
         go_roundw
         case rel =>
          refine ⟨j + 1, by go_num, by omega, ⟨fun k hk => ?_⟩, by have := HBy.out; (repeat (first | (with_reducible exact Below.refl _ _) | (with_reducible assumption) | (with_reducible refine below_step ?_ (by assumption)) | (with_reducible apply below_alloc) | (with_reducible apply below_drewN)))⟩
          rcases Nat.lt_succ_iff_lt_or_eq.1 hk with h | rfl
          ·exact HJ.out k h
          ·rw [HG.out]; exact HGG.out
         case measure => simp [intOf]; omega
       ·clear hb5 hcell
        have HE : Aside0 (belowIn l (f : Int) = true) := ⟨all_true (l := below f) (fun k hk => HJ.out k (by omega))⟩
        go_wp2
        go_roundw
        case rel =>
         refine ⟨i2 + 1, by go_num, by omega, ⟨fun k hk => ?_⟩, by have := HBt.out; have := HBv.out; (repeat (first | (with_reducible exact Below.refl _ _) | (with_reducible assumption) | (with_reducible refine below_step ?_ (by assumption)) | (with_reducible apply below_alloc) | (with_reducible apply below_drewN)))⟩
         rcases Nat.lt_succ_iff_lt_or_eq.1 hk with h | rfl
         ·exact HI2.out k h
         ·rw [HY.out]; exact HE.out
        case measure => simp [intOf]; omega
     ·have HE : Aside0 (l.all (belowIn l) = true) := ⟨all_true (fun k hk => HI2.out k (by omega))⟩
      go_wp2
      go_ret
      exact ⟨by rw [HA.out, HUU.out, HE.out]; rfl, by have := HB.out; have := HBs.out; (repeat (first | (with_reducible exact Below.refl _ _) | (with_reducible assumption) | (with_reducible refine below_step ?_ (by assumption)) | (with_reducible apply below_alloc) | (with_reducible apply below_drewN)))⟩
 ·have hs : (decide ((1 : Int) ≤ a) && decide (a ≤ 6)) = false := by simp; omega
  have HA : Aside0 (cxOk a l = false) := ⟨by unfold cxOk; rw [hs]; rfl⟩
  clear ha
  go_enter Tryz.func155, Tryz.ntmps155
  go_wp2_with (first | (rw [← hw1]; clear hw1; go_at_call 148; refine (specIn _ _ _ _).mono ?_; rintro e w2 ⟨rfl, hb⟩; rw [hs]))
  go_ret
  exact ⟨by rw [HA.out]; rfl, by have := HB.out; (repeat (first | (with_reducible exact Below.refl _ _) | (with_reducible assumption) | (with_reducible refine below_step ?_ (by assumption)) | (with_reducible apply below_alloc) | (with_reducible apply below_drewN)))⟩
/-- a function value of nothing that answers b -/
def ThunkB (w : World) (fv : Value) (b : Bool) : Prop :=
 ∃ g first caps, fv = .func (.func g) first caps ∧ Enters g ∧ ∀ w1, Below w.heap.size w w1 → Calls Tryz.prog g (first ++ #[] ++ caps) w1 fun e w2 => e = .returned (.bool b) ∧ Below w1.heap.size w1 w2
theorem ThunkB.below {w w' : World} {fv : Value} {b : Bool} (h : ThunkB w fv b) (hb : Below w.heap.size w w') : ThunkB w' fv b := by
 obtain ⟨g, first, caps, rfl, hent, hp⟩ := h
 exact ⟨g, first, caps, rfl, hent, fun w1 h1 => hp w1 (hb.trans (h1.mono hb.size))⟩
theorem always (w : World) : Calls Tryz.prog 119 #[] w fun e w' => e = .returned (.bool true) ∧ Below w.heap.size w w' := by
 go_enter Tryz.func119, Tryz.ntmps119
 go_wp2
 go_ret
 exact ⟨rfl, Below.refl _ _⟩
theorem alwaysB (w : World) : ThunkB w (.func (.func 119) #[] #[]) true :=
 ⟨_, _, _, rfl, Enters.mk' Tryz.func119 rfl rfl, fun w1 _ => always w1⟩
def inMap (m : Nat) (v : Int) : Bool := decide (0 ≤ v) && decide (v ≤ (m : Int) - 1)
/-- a map of n vertices to m -/
def mapOk (n m : Nat) (f : List Int) : Bool := decide (f.length = n) && f.all (inMap m)
set_option maxHeartbeats 1000000 in
theorem isMap1 (w : World) (b : Nat) (m : Nat) (hm : m ≤ 6) (hc : w.cell? ⟨b, 0, none⟩ = some (.int .i64 m)) :
  PredI w (.func (.func 282) #[] #[.pointer (some ⟨b, 0, none⟩)]) (inMap m) (fun _ => True) := by
 refine ⟨_, _, _, rfl, Enters.mk' Tryz.func282 rfl rfl, fun w1 x hb hx => ?_⟩
 have hcell : w1.cell? ⟨b, 0, none⟩ = some (.int .i64 m) := pw_cell_below hb hc
 clear hb hc
 show Calls _ _ #[_, _] _ _
 go_enter Tryz.func282, Tryz.ntmps282
 go_wp2_with (first | (go_at_call 136; refine (within _ _ _ _).mono ?_; rintro e w' ⟨rfl, hb⟩))
 go_ret
 exact ⟨rfl, by (repeat (first | (with_reducible exact Below.refl _ _) | (with_reducible assumption) | (with_reducible refine below_step ?_ (by assumption)) | (with_reducible apply below_alloc) | (with_reducible apply below_drewN)))⟩
set_option maxHeartbeats 1000000 in
theorem isMap (n m : Nat) (hn : n ≤ 6) (hm : m ≤ 6) (ku lu v : Value) (f : List Int) (w : World) (hr : ReadI w v f) :
  Calls Tryz.prog 150 #[cx n ku, cx m lu, v] w fun e w' => e = .returned (.bool (mapOk n m f)) ∧ Below w.heap.size w w' := by
 obtain ⟨w1, hw1⟩ : ∃ w1, w1 = (w.alloc (.cells #[.int .i64 n, ku] 26)).alloc (.cells #[.int .i64 m, lu] 26) := ⟨_, rfl⟩
 have hB : Below w.heap.size w w1 := by rw [hw1]; exact ((Below.refl _ w).alloc (Nat.le_refl _) _).alloc (by simp) _
 have hc0 : w1.cell? ⟨w.heap.size, 0, none⟩ = some (.int .i64 n) := by rw [hw1]; simp
 have hc1 : w1.cell? ⟨w.heap.size + 1, 0, none⟩ = some (.int .i64 m) := by rw [hw1]; simp
 have HV := Aside0.mk (hr.below hB)
 have HP := Aside0.mk (isMap1 w1 (w.heap.size + 1) m hm hc1)
 have HB := Aside0.mk hB
 obtain ⟨A, c, rfl, -⟩ := id hr
 clear hr hB
 have hx0 : ∀ x : Ext w1, x.1.cell? ⟨w.heap.size, 0, none⟩ = some (.int .i64 n) := fun x => Ext.cell hc0 x
 clear hc0 hc1
 cases hl : decide (f.length = n) with
 | false =>
  have hl1 : ((f.length : Int) == (n : Int)) = false := by simp at hl ⊢; omega
  have HL := Aside0.mk hl
  clear hl
  go_enter Tryz.func150, Tryz.ntmps150
  go_wp2
  rw [← hw1]
  clear hw1
  refine wp_region_ext (by kernel_rfl) (by kernel_rfl) ?_
  repeat (go_big_quiet_step ((first | (go_at_call 281; exact Calls.ext_of (length_any _ _ _ _)))))
  refine wpQuiet_nil ?_
  rintro _ ⟨x, rfl⟩
  have hbx := x.2
  go_wp2
  go_ret
  exact ⟨by unfold mapOk; rw [HL.out]; rfl, by have := HB.out; (repeat (first | (with_reducible exact Below.refl _ _) | (with_reducible assumption) | (with_reducible refine below_step ?_ (by assumption)) | (with_reducible apply below_alloc) | (with_reducible apply below_drewN)))⟩
 | true =>
  have hl1 : ((f.length : Int) == (n : Int)) = true := by simp at hl ⊢; omega
  have HL := Aside0.mk hl
  clear hl
  go_enter Tryz.func150, Tryz.ntmps150
  go_wp2
  rw [← hw1]
  clear hw1
  refine wp_region_ext (by kernel_rfl) (by kernel_rfl) ?_
  repeat (go_big_quiet_step ((first | (go_at_call 281; exact Calls.ext_of (length_any _ _ _ _)) | (go_at_call 138; exact Calls.ext_of (areAll _ _ _ (inMap m) (fun _ => True) _ (HV.out.below (Subtype.property _)) (HP.out.below (Subtype.property _)) (fun _ _ => trivial))))))
  refine wpQuiet_nil ?_
  rintro _ ⟨x, rfl⟩
  have hbx := x.2
  go_wp2
  go_ret
  exact ⟨by unfold mapOk; rw [HL.out]; rfl, by have := HB.out; (repeat (first | (with_reducible exact Below.refl _ _) | (with_reducible assumption) | (with_reducible refine below_step ?_ (by assumption)) | (with_reducible apply below_alloc) | (with_reducible apply below_drewN)))⟩
set_option maxHeartbeats 2000000 in
theorem specMap (n m : Nat) (hn : n ≤ 6) (hm : m ≤ 6) (ku lu v : Value) (f : List Int) (w : World) (hr : ReadI w v f) :
  Calls Tryz.prog 156 #[cx n ku, cx m lu, v] w fun e w' => e = .returned (.bool (mapOk n m f)) ∧ Below w.heap.size w w' := by
 obtain ⟨w1, hw1⟩ : ∃ w1, w1 = (w.alloc (.cells #[.int .i64 n, ku] 26)).alloc (.cells #[.int .i64 m, lu] 26) := ⟨_, rfl⟩
 have hB : Below w.heap.size w w1 := by rw [hw1]; exact ((Below.refl _ w).alloc (Nat.le_refl _) _).alloc (by simp) _
 have hc0 : w1.cell? ⟨w.heap.size, 0, none⟩ = some (.int .i64 n) := by rw [hw1]; simp
 have hc1 : w1.cell? ⟨w.heap.size + 1, 0, none⟩ = some (.int .i64 m) := by rw [hw1]; simp
 have hr1 := hr.below hB
 have HB := Aside0.mk hB
 obtain ⟨A, c, rfl, hc, hr2⟩ := hr1
 have HR := Aside0.mk hr2
 have hlen := hr2.2.1
 clear hr hr2 hB
 go_enter Tryz.func156, Tryz.ntmps156
 go_wp2
 rw [← hw1]
 clear hw1
 go_loopw [7] (fun v wr => ∃ i : Nat, v = .int .i64 i ∧ i ≤ f.length ∧ Aside0 (∀ k, k < i → inMap m (f.getD k 0) = true) ∧ Below w1.heap.size w1 wr) (fun v _ => f.length - (intOf v).toNat)
 case atStart => exact ⟨0, rfl, Nat.zero_le _, ⟨fun j hj => absurd hj (Nat.not_lt_zero _)⟩, Below.refl _ _⟩
 case round =>
  obtain ⟨i, rfl, hi, HU, hb⟩ := hrel
  have hc0r := pw_cell_below hb hc0
  have hc1r := pw_cell_below hb hc1
  have HBr := Aside0.mk hb
  by_cases hlt : i < f.length
  ·obtain ⟨ad, y, rfl, hcell, HY⟩ := ReadI.get (Kd.C_below HR.out hb) hlt
   clear hb
   have hx1 : ∀ x : Ext wr, x.1.cell? ⟨w.heap.size + 1, 0, none⟩ = some (.int .i64 m) := fun x => Ext.cell hc1r x
   have hx2 : ∀ x : Ext wr, x.1.cell? (ad.add i) = some (.int .i64 y) := fun x => Ext.cell hcell x
   clear hcell
   have hj1 : (0 : Int) ≤ (i : Int) := by omega
   have hj2 : (i : Int) < (f.length : Int) := by omega
   cases hin : inMap m y with
   | false =>
    have HSI : Aside0 (∀ w : World, Calls Tryz.prog 148 #[.int .i64 y, .int .i64 0, .int .i64 ((m : Int) - 1)] w fun e w' => e = .returned (.bool false) ∧ Below w.heap.size w w') := ⟨fun w => by rw [← hin]; exact specIn _ _ _ w⟩
    have HIN := Aside0.mk hin
    clear hin
    go_wp2
    refine wp_region_ext (by kernel_rfl) (by kernel_rfl) ?_
    repeat (go_big_quiet_step ((first | (go_at_call 148; exact Calls.ext_of (HSI.out _)))))
    refine wpQuiet_nil ?_
    rintro _ ⟨x, rfl⟩
    have hbx := x.2
    go_wp2
    go_ret
    refine ⟨?_, by have := HB.out; have := HBr.out; (repeat (first | (with_reducible exact Below.refl _ _) | (with_reducible assumption) | (with_reducible refine below_step ?_ (by assumption)) | (with_reducible apply below_alloc) | (with_reducible apply below_drewN)))⟩
    unfold mapOk
    rw [all_false hlt HY.out HIN.out, Bool.and_false]; rfl
   | true =>
    have HSI : Aside0 (∀ w : World, Calls Tryz.prog 148 #[.int .i64 y, .int .i64 0, .int .i64 ((m : Int) - 1)] w fun e w' => e = .returned (.bool true) ∧ Below w.heap.size w w') := ⟨fun w => by rw [← hin]; exact specIn _ _ _ w⟩
    have HIN := Aside0.mk hin
    clear hin
    go_wp2
    refine wp_region_ext (by kernel_rfl) (by kernel_rfl) ?_
    repeat (go_big_quiet_step ((first | (go_at_call 148; exact Calls.ext_of (HSI.out _)))))
    refine wpQuiet_nil ?_
    rintro _ ⟨x, rfl⟩
    have hbx := x.2
    go_wp2
    go_roundw
    case rel =>
     refine ⟨i + 1, by go_num, by omega, ⟨fun k hk => ?_⟩, by have := HBr.out; (repeat (first | (with_reducible exact Below.refl _ _) | (with_reducible assumption) | (with_reducible refine below_step ?_ (by assumption)) | (with_reducible apply below_alloc) | (with_reducible apply below_drewN)))⟩
     rcases Nat.lt_succ_iff_lt_or_eq.1 hk with h | rfl
     ·exact HU.out k h
     ·rw [HY.out]; exact HIN.out
    case measure => simp [intOf]; omega
  ·have HE : Aside0 (f.all (inMap m) = true) := ⟨all_true (fun k hk => HU.out k (by omega))⟩
   clear hb
   go_wp2
   go_ret
   refine ⟨?_, by have := HB.out; have := HBr.out; (repeat (first | (with_reducible exact Below.refl _ _) | (with_reducible assumption) | (with_reducible refine below_step ?_ (by assumption)) | (with_reducible apply below_alloc) | (with_reducible apply below_drewN)))⟩
   unfold mapOk
   rw [HE.out, Bool.and_true]
   have : ((f.length : Int) == (n : Int)) = decide (f.length = n) := by
    by_cases h : f.length = n <;> simp [h]; omega
   simp [this]
/-- a slice of slices of numbers -/
def ReadS (w : World) (v : Value) (xss : List (List Int)) : Prop := ∃ A c, v = .slice A xss.length c ∧ xss.length ≤ 1000 ∧ ∀ i xs, xss[i]? = some xs → ∃ ad u, A = some ad ∧ w.cell? (ad.add i) = some u ∧ ReadI w u xs
theorem ReadS.below {w w' : World} {v : Value} {xss : List (List Int)} (h : ReadS w v xss) (hb : Below w.heap.size w w') : ReadS w' v xss := by
 obtain ⟨A, c, rfl, hl, hr⟩ := h
 refine ⟨A, c, rfl, hl, fun i xs hi => ?_⟩
 obtain ⟨ad, u, e, hc, hu⟩ := hr i xs hi
 exact ⟨ad, u, e, pw_cell_below hb hc, hu.below hb⟩
theorem ReadS.nil (w : World) : ReadS w (.slice none 0 0) [] := ⟨none, 0, rfl, by simp, fun i xs h => by simp at h⟩
/-- a function value of one slice of numbers that answers a bool, and makes memory at the most -/
def PredS (w : World) (fv : Value) (p : List Int → Bool) (dom : List Int → Prop) : Prop :=
 ∃ g first caps, fv = .func (.func g) first caps ∧ Enters g ∧ ∀ w1 u xs, Below w.heap.size w w1 → ReadI w1 u xs → dom xs → Calls Tryz.prog g (first ++ #[u] ++ caps) w1 fun e w2 => e = .returned (.bool (p xs)) ∧ Below w1.heap.size w1 w2
theorem PredS.below {w w' : World} {fv : Value} {p : List Int → Bool} {dom : List Int → Prop} (h : PredS w fv p dom) (hb : Below w.heap.size w w') : PredS w' fv p dom := by
 obtain ⟨g, first, caps, rfl, hent, hp⟩ := h
 exact ⟨g, first, caps, rfl, hent, fun w1 u xs h1 hx hd => hp w1 u xs (hb.trans (h1.mono hb.size)) hx hd⟩
theorem idxS_found {p : List Int → Bool} {xss : List (List Int)} {i : Nat} {xs : List Int} (hi : xss[i]? = some xs) (h0 : ∀ (j : Nat) (xs : List Int), j < i → xss[j]? = some xs → p xs = false) (h1 : p xs = true) : idx p xss = i := by
 obtain ⟨hl, e1⟩ := List.getElem?_eq_some_iff.1 hi
 have e : xss.findIdx p = i := by
  rw [List.findIdx_eq hl]
  refine ⟨by rw [e1]; exact h1, fun j hj => h0 j _ hj (List.getElem?_eq_getElem (by omega))⟩
 unfold idx; rw [e, if_pos hl]
theorem idxS_none {p : List Int → Bool} {xss : List (List Int)} (h0 : ∀ (j : Nat) (xs : List Int), xss[j]? = some xs → p xs = false) : idx p xss = -1 := by
 have e : ¬ xss.findIdx p < xss.length := by
  rw [List.findIdx_lt_length]
  rintro ⟨x, hx, hp⟩
  obtain ⟨j, hj, rfl⟩ := List.getElem_of_mem hx
  rw [h0 j _ (List.getElem?_eq_getElem hj)] at hp; cases hp
 unfold idx; rw [if_neg e]
set_option maxHeartbeats 1000000 in
theorem indexFuncS (v : Value) (xss : List (List Int)) (fv : Value) (p : List Int → Bool) (dom : List Int → Prop) (w : World) (hr : ReadS w v xss) (hp : PredS w fv p dom) (hd : ∀ xs ∈ xss, dom xs) :
  Calls Tryz.prog 325 #[v, fv] w fun e w' => e = .returned (.int .i64 (idx p xss)) ∧ Below w.heap.size w w' := by
 obtain ⟨g, first, caps, rfl, hent, hp⟩ := hp
 obtain ⟨A, c, rfl, hl, hr⟩ := hr
 have HR := Aside0.mk hr
 have HP := Aside0.mk hp
 have HD := Aside0.mk hd
 unfold Enters at hent
 clear hr hp hd
 go_enter Tryz.func325, Tryz.ntmps325
 go_wp2
 go_loopw [8] (fun v wr => ∃ i : Nat, v = .int .i64 i ∧ i ≤ xss.length ∧ Aside0 (∀ j xs, j < i → xss[j]? = some xs → p xs = false) ∧ Below w.heap.size w wr) (fun v _ => xss.length - (intOf v).toNat)
 case atStart => exact ⟨0, rfl, Nat.zero_le _, ⟨fun j _ hj => absurd hj (Nat.not_lt_zero _)⟩, Below.refl _ _⟩
 case round =>
  obtain ⟨i, rfl, hi, HN, hb⟩ := hrel
  by_cases hlt : i < xss.length
  ·obtain ⟨xs, hxs⟩ : ∃ xs, xss[i]? = some xs := ⟨_, List.getElem?_eq_getElem hlt⟩
   obtain ⟨ad, u, rfl, hcell, hu⟩ := HR.out i xs hxs
   have hcell := pw_cell_below hb hcell
   have HU := Aside0.mk (hu.below hb)
   have HB := Aside0.mk hb
   have HX := Aside0.mk hxs
   have HDX := Aside0.mk (HD.out xs (List.mem_of_getElem? hxs))
   clear hxs hu hb
   cases hpy : p xs with
   | false =>
    go_wp2_with (first | (refine (HP.out _ _ _ HB.out HU.out HDX.out).mono ?_; rintro e w' ⟨rfl, hb2⟩))
    go_roundw
    case rel => exact ⟨i + 1, by go_num, by omega, ⟨fun j xs' hj hx => by
     rcases Nat.lt_succ_iff_lt_or_eq.1 hj with h | rfl
     ·exact HN.out j xs' h hx
     ·have := HX.out; rw [hx] at this; cases this; exact hpy⟩, HB.out.trans (hb2.mono HB.out.size)⟩
    case measure => simp [intOf]; omega
   | true =>
    go_wp2_with (first | (refine (HP.out _ _ _ HB.out HU.out HDX.out).mono ?_; rintro e w' ⟨rfl, hb2⟩))
    go_ret
    exact ⟨by rw [idxS_found HX.out HN.out hpy]; rfl, HB.out.trans (hb2.mono HB.out.size)⟩
  ·go_wp2
   go_ret
   exact ⟨by rw [idxS_none (fun j xs hj => HN.out j xs (by have := (List.getElem?_eq_some_iff.1 hj).1; omega) hj)]; rfl, hb⟩
theorem idxS_any {p : List Int → Bool} {xs : List (List Int)} : decide (0 ≤ idx p xs) = xs.any p := by
 unfold idx
 cases h : xs.any p with
 | true =>
  have : xs.findIdx p < xs.length := by rw [List.findIdx_lt_length]; simpa using h
  rw [if_pos this]; simp
 | false =>
  have : ¬ xs.findIdx p < xs.length := by rw [List.findIdx_lt_length]; simpa using h
  rw [if_neg this]; simp
set_option maxHeartbeats 1000000 in
theorem containsFuncS (v : Value) (xss : List (List Int)) (fv : Value) (p : List Int → Bool) (dom : List Int → Prop) (w : World) (hr : ReadS w v xss) (hp : PredS w fv p dom) (hd : ∀ xs ∈ xss, dom xs) :
  Calls Tryz.prog 354 #[v, fv] w fun e w' => e = .returned (.bool (xss.any p)) ∧ Below w.heap.size w w' := by
 have HR := Aside0.mk hr
 have HP := Aside0.mk hp
 have HD := Aside0.mk hd
 clear hp hd
 obtain ⟨A, c, rfl, -⟩ := id hr
 clear hr
 go_enter Tryz.func354, Tryz.ntmps354
 go_wp2_with (first | (go_at_call 325; refine (indexFuncS _ _ _ _ _ _ HR.out HP.out HD.out).mono ?_; rintro e w' ⟨rfl, hb2⟩))
 go_ret
 exact ⟨by simp [← idxS_any], hb2⟩
theorem areAllS1 (w : World) (b : Nat) (fv : Value) (p : List Int → Bool) (dom : List Int → Prop) (hc : w.cell? ⟨b, 0, none⟩ = some fv) (hp : PredS w fv p dom) :
  PredS w (.func (.func 355) #[] #[.pointer (some ⟨b, 0, none⟩)]) (fun x => !p x) dom := by
 refine ⟨_, _, _, rfl, Enters.mk' Tryz.func355 rfl rfl, fun w1 u xs hb hx hd => ?_⟩
 obtain ⟨g, first, caps, rfl, hent, hp⟩ := hp
 have hcell : w1.cell? ⟨b, 0, none⟩ = some (.func (.func g) first caps) := pw_cell_below hb hc
 have H := Aside0.mk (hp w1 u xs hb hx hd)
 unfold Enters at hent
 clear hp hb hx hc hd
 show Calls _ _ #[_, _] _ _
 go_enter Tryz.func355, Tryz.ntmps355
 go_wp2_with (first | (refine H.out.mono ?_; rintro e w' ⟨rfl, hb2⟩))
 go_ret
 exact ⟨by simp, hb2⟩
set_option maxHeartbeats 1000000 in
theorem areAllS (v : Value) (xss : List (List Int)) (fv : Value) (p : List Int → Bool) (dom : List Int → Prop) (w : World) (hr : ReadS w v xss) (hp : PredS w fv p dom) (hd : ∀ xs ∈ xss, dom xs) :
  Calls Tryz.prog 269 #[v, fv] w fun e w' => e = .returned (.bool (xss.all p)) ∧ Below w.heap.size w w' := by
 obtain ⟨g, first, caps, rfl, -⟩ := id hp
 have hba : Below w.heap.size w (w.alloc (.cells #[.func (.func g) first caps] 134)) := Below.alloc (Below.refl _ _) (Nat.le_refl _) _
 have HR := Aside0.mk (hr.below hba)
 have HP := Aside0.mk (areAllS1 (w.alloc (.cells #[.func (.func g) first caps] 134)) w.heap.size _ p dom (by simp) (hp.below hba))
 have HD := Aside0.mk hd
 have HB := Aside0.mk hba
 obtain ⟨A, c, rfl, -⟩ := id hr
 clear hr hp hba hd
 go_enter Tryz.func269, Tryz.ntmps269
 go_wp2_with (first | (go_at_call 354; refine (containsFuncS _ _ _ _ _ _ HR.out HP.out HD.out).mono ?_; rintro e w' ⟨rfl, hb2⟩))
 go_ret
 exact ⟨by simp [List.all_eq_not_any_not], HB.out.trans (hb2.mono HB.out.size)⟩
set_option maxHeartbeats 1000000 in
theorem mapCode1 (w : World) (bk bl : Nat) (n m : Nat) (ku lu : Value) (hn : n ≤ 6) (hm : m ≤ 6) (h0 : w.cell? ⟨bk, 0, none⟩ = some (.int .i64 n)) (h1 : w.cell? ⟨bk, 1, none⟩ = some ku) (h2 : w.cell? ⟨bl, 0, none⟩ = some (.int .i64 m)) (h3 : w.cell? ⟨bl, 1, none⟩ = some lu) :
  PredS w (.func (.func 284) #[] #[.pointer (some ⟨bk, 0, none⟩), .pointer (some ⟨bl, 0, none⟩)]) (mapOk n m) (fun _ => True) := by
 refine ⟨_, _, _, rfl, Enters.mk' Tryz.func284 rfl rfl, fun w1 u xs hb hx _ => ?_⟩
 have c0 := pw_cell_below hb h0
 have c1 := pw_cell_below hb h1
 have c2 := pw_cell_below hb h2
 have c3 := pw_cell_below hb h3
 have HX := Aside0.mk hx
 clear hb h0 h1 h2 h3 hx
 show Calls _ _ #[_, _, _] _ _
 go_enter Tryz.func284, Tryz.ntmps284
 go_wp2_with (first | (go_at_call 150; refine (isMap n m hn hm _ _ _ xs _ HX.out).mono ?_; rintro e w' ⟨rfl, hb⟩))
 go_ret
 exact ⟨rfl, by (repeat (first | (with_reducible exact Below.refl _ _) | (with_reducible assumption) | (with_reducible refine below_step ?_ (by assumption)) | (with_reducible apply below_alloc) | (with_reducible apply below_drewN)))⟩
/-- the code for maps -/
def codeMap (a b : Int) (xs ys : List Int) (fs : List (List Int)) (r : Bool) : Int :=
 if cxOk a xs && cxOk b ys then (if fs.all (mapOk a.toNat b.toNat) && r then 0 else 2) else 1
set_option maxHeartbeats 2000000 in
theorem mapCode (a b : Int) (ku lu : Value) (xs ys : List Int) (fv lv : Value) (r : Bool) (fs : List (List Int)) (w : World) (hk : ReadI w ku xs) (hl : ReadI w lu ys) (hf : cxOk a xs = true → cxOk b ys = true → ThunkB w fv r) (hfv : ∃ g first caps, fv = .func (.func g) first caps) (hs : ReadS w lv fs) :
  Calls Tryz.prog 152 #[cx a ku, cx b lu, fv, lv] w fun e w' => e = .returned (.int .i64 (codeMap a b xs ys fs r)) ∧ Below w.heap.size w w' := by
 obtain ⟨w1, hw1⟩ : ∃ w1, w1 = (w.alloc (.cells #[.int .i64 a, ku] 26)).alloc (.cells #[.int .i64 b, lu] 26) := ⟨_, rfl⟩
 have hB : Below w.heap.size w w1 := by rw [hw1]; exact ((Below.refl _ w).alloc (Nat.le_refl _) _).alloc (by simp) _
 have c0 : w1.cell? ⟨w.heap.size, 0, none⟩ = some (.int .i64 a) := by rw [hw1]; simp
 have c1 : w1.cell? ⟨w.heap.size, 1, none⟩ = some ku := by rw [hw1]; simp
 have c2 : w1.cell? ⟨w.heap.size + 1, 0, none⟩ = some (.int .i64 b) := by rw [hw1]; simp
 have c3 : w1.cell? ⟨w.heap.size + 1, 1, none⟩ = some lu := by rw [hw1]; simp
 have HK := Aside0.mk (hk.below hB)
 have HL := Aside0.mk (hl.below hB)
 have HS := Aside0.mk (hs.below hB)
 have HB := Aside0.mk hB
 obtain ⟨A1, d1, rfl, -⟩ := id hk
 obtain ⟨A2, d2, rfl, -⟩ := id hl
 obtain ⟨A3, d3, rfl, -⟩ := id hs
 obtain ⟨g, first, caps, rfl⟩ := hfv
 have HF := Aside0.mk hf
 clear hk hl hs hf hB
 cases h1 : cxOk a xs with
 | false =>
  have HA : Aside0 (codeMap a b xs ys fs r = 1) := ⟨by unfold codeMap; rw [h1]; rfl⟩
  go_enter Tryz.func152, Tryz.ntmps152
  go_wp2_with (first | (rw [← hw1]; clear hw1; go_at_call 16; refine (isComplex _ _ xs _ HK.out).mono ?_; rintro e w2 ⟨rfl, hb⟩; rw [h1]))
  go_ret
  exact ⟨by rw [HA.out]; rfl, by have := HB.out; (repeat (first | (with_reducible exact Below.refl _ _) | (with_reducible assumption) | (with_reducible refine below_step ?_ (by assumption)) | (with_reducible apply below_alloc) | (with_reducible apply below_drewN)))⟩
 | true =>
  obtain ⟨n, rfl, hcn, -⟩ := cxOk_cx h1
  cases h2 : cxOk b ys with
  | false =>
   have HA : Aside0 (codeMap n b xs ys fs r = 1) := ⟨by unfold codeMap; rw [h1, h2]; rfl⟩
   go_enter Tryz.func152, Tryz.ntmps152
   go_wp2_with (first | (rw [← hw1]; clear hw1; go_at_call 16; refine (isComplex _ _ xs _ HK.out).mono ?_; rintro e w2 ⟨rfl, hb⟩; rw [h1]; have c2 := pw_cell_below hb c2; have c3 := pw_cell_below hb c3) | (go_at_call 16; refine (isComplex _ _ ys _ (HL.out.below ?hx)).mono ?_; (case hx => (repeat (first | (with_reducible exact Below.refl _ _) | (with_reducible assumption) | (with_reducible refine below_step ?_ (by assumption)) | (with_reducible apply below_alloc) | (with_reducible apply below_drewN)))); rintro e w2 ⟨rfl, hb⟩; rw [h2]))
   go_ret
   exact ⟨by rw [HA.out]; rfl, by have := HB.out; (repeat (first | (with_reducible exact Below.refl _ _) | (with_reducible assumption) | (with_reducible refine below_step ?_ (by assumption)) | (with_reducible apply below_alloc) | (with_reducible apply below_drewN)))⟩
  | true =>
   obtain ⟨m, rfl, hcm, -⟩ := cxOk_cx h2
   obtain ⟨g', first', caps', e3, hent, hp⟩ := HF.out h1 h2
   cases e3
   have HP := Aside0.mk hp
   have hn := hcn.hi
   have hm := hcm.hi
   clear hp HF hcn hcm
   unfold Enters at hent
   cases h3 : fs.all (mapOk n m) with
   | false =>
    have HA : Aside0 (codeMap n m xs ys fs r = 2) := ⟨by unfold codeMap; rw [h1, h2, Int.toNat_natCast, Int.toNat_natCast, h3]; rfl⟩
    go_enter Tryz.func152, Tryz.ntmps152
    go_wp2_with (first | (rw [← hw1]; clear hw1; go_at_call 16; refine (isComplex _ _ xs _ HK.out).mono ?_; rintro e w2 ⟨rfl, hb⟩; rw [h1]; have c0 := pw_cell_below hb c0; have c1 := pw_cell_below hb c1; have c2 := pw_cell_below hb c2; have c3 := pw_cell_below hb c3; have HB2 := Aside0.mk hb; clear hb) | (go_at_call 16; refine (isComplex _ _ ys _ (HL.out.below HB2.out)).mono ?_; rintro e w3 ⟨rfl, hb⟩; rw [h2]; have c0 := pw_cell_below hb c0; have c1 := pw_cell_below hb c1; have c2 := pw_cell_below hb c2; have c3 := pw_cell_below hb c3; have HB3 := Aside0.mk (HB2.out.trans (hb.mono HB2.out.size)); clear hb; have HP1 := Aside0.mk (mapCode1 _ _ _ n m _ _ hn hm c0 c1 c2 c3)) | (go_at_call 269; refine (areAllS _ _ _ _ _ _ (HS.out.below HB3.out) HP1.out (fun _ _ => trivial)).mono ?_; rintro e w4 ⟨rfl, hb4⟩; rw [h3]))
    go_ret
    exact ⟨by rw [HA.out]; rfl, by have := HB.out; have := HB3.out; (repeat (first | (with_reducible exact Below.refl _ _) | (with_reducible assumption) | (with_reducible refine below_step ?_ (by assumption)) | (with_reducible apply below_alloc) | (with_reducible apply below_drewN)))⟩
   | true =>
    cases r with
    | false =>
     have HA : Aside0 (codeMap n m xs ys fs false = 2) := ⟨by unfold codeMap; rw [h1, h2, Int.toNat_natCast, Int.toNat_natCast, h3]; rfl⟩
     go_enter Tryz.func152, Tryz.ntmps152
     go_wp2_with (first | (rw [← hw1]; clear hw1; go_at_call 16; refine (isComplex _ _ xs _ HK.out).mono ?_; rintro e w2 ⟨rfl, hb⟩; rw [h1]; have c0 := pw_cell_below hb c0; have c1 := pw_cell_below hb c1; have c2 := pw_cell_below hb c2; have c3 := pw_cell_below hb c3; have HB2 := Aside0.mk hb; clear hb) | (go_at_call 16; refine (isComplex _ _ ys _ (HL.out.below HB2.out)).mono ?_; rintro e w3 ⟨rfl, hb⟩; rw [h2]; have c0 := pw_cell_below hb c0; have c1 := pw_cell_below hb c1; have c2 := pw_cell_below hb c2; have c3 := pw_cell_below hb c3; have HB3 := Aside0.mk (HB2.out.trans (hb.mono HB2.out.size)); clear hb; have HP1 := Aside0.mk (mapCode1 _ _ _ n m _ _ hn hm c0 c1 c2 c3)) | (go_at_call 269; refine (areAllS _ _ _ _ _ _ (HS.out.below HB3.out) HP1.out (fun _ _ => trivial)).mono ?_; rintro e w4 ⟨rfl, hb4⟩; rw [h3]; have HB4 := Aside0.mk (HB.out.trans ((HB3.out.trans (hb4.mono HB3.out.size)).mono HB.out.size))) | (refine (HP.out _ HB4.out).mono ?_; rintro e w5 ⟨rfl, hb5⟩))
     go_ret
     exact ⟨by rw [HA.out]; rfl, by have := HB4.out; (repeat (first | (with_reducible exact Below.refl _ _) | (with_reducible assumption) | (with_reducible refine below_step ?_ (by assumption)) | (with_reducible apply below_alloc) | (with_reducible apply below_drewN)))⟩
    | true =>
     have HA : Aside0 (codeMap n m xs ys fs true = 0) := ⟨by unfold codeMap; rw [h1, h2, Int.toNat_natCast, Int.toNat_natCast, h3]; rfl⟩
     go_enter Tryz.func152, Tryz.ntmps152
     go_wp2_with (first | (rw [← hw1]; clear hw1; go_at_call 16; refine (isComplex _ _ xs _ HK.out).mono ?_; rintro e w2 ⟨rfl, hb⟩; rw [h1]; have c0 := pw_cell_below hb c0; have c1 := pw_cell_below hb c1; have c2 := pw_cell_below hb c2; have c3 := pw_cell_below hb c3; have HB2 := Aside0.mk hb; clear hb) | (go_at_call 16; refine (isComplex _ _ ys _ (HL.out.below HB2.out)).mono ?_; rintro e w3 ⟨rfl, hb⟩; rw [h2]; have c0 := pw_cell_below hb c0; have c1 := pw_cell_below hb c1; have c2 := pw_cell_below hb c2; have c3 := pw_cell_below hb c3; have HB3 := Aside0.mk (HB2.out.trans (hb.mono HB2.out.size)); clear hb; have HP1 := Aside0.mk (mapCode1 _ _ _ n m _ _ hn hm c0 c1 c2 c3)) | (go_at_call 269; refine (areAllS _ _ _ _ _ _ (HS.out.below HB3.out) HP1.out (fun _ _ => trivial)).mono ?_; rintro e w4 ⟨rfl, hb4⟩; rw [h3]; have HB4 := Aside0.mk (HB.out.trans ((HB3.out.trans (hb4.mono HB3.out.size)).mono HB.out.size))) | (refine (HP.out _ HB4.out).mono ?_; rintro e w5 ⟨rfl, hb5⟩))
     go_ret
     exact ⟨by rw [HA.out]; rfl, by have := HB4.out; (repeat (first | (with_reducible exact Below.refl _ _) | (with_reducible assumption) | (with_reducible refine below_step ?_ (by assumption)) | (with_reducible apply below_alloc) | (with_reducible apply below_drewN)))⟩
end Go.Proofs.YtomofijniefelaaGreat.H
