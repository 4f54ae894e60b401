/- A pair put into a row of pairs: l02With of the reference. Pairings of trees: the plain law. those: the complex of the sets that are as told. part: the complex of the faces that are as told. Chains as sums of bits and as ascending lists: the plain law. slices.IndexFunc, slices.ContainsFunc and areAll at [][]int64. Chains of the program: sums of bits. How many vertices a face has, of the program: math/bits.OnesCount64, size, dimension. Chains of the program: isChain, IsCycle. IsCycle of the program. Chains of the reference: sums, boundaries. IsCycle of the reference. Pairs of a complex. -/
import Derived.Deep.DeepMust
import Derived.Test.YtkggchklmpmgpaaGreatKFnTrees1
import Derived.Test.YtkggchklmpmgpaaGreatKFnTrees2
import Derived.Test.YtkggchklmpmgpaaGreatKFnTrees3
import Derived.Test.YtkggchklmpmgpaaGreatKFnTrees4
import Derived.Test.YtkggchklmpmgpaaGreatKFnTrees5
import Derived.Test.YtkggchklmpmgpaaGreatKFnTrees6
import Derived.Test.YtkggchklmpmgpaaGreatKFnTrees7
import Derived.Test.YtkggchklmpmgpaaGreatKFnTrees8
import Derived.Test.YtkggchklmpmgpaaGreatKFnTrees9
import Derived.Test.YtkggchklmpmgpaaGreatKFnTrees10

namespace Go.Proofs.YtkggchklmpmgpaaGreat.H
open Go.RowKit Go.Proofs.YtkggchklmpmgpaaGreatW.PrintWords Go.Proofs.YtkggchklmpmgpaaGreatW.PrintLast
set_option linter.unusedVariables false
set_option linter.unusedSimpArgs false
/-- where a pair is put in, below k -/
def insK (acc : List (Int × Int)) (p : Int × Int) : Nat → Nat
 | 0 => 0
 | k + 1 => if lessP p.1 p.2 (acc.getD k (0, 0)).1 (acc.getD k (0, 0)).2 then insK acc p k else k + 1
def insAt (acc : List (Int × Int)) (p : Int × Int) : Nat := insK acc p acc.length
theorem insK_le (acc : List (Int × Int)) (p : Int × Int) : ∀ k, insK acc p k ≤ k
 | 0 => Nat.le_refl _
 | k + 1 => by
  unfold insK
  split
  ·exact Nat.le_trans (insK_le acc p k) (Nat.le_succ _)
  ·exact Nat.le_refl _
theorem insK_down {acc : List (Int × Int)} {p q x y : Int} {k : Nat} (e : acc[k]? = some (x, y)) (h : lessP p q x y = true) : insK acc (p, q) (k + 1) = insK acc (p, q) k := by
 have : acc.getD k (0, 0) = (x, y) := by rw [List.getD_eq_getElem?_getD, e]; rfl
 conv => lhs; unfold insK
 rw [this]; exact if_pos h
theorem insK_stop {acc : List (Int × Int)} {p q x y : Int} {k : Nat} (e : acc[k]? = some (x, y)) (h : lessP p q x y = false) : insK acc (p, q) (k + 1) = k + 1 := by
 have : acc.getD k (0, 0) = (x, y) := by rw [List.getD_eq_getElem?_getD, e]; rfl
 conv => lhs; unfold insK
 rw [this]; exact if_neg (by rw [h]; decide)
set_option maxRecDepth 100000 in
set_option maxHeartbeats 4000000 in
theorem specWith (n : Nat) (ku : Value) (xs : List Int) (v : Value) (acc : List (Int × Int)) (p q : Int) (w : World) (hk0 : ReadI w ku xs) (hc : Cx n xs) (hv : ReadP w v acc) (hq : ReadQ w v acc) (hl : acc.length ≤ 100000) :
  Calls Tryz.prog 214 #[cx n ku, v, .agg #[.int .i64 p, .int .i64 q]] w fun e w' => ∃ u, e = .returned (.tuple #[u, .bool (pOk xs (putP acc (insAt acc (p, q)) (p, q)))]) ∧ OwnP w.heap.size w' u (putP acc (insAt acc (p, q)) (p, q)) ∧ Below w.heap.size w w' := by
 obtain ⟨w1, hw1⟩ : ∃ w1, w1 = (w.alloc (.cells #[.int .i64 n, ku] 26)).alloc (.cells #[.int .i64 p, .int .i64 q] 83) := ⟨_, rfl⟩
 have hB : Below w.heap.size w w1 := by rw [hw1]; exact ((Below.refl _ w).alloc (Nat.le_refl _) _).alloc (by simp) _
 have c0 : w1.cell? ⟨w.heap.size, 0, none⟩ = some (.int .i64 n) := by rw [hw1]; simp
 have c1 : w1.cell? ⟨w.heap.size, 1, none⟩ = some ku := by rw [hw1]; simp
 have c2 : w1.cell? ⟨w.heap.size + 1, 0, none⟩ = some (.int .i64 p) := by rw [hw1]; simp
 have c3 : w1.cell? ⟨w.heap.size + 1, 1, none⟩ = some (.int .i64 q) := by rw [hw1]; simp
 have HB := Aside0.mk hB
 have HK := Aside0.mk (hk0.below hB)
 have HC := Aside0.mk hc
 have HP := Aside0.mk (hv.below hB)
 have HQ0 := hq.below hB
 obtain ⟨A1, d1, rfl, -⟩ := id hk0
 obtain ⟨A2, d2, rfl, -⟩ := id hq
 have HQ := Aside0.mk HQ0
 have hmx : Tryz.prog.follows .mixedOrders = true := by kernel_rfl
 have c0w := c0
 have c1w := c1
 clear hk0 hc hv hq hB HQ0
 go_enter Tryz.func214, Tryz.ntmps214
 go_wp2
 rw [← hw1]
 clear hw1
 go_loopw [8] (fun s8 wr => ∃ k : Nat, s8 = .int .i64 k ∧ k ≤ acc.length ∧ Aside0 (insK acc (p, q) k = insAt acc (p, q)) ∧ Aside0 (Below w1.heap.size w1 wr)) (fun s8 _ => (intOf s8).toNat)
 case atStart => exact ⟨_, rfl, Nat.le_refl _, ⟨rfl⟩, ⟨Below.refl _ _⟩⟩
 case round =>
  obtain ⟨k, rfl, hk, HK0, HBr⟩ := hrel
  have c2 := pw_cell_below HBr.out c2
  have c3 := pw_cell_below HBr.out c3
  by_cases hk0 : 0 < k
  ·obtain ⟨g, x, y, rfl, hxy, hc0, hc1⟩ := ReadP.get (HP.out.below HBr.out) (i := k - 1) (by omega)
   have h1i : (0 : Int) ≤ (k : Int) - 1 := by omega
   have h2i : (k : Int) - 1 < (acc.length : Int) := by omega
   have h3i : ((k : Int) - 1).toNat = k - 1 := by omega
   have hk0I : (0 : Int) < (k : Int) := by omega
   have hwk : IntKind.i64.wrap ((k : Int) - 1) = (k : Int) - 1 := IntWalk.i64_in _ (by omega)
   have b0 : ∀ z : Ext wr, z.1.cell? ⟨g, (k - 1) * 2, none⟩ = some (.int .i64 x) := fun z => Ext.cell hc0 z
   have b1 : ∀ z : Ext wr, z.1.cell? ⟨g, (k - 1) * 2 + 1, none⟩ = some (.int .i64 y) := fun z => Ext.cell hc1 z
   have b2 : ∀ z : Ext wr, z.1.cell? ⟨w.heap.size + 1, 0, none⟩ = some (.int .i64 p) := fun z => Ext.cell c2 z
   have b3 : ∀ z : Ext wr, z.1.cell? ⟨w.heap.size + 1, 1, none⟩ = some (.int .i64 q) := fun z => Ext.cell c3 z
   have HLE : Aside0 (∀ z : Ext wr, Calls Tryz.prog 341 #[.agg #[.int .i64 p, .int .i64 q], .agg #[.int .i64 x, .int .i64 y]] z.1 fun e w' => e = .returned (.bool (lessP p q x y)) ∧ Below z.1.heap.size z.1 w') := ⟨fun z => specLess p q x y z.1⟩
   have HDN := Aside0.mk (fun h => insK_down (acc := acc) (p := p) (q := q) hxy h)
   have HST := Aside0.mk (fun h => insK_stop (acc := acc) (p := p) (q := q) hxy h)
   rw [show k - 1 + 1 = k by omega] at HDN HST
   clear hc0 hc1 hxy
   generalize lessP p q x y = r at *
   cases r with
   | true =>
    go_wp2
    refine wp_region_ext (by kernel_rfl) (by kernel_rfl) ?_
    repeat (go_big_quiet_step (first | (go_at_call 341; with_reducible exact Calls.ext_of (HLE.out _))))
    refine wpQuiet_nil ?_
    rintro _ ⟨z, rfl⟩
    have HBn := Aside0.mk (HBr.out.trans (z.2.mono HBr.out.size))
    go_wp2
    go_roundw
    case rel => exact ⟨k - 1, by go_num, by omega, ⟨(HDN.out (by trivial)).symm.trans HK0.out⟩, HBn⟩
    case measure => simp [intOf]; omega
   | false =>
    have HIS := HST.out (by trivial)
    go_wp2
    refine wp_region_ext (by kernel_rfl) (by kernel_rfl) ?_
    repeat (go_big_quiet_step (first | (go_at_call 341; with_reducible exact Calls.ext_of (HLE.out _))))
    refine wpQuiet_nil ?_
    rintro _ ⟨z, rfl⟩
    have HBn := Aside0.mk (HBr.out.trans (z.2.mono HBr.out.size))
    have hbz := z.2
    obtain ⟨wz, hwz⟩ : ∃ wz, wz = z.1 := ⟨_, rfl⟩
    rw [← hwz] at HBn hbz ⊢
    clear b0 b1 b2 b3 HLE hwz
    replace c2 := pw_cell_below hbz c2
    replace c3 := pw_cell_below hbz c3
    clear hbz HBr
    have HBr := HBn
    have HIN : Aside0 (insAt acc (p, q) = k) := ⟨HK0.out.symm.trans HIS⟩
    obtain ⟨Af, cf, hslf, hrf⟩ := (HQ.out.below HBr.out).from_ hk
    have HSF := Aside0.mk hslf
    have HRF := Aside0.mk hrf
    have HRT := Aside0.mk (fun W (h : Below w1.heap.size w1 W) => ReadQ.to_ (HQ.out.below h) hk)
    have HSLT := Aside0.mk ((ReadQ.to_ (HQ.out.below HBr.out) hk).1)
    have HBz := HBr.out.size
    clear hslf hrf HIS
    go_wp2
    refine wp_region_tail 5 (fun i => match i with | 0 => fun v _ => v = .agg #[.int .i64 p, .int .i64 q] | 1 => fun v W => OwnP w1.heap.size W v [(p, q)] | 2 => fun v _ => v = .slice (some ⟨g, 0, none⟩) acc.length d2 | 3 => fun v _ => v = .int .i64 (k : Nat) | 4 => fun v _ => v = .slice Af (acc.length - k) cf | _ => fun _ _ => True)
     [0, 1, 0, 0, 12, 31, 63] hmx (by kernel_rfl) ?st ?steps ?rest
    case st =>
     intro i v w1_ w2_ hb
     match i with
     | 0 | 2 | 3 | 4 => exact id
     | 1 => exact fun h => OwnP.below h hb
     | n + 5 => exact id
    case steps =>
     refine ⟨?_, ?_, ?_, ?_, ?_, trivial⟩
     ·intro s w_ hb hd R hR
      generalize hA : putAll _ 0 s _ = A
      have c2 := pw_cell_below hb c2
      have c3 := pw_cell_below hb c3
      have hR' := hR (.agg #[.int .i64 p, .int .i64 q]) _ (Below.refl _ _) rfl
      clear hR hd
      refine opGives_value ?_ hR'
      subst hA
      simp only [dsOf, List.take, List.map_cons, List.map_nil, Option.getD_some, putAll, Act.put, List.setIfInBounds_toArray, List.set_cons_zero, List.set_cons_succ]
      go_simp
     ·intro s w_ hb hd R hR
      generalize hA : putAll _ 0 s _ = A
      have e0 : s 0 = _ := hd 0 (by kernel_rfl)
      have hR' := hR (.slice (some ⟨w_.heap.size, 0, none⟩) 1 1) (w_.alloc (.cells #[.int .i64 p, .int .i64 q] 83)) (Below.alloc (Below.refl _ _) (Nat.le_refl _) _) (OwnP.single w_ p q (Nat.le_trans HBr.out.size hb.size))
      clear hR hd
      refine opGives_value ?_ hR'
      subst hA
      simp only [dsOf, List.take, List.map_cons, List.map_nil, Option.getD_some, putAll, Act.put, List.setIfInBounds_toArray, List.set_cons_zero, List.set_cons_succ]
      go_simp
     ·intro s w_ hb hd R hR
      generalize hA : putAll _ 0 s _ = A
      have hR' := hR (.slice (some ⟨g, 0, none⟩) acc.length d2) _ (Below.refl _ _) rfl
      clear hR hd
      refine opGives_value ?_ hR'
      subst hA
      simp only [dsOf, List.take, List.map_cons, List.map_nil, Option.getD_some, putAll, Act.put, List.setIfInBounds_toArray, List.set_cons_zero, List.set_cons_succ]
      go_simp
     ·intro s w_ hb hd R hR
      generalize hA : putAll _ 0 s _ = A
      have hR' := hR (.int .i64 (k : Nat)) _ (Below.refl _ _) rfl
      clear hR hd
      refine opGives_value ?_ hR'
      subst hA
      simp only [dsOf, List.take, List.map_cons, List.map_nil, Option.getD_some, putAll, Act.put, List.setIfInBounds_toArray, List.set_cons_zero, List.set_cons_succ]
      go_simp
     ·intro s w_ hb hd R hR
      generalize hA : putAll _ 0 s _ = A
      have e2 : s 2 = _ := hd 2 (by kernel_rfl)
      have e3 : s 3 = _ := hd 3 (by kernel_rfl)
      have hR' := hR (.slice Af (acc.length - k) cf) _ (Below.refl _ _) rfl
      clear hR hd
      refine opGives_value (slice_execQ Tryz.underlying51 rfl ?_) hR'
      subst hA
      simp only [dsOf, List.take, List.map_cons, List.map_nil, Option.getD_some, putAll, Act.put, List.setIfInBounds_toArray, List.set_cons_zero, List.set_cons_succ]
      show (Instr.slice 51 (s 2) (some (s 3)) none none).run Tryz.prog w_ = _
      rw [e2, e3]
      exact HSF.out w_
    case rest =>
     intro s9 w9 hb hv
     have o1_ : OwnP w1.heap.size w9 (s9 1) [(p, q)] := hv 1 (by decide)
     have e4_ : s9 4 = _ := hv 4 (by decide)
     clear hv
     simp only [dsOf, List.take, List.map_cons, List.map_nil, Option.getD_some, putAll, Act.put, List.setIfInBounds_toArray, List.set_cons_zero, List.set_cons_succ]
     have h9 := Below.size hb
     refine .inl (appP_gives w1.heap.size (.tmp 27) (.tmp 30) rfl (s9 1) [(p, q)] (acc.drop k) Af (acc.length - k) cf rfl e4_ o1_ (HRF.out.below hb) (by omega) (by rw [List.length_drop]; simp; omega) ?_)
     intro v1 w10 ho10 hg10
     simp only [List.drop, Act.put, List.setIfInBounds_toArray, List.set_cons_zero, List.set_cons_succ]
     refine .inl (opGives_value (v := v1) (w' := w10) (by go_simp) ?_)
     simp only [List.drop, Act.put, List.setIfInBounds_toArray, List.set_cons_zero, List.set_cons_succ]
     unfold tailList
     have HO10 := Aside0.mk (show OwnP w1.heap.size w10 v1 ([(p, q)] ++ acc.drop k) from ho10)
     have HB10 := Aside0.mk ((HBr.out.trans (hb.mono HBr.out.size)).grown hg10 (by omega) (fun j hj => OwnP.base o1_ j hj))
     have hLn : ([(p, q)] ++ acc.drop k).length = acc.length - k + 1 := by rw [List.length_append, List.length_drop]; simp; omega
     have c0 := pw_cell_below HB10.out c0w
     have c1 := pw_cell_below HB10.out c1w
     have hz10 := HB10.out.size
     clear ho10 hg10 hb o1_ e4_ h9
     obtain ⟨A10, c10, rfl, -⟩ := id HO10.out.readQ
     rw [hLn] at HO10 ⊢
     have HE := Aside0.mk (OwnP.empty (b := w1.heap.size) w10 hz10)
     have HBE : Aside0 (Below w10.heap.size w10 (w10.alloc (.cells #[] 83))) := ⟨Below.alloc (Below.refl _ _) (Nat.le_refl _) _⟩
     have hba : Below w10.heap.size w10 (w10.alloc (.cells #[] 83)) := HBE.out
     have m0 := pw_cell_below hba c0
     have m1 := pw_cell_below hba c1
     clear hba
     go_wp2_with (first | ((with_reducible refine gate_dst (N := 35) rfl ?_); refine slice_toldQ (u := .slice (some ⟨g, 0, none⟩) k d2) Tryz.underlying51 rfl rfl HSLT.out ?_) | ((with_reducible refine gate_builtin (b := .append) (xs := #[.tmp 32, .tmp 35]) rfl ?_); refine appP_list w1.heap.size rfl (.tmp 32) (.tmp 35) rfl (.slice (some ⟨w10.heap.size, 0, none⟩) 0 0) [] (acc.take k) (some ⟨g, 0, none⟩) k d2 rfl rfl HE.out (HRT.out _ (HB10.out.trans (HBE.out.mono hz10))).2 (Nat.le_trans hz10 HBE.out.size) (by rw [List.length_take]; simp; omega) ?_; intro v6 w6 ho6 hg6; have HO6 := Aside0.mk (show OwnP w1.heap.size w6 v6 (acc.take k) from ho6); have hb6 : Below w10.heap.size w10 w6 := (HBE.out.grown hg6 HBE.out.size (fun j hj => by have e2 : w10.heap.size = j := Option.some.inj hj; omega)); have HB6 := Aside0.mk (HB10.out.trans (hb6.mono hz10)); have HO6b := Aside0.mk (OwnP.below HO10.out hb6); replace m0 := pw_cell_below hb6 c0; replace m1 := pw_cell_below hb6 c1; have hz6 := hb6.size; clear ho6 hg6 hb6; obtain ⟨A6, c6, rfl, -⟩ := id HO6.out.readQ; generalize hn6 : List.length (acc.take k) = n6 at HO6 ⊢; clear hn6) | ((with_reducible refine gate_builtin (b := .append) (xs := #[.tmp 36, .tmp 37]) rfl ?_); refine appP_list w1.heap.size rfl (.tmp 36) (.tmp 37) rfl _ (acc.take k) ([(p, q)] ++ acc.drop k) A10 (acc.length - k + 1) c10 rfl rfl HO6.out HO6b.out.readQ (Nat.le_trans hz10 hz6) (by rw [List.length_take, hLn]; omega) ?_; intro v7 w7 ho7 hg7; have HO7 := Aside0.mk (show OwnP w1.heap.size w7 v7 (putP acc k (p, q)) from ho7); have hb7 := HB6.out.grown hg7 (Nat.le_trans hz10 hz6) (fun j hj => OwnP.base HO6.out j hj); have HB7 := Aside0.mk hb7; replace m0 := pw_cell_below hb7 c0w; replace m1 := pw_cell_below hb7 c1w; clear ho7 hg7 hb7; obtain ⟨A7, c7, rfl, -⟩ := id HO7.out.readQ; generalize hn7 : List.length (putP acc k (p, q)) = n7 at HO7 ⊢; clear hn7) | (go_at_call 332; go_must (refine Calls.mono (specIs2 n _ xs _ (putP acc k (p, q)) _ (HK.out.below HB7.out) HO7.out.read HC.out) ?_; rintro e w8 ⟨rfl, hb⟩; have HO8 := Aside0.mk (OwnP.below HO7.out hb); have HB8 := Aside0.mk (HB7.out.trans (hb.mono HB7.out.size)); clear hb)))
     go_ret2
     exact ⟨_, by rw [HIN.out]; rfl, by rw [HIN.out]; exact OwnP.lower HO8.out HB.out.size, HB.out.trans (HB8.out.mono HB.out.size)⟩
  ·have hk0I : ¬ (0 : Int) < (k : Int) := by omega
   have e0 : k = 0 := by omega
   have HIS : insK acc (p, q) k = k := by rw [e0]; rfl
   clear e0
   go_wp2
   refine wp_region_ext (by kernel_rfl) (by kernel_rfl) ?_
   repeat (go_big_quiet_step (fail))
   refine wpQuiet_nil ?_
   rintro _ ⟨z, rfl⟩
   have HBn := Aside0.mk (HBr.out.trans (z.2.mono HBr.out.size))
   have hbz := z.2
   obtain ⟨wz, hwz⟩ : ∃ wz, wz = z.1 := ⟨_, rfl⟩
   rw [← hwz] at HBn hbz ⊢
   clear hwz
   replace c2 := pw_cell_below hbz c2
   replace c3 := pw_cell_below hbz c3
   clear hbz HBr
   have HBr := HBn
   have HIN : Aside0 (insAt acc (p, q) = k) := ⟨HK0.out.symm.trans HIS⟩
   obtain ⟨Af, cf, hslf, hrf⟩ := (HQ.out.below HBr.out).from_ hk
   have HSF := Aside0.mk hslf
   have HRF := Aside0.mk hrf
   have HRT := Aside0.mk (fun W (h : Below w1.heap.size w1 W) => ReadQ.to_ (HQ.out.below h) hk)
   have HSLT := Aside0.mk ((ReadQ.to_ (HQ.out.below HBr.out) hk).1)
   have HBz := HBr.out.size
   clear hslf hrf HIS
   go_wp2
   refine wp_region_tail 5 (fun i => match i with | 0 => fun v _ => v = .agg #[.int .i64 p, .int .i64 q] | 1 => fun v W => OwnP w1.heap.size W v [(p, q)] | 2 => fun v _ => v = .slice A2 acc.length d2 | 3 => fun v _ => v = .int .i64 (k : Nat) | 4 => fun v _ => v = .slice Af (acc.length - k) cf | _ => fun _ _ => True)
    [0, 1, 0, 0, 12, 31, 63] hmx (by kernel_rfl) ?st ?steps ?rest
   case st =>
    intro i v w1_ w2_ hb
    match i with
    | 0 | 2 | 3 | 4 => exact id
    | 1 => exact fun h => OwnP.below h hb
    | n + 5 => exact id
   case steps =>
    refine ⟨?_, ?_, ?_, ?_, ?_, trivial⟩
    ·intro s w_ hb hd R hR
     generalize hA : putAll _ 0 s _ = A
     have c2 := pw_cell_below hb c2
     have c3 := pw_cell_below hb c3
     have hR' := hR (.agg #[.int .i64 p, .int .i64 q]) _ (Below.refl _ _) rfl
     clear hR hd
     refine opGives_value ?_ hR'
     subst hA
     simp only [dsOf, List.take, List.map_cons, List.map_nil, Option.getD_some, putAll, Act.put, List.setIfInBounds_toArray, List.set_cons_zero, List.set_cons_succ]
     go_simp
    ·intro s w_ hb hd R hR
     generalize hA : putAll _ 0 s _ = A
     have e0 : s 0 = _ := hd 0 (by kernel_rfl)
     have hR' := hR (.slice (some ⟨w_.heap.size, 0, none⟩) 1 1) (w_.alloc (.cells #[.int .i64 p, .int .i64 q] 83)) (Below.alloc (Below.refl _ _) (Nat.le_refl _) _) (OwnP.single w_ p q (Nat.le_trans HBr.out.size hb.size))
     clear hR hd
     refine opGives_value ?_ hR'
     subst hA
     simp only [dsOf, List.take, List.map_cons, List.map_nil, Option.getD_some, putAll, Act.put, List.setIfInBounds_toArray, List.set_cons_zero, List.set_cons_succ]
     go_simp
    ·intro s w_ hb hd R hR
     generalize hA : putAll _ 0 s _ = A
     have hR' := hR (.slice A2 acc.length d2) _ (Below.refl _ _) rfl
     clear hR hd
     refine opGives_value ?_ hR'
     subst hA
     simp only [dsOf, List.take, List.map_cons, List.map_nil, Option.getD_some, putAll, Act.put, List.setIfInBounds_toArray, List.set_cons_zero, List.set_cons_succ]
     go_simp
    ·intro s w_ hb hd R hR
     generalize hA : putAll _ 0 s _ = A
     have hR' := hR (.int .i64 (k : Nat)) _ (Below.refl _ _) rfl
     clear hR hd
     refine opGives_value ?_ hR'
     subst hA
     simp only [dsOf, List.take, List.map_cons, List.map_nil, Option.getD_some, putAll, Act.put, List.setIfInBounds_toArray, List.set_cons_zero, List.set_cons_succ]
     go_simp
    ·intro s w_ hb hd R hR
     generalize hA : putAll _ 0 s _ = A
     have e2 : s 2 = _ := hd 2 (by kernel_rfl)
     have e3 : s 3 = _ := hd 3 (by kernel_rfl)
     have hR' := hR (.slice Af (acc.length - k) cf) _ (Below.refl _ _) rfl
     clear hR hd
     refine opGives_value (slice_execQ Tryz.underlying51 rfl ?_) hR'
     subst hA
     simp only [dsOf, List.take, List.map_cons, List.map_nil, Option.getD_some, putAll, Act.put, List.setIfInBounds_toArray, List.set_cons_zero, List.set_cons_succ]
     show (Instr.slice 51 (s 2) (some (s 3)) none none).run Tryz.prog w_ = _
     rw [e2, e3]
     exact HSF.out w_
   case rest =>
    intro s9 w9 hb hv
    have o1_ : OwnP w1.heap.size w9 (s9 1) [(p, q)] := hv 1 (by decide)
    have e4_ : s9 4 = _ := hv 4 (by decide)
    clear hv
    simp only [dsOf, List.take, List.map_cons, List.map_nil, Option.getD_some, putAll, Act.put, List.setIfInBounds_toArray, List.set_cons_zero, List.set_cons_succ]
    have h9 := Below.size hb
    refine .inl (appP_gives w1.heap.size (.tmp 27) (.tmp 30) rfl (s9 1) [(p, q)] (acc.drop k) Af (acc.length - k) cf rfl e4_ o1_ (HRF.out.below hb) (by omega) (by rw [List.length_drop]; simp; omega) ?_)
    intro v1 w10 ho10 hg10
    simp only [List.drop, Act.put, List.setIfInBounds_toArray, List.set_cons_zero, List.set_cons_succ]
    refine .inl (opGives_value (v := v1) (w' := w10) (by go_simp) ?_)
    simp only [List.drop, Act.put, List.setIfInBounds_toArray, List.set_cons_zero, List.set_cons_succ]
    unfold tailList
    have HO10 := Aside0.mk (show OwnP w1.heap.size w10 v1 ([(p, q)] ++ acc.drop k) from ho10)
    have HB10 := Aside0.mk ((HBr.out.trans (hb.mono HBr.out.size)).grown hg10 (by omega) (fun j hj => OwnP.base o1_ j hj))
    have hLn : ([(p, q)] ++ acc.drop k).length = acc.length - k + 1 := by rw [List.length_append, List.length_drop]; simp; omega
    have c0 := pw_cell_below HB10.out c0w
    have c1 := pw_cell_below HB10.out c1w
    have hz10 := HB10.out.size
    clear ho10 hg10 hb o1_ e4_ h9
    obtain ⟨A10, c10, rfl, -⟩ := id HO10.out.readQ
    rw [hLn] at HO10 ⊢
    have HE := Aside0.mk (OwnP.empty (b := w1.heap.size) w10 hz10)
    have HBE : Aside0 (Below w10.heap.size w10 (w10.alloc (.cells #[] 83))) := ⟨Below.alloc (Below.refl _ _) (Nat.le_refl _) _⟩
    have hba : Below w10.heap.size w10 (w10.alloc (.cells #[] 83)) := HBE.out
    have m0 := pw_cell_below hba c0
    have m1 := pw_cell_below hba c1
    clear hba
    go_wp2_with (first | ((with_reducible refine gate_dst (N := 35) rfl ?_); refine slice_toldQ (u := .slice A2 k d2) Tryz.underlying51 rfl rfl HSLT.out ?_) | ((with_reducible refine gate_builtin (b := .append) (xs := #[.tmp 32, .tmp 35]) rfl ?_); refine appP_list w1.heap.size rfl (.tmp 32) (.tmp 35) rfl (.slice (some ⟨w10.heap.size, 0, none⟩) 0 0) [] (acc.take k) A2 k d2 rfl rfl HE.out (HRT.out _ (HB10.out.trans (HBE.out.mono hz10))).2 (Nat.le_trans hz10 HBE.out.size) (by rw [List.length_take]; simp; omega) ?_; intro v6 w6 ho6 hg6; have HO6 := Aside0.mk (show OwnP w1.heap.size w6 v6 (acc.take k) from ho6); have hb6 : Below w10.heap.size w10 w6 := (HBE.out.grown hg6 HBE.out.size (fun j hj => by have e2 : w10.heap.size = j := Option.some.inj hj; omega)); have HB6 := Aside0.mk (HB10.out.trans (hb6.mono hz10)); have HO6b := Aside0.mk (OwnP.below HO10.out hb6); replace m0 := pw_cell_below hb6 c0; replace m1 := pw_cell_below hb6 c1; have hz6 := hb6.size; clear ho6 hg6 hb6; obtain ⟨A6, c6, rfl, -⟩ := id HO6.out.readQ; generalize hn6 : List.length (acc.take k) = n6 at HO6 ⊢; clear hn6) | ((with_reducible refine gate_builtin (b := .append) (xs := #[.tmp 36, .tmp 37]) rfl ?_); refine appP_list w1.heap.size rfl (.tmp 36) (.tmp 37) rfl _ (acc.take k) ([(p, q)] ++ acc.drop k) A10 (acc.length - k + 1) c10 rfl rfl HO6.out HO6b.out.readQ (Nat.le_trans hz10 hz6) (by rw [List.length_take, hLn]; omega) ?_; intro v7 w7 ho7 hg7; have HO7 := Aside0.mk (show OwnP w1.heap.size w7 v7 (putP acc k (p, q)) from ho7); have hb7 := HB6.out.grown hg7 (Nat.le_trans hz10 hz6) (fun j hj => OwnP.base HO6.out j hj); have HB7 := Aside0.mk hb7; replace m0 := pw_cell_below hb7 c0w; replace m1 := pw_cell_below hb7 c1w; clear ho7 hg7 hb7; obtain ⟨A7, c7, rfl, -⟩ := id HO7.out.readQ; generalize hn7 : List.length (putP acc k (p, q)) = n7 at HO7 ⊢; clear hn7) | (go_at_call 332; go_must (refine Calls.mono (specIs2 n _ xs _ (putP acc k (p, q)) _ (HK.out.below HB7.out) HO7.out.read HC.out) ?_; rintro e w8 ⟨rfl, hb⟩; have HO8 := Aside0.mk (OwnP.below HO7.out hb); have HB8 := Aside0.mk (HB7.out.trans (hb.mono HB7.out.size)); clear hb)))
    go_ret2
    exact ⟨_, by rw [HIN.out]; rfl, by rw [HIN.out]; exact OwnP.lower HO8.out HB.out.size, HB.out.trans (HB8.out.mono HB.out.size)⟩
/-- the vertex that is asked last -/
def lastQ (n : Nat) (t : List Int) (b : Nat) : Nat := qN t (plc t b (n - 1))
def potB (n : Nat) (xs t : List Int) (b : Nat) : Bool := b.testBit (lastQ n t b) && decide (((b ^^^ 2 ^ lastQ n t b : Nat) : Int) ∈ xs)
def potL (n : Nat) (xs t ys : List Int) : List (Int × Int) := ys.flatMap fun x => if potB n xs t x.toNat then [(((x.toNat ^^^ 2 ^ lastQ n t x.toNat : Nat) : Int), (x.toNat : Int))] else []
theorem potL_hit {n : Nat} {xs t ys : List Int} {i b : Nat} (hi : i < ys.length) (hy : ys.getD i 0 = (b : Int)) (h : potB n xs t b = true) : potL n xs t (ys.take (i + 1)) = potL n xs t (ys.take i) ++ [(((b ^^^ 2 ^ lastQ n t b : Nat) : Int), (b : Int))] := by
 unfold potL
 rw [take_get hi hy, List.flatMap_append, List.flatMap_singleton]
 simp only [Int.toNat_natCast]
 rw [if_pos h]
theorem potL_miss {n : Nat} {xs t ys : List Int} {i b : Nat} (hi : i < ys.length) (hy : ys.getD i 0 = (b : Int)) (h : potB n xs t b = false) : potL n xs t (ys.take (i + 1)) = potL n xs t (ys.take i) := by
 unfold potL
 rw [take_get hi hy, List.flatMap_append, List.flatMap_singleton]
 simp only [Int.toNat_natCast]
 rw [if_neg (by rw [h]; decide), List.append_nil]
theorem potL_len (n : Nat) (xs t : List Int) : ∀ ys : List Int, (potL n xs t ys).length ≤ ys.length
 | [] => by simp [potL]
 | y :: r => by
  have ih := potL_len n xs t r
  unfold potL at ih ⊢
  rw [List.flatMap_cons, List.length_append, List.length_cons]
  refine Nat.le_trans (Nat.add_le_add (show _ ≤ 1 from ?_) ih) (by omega)
  split <;> simp
/-- what PairingOfTree answers -/
def ansPairingOfTree (a : Int) (xs t : List Int) : List (Int × Int) × Int := if cxOk a xs then (if treeOk a.toNat t then (sortL (potL a.toNat xs t xs), 0) else ([], 2)) else ([], 1)
theorem sortL_len (ps : List (Int × Int)) : (sortL ps).length = ps.length := List.length_mergeSort _
theorem sortL_nil : sortL [] = [] := by unfold sortL; simp
theorem insK_spec (acc : List (Int × Int)) (p : Int × Int) : ∀ k, (∀ j, insK acc p k ≤ j → j < k → lessP p.1 p.2 (acc.getD j (0, 0)).1 (acc.getD j (0, 0)).2 = true) ∧ (0 < insK acc p k → lessP p.1 p.2 (acc.getD (insK acc p k - 1) (0, 0)).1 (acc.getD (insK acc p k - 1) (0, 0)).2 = false)
 | 0 => ⟨fun j _ h => absurd h (Nat.not_lt_zero _), fun h => absurd h (by simp [insK])⟩
 | k + 1 => by
  have ih := insK_spec acc p k
  cases hq : lessP p.1 p.2 (acc.getD k (0, 0)).1 (acc.getD k (0, 0)).2 with
  | true =>
   have e : insK acc p (k + 1) = insK acc p k := by conv => lhs; unfold insK
                                                    rw [if_pos hq]
   rw [e]
   refine ⟨fun j h1 h2 => ?_, ih.2⟩
   rcases Nat.lt_succ_iff_lt_or_eq.1 h2 with h | rfl
   ·exact ih.1 j h1 h
   ·exact hq
  | false =>
   have e : insK acc p (k + 1) = k + 1 := by conv => lhs; unfold insK
                                             rw [if_neg (by rw [hq]; decide)]
   rw [e]
   exact ⟨fun j h1 h2 => by omega, fun _ => hq⟩
theorem less_leP {p q : Int × Int} : lessP p.1 p.2 q.1 q.2 = true → leP p q := fun h => by
 unfold lessP at h
 rw [Bool.or_eq_true, decide_eq_true_eq, Bool.and_eq_true, beq_iff_eq, decide_eq_true_eq] at h
 unfold leP; omega
theorem nless_leP {p q : Int × Int} : lessP p.1 p.2 q.1 q.2 = false → leP q p := fun h => by
 unfold lessP at h
 rw [Bool.or_eq_false_iff, decide_eq_false_iff_not, Bool.and_eq_false_iff, beq_eq_false_iff_ne, decide_eq_false_iff_not] at h
 unfold leP; omega
/-- what is put in behind a sorted row -/
theorem put_in {ps acc : List (Int × Int)} (p : Int × Int) (he : acc = sortL ps) : putP acc (insAt acc p) p = sortL (ps ++ [p]) := by
 have hs := insK_spec acc p acc.length
 refine put_sort he (insK_le _ _ _) (fun j hj hkj => ?_) (fun hlt h0 => ?_)
 ·have := hs.1 j hkj hj
  rw [List.getD_eq_getElem?_getD, List.getElem?_eq_getElem hj, Option.getD_some] at this
  exact less_leP this
 ·have := hs.2 h0
  rw [show insK acc p acc.length = insAt acc p from rfl, List.getD_eq_getElem?_getD, List.getElem?_eq_getElem hlt, Option.getD_some] at this
  exact nless_leP this
theorem last_q {n : Nat} {t : List Int} (hn1 : 1 ≤ n) (hn : n ≤ 6) (ht : treeOk n t = true) (b : Nat) : (wayL t b n).getD (n - 1) 0 = (lastQ n t b : Int) ∧ lastQ n t b < n := by
 have hpl := plc_in hn t b (n - 1) (by omega)
 have hq := tree_in ht (p := plc t b (n - 1)) hpl.1 hpl.2.1
 refine ⟨?_, hq.2.2.2⟩
 unfold wayL
 rw [List.getD_eq_getElem?_getD, List.getElem?_map, List.getElem?_range (by omega)]
 exact hq.2.2.1
theorem and_bitP (z v : Nat) : z &&& 2 ^ v = if z.testBit v then 2 ^ v else 0 := by
 apply Nat.eq_of_testBit_eq
 intro i
 rw [Nat.testBit_and, Nat.testBit_two_pow]
 by_cases h : v = i
 ·subst h
  cases hq : z.testBit v <;> simp
 ·cases hq : z.testBit v <;> simp [h, Nat.testBit_two_pow]
/-- those of 1 .. k - 1 that are as told -/
def thL (p : Int → Bool) (k : Nat) : List Int := (List.range k).filterMap fun (f : Nat) => if decide (1 ≤ f) && p (f : Int) then some (f : Int) else none
theorem thL_hit {p : Int → Bool} {k : Nat} (h1 : 1 ≤ k) (h : p k = true) : thL p (k + 1) = thL p k ++ [(k : Int)] := by
 unfold thL
 rw [List.range_succ, List.filterMap_append]
 simp [h, h1]
theorem thL_miss {p : Int → Bool} {k : Nat} (h : p k = false) : thL p (k + 1) = thL p k := by
 unfold thL
 rw [List.range_succ, List.filterMap_append]
 simp [h]
theorem thL_len (p : Int → Bool) (k : Nat) : (thL p k).length ≤ k := by
 unfold thL
 exact Nat.le_trans (List.length_filterMap_le _ _) (by simp)
theorem thL_one (p : Int → Bool) : thL p 1 = [] := by simp [thL]
theorem set_grown' (w : World) (b i : Nat) (v : Value) : w.grownBy (w.setCell ⟨b, i, none⟩ v) (some b) :=
 ⟨rfl, rfl, rfl, by simp, fun k _ hne => Below.heap_setCell w ⟨b, i, none⟩ v k (fun e => hne (by rw [e]))⟩
set_option maxHeartbeats 2000000 in
theorem those (n : Nat) (hn : n ≤ 6) (fv : Value) (p : Int → Bool) (w : World) (hp : PredI w fv p (fun f => 1 ≤ f ∧ f < ((2 ^ n : Nat) : Int))) :
  Calls Tryz.prog 136 #[.int .i64 n, fv] w fun e w' => ∃ u, e = .returned (.agg #[.int .i64 n, u]) ∧ OwnI w.heap.size w' u (thL p (2 ^ n)) ∧ Below w.heap.size w w' := by
 obtain ⟨g, first, caps, rfl, hent, hp⟩ := hp
 have HP := Aside0.mk hp
 unfold Enters at hent
 have hsh := pow_wrap n (by omega)
 have hb64 : 1 ≤ 2 ^ n ∧ 2 ^ n ≤ 64 := by
  rcases (by omega : n = 0 ∨ n = 1 ∨ n = 2 ∨ n = 3 ∨ n = 4 ∨ n = 5 ∨ n = 6) with rfl | rfl | rfl | rfl | rfl | rfl | rfl <;> decide
 obtain ⟨N, hN⟩ : ∃ N : Nat, N = 2 ^ n := ⟨_, rfl⟩
 rw [← hN] at hsh hb64 HP ⊢
 clear hp hN
 obtain ⟨w0, hw0⟩ : ∃ w0, w0 = (w.alloc (Obj.cells #[Value.int IntKind.i64 0, Value.slice none 0 0] 26)).alloc (Obj.cells #[Value.int IntKind.i64 n, Value.slice none 0 0] 26) := ⟨_, rfl⟩
 have hs0 : w0.heap.size = w.heap.size + 1 + 1 := by rw [hw0]; simp
 have hb1 : w0.heap[w.heap.size]? = some (Obj.cells #[Value.int IntKind.i64 0, Value.slice none 0 0] 26) := by
  rw [hw0]; exact blk_alloc (blk_new w _) _
 have hb2 : w0.heap[w.heap.size + 1]? = some (Obj.cells #[Value.int IntKind.i64 n, Value.slice none 0 0] 26) := by
  rw [hw0]
  have := blk_new (w.alloc (Obj.cells #[Value.int IntKind.i64 0, Value.slice none 0 0] 26)) (Obj.cells #[Value.int IntKind.i64 n, Value.slice none 0 0] 26)
  rwa [World.size_alloc] at this
 have hB0 : Below w.heap.size w w0 := by rw [hw0]; exact ((Below.refl _ w).alloc (Nat.le_refl _) _).alloc (by simp) _
 have HB0 := Aside0.mk hB0
 have HK1 := Aside0.mk hb1
 have HK2 := Aside0.mk hb2
 have HS0 := Aside0.mk hs0
 clear hB0 hb1 hb2 hs0
 go_enter Tryz.func136, Tryz.ntmps136
 go_wp2
 rw [← hw0]
 clear hw0
 go_loopw [6] (fun s wr => ∃ k : Nat, s = .int .i64 k ∧ 1 ≤ k ∧ k ≤ N ∧ (∃ v, Aside0 (wr.heap[w.heap.size + 1]? = some (Obj.cells #[.int .i64 n, v] 26)) ∧ Aside0 (OwnI w0.heap.size wr v (thL p k))) ∧ Aside0 (wr.heap[w.heap.size]? = some (Obj.cells #[.int .i64 0, .slice none 0 0] 26)) ∧ Aside0 (Below w.heap.size w wr)) (fun s _ => N - (intOf s).toNat)
 case atStart => exact ⟨1, rfl, by omega, hb64.1, ⟨_, HK2, ⟨by rw [thL_one]; exact OwnI.nil _ _⟩⟩, HK1, HB0⟩
 case round =>
  obtain ⟨k, rfl, hk1, hkN, ⟨v, HKb, HO⟩, HKa, HB⟩ := hrel
  obtain ⟨Av, cv, rfl, -⟩ := HO.out.read
  by_cases hlt : k < N
  ·have hdom : 1 ≤ (k : Int) ∧ (k : Int) < N := by omega
   have HD := Aside0.mk hdom
   have hll := thL_len p k
   clear hdom
   cases hpk : p k with
   | true =>
    have HH := Aside0.mk (thL_hit hk1 hpk)
    go_wp2_with (first | (refine (HP.out _ _ HB.out HD.out).mono ?_; rintro e w5 ⟨rfl, hb⟩; have HKb5 := Aside0.mk (blk_below HKb.out hb); have HKa5 := Aside0.mk (blk_below HKa.out hb); have HO5 := Aside0.mk (OwnI.below HO.out hb); have HB5 := Aside0.mk (HB.out.trans (hb.mono HB.out.size)); have c51 : w5.cell? ⟨w.heap.size + 1, 1, none⟩ = some (.slice Av (thL p k).length cv) := blk_cell HKb5.out 1; have hz5 : w0.heap.size ≤ w5.heap.size := (by have := HS0.out; have := blk_lt HKb5.out; omega); clear hb) | (at_builtin; refine app_own (w0 := w5) w0.heap.size rfl (.tmp 19) (.tmp 21) rfl _ (thL p k) k rfl rfl HO5.out (Below.refl _ _) hz5 ?hl ?_; (case hl => omega); intro v1 w6 ho hb2 hg hat; have hne : some (w.heap.size + 1) ≠ (Value.slice Av (thL p k).length cv).ownBlock := (fun e => by have := HO5.out.base _ e.symm; have := HS0.out; omega); have hne2 : some w.heap.size ≠ (Value.slice Av (thL p k).length cv).ownBlock := (fun e => by have := HO5.out.base _ e.symm; have := HS0.out; omega); have HKb6 := Aside0.mk ((hg.block _ (blk_lt HKb5.out) hne).trans HKb5.out); have HKa6 := Aside0.mk ((hg.block _ (blk_lt HKa5.out) hne2).trans HKa5.out); have HO6 := Aside0.mk ho; have HB6 := Aside0.mk (HB5.out.trans (hb2.mono (by have := HS0.out; omega))); have c61 : w6.cell? ⟨w.heap.size + 1, 1, none⟩ = some (.slice Av (thL p k).length cv) := blk_cell HKb6.out 1; have f61 : w6.frozen? ⟨w.heap.size + 1, 1, none⟩ = false := blk_frozen HKb6.out 1; obtain ⟨A6, d6, rfl, -⟩ := ho.read; clear ho hb2 hg hat hne hne2))
    go_roundw
    case rel =>
     refine ⟨k + 1, by go_num, by omega, by omega, ⟨_, ⟨blk_put HKb6.out 1 _ rfl⟩, ⟨?_⟩⟩, ⟨blk_far HKa6.out (by simp) _⟩, ⟨HB6.out.setCell (by simp) _⟩⟩
     rw [HH.out]
     have h6 := HO6.out
     rw [List.length_append, List.length_singleton] at h6
     exact h6.grown (set_grown' _ (w.heap.size + 1) _ _) (fun j hj e => by have := h6.base _ hj; have := HS0.out; cases e; omega)
    case measure => simp [intOf]; omega
   | false =>
    have HH := Aside0.mk (thL_miss hpk)
    go_wp2_with (first | (refine (HP.out _ _ HB.out HD.out).mono ?_; rintro e w5 ⟨rfl, hb⟩))
    go_roundw
    case rel => exact ⟨k + 1, by go_num, by omega, by omega, ⟨_, ⟨blk_below HKb.out hb⟩, ⟨by rw [HH.out]; exact OwnI.below HO.out hb⟩⟩, ⟨blk_below HKa.out hb⟩, ⟨HB.out.trans (hb.mono HB.out.size)⟩⟩
    case measure => simp [intOf]; omega
  ·have e : k = N := by omega
   have HE := Aside0.mk e
   have c10 : wr.cell? ⟨w.heap.size + 1, 0, none⟩ = some (.int .i64 n) := blk_cell HKb.out 0
   have c11 : wr.cell? ⟨w.heap.size + 1, 1, none⟩ = some (.slice Av (thL p k).length cv) := blk_cell HKb.out 1
   have c00 : wr.cell? ⟨w.heap.size, 0, none⟩ = some (.int .i64 0) := blk_cell HKa.out 0
   have c01 : wr.cell? ⟨w.heap.size, 1, none⟩ = some (.slice none 0 0) := blk_cell HKa.out 1
   have f00 : wr.frozen? ⟨w.heap.size, 0, none⟩ = false := blk_frozen HKa.out 0
   have f01 : wr.frozen? ⟨w.heap.size, 1, none⟩ = false := blk_frozen HKa.out 1
   clear e
   go_wp2
   refine bodyPost_ret (results_cell_row rfl _ _ w.heap.size 26 #[.int .i64 n, .slice Av (thL p k).length cv] (0, 0) _ rfl (by refine blk_put (cs := #[.int .i64 n, .slice none 0 0]) ?_ 1 _ rfl; refine blk_put (cs := #[.int .i64 0, .slice none 0 0]) ?_ 0 _ rfl; exact HKa.out) Tryz.underlying26 rfl (by kernel_rfl)) rfl ?_
   refine ⟨_, rfl, ?_, (HB.out.setCell (by simp) _).setCell (by simp) _⟩
   rw [← HE.out]
   have hn := HO.out.base
   have hs := HS0.out
   have ho := HO.out.lower (b' := w.heap.size) (by omega)
   exact (ho.grown (set_grown' _ w.heap.size _ _) (fun j hj e => by have := hn _ hj; cases e; omega)).grown (set_grown' _ w.heap.size _ _) (fun j hj e => by have := hn _ hj; cases e; omega)
/-- two ascending lists of the same numbers -/
theorem asc_ext : ∀ {l l' : List Int}, l.Pairwise (· < ·) → l'.Pairwise (· < ·) → (∀ x, x ∈ l ↔ x ∈ l') → l = l'
 | [], [], _, _, _ => rfl
 | [], b :: l', _, _, h => by have := (h b).2 List.mem_cons_self; cases this
 | a :: l, [], _, _, h => by have := (h a).1 List.mem_cons_self; cases this
 | a :: l, b :: l', h1, h2, h => by
  rw [List.pairwise_cons] at h1 h2
  have hab : a = b := by
   have e1 := (h a).1 List.mem_cons_self
   have e2 := (h b).2 List.mem_cons_self
   rcases List.mem_cons.1 e1 with e1 | e1
   ·exact e1
   ·rcases List.mem_cons.1 e2 with e2 | e2
    ·exact e2.symm
    ·have := h2.1 a e1; have := h1.1 b e2; omega
  subst hab
  rw [asc_ext h1.2 h2.2 (fun x => ?_)]
  constructor
  ·intro hx
   have h3 := h1.1 x hx
   rcases List.mem_cons.1 ((h x).1 (List.mem_cons_of_mem _ hx)) with e | e
   ·omega
   ·exact e
  ·intro hx
   have h3 := h2.1 x hx
   rcases List.mem_cons.1 ((h x).2 (List.mem_cons_of_mem _ hx)) with e | e
   ·omega
   ·exact e
theorem thL_mem {p : Int → Bool} {k : Nat} {x : Int} : x ∈ thL p k ↔ ∃ q : Nat, x = q ∧ 1 ≤ q ∧ q < k ∧ p q = true := by
 unfold thL
 rw [List.mem_filterMap]
 constructor
 ·rintro ⟨q, hq, h⟩
  rw [List.mem_range] at hq
  split at h
  ·next h1 =>
   simp only [Bool.and_eq_true, decide_eq_true_eq] at h1
   exact ⟨q, by cases h; rfl, h1.1, hq, h1.2⟩
  ·cases h
 ·rintro ⟨q, rfl, h1, h2, h3⟩
  exact ⟨q, List.mem_range.2 h2, by simp [h1, h3]⟩
theorem thL_asc (p : Int → Bool) (k : Nat) : (thL p k).Pairwise (· < ·) := by
 induction k with
 | zero => simp [thL]
 | succ k ih =>
  cases hp : p k with
  | false => rw [thL_miss hp]; exact ih
  | true =>
   by_cases h1 : 1 ≤ k
   ·rw [thL_hit h1 hp, List.pairwise_append]
    refine ⟨ih, by simp, fun x hx y hy => ?_⟩
    obtain ⟨q, rfl, _, hq, _⟩ := thL_mem.1 hx
    simp at hy
    omega
   ·obtain rfl : k = 0 := by omega
    rw [thL_one]
    exact List.Pairwise.nil
theorem thL_filter {n : Nat} {xs : List Int} (hc : Cx n xs) (p : Int → Bool) : thL (fun f => decide (f ∈ xs) && p f) (2 ^ n) = xs.filter p := by
 refine asc_ext (thL_asc _ _) (hc.asc.sublist List.filter_sublist) (fun x => ?_)
 rw [thL_mem, List.mem_filter]
 constructor
 ·rintro ⟨q, rfl, _, _, h⟩
  simpa using h
 ·rintro ⟨hx, hp⟩
  have hb := hc.bd x hx
  have := pw6 hc.hi
  refine ⟨x.toNat, by omega, by omega, by omega, ?_⟩
  have e : ((x.toNat : Nat) : Int) = x := by omega
  rw [e]
  simp [hx, hp]
set_option maxHeartbeats 1000000 in
theorem part1 (w : World) (bk bi : Nat) (n : Nat) (ku : Value) (xs : List Int) (fv : Value) (p : Int → Bool) (hk : ReadI w ku xs) (hc : Cx n xs) (hp : PredI w fv p (fun f => f ∈ xs)) (h0 : w.cell? ⟨bk, 0, none⟩ = some (.int .i64 n)) (h1 : w.cell? ⟨bk, 1, none⟩ = some ku) (h2 : w.cell? ⟨bi, 0, none⟩ = some fv) :
  PredI w (.func (.func 305) #[] #[.pointer (some ⟨bk, 0, none⟩), .pointer (some ⟨bi, 0, none⟩)]) (fun f => decide (f ∈ xs) && p f) (fun f => 1 ≤ f ∧ f < ((2 ^ n : Nat) : Int)) := by
 refine ⟨_, _, _, rfl, Enters.mk' Tryz.func305 rfl rfl, fun w1 x hb hx => ?_⟩
 obtain ⟨g, first, caps, rfl, hent, hp⟩ := hp
 unfold Enters at hent
 have c0 := pw_cell_below hb h0
 have c1 := pw_cell_below hb h1
 have c2 := pw_cell_below hb h2
 have HK := Aside0.mk (hk.below hb)
 have HC := Aside0.mk hc
 have HB := Aside0.mk hb
 have HP := Aside0.mk hp
 obtain ⟨A1, d1, rfl, -⟩ := id hk
 have hlen := hc.len
 clear hb h0 h1 h2 hx hk hc hp
 show Calls _ _ #[_, _, _] _ _
 by_cases hm : x ∈ xs
 ·have hmd : decide (x ∈ xs) = true := decide_eq_true hm
  have HM := Aside0.mk hm
  clear hm
  go_enter Tryz.func305, Tryz.ntmps305
  go_wp2_with (first | (go_at_call 145; refine (has n _ xs x _ HK.out HC.out.asc (by omega)).mono ?_; rintro e w2 ⟨rfl, hb2⟩; rw [hmd]; have c2 := pw_cell_below hb2 c2; have HB2 := Aside0.mk hb2; clear hb2) | (refine (HP.out _ _ (HB.out.trans (HB2.out.mono HB.out.size)) HM.out).mono ?_; rintro e w3 ⟨rfl, hb3⟩))
  go_ret
  exact ⟨by rw [hmd]; rfl, by have := HB2.out; (repeat (first | (with_reducible exact Below.refl _ _) | (with_reducible assumption) | (with_reducible refine below_step ?_ (by assumption)) | (with_reducible apply below_alloc) | (with_reducible apply below_drewN)))⟩
 ·have hmd : decide (x ∈ xs) = false := decide_eq_false hm
  clear hm
  go_enter Tryz.func305, Tryz.ntmps305
  go_wp2_with (first | (go_at_call 145; refine (has n _ xs x _ HK.out HC.out.asc (by omega)).mono ?_; rintro e w2 ⟨rfl, hb2⟩; rw [hmd]; have c2 := pw_cell_below hb2 c2; have HB2 := Aside0.mk hb2; clear hb2))
  go_ret
  exact ⟨by rw [hmd]; rfl, by have := HB2.out; (repeat (first | (with_reducible exact Below.refl _ _) | (with_reducible assumption) | (with_reducible refine below_step ?_ (by assumption)) | (with_reducible apply below_alloc) | (with_reducible apply below_drewN)))⟩
set_option maxHeartbeats 1000000 in
theorem part (n : Nat) (ku : Value) (xs : List Int) (fv : Value) (p : Int → Bool) (w : World) (hk : ReadI w ku xs) (hc : Cx n xs) (hp : PredI w fv p (fun f => f ∈ xs)) :
  Calls Tryz.prog 148 #[cx n ku, fv] w fun e w' => ∃ u, e = .returned (.agg #[.int .i64 n, u]) ∧ OwnI w.heap.size w' u (xs.filter p) ∧ Below w.heap.size w w' := by
 obtain ⟨wa, hwa⟩ : ∃ wa, wa = (w.alloc (.cells #[.int .i64 n, ku] 26)).alloc (.cells #[fv] 108) := ⟨_, rfl⟩
 obtain ⟨w0, hw0⟩ : ∃ w0, w0 = wa.alloc (.cells #[.int .i64 0, .slice none 0 0] 26) := ⟨_, rfl⟩
 have hsa : wa.heap.size = w.heap.size + 1 + 1 := by rw [hwa]; simp
 have hBa : Below w.heap.size w wa := by rw [hwa]; exact ((Below.refl _ w).alloc (Nat.le_refl _) _).alloc (by simp) _
 have hB0 : Below wa.heap.size wa w0 := by rw [hw0]; exact Below.alloc (Below.refl _ _) (Nat.le_refl _) _
 have hs0 : w0.heap.size = w.heap.size + 1 + 1 + 1 := by rw [hw0]; simp [hsa]
 have hB : Below w.heap.size w w0 := hBa.trans (hB0.mono hBa.size)
 have c0 : w0.cell? ⟨w.heap.size, 0, none⟩ = some (.int .i64 n) := pw_cell_below hB0 (by rw [hwa]; simp)
 have c1 : w0.cell? ⟨w.heap.size, 1, none⟩ = some ku := pw_cell_below hB0 (by rw [hwa]; simp)
 have c2 : w0.cell? ⟨w.heap.size + 1, 0, none⟩ = some fv := pw_cell_below hB0 (by rw [hwa]; simp)
 have hb : w0.heap[w.heap.size + 1 + 1]? = some (.cells #[.int .i64 0, .slice none 0 0] 26) := by rw [hw0, ← hsa]; exact blk_new _ _
 have HP := Aside0.mk (part1 w0 _ _ n ku xs fv p (hk.below hB) hc (hp.below hB) c0 c1 c2)
 have HF := Aside0.mk (thL_filter hc p)
 have HB := Aside0.mk hB
 have HK := Aside0.mk hb
 have HS := Aside0.mk hs0
 have hn := hc.hi
 obtain ⟨A1, d1, rfl, -⟩ := id hk
 obtain ⟨g, first, caps, rfl, -⟩ := id hp
 have c0a : wa.cell? ⟨w.heap.size, 0, none⟩ = some (.int .i64 n) := by rw [hwa]; simp
 clear hk hp hc hB hBa hB0 hsa hs0 hb
 subst hwa
 go_enter Tryz.func148, Tryz.ntmps148
 go_wp2_with (first | (go_at_call 136; rw [← hw0]; clear hw0 c0a; refine (those n hn _ _ _ HP.out).mono ?_; rintro e w2 ⟨u, rfl, ho, hb2⟩; obtain ⟨A2, d2, rfl, -⟩ := ho.read; have HO := Aside0.mk ho; have HB2 := Aside0.mk hb2; have HK2 := Aside0.mk (blk_below HK.out hb2); have c60 : w2.cell? ⟨w.heap.size + 1 + 1, 0, none⟩ = some (.int .i64 0) := blk_cell HK2.out 0; have c61 : w2.cell? ⟨w.heap.size + 1 + 1, 1, none⟩ = some (.slice none 0 0) := blk_cell HK2.out 1; have f60 : w2.frozen? ⟨w.heap.size + 1 + 1, 0, none⟩ = false := blk_frozen HK2.out 0; have f61 : w2.frozen? ⟨w.heap.size + 1 + 1, 1, none⟩ = false := blk_frozen HK2.out 1; clear ho hb2))
 refine bodyPost_ret (results_cell_row rfl _ _ (w.heap.size + 1 + 1) 26 #[.int .i64 n, .slice A2 (thL (fun f => decide (f ∈ xs) && p f) (2 ^ n)).length d2] (0, 0) _ rfl (by refine blk_put (cs := #[.int .i64 n, .slice none 0 0]) ?_ 1 _ rfl; refine blk_put (cs := #[.int .i64 0, .slice none 0 0]) ?_ 0 _ rfl; exact HK2.out) Tryz.underlying26 rfl (by kernel_rfl)) rfl ?_
 have hb := HB.out.trans (HB2.out.mono HB.out.size)
 refine ⟨_, rfl, ?_, (hb.setCell (by simp; omega) _).setCell (by simp; omega) _⟩
 have hs := HS.out
 have hbs := HO.out.base
 have ho := HO.out.lower (b' := w.heap.size) (by omega)
 rw [HF.out] at ho hbs ⊢
 exact (ho.grown (set_grown' _ (w.heap.size + 1 + 1) _ _) (fun j hj e => by have := hbs _ hj; cases e; omega)).grown (set_grown' _ (w.heap.size + 1 + 1) _ _) (fun j hj e => by have := hbs _ hj; cases e; omega)
theorem wrapUc {n : Nat} (h : n < 18446744073709551616) : IntKind.u64.wrap (n : Int) = n := by
 show ((n : Int) % 18446744073709551616) = n
 omega
set_option maxRecDepth 100000 in
set_option maxHeartbeats 8000000 in
theorem onesC (x : Nat) (h2 : x < 64) (w : World) : Calls Tryz.prog 349 #[.int .u64 x] w fun e w' => e = .returned (.int .i64 (ones x : Nat)) ∧ Below w.heap.size w w' := by
 rcases (by omega : x = 0 ∨ x = 1 ∨ x = 2 ∨ x = 3 ∨ x = 4 ∨ x = 5 ∨ x = 6 ∨ x = 7 ∨ x = 8 ∨ x = 9 ∨ x = 10 ∨ x = 11 ∨ x = 12 ∨ x = 13 ∨ x = 14 ∨ x = 15 ∨ x = 16 ∨ x = 17 ∨ x = 18 ∨ x = 19 ∨ x = 20 ∨ x = 21 ∨ x = 22 ∨ x = 23 ∨ x = 24 ∨ x = 25 ∨ x = 26 ∨ x = 27 ∨ x = 28 ∨ x = 29 ∨ x = 30 ∨ x = 31 ∨ x = 32 ∨ x = 33 ∨ x = 34 ∨ x = 35 ∨ x = 36 ∨ x = 37 ∨ x = 38 ∨ x = 39 ∨ x = 40 ∨ x = 41 ∨ x = 42 ∨ x = 43 ∨ x = 44 ∨ x = 45 ∨ x = 46 ∨ x = 47 ∨ x = 48 ∨ x = 49 ∨ x = 50 ∨ x = 51 ∨ x = 52 ∨ x = 53 ∨ x = 54 ∨ x = 55 ∨ x = 56 ∨ x = 57 ∨ x = 58 ∨ x = 59 ∨ x = 60 ∨ x = 61 ∨ x = 62 ∨ x = 63) with rfl | rfl | rfl | rfl | rfl | rfl | rfl | rfl | rfl | rfl | rfl | rfl | rfl | rfl | rfl | rfl | rfl | rfl | rfl | rfl | rfl | rfl | rfl | rfl | rfl | rfl | rfl | rfl | rfl | rfl | rfl | rfl | rfl | rfl | rfl | rfl | rfl | rfl | rfl | rfl | rfl | rfl | rfl | rfl | rfl | rfl | rfl | rfl | rfl | rfl | rfl | rfl | rfl | rfl | rfl | rfl | rfl | rfl | rfl | rfl | rfl | rfl | rfl | rfl
 all_goals
  go_enter Tryz.func349, Tryz.ntmps349
  go_wp2
  go_ret
  exact ⟨by kernel_rfl, by (repeat (first | (with_reducible exact Below.refl _ _) | (with_reducible assumption) | (with_reducible refine below_step ?_ (by assumption)) | (with_reducible apply below_alloc) | (with_reducible apply below_drewN)))⟩
theorem size (x : Nat) (h2 : x < 64) (w : World) : Calls Tryz.prog 246 #[.int .i64 x] w fun e w' => e = .returned (.int .i64 (ones x : Nat)) ∧ Below w.heap.size w w' := by
 have hw : IntKind.u64.wrap (x : Int) = x := wrapUc (by omega)
 have HX := Aside0.mk (onesC x h2)
 go_enter Tryz.func246, Tryz.ntmps246
 go_wp2_with (first | (go_at_call 349; refine (HX.out _).mono ?_; rintro e w2 ⟨rfl, hb⟩))
 go_ret
 exact ⟨rfl, hb⟩
theorem xor_and_zero' (a b : Nat) : (a ^^^ (a &&& b)) = 0 ↔ a &&& b = a := by
 constructor
 ·intro h
  have h2 := congrArg (a ^^^ ·) h
  simpa [← Nat.xor_assoc] using h2
 ·intro h; rw [h]; simp
theorem isInCg (a b : Nat) (ha : a < 64) (hb : b < 64) (w : World) :
  Calls Tryz.prog 150 #[.int .i64 a, .int .i64 b] w fun e w' => e = .returned (.bool (decide (a &&& b = a))) ∧ Below w.heap.size w w' := by
 have hx := andNot_i64 a b (by omega) (by omega)
 have HX : Aside0 ((((a ^^^ (a &&& b) : Nat) : Int) == 0) = decide (a &&& b = a)) := ⟨by
  rw [Bool.eq_iff_iff, beq_iff_eq, decide_eq_true_eq, ← xor_and_zero']; omega⟩
 go_enter Tryz.func150, Tryz.ntmps150
 go_wp2
 go_ret
 exact ⟨by rw [← HX.out]; rfl, by (repeat (first | (with_reducible exact Below.refl _ _) | (with_reducible assumption) | (with_reducible refine below_step ?_ (by assumption)) | (with_reducible apply below_alloc) | (with_reducible apply below_drewN)))⟩
set_option maxRecDepth 100000 in
set_option maxHeartbeats 4000000 in
theorem isPair (n : Nat) (ku : Value) (xs : List Int) (x y : Int) (w : World) (hk : ReadI w ku xs) (hc : Cx n xs) :
  Calls Tryz.prog 273 #[cx n ku, .agg #[.int .i64 x, .int .i64 y]] w fun e w' => e = .returned (.bool (pairAt xs x y)) ∧ Below w.heap.size w w' := by
 obtain ⟨w1, hw1⟩ : ∃ w1, w1 = (w.alloc (.cells #[.int .i64 n, ku] 26)).alloc (.cells #[.int .i64 x, .int .i64 y] 83) := ⟨_, rfl⟩
 have hB : Below w.heap.size w w1 := by rw [hw1]; exact ((Below.refl _ w).alloc (Nat.le_refl _) _).alloc (by simp) _
 have c0 : w1.cell? ⟨w.heap.size, 0, none⟩ = some (.int .i64 n) := by rw [hw1]; simp
 have c1 : w1.cell? ⟨w.heap.size, 1, none⟩ = some ku := by rw [hw1]; simp
 have c2 : w1.cell? ⟨w.heap.size + 1, 0, none⟩ = some (.int .i64 x) := by rw [hw1]; simp
 have c3 : w1.cell? ⟨w.heap.size + 1, 1, none⟩ = some (.int .i64 y) := by rw [hw1]; simp
 have HB := Aside0.mk hB
 have HK := Aside0.mk (hk.below hB)
 have HC := Aside0.mk hc
 obtain ⟨A1, d1, rfl, -⟩ := id hk
 have x0 : ∀ z : Ext w1, z.1.cell? ⟨w.heap.size, 0, none⟩ = some (.int .i64 n) := fun z => Ext.cell c0 z
 have x1 : ∀ z : Ext w1, z.1.cell? ⟨w.heap.size, 1, none⟩ = some (.slice A1 xs.length d1) := fun z => Ext.cell c1 z
 have x2 : ∀ z : Ext w1, z.1.cell? ⟨w.heap.size + 1, 0, none⟩ = some (.int .i64 x) := fun z => Ext.cell c2 z
 have x3 : ∀ z : Ext w1, z.1.cell? ⟨w.heap.size + 1, 1, none⟩ = some (.int .i64 y) := fun z => Ext.cell c3 z
 obtain ⟨b1, hb1⟩ : ∃ b, b = decide (x ∈ xs) := ⟨_, rfl⟩
 obtain ⟨b2, hb2⟩ : ∃ b, b = decide (y ∈ xs) := ⟨_, rfl⟩
 have HHX : Aside0 (∀ z : Ext w1, Calls Tryz.prog 145 #[cx n (.slice A1 xs.length d1), .int .i64 x] z.1 fun e w' => e = .returned (.bool b1) ∧ Below z.1.heap.size z.1 w') := ⟨fun z => by rw [hb1]; exact has n _ xs x z.1 (HK.out.below z.2) HC.out.asc (by have := HC.out.len; omega)⟩
 have HHY : Aside0 (∀ z : Ext w1, Calls Tryz.prog 145 #[cx n (.slice A1 xs.length d1), .int .i64 y] z.1 fun e w' => e = .returned (.bool b2) ∧ Below z.1.heap.size z.1 w') := ⟨fun z => by rw [hb2]; exact has n _ xs y z.1 (HK.out.below z.2) HC.out.asc (by have := HC.out.len; omega)⟩
 clear hk hB hc c0 c1 c2 c3
 cases b1 with
 | false =>
  have HA : Aside0 (pairAt xs x y = false) := ⟨by unfold pairAt; rw [← hb1]; rfl⟩
  clear hb1 hb2
  go_enter Tryz.func273, Tryz.ntmps273
  go_wp2
  rw [← hw1]
  clear hw1
  refine wp_region_ext (by kernel_rfl) (by kernel_rfl) ?_
  repeat (go_big_quiet_step ((first | (go_at_call 145; with_reducible exact Calls.ext_of (HHX.out _)) | (go_at_call 145; with_reducible exact Calls.ext_of (HHY.out _)))))
  refine wpQuiet_nil ?_
  rintro _ ⟨z, rfl⟩
  have hbz := z.2
  go_wp2
  go_ret
  exact ⟨by rw [HA.out]; rfl, HB.out.trans (hbz.mono HB.out.size)⟩
 | true =>
  cases b2 with
  | false =>
   have HA : Aside0 (pairAt xs x y = false) := ⟨by unfold pairAt; rw [← hb1, ← hb2]; rfl⟩
   clear hb1 hb2
   go_enter Tryz.func273, Tryz.ntmps273
   go_wp2
   rw [← hw1]
   clear hw1
   refine wp_region_ext (by kernel_rfl) (by kernel_rfl) ?_
   repeat (go_big_quiet_step ((first | (go_at_call 145; with_reducible exact Calls.ext_of (HHX.out _)) | (go_at_call 145; with_reducible exact Calls.ext_of (HHY.out _)))))
   refine wpQuiet_nil ?_
   rintro _ ⟨z, rfl⟩
   have hbz := z.2
   go_wp2
   go_ret
   exact ⟨by rw [HA.out]; rfl, HB.out.trans (hbz.mono HB.out.size)⟩
  | true =>
   obtain ⟨zx, rfl, hx1, hx2⟩ := HC.out.nat (of_decide_eq_true hb1.symm)
   obtain ⟨zy, rfl, hy1, hy2⟩ := HC.out.nat (of_decide_eq_true hb2.symm)
   obtain ⟨I0, hI0⟩ : ∃ b, b = decide (zx &&& zy = zx) := ⟨_, rfl⟩
   obtain ⟨sx, hsx⟩ : ∃ s, s = ones zx := ⟨_, rfl⟩
   obtain ⟨sy, hsy⟩ : ∃ s, s = ones zy := ⟨_, rfl⟩
   have hle := ones_le zx (by omega)
   rw [← hsx] at hle
   have HA : Aside0 (pairAt xs zx zy = (I0 && ((sy : Int) == (sx : Int) + 1))) := ⟨by unfold pairAt; rw [← hb1, ← hb2, Int.toNat_natCast, Int.toNat_natCast, ← hI0, ← hsx, ← hsy, Bool.true_and, Bool.true_and]; congr 1; rw [Bool.eq_iff_iff, beq_iff_eq, beq_iff_eq]; omega⟩
   have HIN : Aside0 (∀ z : Ext w1, Calls Tryz.prog 150 #[.int .i64 (zx : Nat), .int .i64 (zy : Nat)] z.1 fun e w' => e = .returned (.bool I0) ∧ Below z.1.heap.size z.1 w') := ⟨fun z => by rw [hI0]; exact isInCg zx zy (by omega) (by omega) z.1⟩
   have HSX : Aside0 (∀ z : Ext w1, Calls Tryz.prog 246 #[.int .i64 (zx : Nat)] z.1 fun e w' => e = .returned (.int .i64 (sx : Nat)) ∧ Below z.1.heap.size z.1 w') := ⟨fun z => by rw [hsx]; exact size zx (by omega) z.1⟩
   have HSY : Aside0 (∀ z : Ext w1, Calls Tryz.prog 246 #[.int .i64 (zy : Nat)] z.1 fun e w' => e = .returned (.int .i64 (sy : Nat)) ∧ Below z.1.heap.size z.1 w') := ⟨fun z => by rw [hsy]; exact size zy (by omega) z.1⟩
   clear hb1 hb2 hI0 hsx hsy hx1 hx2 hy1 hy2
   cases I0 with
   | false =>
    rw [Bool.false_and] at HA
    go_enter Tryz.func273, Tryz.ntmps273
    go_wp2
    rw [← hw1]
    clear hw1
    refine wp_region_ext (by kernel_rfl) (by kernel_rfl) ?_
    repeat (go_big_quiet_step ((first | (go_at_call 145; with_reducible exact Calls.ext_of (HHX.out _)) | (go_at_call 145; with_reducible exact Calls.ext_of (HHY.out _)) | (go_at_call 150; with_reducible exact Calls.ext_of (HIN.out _)))))
    refine wpQuiet_nil ?_
    rintro _ ⟨z, rfl⟩
    have hbz := z.2
    go_wp2
    go_ret
    exact ⟨by rw [HA.out]; rfl, HB.out.trans (hbz.mono HB.out.size)⟩
   | true =>
    rw [Bool.true_and] at HA
    have hsw : IntKind.i64.wrap ((sx : Int) + 1) = (sx : Int) + 1 := IntWalk.i64_in _ (by omega)
    go_enter Tryz.func273, Tryz.ntmps273
    go_wp2
    rw [← hw1]
    clear hw1
    refine wp_region_ext (by kernel_rfl) (by kernel_rfl) ?_
    repeat (go_big_quiet_step ((first | (go_at_call 145; with_reducible exact Calls.ext_of (HHX.out _)) | (go_at_call 145; with_reducible exact Calls.ext_of (HHY.out _)) | (go_at_call 150; with_reducible exact Calls.ext_of (HIN.out _)) | (go_at_call 246; with_reducible exact Calls.ext_of (HSY.out _)) | (go_at_call 246; with_reducible exact Calls.ext_of (HSX.out _)))))
    refine wpQuiet_nil ?_
    rintro _ ⟨z, rfl⟩
    have hbz := z.2
    go_wp2
    go_ret
    exact ⟨by rw [HA.out]; rfl, HB.out.trans (hbz.mono HB.out.size)⟩
end Go.Proofs.YtkggchklmpmgpaaGreat.H
