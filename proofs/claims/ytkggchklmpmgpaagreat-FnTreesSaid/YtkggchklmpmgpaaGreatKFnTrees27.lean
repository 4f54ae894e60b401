/- Draws for trees: DrawTreeOfOrder. Tests of lists that the laws make: laws.hasInt, laws.likeInts. Lists of pairs that are alike: laws.pairs9. What a row of bytes reads as; big. -/
import Derived.Laws.StructEq
import Derived.Test.YtkggchklmpmgpaaGreatKFnTrees1
import Derived.Test.YtkggchklmpmgpaaGreatKFnTrees2
import Derived.Test.YtkggchklmpmgpaaGreatKFnTrees3
import Derived.Test.YtkggchklmpmgpaaGreatKFnTrees4
import Derived.Test.YtkggchklmpmgpaaGreatKFnTrees5
import Derived.Test.YtkggchklmpmgpaaGreatKFnTrees6
import Derived.Test.YtkggchklmpmgpaaGreatKFnTrees7
import Derived.Test.YtkggchklmpmgpaaGreatKFnTrees8
import Derived.Test.YtkggchklmpmgpaaGreatKFnTrees9
import Derived.Test.YtkggchklmpmgpaaGreatKFnTrees10
import Derived.Test.YtkggchklmpmgpaaGreatKFnTrees11
import Derived.Test.YtkggchklmpmgpaaGreatKFnTrees12
import Derived.Test.YtkggchklmpmgpaaGreatKFnTrees13
import Derived.Test.YtkggchklmpmgpaaGreatKFnTrees14
import Derived.Test.YtkggchklmpmgpaaGreatKFnTrees15
import Derived.Test.YtkggchklmpmgpaaGreatKFnTrees16
import Derived.Test.YtkggchklmpmgpaaGreatKFnTrees17
import Derived.Test.YtkggchklmpmgpaaGreatKFnTrees18
import Derived.Test.YtkggchklmpmgpaaGreatKFnTrees19
import Derived.Test.YtkggchklmpmgpaaGreatKFnTrees20
import Derived.Test.YtkggchklmpmgpaaGreatKFnTrees21
import Derived.Test.YtkggchklmpmgpaaGreatKFnTrees22
import Derived.Test.YtkggchklmpmgpaaGreatKFnTrees23
import Derived.Test.YtkggchklmpmgpaaGreatKFnTrees24
import Derived.Test.YtkggchklmpmgpaaGreatKFnTrees25
import Derived.Test.YtkggchklmpmgpaaGreatKFnTrees26

namespace Go.Proofs.YtkggchklmpmgpaaGreat.H
open Go.RowKit Go.Proofs.YtkggchklmpmgpaaGreatW.PrintWords Go.Proofs.YtkggchklmpmgpaaGreatW.PrintLast
set_option linter.unusedVariables false
set_option linter.unusedSimpArgs false
section
variable {ops : Array Oper} {rest : List Oper} {o : Oper} {a : Act} {Q : Exit → Act → World → Prop}
theorem gives_list {W : World} (hg : o.guard = none) (h : opGives Tryz.prog o a.eval W fun v w' => wpList Tryz.prog ops Q rest (a.put o.dst v) w') : wpList Tryz.prog ops Q (o :: rest) a W :=
 wpList_plain hg (fun K hK => opGives_wp (by
  unfold opGives at h ⊢
  split at h
  ·exact hK _ _ h
  ·exact h.mono fun e w' hh => by
    obtain ⟨v, e1, h1⟩ := hh
    exact ⟨v, e1, hK _ _ h1⟩
  ·exact h.elim))
end
set_option maxRecDepth 100000 in
set_option maxHeartbeats 4000000 in
theorem drawTreeOfOrder (v : Value) (nb : Nat) (w : World) (hn : nb ≤ 4096) (hv : ReadY w v nb) :
  Calls Tryz.prog 59 #[v] w fun e w' => ∃ (n : Int) (tv : Value) (ts : List Int), e = .returned (.tuple #[.int .i64 n, tv]) ∧ (0 ≤ n ∧ n ≤ 7) ∧ OwnI w.heap.size w' tv ts ∧ ts.length ≤ 64 ∧ Below w.heap.size w w' := by
 have HFR := Aside0.mk (srcFrom v nb hn w hv)
 have hmx : Tryz.prog.follows .mixedOrders = true := by kernel_rfl
 have st : Stg 0 := ⟨⟩
 clear hv
 go_enter Tryz.func59, Tryz.ntmps59
 go_wp2_with (first | (replace st := stg_next 0 1 st; go_at_call 133; refine HFR.out.mono ?_; rintro e w2 ⟨rfl, hs, hb⟩; have HLT := Aside0.mk hs.lt; have HB2 := Aside0.mk hb; have HS2 := Aside0.mk hs; clear hs hb) | (replace st := stg_next 1 2 st; go_at_call 162; refine Aside0.out ?_))
 refine Aside0.mk ?_
 with_reducible refine (next w.heap.size 6 w2 (by omega) HS2.out).mono ?_
 rintro e w3 ⟨r0, rfl, -, hr, hd⟩
 replace hr := hr (by omega)
 obtain ⟨r, rfl⟩ : ∃ r : Nat, r0 = r := ⟨r0.toNat, by omega⟩
 obtain ⟨N, hN⟩ : ∃ N : Nat, N = 1 + r := ⟨_, rfl⟩
 have hNI : (1 : Int) + (r : Int) = (N : Int) := by omega
 have hN1 : 1 ≤ N := by omega
 have hN6 : N ≤ 6 := by omega
 have HD3 := Aside0.mk hd
 clear hd hr hN
 go_wp2
 obtain ⟨w4, hw4⟩ : ∃ w4, w4 = w3.alloc (.cells #[] 2) := ⟨_, rfl⟩
 rw [← hw4]
 have hb4 : Below w3.heap.size w3 w4 := by rw [hw4]; exact Below.alloc (Below.refl _ _) (Nat.le_refl _) _
 have ho4 : OwnI w3.heap.size w4 (.slice (some ⟨w3.heap.size, 0, none⟩) 0 0) [] := by rw [hw4]; exact lit_own w3 w3.heap.size [] (Nat.le_refl _) (by decide)
 have HO4 := Aside0.mk ho4
 have HD4 := Aside0.mk (HD3.out.then_below hb4)
 have HSZ : Aside0 (w2.heap.size ≤ w3.heap.size) := ⟨HD3.out.size⟩
 have HS4 : Aside0 (w3.heap.size ≤ w4.heap.size) := ⟨hb4.size⟩
 clear hb4 ho4 hw4
 go_loopw [6, 7] (fun s6 s7 wr => ∃ (i g c : Nat) (L : List Int), s7 = .int .i64 i ∧ s6 = .slice (some ⟨g, 0, none⟩) i c ∧ i ≤ N ∧ L.length = i ∧ Aside0 (OwnI w3.heap.size wr (.slice (some ⟨g, 0, none⟩) i c) L) ∧ Aside0 (Dw w.heap.size w2 wr) ∧ Aside0 (w3.heap.size ≤ wr.heap.size)) (fun _ s7 _ => N - (intOf s7).toNat)
 case atStart => exact ⟨0, w3.heap.size, 0, [], rfl, rfl, Nat.zero_le _, rfl, HO4, HD4, HS4⟩
 case round =>
  obtain ⟨i, g, c, L, rfl, rfl, hi, hL, HOr, HDr, HSr⟩ := hrel
  by_cases hlt : i < N
  ·have hltI : (i : Int) < (N : Int) := by omega
   go_wp2_with (first | (go_at_call 162; refine Aside0.out ?_))
   refine Aside0.mk ?_
   have HSs := Aside0.mk HDr.out.2
   with_reducible refine (next w.heap.size ((i : Int) + 1) wr (by omega) HSs.out).mono ?_
   rintro e w5 ⟨k0, rfl, -, hk, hd⟩
   replace hk := hk (by omega)
   obtain ⟨k, rfl⟩ : ∃ k : Nat, k0 = k := ⟨k0.toNat, by omega⟩
   have hki : k ≤ i := by omega
   clear hk HSs
   have HD5 := Aside0.mk (HDr.out.trans hd)
   have HO5 := Aside0.mk (HOr.out.gm hd.1 (Nat.lt_of_lt_of_le HLT.out HSZ.out))
   have HS5 : Aside0 (w3.heap.size ≤ w5.heap.size) := ⟨Nat.le_trans HSr.out hd.size⟩
   obtain ⟨w6, hw6⟩ : ∃ w6, w6 = w5.alloc (.cells #[.int .i64 i] 2) := ⟨_, rfl⟩
   have hb6 : Below w5.heap.size w5 w6 := by rw [hw6]; exact Below.alloc (Below.refl _ _) (Nat.le_refl _) _
   have HO6 := Aside0.mk (HO5.out.below hb6)
   have HL6 : Aside0 (OwnI w3.heap.size w6 (.slice (some ⟨w5.heap.size, 0, none⟩) 1 1) [(i : Int)]) := ⟨by rw [hw6]; exact lit_own w5 w3.heap.size [(i : Int)] HS5.out (by simp)⟩
   have HD6 := Aside0.mk (HD5.out.then_below hb6)
   have HS6 : Aside0 (w5.heap.size + 1 ≤ w6.heap.size) := ⟨by rw [hw6]; simp⟩
   have hgl : g < w5.heap.size := HO5.out.lt g (by simp [Value.ownBlock])
   have HGL := Aside0.mk hgl
   obtain ⟨A', c', hrun, hrd, hne⟩ := ReadI.from_ (by have h := HO6.out.read; rw [← hL] at h; exact h : ReadI w6 (.slice (some ⟨g, 0, none⟩) L.length c) L) (k := k) (by omega)
   rw [hL] at hrun hrd
   have hne' : A' = none → c' = 0 := fun h => absurd h (hne (by simp))
   have HRD := Aside0.mk hrd
   have HRUN := Aside0.mk hrun
   have HNE := Aside0.mk hne'
   clear hd hb6 hgl hrun hrd hne hne' HO5 HOr
   go_wp2_with (first | ((with_reducible refine gate_dst (N := 29) rfl ?_); rw [← hw6]; clear hw6; refine slice_told (u := .slice A' (i - k) c') Tryz.underlying24 rfl rfl HRUN.out ?_) | ((with_reducible refine gate_dst (N := 30) rfl ?_); refine Aside0.out ?_))
   refine Aside0.mk ?_
   refine gives_list rfl (appendAny_gives w3.heap.size _ _ rfl (.slice (some ⟨w5.heap.size, 0, none⟩) 1 1) [(i : Int)] (L.drop k) A' (i - k) c' rfl rfl (by rw [List.length_drop]; omega) ⟨HRD.out, HNE.out⟩ HL6.out (by have := HS5.out; have := HS6.out; omega) (by simp; omega) ?_)
   intro v1 w7 ho7 hg7
   replace hg7 : w6.grownBy w7 (some w5.heap.size) := hg7
   have hb7 : Below w5.heap.size w6 w7 := below_grown hg7 (Nat.le_refl _) (by have := HS6.out; omega)
   have HD7 := Aside0.mk (HD6.out.top hb7 (Nat.le_trans HSZ.out HS5.out) (Nat.lt_of_lt_of_le HLT.out (Nat.le_trans HSZ.out HS5.out)))
   have HO7 := Aside0.mk (HO6.out.grown hg7 (fun j hj e => by cases e; simp [Value.ownBlock] at hj; have := HGL.out; omega))
   have HS7 : Aside0 (w3.heap.size ≤ w7.heap.size) := ⟨by have := HS5.out; have := HS6.out; have := hg7.size; omega⟩
   obtain ⟨g1, c1, rfl, -⟩ := Kd.R_form ho7 (by simp)
   have hM : ([(i : Int)] ++ L.drop k).length = 1 + (i - k) := by simp; omega
   rw [hM] at ho7 ⊢
   have HR7 := Aside0.mk ho7
   have HTO := Aside0.mk (ReadI.to_ (by have h := HO7.out.read; rw [← hL] at h; exact h : ReadI w7 (.slice (some ⟨g, 0, none⟩) L.length c) L) (k := k) (by omega))
   rw [hL] at HTO
   clear hg7 hb7 ho7 HRUN HRD HNE HL6 HO6 HD6
   go_wp2_with (first | ((with_reducible refine gate_dst (N := 33) rfl ?_); refine slice_told (u := .slice (some ⟨g, 0, none⟩) k c) Tryz.underlying24 rfl rfl HTO.out.1 ?_) | (go_at_call 169; refine Aside0.out ?_))
   refine Aside0.mk ?_
   with_reducible refine (specOwn2 _ (L.take k) w7 HTO.out.2 (by rw [List.length_take]; omega)).mono ?_
   rintro e w8 ⟨u, rfl, ho8, hb8⟩
   have HB8 := Aside0.mk hb8
   have HR8 := Aside0.mk (HR7.out.below hb8)
   obtain ⟨Au, cu, rfl, -⟩ := id ho8.read
   have hk8 : (L.take k).length = k := by rw [List.length_take]; omega
   rw [hk8] at ho8 ⊢
   have HO8 := Aside0.mk ho8
   clear ho8 hb8 hk8
   go_wp2_with (first | ((with_reducible refine gate_dst (N := 36) rfl ?_); refine Aside0.out ?_))
   refine Aside0.mk ?_
   refine gives_list rfl (appendAny_gives w3.heap.size _ _ rfl _ (L.take k) ([(i : Int)] ++ L.drop k) (some ⟨g1, 0, none⟩) (1 + (i - k)) c1 rfl rfl hM.symm ⟨HR8.out.read, fun h => by cases h⟩ (HO8.out.lower HS7.out) (Nat.le_trans HS7.out HB8.out.size) (by rw [hM, List.length_take]; omega) ?_)
   intro v2 w9 ho9 hg9
   have hb9 : Below w7.heap.size w7 w9 := HB8.out.grown hg9 HB8.out.size (fun j e => HO8.out.base j e)
   have HD9 := Aside0.mk (HD7.out.then_below hb9)
   have HS9 : Aside0 (w3.heap.size ≤ w9.heap.size) := ⟨Nat.le_trans HS7.out hb9.size⟩
   have hM9 : (L.take k ++ ([(i : Int)] ++ L.drop k)).length = i + 1 := by rw [List.length_append, hM, List.length_take]; omega
   obtain ⟨g2, c2, rfl, -⟩ := Kd.R_form ho9 (by omega)
   rw [hM9] at ho9 ⊢
   have HO9 := Aside0.mk ho9
   clear ho9 hg9 hb9
   go_wp2
   go_roundw
   case rel => exact ⟨i + 1, g2, c2, _, by go_num, rfl, by omega, hM9, HO9, HD9, HS9⟩
   case measure => simp [intOf]; omega
  ·have hltI : ¬ (i : Int) < (N : Int) := by omega
   obtain rfl : i = N := by omega
   go_wp2_with (first | (go_at_call 162; refine Aside0.out ?_))
   refine Aside0.mk ?_
   have HSs := Aside0.mk HDr.out.2
   with_reducible refine (next w.heap.size 24 wr (by omega) HSs.out).mono ?_
   rintro e w5 ⟨q, rfl, -, -, hd⟩
   have HD5 := Aside0.mk (HDr.out.trans hd)
   have HO5 := Aside0.mk (HOr.out.gm hd.1 (Nat.lt_of_lt_of_le HLT.out HSZ.out))
   have HS5 : Aside0 (w3.heap.size ≤ w5.heap.size) := ⟨Nat.le_trans HSr.out hd.size⟩
   clear hd HSs HOr HDr
   by_cases hq : q = 0
   ·have hq1 : (q == 0) = true := by rw [beq_iff_eq]; exact hq
    have hq2 : (q == 1) = false := by rw [beq_eq_false_iff_ne]; omega
    clear hq
    go_wp2_with (first | (go_at_call 216; refine Aside0.out ?_))
    obtain ⟨w6, hw6⟩ : ∃ w6, w6 = w5.alloc (.cells #[.int .i64 0, .int .i64 1, .int .i64 (-1), .int .i64 6] 2) := ⟨_, rfl⟩
    rw [← hw6]
    have hb6 : Below w5.heap.size w5 w6 := by rw [hw6]; exact Below.alloc (Below.refl _ _) (Nat.le_refl _) _
    have hl6 : RdK w.heap.size w6 (.slice (some ⟨w5.heap.size, 0, none⟩) 4 4) [0, 1, -1, 6] := by
     rw [hw6]; exact (lit_own w5 w5.heap.size [0, 1, -1, 6] (Nat.le_refl _) (by decide)).rdk HD5.out.2.lt
    clear hw6
    refine Aside0.mk ?_
    have HS6 := Aside0.mk (HD5.out.2.below hb6)
    with_reducible refine (pick w.heap.size _ [0, 1, -1, 6] w6 HS6.out hl6 (by decide) (by decide)).mono ?_
    rintro e w7 ⟨y, rfl, hy, hd⟩
    have HD7 := Aside0.mk ((HD5.out.then_below hb6).trans hd)
    have HO7 := Aside0.mk ((HO5.out.below hb6).gm hd.1 (Nat.lt_of_lt_of_le HLT.out HSZ.out))
    have HS7 : Aside0 (w3.heap.size ≤ w7.heap.size) := ⟨Nat.le_trans HS5.out (Nat.le_trans hb6.size hd.size)⟩
    clear hy hd hb6 hl6 HS6
    obtain ⟨⟨y0, hcell2⟩, hf2⟩ := OwnI.slot HO7.out (i := 0) (by omega)
    have hltI0 : (0 : Int) < (i : Int) := by omega
    go_wp2_with (first | ((with_reducible refine gate_store (t := 2) (p := 45) rfl ?_); refine store_own (w0 := w) rfl (p := 45) rfl rfl 0 y HO7.out ?ha ?hb ?hc ?_; (case ha => omega); (case hb => rfl); (case hc => rfl); intro w8 ho hg hb; have HO8 := Aside0.mk ho; have HB8 := Aside0.mk hb; clear ho hg hb))
    go_ret2
    exact ⟨(i : Int), _, _, rfl, by omega, HO8.out.lower (Nat.le_trans HB2.out.size HSZ.out), by rw [List.length_set, hL]; omega, HB2.out.trans ((below_grown HD7.out.1 (Nat.le_refl _) HB2.out.size).trans (HB8.out.mono (Nat.le_trans HB2.out.size HSZ.out)))⟩
   ·have hq1 : (q == 0) = false := by rw [beq_eq_false_iff_ne]; exact hq
    by_cases hq3 : q = 1
    ·have hq2 : (q == 1) = true := by rw [beq_iff_eq]; exact hq3
     clear hq hq3
     go_wp2_with (first | (go_at_call 216; refine Aside0.out ?_))
     obtain ⟨w6, hw6⟩ : ∃ w6, w6 = w5.alloc (.cells #[.int .i64 0, .int .i64 7] 2) := ⟨_, rfl⟩
     rw [← hw6]
     have hb6 : Below w5.heap.size w5 w6 := by rw [hw6]; exact Below.alloc (Below.refl _ _) (Nat.le_refl _) _
     have hl6 : RdK w.heap.size w6 (.slice (some ⟨w5.heap.size, 0, none⟩) 2 2) [0, 7] := by
      rw [hw6]; exact (lit_own w5 w5.heap.size [0, 7] (Nat.le_refl _) (by decide)).rdk HD5.out.2.lt
     clear hw6
     refine Aside0.mk ?_
     have HS6 := Aside0.mk (HD5.out.2.below hb6)
     with_reducible refine (pick w.heap.size _ [0, 7] w6 HS6.out hl6 (by decide) (by decide)).mono ?_
     rintro e w7 ⟨y, rfl, hy, hd⟩
     have hyb : 0 ≤ y ∧ y ≤ 7 := by
      simp only [List.mem_cons, List.not_mem_nil, or_false] at hy
      omega
     have HY := Aside0.mk hyb
     have HD7 := Aside0.mk ((HD5.out.then_below hb6).trans hd)
     have HO7 := Aside0.mk ((HO5.out.below hb6).gm hd.1 (Nat.lt_of_lt_of_le HLT.out HSZ.out))
     clear hyb hy hd hb6 hl6 HS6
     go_wp2
     go_ret2
     exact ⟨y, _, L, rfl, HY.out, HO7.out.lower (Nat.le_trans HB2.out.size HSZ.out), by omega, HB2.out.trans (below_grown HD7.out.1 (Nat.le_refl _) HB2.out.size)⟩
    ·have hq2 : (q == 1) = false := by rw [beq_eq_false_iff_ne]; exact hq3
     clear hq hq3
     go_wp2
     go_ret2
     exact ⟨(i : Int), _, L, rfl, by omega, HO5.out.lower (Nat.le_trans HB2.out.size HSZ.out), by omega, HB2.out.trans (below_grown HD5.out.1 (Nat.le_refl _) HB2.out.size)⟩
set_option maxRecDepth 100000 in
set_option maxHeartbeats 2000000 in
theorem hasInt (v : Value) (xs : List Int) (h : Int) (w : World) (hv : ReadI w v xs) (hl : xs.length ≤ 1000000) :
  Calls Tryz.prog 18 #[v, .int .i64 h] w fun e w' => e = .returned (.bool (decide (h ∈ xs))) ∧ Below w.heap.size w w' := by
 have HV := Aside0.mk hv
 have HB := Aside0.mk (Below.refl w.heap.size w)
 obtain ⟨A, c, rfl, -⟩ := id hv
 clear hv
 go_enter Tryz.func18, Tryz.ntmps18
 go_wp2
 go_loopw [5] (fun s5 wr => ∃ i : Nat, s5 = .int .i64 i ∧ i ≤ xs.length ∧ Aside0 (∀ j, j < i → xs.getD j 0 ≠ h) ∧ Aside0 (Below w.heap.size w wr)) (fun s5 _ => xs.length - (intOf s5).toNat)
 case atStart => exact ⟨0, rfl, Nat.zero_le _, ⟨fun j hj => by omega⟩, HB⟩
 case round =>
  obtain ⟨i, rfl, hi, HN, HBr⟩ := hrel
  by_cases hlt : i < xs.length
  ·have hltI : (i : Int) < (xs.length : Int) := by omega
   obtain ⟨A_, c_, e_, -, hr⟩ := HV.out.below HBr.out
   cases e_
   obtain ⟨ad, y, rfl, hcell, HY⟩ := ReadI.get hr hlt
   clear hr
   by_cases hy : y = h
   ·go_wp2
    go_ret
    refine ⟨?_, HBr.out⟩
    have hm : y ∈ xs := mem_at hlt HY.out
    subst hy
    simp [hm]
   ·go_wp2
    go_roundw
    case rel => exact ⟨i + 1, by go_num, by omega, ⟨fun j hj => by
     by_cases hji : j = i
     ·subst hji; rw [HY.out]; exact hy
     ·exact HN.out j (by omega)⟩, HBr⟩
    case measure => simp [intOf]; omega
  ·have hltI : ¬ (i : Int) < (xs.length : Int) := by omega
   go_wp2
   go_ret
   refine ⟨?_, HBr.out⟩
   have hm : h ∉ xs := fun hc => by
    obtain ⟨j, hj⟩ := List.mem_iff_getElem?.1 hc
    exact HN.out j (by have := (List.getElem?_eq_some_iff.1 hj).1; omega) (by rw [List.getD_eq_getElem?_getD, hj]; rfl)
   simp [hm]
set_option maxHeartbeats 1000000 in
theorem likeInts (v u : Value) (xs ys : List Int) (w : World) (hv : ReadI w v xs) (hu : ReadI w u ys) :
  Calls Tryz.prog 23 #[v, u] w fun e w' => e = .returned (.bool (xs == ys)) ∧ Below w.heap.size w w' := by
 obtain ⟨A, c, rfl, hc, hr⟩ := hv
 obtain ⟨A', c', rfl, hc', hr'⟩ := hu
 have hlx := hr.2.1
 have HR := Aside0.mk hr
 have HR' := Aside0.mk hr'
 clear hr hc hr' hc'
 by_cases hl : xs.length = ys.length
 ·have h1 : ((xs.length : Int) != (ys.length : Int)) = false := by simp [hl]
  have HL := Aside0.mk hl
  clear hl
  go_enter Tryz.func23, Tryz.ntmps23
  go_wp2
  go_loopw [5] (fun v wr => ∃ i : Nat, v = .int .i64 i ∧ i ≤ xs.length ∧ Aside0 (xs.take i = ys.take i) ∧ Aside0 (Below w.heap.size w wr)) (fun v _ => xs.length - (intOf v).toNat)
  case atStart => exact ⟨0, rfl, Nat.zero_le _, ⟨rfl⟩, ⟨Below.refl _ _⟩⟩
  case round =>
   obtain ⟨i, rfl, hi, HI, HB2⟩ := hrel
   by_cases hlt : i < xs.length
   ·obtain ⟨ad, x, e1, hcell, HX⟩ := ReadI.get (Kd.C_below HR.out HB2.out) hlt
    cases e1
    have hlt' : (i : Int) < (ys.length : Int) := by have := HL.out; omega
    obtain ⟨ad', y, e1, hcell', HY⟩ := ReadI.get (Kd.C_below HR'.out HB2.out) (i := i) (by have := HL.out; omega)
    cases e1
    cases hq : (x == y) with
    | true =>
     have hq' : (x != y) = false := by rw [bne, hq]; rfl
     have HQ := Aside0.mk hq
     clear hq
     go_wp2
     go_quiet (fail)
     go_wp2
     go_roundw
     case rel => exact ⟨i + 1, by go_num, by omega, ⟨by rw [take_get hlt HX.out, take_get (by omega) HY.out, HI.out, eq_of_beq HQ.out]⟩, ⟨below_drewN HB2.out _⟩⟩
     case measure => simp [intOf]; omega
    | false =>
     have hq' : (x != y) = true := by rw [bne, hq]; rfl
     have HQ := Aside0.mk hq
     clear hq
     go_wp2
     go_quiet (fail)
     go_wp2
     go_ret
     exact ⟨by
      have : (xs == ys) = false := by
       rw [beq_eq_false_iff_ne]
       rintro rfl
       have h3 := HQ.out
       rw [← HX.out, ← HY.out] at h3
       simp at h3
      rw [this]; rfl, below_drewN HB2.out _⟩
   ·have e : i = xs.length := by omega
    have HE := Aside0.mk e
    clear e
    go_wp2
    go_ret
    exact ⟨by
     have h2 := HI.out
     rw [HE.out, List.take_length, HL.out, List.take_length] at h2
     rw [h2]; simp, HB2.out⟩
 ·have h1 : ((xs.length : Int) != (ys.length : Int)) = true := by simp; omega
  go_enter Tryz.func23, Tryz.ntmps23
  go_wp2
  go_ret
  exact ⟨by
   have : (xs == ys) = false := by
    rw [beq_eq_false_iff_ne]
    rintro rfl
    exact hl rfl
   rw [this]; rfl, Below.refl _ _⟩
theorem likeSame (v u : Value) (xs : List Int) (w : World) (hv : ReadI w v xs) (hu : ReadI w u xs) :
  Calls Tryz.prog 23 #[v, u] w fun e w' => e = .returned (.bool true) ∧ Below w.heap.size w w' := by
 refine (likeInts v u xs xs w hv hu).mono ?_
 rintro e w' ⟨rfl, hb⟩
 exact ⟨by rw [beq_self_eq_true], hb⟩
set_option maxRecDepth 100000 in
theorem eqPairD (D : Nat) (x y x' y' : Int) (w : World) (hi : ∀ a b, (Op.equalIn D 2 (.int .i64 a) (.int .i64 b)).run Tryz.prog w = .ok (a == b) w) : (Op.equalIn (D + 1) 83 (.agg #[.int .i64 x, .int .i64 y]) (.agg #[.int .i64 x', .int .i64 y'])).run Tryz.prog w = .ok ((x == x') && (y == y')) w := by
 have hs : (sizeOf 2).run Tryz.prog w = .ok 1 w := by simp [go_sem]
 have hp : ∀ (cs : Array Value) (k : Nat) (v : Value), cs[k]? = some v → (Go.part 2 cs k).run Tryz.prog w = .ok v w := by
  intro cs k v h
  simp [go_sem, h]
 have hl : List.range' 0 2 1 = [0, 1] := rfl
 simp only [Op.equalIn, Sem.run_bind, run_underlying Tryz.underlying83, Result.andThen_ok, hs, Std.Legacy.Range.forIn_eq_forIn_range', Std.Legacy.Range.size]
 simp only [Nat.sub_zero, Nat.add_sub_cancel, Nat.div_one, hl, List.forIn_cons, List.forIn_nil, Sem.run_bind, hp _ _ _ (show (#[Value.int IntKind.i64 x, Value.int IntKind.i64 y])[0 * 1]? = some (.int .i64 x) from rfl), hp _ _ _ (show (#[Value.int IntKind.i64 x, Value.int IntKind.i64 y])[1 * 1]? = some (.int .i64 y) from rfl), hp _ _ _ (show (#[Value.int IntKind.i64 x', Value.int IntKind.i64 y'])[0 * 1]? = some (.int .i64 x') from rfl), hp _ _ _ (show (#[Value.int IntKind.i64 x', Value.int IntKind.i64 y'])[1 * 1]? = some (.int .i64 y') from rfl), Result.andThen_ok, hi]
 cases h1 : x == x' <;> cases h2 : y == y' <;> simp [Sem.run_bind, hp, hi, h1, h2] <;> simpa using h2
theorem eqPairA (x y x' y' : Int) (w : World) : (Op.equalIn 10000 83 (.agg #[.int .i64 x, .int .i64 y]) (.agg #[.int .i64 x', .int .i64 y'])).run Tryz.prog w = .ok ((x == x') && (y == y')) w :=
 eqPairD 9999 x y x' y' w (fun a b => run_equalIn_int w 9998 2 .i64 .i64 a b Tryz.underlying2)
set_option maxRecDepth 100000 in
set_option maxHeartbeats 2000000 in
theorem pairs9Same (v u : Value) (ps : List (Int × Int)) (w : World) (hv : ReadP w v ps) (hu : ReadP w u ps) :
  Calls Tryz.prog 55 #[v, u] w fun e w' => e = .returned (.bool true) ∧ Below w.heap.size w w' := by
 obtain ⟨A, c, rfl, hl, -⟩ := id hv
 obtain ⟨A', c', rfl, -, -⟩ := id hu
 have HV := Aside0.mk hv
 have HU := Aside0.mk hu
 have h1 : ((ps.length : Int) != (ps.length : Int)) = false := by simp
 clear hv hu
 go_enter Tryz.func55, Tryz.ntmps55
 go_wp2
 go_loopw [5] (fun s wr => ∃ i : Nat, s = .int .i64 i ∧ i ≤ ps.length ∧ Aside0 (Below w.heap.size w wr)) (fun s _ => ps.length - (intOf s).toNat)
 case atStart => exact ⟨0, rfl, Nat.zero_le _, ⟨Below.refl _ _⟩⟩
 case round =>
  obtain ⟨i, rfl, hi, HB⟩ := hrel
  by_cases hlt : i < ps.length
  ·have hltI : (i : Int) < (ps.length : Int) := by omega
   obtain ⟨g, x, y, rfl, -, hx, hy⟩ := ReadP.get (HV.out.below HB.out) hlt
   obtain ⟨g', x', y', rfl, he, hx', hy'⟩ := ReadP.get (HU.out.below HB.out) hlt
   obtain ⟨g2, x2, y2, e2, he2, hx2, hy2⟩ := ReadP.get (HV.out.below HB.out) hlt
   cases e2
   rw [he] at he2
   cases he2
   clear hx hy he
   have HE : Aside0 (∀ w : World, (Op.equalIn 10000 83 (.agg #[.int .i64 x', .int .i64 y']) (.agg #[.int .i64 x', .int .i64 y'])).run Tryz.prog w = .ok true w) := ⟨fun w => by rw [eqPairA]; simp⟩
   have X1 : ∀ z : Ext wr, z.1.cell? ⟨g, i * 2, none⟩ = some (.int .i64 x') := fun z => Ext.cell hx2 z
   have X2 : ∀ z : Ext wr, z.1.cell? ⟨g, i * 2 + 1, none⟩ = some (.int .i64 y') := fun z => Ext.cell hy2 z
   have X3 : ∀ z : Ext wr, z.1.cell? ⟨g', i * 2, none⟩ = some (.int .i64 x') := fun z => Ext.cell hx' z
   have X4 : ∀ z : Ext wr, z.1.cell? ⟨g', i * 2 + 1, none⟩ = some (.int .i64 y') := fun z => Ext.cell hy' z
   go_wp2
   refine wp_region_ext (by kernel_rfl) (by kernel_rfl) ?_
   iterate 8 (go_big_quiet_step (fail))
   refine BigFrame.wpQuiet_want (by rfl) (fun K hK => ⟨.bool false, ?_, hK _ ?_⟩)
   ·rintro w' ⟨z, rfl⟩
    unfold Oper.quietAt
    simp [execOp, go_sem, HE.out]
   refine wpQuiet_nil ?_
   rintro _ ⟨z, rfl⟩
   have hbz := z.2
   go_wp2
   go_roundw
   case rel => exact ⟨i + 1, by go_num, by omega, ⟨HB.out.trans (hbz.mono HB.out.size)⟩⟩
   case measure => simp [intOf]; omega
  ·have hltI : ¬ (i : Int) < (ps.length : Int) := by omega
   go_wp2
   go_ret
   exact ⟨rfl, HB.out⟩
theorem add_zeroA (ad : Addr) : ad.add 0 = ad := by unfold Addr.add; split <;> simp_all
theorem Aside0.readp {w w' : World} {v : Value} {ps : List (Int × Int)} (h : Aside0 (ReadP w v ps)) (hb : Below w.heap.size w w') : Aside0 (ReadP w' v ps) := ⟨ReadP.below h.out hb⟩
end Go.Proofs.YtkggchklmpmgpaaGreat.H

namespace Go.Proofs.YtkggchklmpmgpaaGreat.H
open Go.ChangeShapes Go.WideShapes Go.ChangeAt
open Go.RowKit Go.Proofs.YtkggchklmpmgpaaGreatW.PrintWords Go.Proofs.YtkggchklmpmgpaaGreatW.PrintLast
set_option linter.unusedVariables false
set_option linter.unusedSimpArgs false
set_option maxRecDepth 100000 in
theorem open_code {H : Type} {enc : TypeId × Value → H} {W : World} {base : Nat} {v : Value} {d : DataW H} {p : List MemPlace}
  (hv : Value.okWide Tryz.prog W .any base 22 v) (h : DataW.Trod enc Tryz.prog W 0 (fun _ => true) true 22 v d p) : ∃ n : Nat, ReadY W v n ∧ n ≤ 9223372036854775807 := by
 obtain ⟨a1, len1, cap1, rfl⟩ := okWide_slice Tryz.underlying22 hv
 obtain ⟨fuel, hf⟩ := h
 rcases open_ints Tryz.underlying22 Tryz.underlying5 (by kernel_rfl) hf with ⟨hcs, _⟩ | ⟨x, l, c, zs, hcs, _, hl, hm, hz, _, hcell, hwz⟩
 ·injection hcs with hcs _
  injection hcs with e1 e2 e3
  subst e1 e2 e3
  exact ⟨0, ⟨none, 0, rfl, fun h => absurd h (Nat.lt_irrefl _)⟩, by omega⟩
 ·injection hcs with hcs _
  injection hcs with e1 e2 e3
  subst e1 e2 e3
  refine ⟨len1, ⟨some x, cap1, rfl, fun _ => ⟨x, rfl, fun i hi => ?_⟩⟩, ?_⟩
  ·have hzl : i < zs.length := by simp at hz; omega
   have h1 := hcell i hzl
   have h2 := hwz (zs.getD i 0) (by rw [List.getD_eq_getElem?_getD, List.getElem?_eq_getElem hzl]; exact List.getElem_mem hzl)
   have h3 : 0 ≤ zs.getD i 0 ∧ zs.getD i 0 ≤ 255 := by simpa [Lit.wf, IntKind.min, IntKind.max, IntKind.signed, IntKind.bits] using h2
   refine ⟨(zs.getD i 0).toNat, by omega, ?_⟩
   rw [show (((zs.getD i 0).toNat : Nat) : Int) = zs.getD i 0 by omega]
   exact h1
  ·unfold maxLen at hm
   omega
theorem bigB (v : Value) (n : Nat) (w : World) (hv : ReadY w v n) (hn : n ≤ 9223372036854775807) : Calls Tryz.prog 10 #[v] w fun e w' => e = .returned (.bool (decide (4096 < n))) ∧ Below w.heap.size w w' := by
 obtain ⟨A, c, rfl, -⟩ := id hv
 clear hv
 by_cases h : 4096 < n
 ·have h1 : (4096 : Int) < (n : Int) := by omega
  have HH : Aside0 (decide (4096 < n) = true) := ⟨decide_eq_true h⟩
  clear h
  go_enter Tryz.func10, Tryz.ntmps10
  go_wp2
  go_ret
  exact ⟨by rw [HH.out] <;> simp [h1], Below.refl _ _⟩
 ·have h1 : ¬ (4096 : Int) < (n : Int) := by omega
  have HH : Aside0 (decide (4096 < n) = false) := ⟨decide_eq_false h⟩
  clear h
  go_enter Tryz.func10, Tryz.ntmps10
  go_wp2
  go_ret
  exact ⟨by rw [HH.out] <;> simp [h1], Below.refl _ _⟩
/-- what is read is read behind too -/
theorem Aside0.readc {w w' : World} {v : Value} {xs : List Int} (h : Aside0 (ReadI w v xs)) (hb : Below w.heap.size w w') : Aside0 (ReadI w' v xs) := ⟨ReadI.below h.out hb⟩
theorem Aside0.ready {w w' : World} {v : Value} {n : Nat} (h : Aside0 (ReadY w v n)) (hb : Below w.heap.size w w') : Aside0 (ReadY w' v n) := ⟨ReadY.below h.out hb⟩
end Go.Proofs.YtkggchklmpmgpaaGreat.H
