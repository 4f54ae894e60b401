/- Pairings and two faces drawn: l06Two, DrawCriticalChain (printed by gend25.py). -/
import Derived.Test.YtomofijniefelaaGreatKFnFlows1
import Derived.Test.YtomofijniefelaaGreatKFnFlows2
import Derived.Test.YtomofijniefelaaGreatKFnFlows3
import Derived.Test.YtomofijniefelaaGreatKFnFlows4
import Derived.Test.YtomofijniefelaaGreatKFnFlows5
import Derived.Test.YtomofijniefelaaGreatKFnFlows6
import Derived.Test.YtomofijniefelaaGreatKFnFlows7
import Derived.Test.YtomofijniefelaaGreatKFnFlows8
import Derived.Test.YtomofijniefelaaGreatKFnFlows9
import Derived.Test.YtomofijniefelaaGreatKFnFlows10
import Derived.Test.YtomofijniefelaaGreatKFnFlows11
import Derived.Test.YtomofijniefelaaGreatKFnFlows12
import Derived.Test.YtomofijniefelaaGreatKFnFlows13
import Derived.Test.YtomofijniefelaaGreatKFnFlows14
import Derived.Test.YtomofijniefelaaGreatKFnFlows15
import Derived.Test.YtomofijniefelaaGreatKFnFlows16
import Derived.Test.YtomofijniefelaaGreatKFnFlows17
import Derived.Test.YtomofijniefelaaGreatKFnFlows18
import Derived.Test.YtomofijniefelaaGreatKFnFlows19
import Derived.Test.YtomofijniefelaaGreatKFnFlows20
import Derived.Test.YtomofijniefelaaGreatKFnFlows21
import Derived.Test.YtomofijniefelaaGreatKFnFlows22
import Derived.Test.YtomofijniefelaaGreatKFnFlows23
import Derived.Test.YtomofijniefelaaGreatKFnFlows24

namespace Go.Proofs.YtomofijniefelaaGreat.H
open Go.RowKit Go.Proofs.YtomofijniefelaaGreatW.PrintWords Go.Proofs.YtomofijniefelaaGreatW.PrintLast
set_option linter.unusedVariables false
set_option linter.unusedSimpArgs false
set_option maxRecDepth 100000 in
set_option maxHeartbeats 8000000 in
theorem drawTwo (v : Value) (nb : Nat) (w : World) (hn : nb ≤ 4096) (hv : ReadY w v nb) :
  Calls Tryz.prog 175 #[v] w (TwDraw w) := by
 obtain ⟨w1, hw1⟩ : ∃ w1, w1 = w.alloc C0 := ⟨_, rfl⟩
 have hb1 : Below w.heap.size w w1 := by rw [hw1]; exact Below.alloc (Below.refl _ _) (Nat.le_refl _) _
 have HZ1 : Aside0 (w1.heap.size = w.heap.size + 1) := ⟨by rw [hw1]; simp⟩
 have HK1 : Aside0 (w1.heap[w.heap.size]? = some C0) := ⟨by rw [hw1]; exact blk_new w _⟩
 have HB1 := Aside0.mk hb1
 have HFR := Aside0.mk (srcFrom v nb hn w1 (hv.below hb1))
 have hmx : Tryz.prog.follows .mixedOrders = true := by kernel_rfl
 clear hv hb1
 go_enter Tryz.func175, Tryz.ntmps175
 go_wp2_with (first | (go_at_call 117; rw [← hw1]; clear hw1; refine Aside0.out ?_) | (go_at_call 230; refine Aside0.out ?_))
 refine Aside0.mk ?_
 refine HFR.out.mono ?_
 rintro e w2 ⟨rfl, hs, hb⟩
 have HLT := Aside0.mk hs.lt
 have HB2 := Aside0.mk hb
 have HDB := Aside0.mk (drawPaired w1.heap.size w2 hs)
 clear hs hb
 go_wp2_with (first | (go_at_call 230; refine Aside0.out ?_))
 refine Aside0.mk ?_
 refine HDB.out.mono ?_
 rintro e w3 ⟨a, z, tv, ys, ps, rfl, ho, ht, hr, htl, hd⟩
 obtain ⟨Az, cz, rfl, -⟩ := id ho.read
 obtain ⟨At, ct, rfl, -⟩ := id ht.read
 obtain ⟨w4, hw4⟩ : ∃ w4, w4 = w3.alloc (.cells #[.int .i64 a, .slice Az ys.length cz] 26) := ⟨_, rfl⟩
 have hb4 : Below w3.heap.size w3 w4 := by rw [hw4]; exact Below.alloc (Below.refl _ _) (Nat.le_refl _) _
 have hk4 : w4.heap[w3.heap.size]? = some (.cells #[.int .i64 a, .slice Az ys.length cz] 26) := by rw [hw4]; exact heap_alloc_new w3 _
 have hd4 := hd.then_below hb4
 have hB4 : Below w1.heap.size w1 w4 := HB2.out.trans (below_grown hd4.1 (Nat.le_refl _) (Nat.le_of_lt HLT.out))
 have HSZ3 : Aside0 (w2.heap.size ≤ w3.heap.size) := ⟨hd.size⟩
 have HO4 := Aside0.mk (ho.below hb4)
 have HT4 := Aside0.mk (ht.below hb4)
 have HS4 := Aside0.mk hd4.2
 have HB4 := Aside0.mk hB4
 have HK4 := Aside0.mk hk4
 have HC4 : Aside0 (w4.heap[w.heap.size]? = some C0) := ⟨by rw [hB4.block _ (by have := HZ1.out; omega)]; exact HK1.out⟩
 have HR := Aside0.mk hr
 have HTL := Aside0.mk htl
 have c40 : w4.cell? ⟨w3.heap.size, 0, none⟩ = some (.int .i64 a) := blk_cell hk4 0
 have c41 : w4.cell? ⟨w3.heap.size, 1, none⟩ = some (.slice Az ys.length cz) := blk_cell hk4 1
 clear ho ht hr htl hd hb4 hk4 hd4 hB4
 obtain ⟨PL, hPL⟩ : ∃ PL, PL = ps.length := ⟨_, rfl⟩
 rw [← hPL] at HT4 ⊢
 have HPL := Aside0.mk hPL
 clear hPL
 have HYL : Aside0 (ys.length ≤ 1000) := ⟨by have := HR.out.2.2.2; omega⟩
 have HCF := Aside0.mk (specCriticalFaces a (.slice Az ys.length cz) ys (.slice At PL ct) ps w4 HO4.out.read HT4.out.read (by have := HYL.out; omega))
 have HSB4 : Aside0 (w1.heap.size < w4.heap.size) := ⟨by have := blk_lt HK4.out; have := HSZ3.out; have := HLT.out; omega⟩
 go_wp2_with (first | (go_at_call 292; rw [← hw4]; clear hw4 c40 c41; refine Aside0.out ?_))
 refine Aside0.mk ?_
 refine HCF.out.mono ?_
 rintro e w5 ⟨_, l, c, rfl, hol, hsub, hll, hb⟩
 obtain ⟨Al, cl, rfl, -⟩ := id hol.read
 have HOL5 := Aside0.mk hol
 have HLL : Aside0 (l.length ≤ 65) := ⟨Nat.le_trans hll HR.out.2.2.2⟩
 have HXN : Aside0 (∀ y ∈ l, ∃ z : Nat, y = z ∧ z ≤ 64) := ⟨fun y hy => by have := HR.out.2.2.1 y (hsub y hy); exact ⟨y.toNat, by omega, by omega⟩⟩
 have HS5 := Aside0.mk (HS4.out.below hb)
 have HC5 : Aside0 (w5.heap[w.heap.size]? = some C0) := ⟨by rw [hb.block _ (blk_lt HC4.out)]; exact HC4.out⟩
 have HK5 : Aside0 (w5.heap[w3.heap.size]? = some (.cells #[.int .i64 a, .slice Az ys.length cz] 26)) := ⟨by rw [hb.block _ (blk_lt HK4.out)]; exact HK4.out⟩
 have HO5 := Aside0.mk (HO4.out.below hb)
 have HT5 := Aside0.mk (HT4.out.below hb)
 have HB5 := Aside0.mk (HB4.out.trans (hb.mono HB4.out.size))
 have c50 : w5.cell? ⟨w3.heap.size, 0, none⟩ = some (.int .i64 a) := blk_cell HK5.out 0
 have c51 : w5.cell? ⟨w3.heap.size, 1, none⟩ = some (.slice Az ys.length cz) := blk_cell HK5.out 1
 clear hol hsub hll hb HO4 HT4 HS4 HC4 HK4 HB4 HCF
 by_cases hc0 : c = 0
 ·subst hc0
  by_cases hl0 : ((l.length : Int) == 0) = true
  ·clear HXN
   go_upto_region 5 with (fail)
   have HKw : Aside0 (w5.heap[w3.heap.size]? = some (.cells #[.int .i64 a, .slice Az ys.length cz] 26)) := ⟨HK5.out⟩
   have HIS : Aside0 (∀ b s, (∀ i, b i = false) → DI w1.heap.size w.heap.size 8 #[.int .i64 a, .slice Az ys.length cz] (PRi [4, 7, 10, 11]) w5 b s w5.drew) := ⟨fun b s hb => DI.start HS5.out HC5.out hb⟩
   have HST : Aside0 (∀ {W W' : World}, W.grownBy W' (some w.heap.size) → ∀ j v, (PRi [4, 7, 10, 11]) j v W → (PRi [4, 7, 10, 11]) j v W') := ⟨fun hg j v h => h⟩
   have HSD : Aside0 (∀ {W W' : World}, Dw w1.heap.size W W' → ∀ j v, (PRi [4, 7, 10, 11]) j v W → (PRi [4, 7, 10, 11]) j v W') := ⟨fun hg j v h => h⟩
   have HPQ : Aside0 (∀ i, (!(i == 4) && !(i == 7) && !(i == 8) && !(i == 10) && !(i == 11)) = true → ∀ v W, (PRi [4, 7, 10, 11]) i v W) := ⟨fun i hq v W => fun hj => by simp only [List.mem_cons, List.not_mem_nil, or_false] at hj; rcases hj with rfl | rfl | rfl | rfl <;> exact absurd hq (by decide)⟩
   have HPJ : Aside0 (∀ v W, (PRi [4, 7, 10, 11]) 8 v W) := ⟨fun v W => fun h => absurd h (by decide)⟩
   have HSW : Aside0 (w2.heap.size ≤ w5.heap.size) := ⟨by have := blk_lt HK5.out; have := HSZ3.out; omega⟩
   refine wp_region_s 200 (fun i => !(i == 4) && !(i == 7) && !(i == 8) && !(i == 10) && !(i == 11)) (fun i => match i with | 0 => fun v => v = .agg #[.int .i64 a, .slice Az ys.length cz] | 1 => fun v => v = .slice At PL ct | 2 => fun v => v = .pointer (some ⟨w1.heap.size, 0, none⟩) | 3 => fun v => v = .agg #[.int .i64 a, .slice Az ys.length cz] | 5 => fun v => v = .pointer (some ⟨w1.heap.size, 0, none⟩) | 6 => fun v => v = .agg #[.int .i64 a, .slice Az ys.length cz] | 9 => fun v => v = .slice At PL ct | _ => fun _ => True)
    (DI w1.heap.size w.heap.size 8 #[.int .i64 a, .slice Az ys.length cz] (PRi [4, 7, 10, 11]) w5) [0, 0, 0, 0, 12, 0, 0, 124, 253, 511, 1023, 2047] hmx (by kernel_rfl) ?start ?stay ?steps ?rest
   case start =>
    intro b s hb
    exact HIS.out b s hb
   case stay =>
    intro i b s v w1_ hq hI
    exact hI.set (fun h => by subst h; exact absurd hq (by decide)) (HPQ.out i hq v w1_)
   case steps =>
    refine ⟨?_, ?_, ?_, ?_, ?_, ?_, ?_, ?_, ?_, ?_, ?_, ?_, trivial⟩
    ·intro s b_ w_ hI hbi hd hq R hR hN
     generalize hA : putAll _ 0 s _ = A
     clear hq
     have hk := hI.hold HKw.out (by have := HSZ3.out; have := HLT.out; omega) (by have := HSZ3.out; have := HLT.out; have := HZ1.out; omega)
     have k0 := blk_cell hk 0
     have k1 := blk_cell hk 1
     clear hk
     have hR' := hR rfl (.agg #[.int .i64 a, .slice Az ys.length cz]) rfl
     clear hR hN hd
     refine opGives_value ?_ hR'
     subst hA
     simp only [dsN, List.zipIdx_cons, List.zipIdx_nil, List.map_cons, List.map_nil, Option.getD_some, Option.getD_none, putAll, Act.put, List.setIfInBounds_toArray, List.set_cons_zero, List.set_cons_succ, List.set_nil, Nat.reduceAdd]
     go_simp
    ·intro s b_ w_ hI hbi hd hq R hR hN
     generalize hA : putAll _ 0 s _ = A
     clear hq
     have hR' := hR rfl (.slice At PL ct) rfl
     clear hR hN hd
     refine opGives_value ?_ hR'
     subst hA
     simp only [dsN, List.zipIdx_cons, List.zipIdx_nil, List.map_cons, List.map_nil, Option.getD_some, Option.getD_none, putAll, Act.put, List.setIfInBounds_toArray, List.set_cons_zero, List.set_cons_succ, List.set_nil, Nat.reduceAdd]
     go_simp
    ·intro s b_ w_ hI hbi hd hq R hR hN
     generalize hA : putAll _ 0 s _ = A
     clear hq
     have hR' := hR rfl (.pointer (some ⟨w1.heap.size, 0, none⟩)) rfl
     clear hR hN hd
     refine opGives_value ?_ hR'
     subst hA
     simp only [dsN, List.zipIdx_cons, List.zipIdx_nil, List.map_cons, List.map_nil, Option.getD_some, Option.getD_none, putAll, Act.put, List.setIfInBounds_toArray, List.set_cons_zero, List.set_cons_succ, List.set_nil, Nat.reduceAdd]
     go_simp
    ·intro s b_ w_ hI hbi hd hq R hR hN
     generalize hA : putAll _ 0 s _ = A
     clear hq
     have hk := hI.hold HKw.out (by have := HSZ3.out; have := HLT.out; omega) (by have := HSZ3.out; have := HLT.out; have := HZ1.out; omega)
     have k0 := blk_cell hk 0
     have k1 := blk_cell hk 1
     clear hk
     have hR' := hR rfl (.agg #[.int .i64 a, .slice Az ys.length cz]) rfl
     clear hR hN hd
     refine opGives_value ?_ hR'
     subst hA
     simp only [dsN, List.zipIdx_cons, List.zipIdx_nil, List.map_cons, List.map_nil, Option.getD_some, Option.getD_none, putAll, Act.put, List.setIfInBounds_toArray, List.set_cons_zero, List.set_cons_succ, List.set_nil, Nat.reduceAdd]
     go_simp
    ·intro s b_ w_ hI hbi hd hq R hR hN
     generalize hA : putAll _ 0 s _ = A
     clear hq
     have e2 : s 2 = _ := (hd 2 (by kernel_rfl)).2 rfl
     have e3 : s 3 = _ := (hd 3 (by kernel_rfl)).2 rfl
     clear hR
     refine opGives_call (f := 231) (args := #[.pointer (some ⟨w1.heap.size, 0, none⟩), .agg #[.int .i64 a, .slice Az ys.length cz]]) ?_ ?_
     ·subst hA
      clear hN hd
      simp only [dsN, List.zipIdx_cons, List.zipIdx_nil, List.map_cons, List.map_nil, Option.getD_some, Option.getD_none, putAll, Act.put, List.setIfInBounds_toArray, List.set_cons_zero, List.set_cons_succ, List.set_nil, Nat.reduceAdd]
      go_simp
     clear hA A hd
     have hz9 := Nat.le_trans HSW.out hI.size
     refine (drawFace w1.heap.size w2.heap.size a _ ys w_ hI.src (hI.own HO5.out HLT.out (by have := HZ1.out; omega)) HLT.out hz9 HYL.out).mono ?_
     rintro e w5_ ⟨r_, rfl, hd⟩
     exact ⟨_, rfl, hN rfl _ _ ((hI.dw hd (by have := HZ1.out; omega) (HSD.out hd)).set (by decide) (fun _ => ⟨r_, rfl⟩))⟩
    ·intro s b_ w_ hI hbi hd hq R hR hN
     generalize hA : putAll _ 0 s _ = A
     clear hq
     have hR' := hR rfl (.pointer (some ⟨w1.heap.size, 0, none⟩)) rfl
     clear hR hN hd
     refine opGives_value ?_ hR'
     subst hA
     simp only [dsN, List.zipIdx_cons, List.zipIdx_nil, List.map_cons, List.map_nil, Option.getD_some, Option.getD_none, putAll, Act.put, List.setIfInBounds_toArray, List.set_cons_zero, List.set_cons_succ, List.set_nil, Nat.reduceAdd]
     go_simp
    ·intro s b_ w_ hI hbi hd hq R hR hN
     generalize hA : putAll _ 0 s _ = A
     clear hq
     have hk := hI.hold HKw.out (by have := HSZ3.out; have := HLT.out; omega) (by have := HSZ3.out; have := HLT.out; have := HZ1.out; omega)
     have k0 := blk_cell hk 0
     have k1 := blk_cell hk 1
     clear hk
     have hR' := hR rfl (.agg #[.int .i64 a, .slice Az ys.length cz]) rfl
     clear hR hN hd
     refine opGives_value ?_ hR'
     subst hA
     simp only [dsN, List.zipIdx_cons, List.zipIdx_nil, List.map_cons, List.map_nil, Option.getD_some, Option.getD_none, putAll, Act.put, List.setIfInBounds_toArray, List.set_cons_zero, List.set_cons_succ, List.set_nil, Nat.reduceAdd]
     go_simp
    ·intro s b_ w_ hI hbi hd hq R hR hN
     generalize hA : putAll _ 0 s _ = A
     clear hq
     have e5 : s 5 = _ := (hd 5 (by kernel_rfl)).2 rfl
     have e6 : s 6 = _ := (hd 6 (by kernel_rfl)).2 rfl
     clear hR
     refine opGives_call (f := 231) (args := #[.pointer (some ⟨w1.heap.size, 0, none⟩), .agg #[.int .i64 a, .slice Az ys.length cz]]) ?_ ?_
     ·subst hA
      clear hN hd
      simp only [dsN, List.zipIdx_cons, List.zipIdx_nil, List.map_cons, List.map_nil, Option.getD_some, Option.getD_none, putAll, Act.put, List.setIfInBounds_toArray, List.set_cons_zero, List.set_cons_succ, List.set_nil, Nat.reduceAdd]
      go_simp
     clear hA A hd
     have hz9 := Nat.le_trans HSW.out hI.size
     refine (drawFace w1.heap.size w2.heap.size a _ ys w_ hI.src (hI.own HO5.out HLT.out (by have := HZ1.out; omega)) HLT.out hz9 HYL.out).mono ?_
     rintro e w5_ ⟨r_, rfl, hd⟩
     exact ⟨_, rfl, hN rfl _ _ ((hI.dw hd (by have := HZ1.out; omega) (HSD.out hd)).set (by decide) (fun _ => ⟨r_, rfl⟩))⟩
    ·intro s b_ w_ hI hbi hd hq
     clear hq
     have e0 : s 0 = _ := (hd 0 (by kernel_rfl)).2 rfl
     have hk := hI.c0 hbi
     have c00 : w_.cell? ⟨w.heap.size, 0, none⟩ = some (.int .i64 0) := blk_cell hk 0
     have c01 : w_.cell? ⟨w.heap.size, 1, none⟩ = some (.slice none 0 0) := blk_cell hk 1
     have f00 : w_.frozen? ⟨w.heap.size, 0, none⟩ = false := blk_frozen hk 0
     have f01 : w_.frozen? ⟨w.heap.size, 1, none⟩ = false := blk_frozen hk 1
     clear hk
     refine ⟨(w_.setCell ⟨w.heap.size, 0, none⟩ (.int .i64 a)).setCell ⟨w.heap.size, 1, none⟩ (.slice Az ys.length cz), ?_, ?_⟩
     ·clear hd
      simp only [dsN, List.zipIdx_cons, List.zipIdx_nil, List.map_cons, List.map_nil, Option.getD_some, Option.getD_none, putAll, Act.put, List.setIfInBounds_toArray, List.set_cons_zero, List.set_cons_succ, List.set_nil, Nat.reduceAdd]
      go_simp
     ·exact hI.put hbi (by have := HZ1.out; omega) (HPJ.out _ _) (fun _ hg => HST.out hg)
    ·intro s b_ w_ hI hbi hd hq R hR hN
     generalize hA : putAll _ 0 s _ = A
     clear hq
     have e1 : s 1 = _ := (hd 1 (by kernel_rfl)).2 rfl
     have hR' := hR rfl (.slice At PL ct) rfl
     clear hR hN hd
     refine opGives_value ?_ hR'
     subst hA
     simp only [dsN, List.zipIdx_cons, List.zipIdx_nil, List.map_cons, List.map_nil, Option.getD_some, Option.getD_none, putAll, Act.put, List.setIfInBounds_toArray, List.set_cons_zero, List.set_cons_succ, List.set_nil, Nat.reduceAdd]
     go_simp
    ·intro s b_ w_ hI hbi hd hq R hR hN
     generalize hA : putAll _ 0 s _ = A
     clear hq
     have b4 : b_ 4 = true := (hd 4 (by kernel_rfl)).1
     clear hR
     have hN' := hN rfl (s 4) _ (hI.set (by decide) (fun _ => hI.val 4 b4 (by decide)))
     clear hN hd
     refine opGives_value ?_ hN'
     subst hA
     simp only [dsN, List.zipIdx_cons, List.zipIdx_nil, List.map_cons, List.map_nil, Option.getD_some, Option.getD_none, putAll, Act.put, List.setIfInBounds_toArray, List.set_cons_zero, List.set_cons_succ, List.set_nil, Nat.reduceAdd]
     go_simp
    ·intro s b_ w_ hI hbi hd hq R hR hN
     generalize hA : putAll _ 0 s _ = A
     clear hq
     have b7 : b_ 7 = true := (hd 7 (by kernel_rfl)).1
     clear hR
     have hN' := hN rfl (s 7) _ (hI.set (by decide) (fun _ => hI.val 7 b7 (by decide)))
     clear hN hd
     refine opGives_value ?_ hN'
     subst hA
     simp only [dsN, List.zipIdx_cons, List.zipIdx_nil, List.map_cons, List.map_nil, Option.getD_some, Option.getD_none, putAll, Act.put, List.setIfInBounds_toArray, List.set_cons_zero, List.set_cons_succ, List.set_nil, Nat.reduceAdd]
     go_simp
   case rest =>
    intro s9 b_ w9 hI hb hv
    have e9_ : s9 9 = _ := hv 9 _ rfl (fun h => by cases h) rfl
    simp only [dsN, List.zipIdx_cons, List.zipIdx_nil, List.map_cons, List.map_nil, Option.getD_some, Option.getD_none, putAll, Act.put, List.setIfInBounds_toArray, List.set_cons_zero, List.set_cons_succ, List.set_nil, Nat.reduceAdd]
    rw [e9_]
    clear hv e9_
    have HB9 := Aside0.mk hI.bel
    have HK9 : Aside0 (w9.heap[w.heap.size]? = some (.cells #[.int .i64 a, .slice Az ys.length cz] 26)) := ⟨by have h := hI.blk; rw [hb 8 (by decide)] at h; exact h⟩
    have HO9 := Aside0.mk (hI.own HO5.out HLT.out (by have := HZ1.out; omega))
    have HT9 := Aside0.mk (hI.ownP HT5.out HLT.out (by have := HZ1.out; omega))
    obtain ⟨x9, ex9⟩ : ∃ r : Int, s9 10 = .int .i64 r := hI.val 10 (hb 10 (by decide)) (by decide)
    obtain ⟨y9, ey9⟩ : ∃ r : Int, s9 11 = .int .i64 r := hI.val 11 (hb 11 (by decide)) (by decide)
    rw [ex9, ey9]
    clear hb hI
    go_wp2
    refine bodyPost_ret (results_cttt rfl _ _ w.heap.size 26 #[.int .i64 a, .slice Az ys.length cz] (0, 0) _ rfl HK9.out Tryz.underlying26 rfl (by kernel_rfl)) rfl ?_
    have hlt := HLT.out
    have hz := HZ1.out
    exact ⟨a, x9, y9, _, _, ys, ps, rfl, HO9.out.lower (by omega), HT9.out.lower (by omega), HR.out, HTL.out, HB1.out.trans ((HB5.out.mono (by omega)).trans HB9.out)⟩
  ·have hlne : l.length ≠ 0 := fun e => hl0 (by rw [e]; rfl)
   have hl0I : ¬ (l.length : Int) = 0 := by omega
   clear hl0
   go_wp2_with (first | (go_at_call 146; refine Aside0.out ?_))
   refine Aside0.mk ?_
   with_reducible refine (next w1.heap.size 16 w5 (by decide) HS5.out).mono ?_
   rintro e w6 ⟨q, rfl, -, -, hd⟩
   have HS6 := Aside0.mk hd.2
   have HC6 : Aside0 (w6.heap[w.heap.size]? = some C0) := ⟨by rw [hd.1.block _ (blk_lt HC5.out) (fun e => by have := Option.some.inj e; have := HZ1.out; omega)]; exact HC5.out⟩
   have HK6 : Aside0 (w6.heap[w3.heap.size]? = some (.cells #[.int .i64 a, .slice Az ys.length cz] 26)) := ⟨by rw [hd.1.block _ (blk_lt HK5.out) (fun e => by have := Option.some.inj e; have := HSZ3.out; have := HLT.out; omega)]; exact HK5.out⟩
   have HO6 := Aside0.mk (HO5.out.gm hd.1 HLT.out)
   have HT6 := Aside0.mk (HT5.out.gm hd.1 HLT.out)
   have HB6 := Aside0.mk (HB5.out.trans (below_grown hd.1 (Nat.le_refl _) HB5.out.size))
   have HOL6 := Aside0.mk (HOL5.out.gm hd.1 HSB4.out)
   have c60 : w6.cell? ⟨w3.heap.size, 0, none⟩ = some (.int .i64 a) := blk_cell HK6.out 0
   have c61 : w6.cell? ⟨w3.heap.size, 1, none⟩ = some (.slice Az ys.length cz) := blk_cell HK6.out 1
   clear hd c50 c51 HO5 HT5 HS5 HC5 HK5 HB5 HOL5
   by_cases hq0 : q = 0
   ·subst hq0
    clear HXN
    go_upto_region 5 with (fail)
    have HKw : Aside0 (w6.heap[w3.heap.size]? = some (.cells #[.int .i64 a, .slice Az ys.length cz] 26)) := ⟨HK6.out⟩
    have HIS : Aside0 (∀ b s, (∀ i, b i = false) → DI w1.heap.size w.heap.size 8 #[.int .i64 a, .slice Az ys.length cz] (PRi [4, 7, 10, 11]) w6 b s w6.drew) := ⟨fun b s hb => DI.start HS6.out HC6.out hb⟩
    have HST : Aside0 (∀ {W W' : World}, W.grownBy W' (some w.heap.size) → ∀ j v, (PRi [4, 7, 10, 11]) j v W → (PRi [4, 7, 10, 11]) j v W') := ⟨fun hg j v h => h⟩
    have HSD : Aside0 (∀ {W W' : World}, Dw w1.heap.size W W' → ∀ j v, (PRi [4, 7, 10, 11]) j v W → (PRi [4, 7, 10, 11]) j v W') := ⟨fun hg j v h => h⟩
    have HPQ : Aside0 (∀ i, (!(i == 4) && !(i == 7) && !(i == 8) && !(i == 10) && !(i == 11)) = true → ∀ v W, (PRi [4, 7, 10, 11]) i v W) := ⟨fun i hq v W => fun hj => by simp only [List.mem_cons, List.not_mem_nil, or_false] at hj; rcases hj with rfl | rfl | rfl | rfl <;> exact absurd hq (by decide)⟩
    have HPJ : Aside0 (∀ v W, (PRi [4, 7, 10, 11]) 8 v W) := ⟨fun v W => fun h => absurd h (by decide)⟩
    have HSW : Aside0 (w2.heap.size ≤ w6.heap.size) := ⟨by have := blk_lt HK6.out; have := HSZ3.out; omega⟩
    refine wp_region_s 200 (fun i => !(i == 4) && !(i == 7) && !(i == 8) && !(i == 10) && !(i == 11)) (fun i => match i with | 0 => fun v => v = .agg #[.int .i64 a, .slice Az ys.length cz] | 1 => fun v => v = .slice At PL ct | 2 => fun v => v = .pointer (some ⟨w1.heap.size, 0, none⟩) | 3 => fun v => v = .agg #[.int .i64 a, .slice Az ys.length cz] | 5 => fun v => v = .pointer (some ⟨w1.heap.size, 0, none⟩) | 6 => fun v => v = .agg #[.int .i64 a, .slice Az ys.length cz] | 9 => fun v => v = .slice At PL ct | _ => fun _ => True)
     (DI w1.heap.size w.heap.size 8 #[.int .i64 a, .slice Az ys.length cz] (PRi [4, 7, 10, 11]) w6) [0, 0, 0, 0, 12, 0, 0, 124, 253, 511, 1023, 2047] hmx (by kernel_rfl) ?start ?stay ?steps ?rest
    case start =>
     intro b s hb
     exact HIS.out b s hb
    case stay =>
     intro i b s v w1_ hq hI
     exact hI.set (fun h => by subst h; exact absurd hq (by decide)) (HPQ.out i hq v w1_)
    case steps =>
     refine ⟨?_, ?_, ?_, ?_, ?_, ?_, ?_, ?_, ?_, ?_, ?_, ?_, trivial⟩
     ·intro s b_ w_ hI hbi hd hq R hR hN
      generalize hA : putAll _ 0 s _ = A
      clear hq
      have hk := hI.hold HKw.out (by have := HSZ3.out; have := HLT.out; omega) (by have := HSZ3.out; have := HLT.out; have := HZ1.out; omega)
      have k0 := blk_cell hk 0
      have k1 := blk_cell hk 1
      clear hk
      have hR' := hR rfl (.agg #[.int .i64 a, .slice Az ys.length cz]) rfl
      clear hR hN hd
      refine opGives_value ?_ hR'
      subst hA
      simp only [dsN, List.zipIdx_cons, List.zipIdx_nil, List.map_cons, List.map_nil, Option.getD_some, Option.getD_none, putAll, Act.put, List.setIfInBounds_toArray, List.set_cons_zero, List.set_cons_succ, List.set_nil, Nat.reduceAdd]
      go_simp
     ·intro s b_ w_ hI hbi hd hq R hR hN
      generalize hA : putAll _ 0 s _ = A
      clear hq
      have hR' := hR rfl (.slice At PL ct) rfl
      clear hR hN hd
      refine opGives_value ?_ hR'
      subst hA
      simp only [dsN, List.zipIdx_cons, List.zipIdx_nil, List.map_cons, List.map_nil, Option.getD_some, Option.getD_none, putAll, Act.put, List.setIfInBounds_toArray, List.set_cons_zero, List.set_cons_succ, List.set_nil, Nat.reduceAdd]
      go_simp
     ·intro s b_ w_ hI hbi hd hq R hR hN
      generalize hA : putAll _ 0 s _ = A
      clear hq
      have hR' := hR rfl (.pointer (some ⟨w1.heap.size, 0, none⟩)) rfl
      clear hR hN hd
      refine opGives_value ?_ hR'
      subst hA
      simp only [dsN, List.zipIdx_cons, List.zipIdx_nil, List.map_cons, List.map_nil, Option.getD_some, Option.getD_none, putAll, Act.put, List.setIfInBounds_toArray, List.set_cons_zero, List.set_cons_succ, List.set_nil, Nat.reduceAdd]
      go_simp
     ·intro s b_ w_ hI hbi hd hq R hR hN
      generalize hA : putAll _ 0 s _ = A
      clear hq
      have hk := hI.hold HKw.out (by have := HSZ3.out; have := HLT.out; omega) (by have := HSZ3.out; have := HLT.out; have := HZ1.out; omega)
      have k0 := blk_cell hk 0
      have k1 := blk_cell hk 1
      clear hk
      have hR' := hR rfl (.agg #[.int .i64 a, .slice Az ys.length cz]) rfl
      clear hR hN hd
      refine opGives_value ?_ hR'
      subst hA
      simp only [dsN, List.zipIdx_cons, List.zipIdx_nil, List.map_cons, List.map_nil, Option.getD_some, Option.getD_none, putAll, Act.put, List.setIfInBounds_toArray, List.set_cons_zero, List.set_cons_succ, List.set_nil, Nat.reduceAdd]
      go_simp
     ·intro s b_ w_ hI hbi hd hq R hR hN
      generalize hA : putAll _ 0 s _ = A
      clear hq
      have e2 : s 2 = _ := (hd 2 (by kernel_rfl)).2 rfl
      have e3 : s 3 = _ := (hd 3 (by kernel_rfl)).2 rfl
      clear hR
      refine opGives_call (f := 231) (args := #[.pointer (some ⟨w1.heap.size, 0, none⟩), .agg #[.int .i64 a, .slice Az ys.length cz]]) ?_ ?_
      ·subst hA
       clear hN hd
       simp only [dsN, List.zipIdx_cons, List.zipIdx_nil, List.map_cons, List.map_nil, Option.getD_some, Option.getD_none, putAll, Act.put, List.setIfInBounds_toArray, List.set_cons_zero, List.set_cons_succ, List.set_nil, Nat.reduceAdd]
       go_simp
      clear hA A hd
      have hz9 := Nat.le_trans HSW.out hI.size
      refine (drawFace w1.heap.size w2.heap.size a _ ys w_ hI.src (hI.own HO6.out HLT.out (by have := HZ1.out; omega)) HLT.out hz9 HYL.out).mono ?_
      rintro e w5_ ⟨r_, rfl, hd⟩
      exact ⟨_, rfl, hN rfl _ _ ((hI.dw hd (by have := HZ1.out; omega) (HSD.out hd)).set (by decide) (fun _ => ⟨r_, rfl⟩))⟩
     ·intro s b_ w_ hI hbi hd hq R hR hN
      generalize hA : putAll _ 0 s _ = A
      clear hq
      have hR' := hR rfl (.pointer (some ⟨w1.heap.size, 0, none⟩)) rfl
      clear hR hN hd
      refine opGives_value ?_ hR'
      subst hA
      simp only [dsN, List.zipIdx_cons, List.zipIdx_nil, List.map_cons, List.map_nil, Option.getD_some, Option.getD_none, putAll, Act.put, List.setIfInBounds_toArray, List.set_cons_zero, List.set_cons_succ, List.set_nil, Nat.reduceAdd]
      go_simp
     ·intro s b_ w_ hI hbi hd hq R hR hN
      generalize hA : putAll _ 0 s _ = A
      clear hq
      have hk := hI.hold HKw.out (by have := HSZ3.out; have := HLT.out; omega) (by have := HSZ3.out; have := HLT.out; have := HZ1.out; omega)
      have k0 := blk_cell hk 0
      have k1 := blk_cell hk 1
      clear hk
      have hR' := hR rfl (.agg #[.int .i64 a, .slice Az ys.length cz]) rfl
      clear hR hN hd
      refine opGives_value ?_ hR'
      subst hA
      simp only [dsN, List.zipIdx_cons, List.zipIdx_nil, List.map_cons, List.map_nil, Option.getD_some, Option.getD_none, putAll, Act.put, List.setIfInBounds_toArray, List.set_cons_zero, List.set_cons_succ, List.set_nil, Nat.reduceAdd]
      go_simp
     ·intro s b_ w_ hI hbi hd hq R hR hN
      generalize hA : putAll _ 0 s _ = A
      clear hq
      have e5 : s 5 = _ := (hd 5 (by kernel_rfl)).2 rfl
      have e6 : s 6 = _ := (hd 6 (by kernel_rfl)).2 rfl
      clear hR
      refine opGives_call (f := 231) (args := #[.pointer (some ⟨w1.heap.size, 0, none⟩), .agg #[.int .i64 a, .slice Az ys.length cz]]) ?_ ?_
      ·subst hA
       clear hN hd
       simp only [dsN, List.zipIdx_cons, List.zipIdx_nil, List.map_cons, List.map_nil, Option.getD_some, Option.getD_none, putAll, Act.put, List.setIfInBounds_toArray, List.set_cons_zero, List.set_cons_succ, List.set_nil, Nat.reduceAdd]
       go_simp
      clear hA A hd
      have hz9 := Nat.le_trans HSW.out hI.size
      refine (drawFace w1.heap.size w2.heap.size a _ ys w_ hI.src (hI.own HO6.out HLT.out (by have := HZ1.out; omega)) HLT.out hz9 HYL.out).mono ?_
      rintro e w5_ ⟨r_, rfl, hd⟩
      exact ⟨_, rfl, hN rfl _ _ ((hI.dw hd (by have := HZ1.out; omega) (HSD.out hd)).set (by decide) (fun _ => ⟨r_, rfl⟩))⟩
     ·intro s b_ w_ hI hbi hd hq
      clear hq
      have e0 : s 0 = _ := (hd 0 (by kernel_rfl)).2 rfl
      have hk := hI.c0 hbi
      have c00 : w_.cell? ⟨w.heap.size, 0, none⟩ = some (.int .i64 0) := blk_cell hk 0
      have c01 : w_.cell? ⟨w.heap.size, 1, none⟩ = some (.slice none 0 0) := blk_cell hk 1
      have f00 : w_.frozen? ⟨w.heap.size, 0, none⟩ = false := blk_frozen hk 0
      have f01 : w_.frozen? ⟨w.heap.size, 1, none⟩ = false := blk_frozen hk 1
      clear hk
      refine ⟨(w_.setCell ⟨w.heap.size, 0, none⟩ (.int .i64 a)).setCell ⟨w.heap.size, 1, none⟩ (.slice Az ys.length cz), ?_, ?_⟩
      ·clear hd
       simp only [dsN, List.zipIdx_cons, List.zipIdx_nil, List.map_cons, List.map_nil, Option.getD_some, Option.getD_none, putAll, Act.put, List.setIfInBounds_toArray, List.set_cons_zero, List.set_cons_succ, List.set_nil, Nat.reduceAdd]
       go_simp
      ·exact hI.put hbi (by have := HZ1.out; omega) (HPJ.out _ _) (fun _ hg => HST.out hg)
     ·intro s b_ w_ hI hbi hd hq R hR hN
      generalize hA : putAll _ 0 s _ = A
      clear hq
      have e1 : s 1 = _ := (hd 1 (by kernel_rfl)).2 rfl
      have hR' := hR rfl (.slice At PL ct) rfl
      clear hR hN hd
      refine opGives_value ?_ hR'
      subst hA
      simp only [dsN, List.zipIdx_cons, List.zipIdx_nil, List.map_cons, List.map_nil, Option.getD_some, Option.getD_none, putAll, Act.put, List.setIfInBounds_toArray, List.set_cons_zero, List.set_cons_succ, List.set_nil, Nat.reduceAdd]
      go_simp
     ·intro s b_ w_ hI hbi hd hq R hR hN
      generalize hA : putAll _ 0 s _ = A
      clear hq
      have b4 : b_ 4 = true := (hd 4 (by kernel_rfl)).1
      clear hR
      have hN' := hN rfl (s 4) _ (hI.set (by decide) (fun _ => hI.val 4 b4 (by decide)))
      clear hN hd
      refine opGives_value ?_ hN'
      subst hA
      simp only [dsN, List.zipIdx_cons, List.zipIdx_nil, List.map_cons, List.map_nil, Option.getD_some, Option.getD_none, putAll, Act.put, List.setIfInBounds_toArray, List.set_cons_zero, List.set_cons_succ, List.set_nil, Nat.reduceAdd]
      go_simp
     ·intro s b_ w_ hI hbi hd hq R hR hN
      generalize hA : putAll _ 0 s _ = A
      clear hq
      have b7 : b_ 7 = true := (hd 7 (by kernel_rfl)).1
      clear hR
      have hN' := hN rfl (s 7) _ (hI.set (by decide) (fun _ => hI.val 7 b7 (by decide)))
      clear hN hd
      refine opGives_value ?_ hN'
      subst hA
      simp only [dsN, List.zipIdx_cons, List.zipIdx_nil, List.map_cons, List.map_nil, Option.getD_some, Option.getD_none, putAll, Act.put, List.setIfInBounds_toArray, List.set_cons_zero, List.set_cons_succ, List.set_nil, Nat.reduceAdd]
      go_simp
    case rest =>
     intro s9 b_ w9 hI hb hv
     have e9_ : s9 9 = _ := hv 9 _ rfl (fun h => by cases h) rfl
     simp only [dsN, List.zipIdx_cons, List.zipIdx_nil, List.map_cons, List.map_nil, Option.getD_some, Option.getD_none, putAll, Act.put, List.setIfInBounds_toArray, List.set_cons_zero, List.set_cons_succ, List.set_nil, Nat.reduceAdd]
     rw [e9_]
     clear hv e9_
     have HB9 := Aside0.mk hI.bel
     have HK9 : Aside0 (w9.heap[w.heap.size]? = some (.cells #[.int .i64 a, .slice Az ys.length cz] 26)) := ⟨by have h := hI.blk; rw [hb 8 (by decide)] at h; exact h⟩
     have HO9 := Aside0.mk (hI.own HO6.out HLT.out (by have := HZ1.out; omega))
     have HT9 := Aside0.mk (hI.ownP HT6.out HLT.out (by have := HZ1.out; omega))
     obtain ⟨x9, ex9⟩ : ∃ r : Int, s9 10 = .int .i64 r := hI.val 10 (hb 10 (by decide)) (by decide)
     obtain ⟨y9, ey9⟩ : ∃ r : Int, s9 11 = .int .i64 r := hI.val 11 (hb 11 (by decide)) (by decide)
     rw [ex9, ey9]
     clear hb hI
     go_wp2
     refine bodyPost_ret (results_cttt rfl _ _ w.heap.size 26 #[.int .i64 a, .slice Az ys.length cz] (0, 0) _ rfl HK9.out Tryz.underlying26 rfl (by kernel_rfl)) rfl ?_
     have hlt := HLT.out
     have hz := HZ1.out
     exact ⟨a, x9, y9, _, _, ys, ps, rfl, HO9.out.lower (by omega), HT9.out.lower (by omega), HR.out, HTL.out, HB1.out.trans ((HB6.out.mono (by omega)).trans HB9.out)⟩
   ·have hq0b : (q == 0) = false := by rw [beq_eq_false_iff_ne]; exact hq0
    obtain ⟨ad, y0, rfl, -, HY0⟩ := ReadI.get (i := 0) (by obtain ⟨_, _, e, _, h⟩ := HOL6.out.read; cases e; exact h) (by omega)
    go_wp2_with (first | (go_at_call 146; refine Aside0.out ?_))
    refine Aside0.mk ?_
    with_reducible refine (next w1.heap.size (l.length : Int) w6 (by have := HLL.out; omega) HS6.out).mono ?_
    rintro e w7 ⟨r, rfl, -, h1_, hd⟩
    obtain ⟨hra, hrb⟩ := h1_ (by omega)
    obtain ⟨k, rfl⟩ : ∃ k : Nat, r = k := ⟨r.toNat, by omega⟩
    have hkl : k < l.length := by omega
    have hklI : (k : Int) < (l.length : Int) := by omega
    have HS7 := Aside0.mk hd.2
    have HC7 : Aside0 (w7.heap[w.heap.size]? = some C0) := ⟨by rw [hd.1.block _ (blk_lt HC6.out) (fun e => by have := Option.some.inj e; have := HZ1.out; omega)]; exact HC6.out⟩
    have HK7 : Aside0 (w7.heap[w3.heap.size]? = some (.cells #[.int .i64 a, .slice Az ys.length cz] 26)) := ⟨by rw [hd.1.block _ (blk_lt HK6.out) (fun e => by have := Option.some.inj e; have := HSZ3.out; have := HLT.out; omega)]; exact HK6.out⟩
    have HO7 := Aside0.mk (HO6.out.gm hd.1 HLT.out)
    have HT7 := Aside0.mk (HT6.out.gm hd.1 HLT.out)
    have HB7 := Aside0.mk (HB6.out.trans (below_grown hd.1 (Nat.le_refl _) HB6.out.size))
    have HOL7 := Aside0.mk (HOL6.out.gm hd.1 HSB4.out)
    clear hd c60 c61 HO6 HT6 HS6 HC6 HK6 HB6 HOL6 h1_
    obtain ⟨ad_, y_, e_, hcell, HYY⟩ := ReadI.get (i := k) (by obtain ⟨_, _, e, _, h⟩ := HOL7.out.read; cases e; exact h) hkl
    cases e_
    obtain ⟨y, rfl, hy⟩ := HXN.out _ (mem_at hkl HYY.out)
    have HSB7 : Aside0 (w1.heap.size < w7.heap.size) := ⟨HS7.out.lt⟩
    obtain ⟨w8, hw8⟩ : ∃ w8, w8 = w7.alloc (.cells #[] 2) := ⟨_, rfl⟩
    have HB8 : Aside0 (Below w7.heap.size w7 w8) := ⟨by rw [hw8]; exact Below.alloc (Below.refl _ _) (Nat.le_refl _) _⟩
    have HM8 : Aside0 (OwnI w7.heap.size w8 (.slice (some ⟨w7.heap.size, 0, none⟩) 0 0) []) := ⟨by rw [hw8]; exact OwnI.empty w7 (Nat.le_refl _)⟩
    have hxF : ((l.length : Int) == 0) = false := by rw [beq_eq_false_iff_ne]; exact hl0I
    go_wp2
    rw [← hw8]
    clear hw8 hcell HYY
    try simp only [hxF]
    go_loopw [12, 13] (fun s12 s13 wr => ∃ (iv : Nat) (m : List Int), s13 = .int .i64 iv ∧ iv ≤ l.length ∧ Aside0 (m.length ≤ iv) ∧ Aside0 (OwnI w7.heap.size wr s12 m) ∧ Aside0 (Below w7.heap.size w7 wr)) (fun _ s13 _ => l.length - (intOf s13).toNat)
    case atStart => exact ⟨0, [], rfl, Nat.zero_le _, ⟨Nat.le_refl _⟩, HM8, HB8⟩
    case round =>
     obtain ⟨iv, m, rfl, hi, HML, HMr, HBr7⟩ := hrel
     have HOLr := Aside0.mk (HOL7.out.below HBr7.out)
     obtain ⟨Am, cm, rfl, -⟩ := id HMr.out.read
     by_cases hlt : iv < l.length
     ·have hltI : (iv : Int) < (l.length : Int) := by omega
      obtain ⟨ad_, y_, e_, hcell, HYY⟩ := ReadI.get (by obtain ⟨_, _, e, _, h⟩ := HOLr.out.read; cases e; exact h) hlt
      cases e_
      obtain ⟨x, rfl, hx⟩ := HXN.out _ (mem_at hlt HYY.out)
      obtain ⟨L7, hL7⟩ : ∃ L, L = m.length := ⟨_, rfl⟩
      rw [← hL7] at HMr ⊢
      clear hL7
      have hll := HLL.out
      have HO1x := Aside0.mk (onesAny x hx)
      have HO1f := Aside0.mk (onesAny y hy)
      go_wp2_with (first | (go_at_call 213; refine Aside0.out ?_))
      refine Aside0.mk ?_
      with_reducible refine (HO1x.out _).mono ?_
      rintro e wa ⟨ra, rfl, hra, hb⟩
      have HBa := Aside0.mk (HBr7.out.trans (hb.mono HBr7.out.size))
      have HMa := Aside0.mk (HMr.out.below hb)
      replace hcell := pw_cell_below hb hcell
      have hwr : IntKind.i64.wrap ((ra : Int) + 1) = (ra : Int) + 1 := IntWalk.i64_in _ (by omega)
      clear hb HMr
      go_wp2_with (first | (go_at_call 213; refine Aside0.out ?_))
      refine Aside0.mk ?_
      with_reducible refine (HO1f.out _).mono ?_
      rintro e wb ⟨rb, rfl, hrb, hb⟩
      have HBb := Aside0.mk (HBa.out.trans (hb.mono HBa.out.size))
      have HMb := Aside0.mk (HMa.out.below hb)
      replace hcell := pw_cell_below hb hcell
      clear hb HMa HO1x HO1f
      have HL1 : Aside0 (m.length ≤ iv + 1) := ⟨by have := HML.out; omega⟩
      have hHB7 := HBb.out.size
      by_cases hab : ra + 1 = rb
      ·have habI : (((ra : Int) + 1) == (rb : Int)) = true := by rw [beq_iff_eq]; omega
       clear hab
       go_wp2_with (first | (at_builtin; go_must (refine app_own (w0 := wb) w7.heap.size rfl (.tmp 70) (.tmp 75) rfl _ m (x : Int) rfl rfl HMb.out (Below.refl _ _) hHB7 ?hl ?_; (case hl => (have := HL1.out; have := HLL.out; omega)); intro v1 w9 ho hb hg hat; have HM9 := Aside0.mk ho; have HB9 := Aside0.mk (HBb.out.trans hb); clear ho hb hg hat)))
       go_roundw
       case rel => exact ⟨iv + 1, _, by go_num, by omega, ⟨by rw [List.length_append, List.length_singleton]; have := HML.out; omega⟩, HM9, HB9⟩
       case measure => simp [intOf]; omega
      ·have habI : (((ra : Int) + 1) == (rb : Int)) = false := by rw [beq_eq_false_iff_ne]; omega
       clear hab
       go_wp2
       go_roundw
       case rel => exact ⟨iv + 1, m, by go_num, by omega, HL1, HMb, HBb⟩
       case measure => simp [intOf]; omega
     ·have hltI : ¬ (iv : Int) < (l.length : Int) := by omega
      have HSr := Aside0.mk (HS7.out.below HBr7.out)
      have HCr : Aside0 (wr.heap[w.heap.size]? = some C0) := ⟨by rw [HBr7.out.block _ (blk_lt HC7.out)]; exact HC7.out⟩
      have HKr : Aside0 (wr.heap[w3.heap.size]? = some (.cells #[.int .i64 a, .slice Az ys.length cz] 26)) := ⟨by rw [HBr7.out.block _ (blk_lt HK7.out)]; exact HK7.out⟩
      have HOr := Aside0.mk (HO7.out.below HBr7.out)
      have HTr := Aside0.mk (HT7.out.below HBr7.out)
      have HBr := Aside0.mk (HB7.out.trans (HBr7.out.mono HB7.out.size))
      have hcr0 : wr.cell? ⟨w3.heap.size, 0, none⟩ = some (.int .i64 a) := blk_cell HKr.out 0
      have hcr1 : wr.cell? ⟨w3.heap.size, 1, none⟩ = some (.slice Az ys.length cz) := blk_cell HKr.out 1
      clear HO7 HT7 HS7 HC7 HK7 HB7 HOL7 HM8 HB8 HXN
      by_cases hm0 : ((m.length : Int) == 0) = true
      ·go_upto_region 13 with (fail)
       have HKw : Aside0 (wr.heap[w3.heap.size]? = some (.cells #[.int .i64 a, .slice Az ys.length cz] 26)) := ⟨HKr.out⟩
       have HIS : Aside0 (∀ b s, (∀ i, b i = false) → DI w1.heap.size w.heap.size 6 #[.int .i64 a, .slice Az ys.length cz] (PRi []) wr b s wr.drew) := ⟨fun b s hb => DI.start HSr.out HCr.out hb⟩
       have HST : Aside0 (∀ {W W' : World}, W.grownBy W' (some w.heap.size) → ∀ j v, (PRi []) j v W → (PRi []) j v W') := ⟨fun hg j v h => h⟩
       have HSD : Aside0 (∀ {W W' : World}, Dw w1.heap.size W W' → ∀ j v, (PRi []) j v W → (PRi []) j v W') := ⟨fun hg j v h => h⟩
       have HPQ : Aside0 (∀ i, (!(i == 6)) = true → ∀ v W, (PRi []) i v W) := ⟨fun i hq v W => fun h => absurd h (List.not_mem_nil)⟩
       have HPJ : Aside0 (∀ v W, (PRi []) 6 v W) := ⟨fun v W => fun h => absurd h (List.not_mem_nil)⟩
       refine wp_region_s 200 (fun i => !(i == 6)) (fun i => match i with | 0 => fun v => v = .agg #[.int .i64 a, .slice Az ys.length cz] | 1 => fun v => v = .slice At PL ct | 2 => fun v => v = .int .i64 (y : Int) | 3 => fun v => v = .slice (some ad) l.length cl | 4 => fun v => v = .pointer (some (ad.add 0)) | 5 => fun v => v = .int .i64 y0 | 7 => fun v => v = .slice At PL ct | 8 => fun v => v = .int .i64 (y : Int) | 9 => fun v => v = .int .i64 y0 | _ => fun _ => True)
        (DI w1.heap.size w.heap.size 6 #[.int .i64 a, .slice Az ys.length cz] (PRi []) wr) [0, 0, 0, 0, 8, 24, 1, 67, 199, 511] hmx (by kernel_rfl) ?start ?stay ?steps ?rest
       case start =>
        intro b s hb
        exact HIS.out b s hb
       case stay =>
        intro i b s v w1_ hq hI
        exact hI.set (fun h => by subst h; exact absurd hq (by decide)) (HPQ.out i hq v w1_)
       case steps =>
        refine ⟨?_, ?_, ?_, ?_, ?_, ?_, ?_, ?_, ?_, ?_, trivial⟩
        ·intro s b_ w_ hI hbi hd hq R hR hN
         generalize hA : putAll _ 0 s _ = A
         clear hq
         have hk := hI.hold HKw.out (by have := HSZ3.out; have := HLT.out; omega) (by have := HSZ3.out; have := HLT.out; have := HZ1.out; omega)
         have k0 := blk_cell hk 0
         have k1 := blk_cell hk 1
         clear hk
         have hR' := hR rfl (.agg #[.int .i64 a, .slice Az ys.length cz]) rfl
         clear hR hN hd
         refine opGives_value ?_ hR'
         subst hA
         simp only [dsN, List.zipIdx_cons, List.zipIdx_nil, List.map_cons, List.map_nil, Option.getD_some, Option.getD_none, putAll, Act.put, List.setIfInBounds_toArray, List.set_cons_zero, List.set_cons_succ, List.set_nil, Nat.reduceAdd]
         go_simp
        ·intro s b_ w_ hI hbi hd hq R hR hN
         generalize hA : putAll _ 0 s _ = A
         clear hq
         have hR' := hR rfl (.slice At PL ct) rfl
         clear hR hN hd
         refine opGives_value ?_ hR'
         subst hA
         simp only [dsN, List.zipIdx_cons, List.zipIdx_nil, List.map_cons, List.map_nil, Option.getD_some, Option.getD_none, putAll, Act.put, List.setIfInBounds_toArray, List.set_cons_zero, List.set_cons_succ, List.set_nil, Nat.reduceAdd]
         go_simp
        ·intro s b_ w_ hI hbi hd hq R hR hN
         generalize hA : putAll _ 0 s _ = A
         clear hq
         have hR' := hR rfl (.int .i64 (y : Int)) rfl
         clear hR hN hd
         refine opGives_value ?_ hR'
         subst hA
         simp only [dsN, List.zipIdx_cons, List.zipIdx_nil, List.map_cons, List.map_nil, Option.getD_some, Option.getD_none, putAll, Act.put, List.setIfInBounds_toArray, List.set_cons_zero, List.set_cons_succ, List.set_nil, Nat.reduceAdd]
         go_simp
        ·intro s b_ w_ hI hbi hd hq R hR hN
         generalize hA : putAll _ 0 s _ = A
         clear hq
         have hR' := hR rfl (.slice (some ad) l.length cl) rfl
         clear hR hN hd
         refine opGives_value ?_ hR'
         subst hA
         simp only [dsN, List.zipIdx_cons, List.zipIdx_nil, List.map_cons, List.map_nil, Option.getD_some, Option.getD_none, putAll, Act.put, List.setIfInBounds_toArray, List.set_cons_zero, List.set_cons_succ, List.set_nil, Nat.reduceAdd]
         go_simp
        ·intro s b_ w_ hI hbi hd hq R hR hN
         generalize hA : putAll _ 0 s _ = A
         clear hq
         have e3 : s 3 = _ := (hd 3 (by kernel_rfl)).2 rfl
         have hl0 : (0 : Int) < (l.length : Int) := by omega
         have hR' := hR rfl (.pointer (some (ad.add 0))) rfl
         clear hR hN hd
         refine opGives_value ?_ hR'
         subst hA
         simp only [dsN, List.zipIdx_cons, List.zipIdx_nil, List.map_cons, List.map_nil, Option.getD_some, Option.getD_none, putAll, Act.put, List.setIfInBounds_toArray, List.set_cons_zero, List.set_cons_succ, List.set_nil, Nat.reduceAdd]
         go_simp
        ·intro s b_ w_ hI hbi hd hq R hR hN
         generalize hA : putAll _ 0 s _ = A
         clear hq
         have e4 : s 4 = _ := (hd 4 (by kernel_rfl)).2 rfl
         obtain ⟨ad_, y_, e_, hcell, HYY⟩ := ReadI.get (i := 0) (by obtain ⟨_, _, e, _, h⟩ := (hI.own HOLr.out HSB4.out (by have := HZ1.out; omega)).read; cases e; exact h) (by omega)
         cases e_
         obtain rfl : y0 = y_ := HY0.out.symm.trans HYY.out
         have hcell0 : w_.cell? ad = some (.int .i64 y0) := by simpa [Addr.add] using hcell
         have hR' := hR rfl (.int .i64 y0) rfl
         clear hR hN hd
         refine opGives_value ?_ hR'
         subst hA
         simp only [dsN, List.zipIdx_cons, List.zipIdx_nil, List.map_cons, List.map_nil, Option.getD_some, Option.getD_none, putAll, Act.put, List.setIfInBounds_toArray, List.set_cons_zero, List.set_cons_succ, List.set_nil, Nat.reduceAdd]
         go_simp
        ·intro s b_ w_ hI hbi hd hq
         clear hq
         have e0 : s 0 = _ := (hd 0 (by kernel_rfl)).2 rfl
         have hk := hI.c0 hbi
         have c00 : w_.cell? ⟨w.heap.size, 0, none⟩ = some (.int .i64 0) := blk_cell hk 0
         have c01 : w_.cell? ⟨w.heap.size, 1, none⟩ = some (.slice none 0 0) := blk_cell hk 1
         have f00 : w_.frozen? ⟨w.heap.size, 0, none⟩ = false := blk_frozen hk 0
         have f01 : w_.frozen? ⟨w.heap.size, 1, none⟩ = false := blk_frozen hk 1
         clear hk
         refine ⟨(w_.setCell ⟨w.heap.size, 0, none⟩ (.int .i64 a)).setCell ⟨w.heap.size, 1, none⟩ (.slice Az ys.length cz), ?_, ?_⟩
         ·clear hd
          simp only [dsN, List.zipIdx_cons, List.zipIdx_nil, List.map_cons, List.map_nil, Option.getD_some, Option.getD_none, putAll, Act.put, List.setIfInBounds_toArray, List.set_cons_zero, List.set_cons_succ, List.set_nil, Nat.reduceAdd]
          go_simp
         ·exact hI.put hbi (by have := HZ1.out; omega) (HPJ.out _ _) (fun _ hg => HST.out hg)
        ·intro s b_ w_ hI hbi hd hq R hR hN
         generalize hA : putAll _ 0 s _ = A
         clear hq
         have e1 : s 1 = _ := (hd 1 (by kernel_rfl)).2 rfl
         have hR' := hR rfl (.slice At PL ct) rfl
         clear hR hN hd
         refine opGives_value ?_ hR'
         subst hA
         simp only [dsN, List.zipIdx_cons, List.zipIdx_nil, List.map_cons, List.map_nil, Option.getD_some, Option.getD_none, putAll, Act.put, List.setIfInBounds_toArray, List.set_cons_zero, List.set_cons_succ, List.set_nil, Nat.reduceAdd]
         go_simp
        ·intro s b_ w_ hI hbi hd hq R hR hN
         generalize hA : putAll _ 0 s _ = A
         clear hq
         have e2 : s 2 = _ := (hd 2 (by kernel_rfl)).2 rfl
         have hR' := hR rfl (.int .i64 (y : Int)) rfl
         clear hR hN hd
         refine opGives_value ?_ hR'
         subst hA
         simp only [dsN, List.zipIdx_cons, List.zipIdx_nil, List.map_cons, List.map_nil, Option.getD_some, Option.getD_none, putAll, Act.put, List.setIfInBounds_toArray, List.set_cons_zero, List.set_cons_succ, List.set_nil, Nat.reduceAdd]
         go_simp
        ·intro s b_ w_ hI hbi hd hq R hR hN
         generalize hA : putAll _ 0 s _ = A
         clear hq
         have e5 : s 5 = _ := (hd 5 (by kernel_rfl)).2 rfl
         have hR' := hR rfl (.int .i64 y0) rfl
         clear hR hN hd
         refine opGives_value ?_ hR'
         subst hA
         simp only [dsN, List.zipIdx_cons, List.zipIdx_nil, List.map_cons, List.map_nil, Option.getD_some, Option.getD_none, putAll, Act.put, List.setIfInBounds_toArray, List.set_cons_zero, List.set_cons_succ, List.set_nil, Nat.reduceAdd]
         go_simp
       case rest =>
        intro s9 b_ w9 hI hb hv
        have e7_ : s9 7 = _ := hv 7 _ rfl (fun h => by cases h) rfl
        have e8_ : s9 8 = _ := hv 8 _ rfl (fun h => by cases h) rfl
        have e9_ : s9 9 = _ := hv 9 _ rfl (fun h => by cases h) rfl
        simp only [dsN, List.zipIdx_cons, List.zipIdx_nil, List.map_cons, List.map_nil, Option.getD_some, Option.getD_none, putAll, Act.put, List.setIfInBounds_toArray, List.set_cons_zero, List.set_cons_succ, List.set_nil, Nat.reduceAdd]
        rw [e7_, e8_, e9_]
        clear hv e7_ e8_ e9_
        have HB9 := Aside0.mk hI.bel
        have HK9 : Aside0 (w9.heap[w.heap.size]? = some (.cells #[.int .i64 a, .slice Az ys.length cz] 26)) := ⟨by have h := hI.blk; rw [hb 6 (by decide)] at h; exact h⟩
        have HO9 := Aside0.mk (hI.own HOr.out HLT.out (by have := HZ1.out; omega))
        have HT9 := Aside0.mk (hI.ownP HTr.out HLT.out (by have := HZ1.out; omega))
        clear hb hI
        go_wp2
        refine bodyPost_ret (results_cttt rfl _ _ w.heap.size 26 #[.int .i64 a, .slice Az ys.length cz] (0, 0) _ rfl HK9.out Tryz.underlying26 rfl (by kernel_rfl)) rfl ?_
        have hlt := HLT.out
        have hz := HZ1.out
        exact ⟨a, _, _, _, _, ys, ps, rfl, HO9.out.lower (by omega), HT9.out.lower (by omega), HR.out, HTL.out, HB1.out.trans ((HBr.out.mono (by omega)).trans HB9.out)⟩
      ·have hmne : m.length ≠ 0 := fun e => hm0 (by rw [e]; rfl)
       have hm0I : ¬ (m.length : Int) = 0 := by omega
       clear hm0
       obtain ⟨am, ym, rfl, -, -⟩ := ReadI.get (i := 0) (by obtain ⟨_, _, e, _, h⟩ := HMr.out.read; cases e; exact h) (by omega)
       go_upto_region 14 with (fail)
       have HKw : Aside0 (wr.heap[w3.heap.size]? = some (.cells #[.int .i64 a, .slice Az ys.length cz] 26)) := ⟨HKr.out⟩
       have HIS : Aside0 (∀ b s, (∀ i, b i = false) → DI w1.heap.size w.heap.size 10 #[.int .i64 a, .slice Az ys.length cz] (PRx am m.length) wr b s wr.drew) := ⟨fun b s hb => DI.start HSr.out HCr.out hb⟩
       have HST : Aside0 (∀ {W W' : World}, W.grownBy W' (some w.heap.size) → ∀ j v, (PRx am m.length) j v W → (PRx am m.length) j v W') := ⟨fun hg j v h => h⟩
       have HSD : Aside0 (∀ {W W' : World}, Dw w1.heap.size W W' → ∀ j v, (PRx am m.length) j v W → (PRx am m.length) j v W') := ⟨fun hg j v h => h⟩
       have HPQ : Aside0 (∀ i, (!(i == 7) && !(i == 8) && !(i == 9) && !(i == 10) && !(i == 13)) = true → ∀ v W, (PRx am m.length) i v W) := ⟨fun i hq v W => by unfold PRx; split <;> first | trivial | exact absurd hq (by decide)⟩
       have HPJ : Aside0 (∀ v W, (PRx am m.length) 10 v W) := ⟨fun v W => trivial⟩
       refine wp_region_s 200 (fun i => !(i == 7) && !(i == 8) && !(i == 9) && !(i == 10) && !(i == 13)) (fun i => match i with | 0 => fun v => v = .agg #[.int .i64 a, .slice Az ys.length cz] | 1 => fun v => v = .slice At PL ct | 2 => fun v => v = .int .i64 (y : Int) | 3 => fun v => v = .slice (some am) m.length cm | 4 => fun v => v = .pointer (some ⟨w1.heap.size, 0, none⟩) | 5 => fun v => v = .slice (some am) m.length cm | 6 => fun v => v = .int .i64 (m.length : Int) | 11 => fun v => v = .slice At PL ct | 12 => fun v => v = .int .i64 (y : Int) | _ => fun _ => True)
        (DI w1.heap.size w.heap.size 10 #[.int .i64 a, .slice Az ys.length cz] (PRx am m.length) wr) [0, 0, 0, 0, 0, 0, 32, 112, 248, 504, 241, 1267, 3319, 8191] hmx (by kernel_rfl) ?start ?stay ?steps ?rest
       case start =>
        intro b s hb
        exact HIS.out b s hb
       case stay =>
        intro i b s v w1_ hq hI
        exact hI.set (fun h => by subst h; exact absurd hq (by decide)) (HPQ.out i hq v w1_)
       case steps =>
        refine ⟨?_, ?_, ?_, ?_, ?_, ?_, ?_, ?_, ?_, ?_, ?_, ?_, ?_, ?_, trivial⟩
        ·intro s b_ w_ hI hbi hd hq R hR hN
         generalize hA : putAll _ 0 s _ = A
         clear hq
         have hk := hI.hold HKw.out (by have := HSZ3.out; have := HLT.out; omega) (by have := HSZ3.out; have := HLT.out; have := HZ1.out; omega)
         have k0 := blk_cell hk 0
         have k1 := blk_cell hk 1
         clear hk
         have hR' := hR rfl (.agg #[.int .i64 a, .slice Az ys.length cz]) rfl
         clear hR hN hd
         refine opGives_value ?_ hR'
         subst hA
         simp only [dsN, List.zipIdx_cons, List.zipIdx_nil, List.map_cons, List.map_nil, Option.getD_some, Option.getD_none, putAll, Act.put, List.setIfInBounds_toArray, List.set_cons_zero, List.set_cons_succ, List.set_nil, Nat.reduceAdd]
         go_simp
        ·intro s b_ w_ hI hbi hd hq R hR hN
         generalize hA : putAll _ 0 s _ = A
         clear hq
         have hR' := hR rfl (.slice At PL ct) rfl
         clear hR hN hd
         refine opGives_value ?_ hR'
         subst hA
         simp only [dsN, List.zipIdx_cons, List.zipIdx_nil, List.map_cons, List.map_nil, Option.getD_some, Option.getD_none, putAll, Act.put, List.setIfInBounds_toArray, List.set_cons_zero, List.set_cons_succ, List.set_nil, Nat.reduceAdd]
         go_simp
        ·intro s b_ w_ hI hbi hd hq R hR hN
         generalize hA : putAll _ 0 s _ = A
         clear hq
         have hR' := hR rfl (.int .i64 (y : Int)) rfl
         clear hR hN hd
         refine opGives_value ?_ hR'
         subst hA
         simp only [dsN, List.zipIdx_cons, List.zipIdx_nil, List.map_cons, List.map_nil, Option.getD_some, Option.getD_none, putAll, Act.put, List.setIfInBounds_toArray, List.set_cons_zero, List.set_cons_succ, List.set_nil, Nat.reduceAdd]
         go_simp
        ·intro s b_ w_ hI hbi hd hq R hR hN
         generalize hA : putAll _ 0 s _ = A
         clear hq
         have hR' := hR rfl (.slice (some am) m.length cm) rfl
         clear hR hN hd
         refine opGives_value ?_ hR'
         subst hA
         simp only [dsN, List.zipIdx_cons, List.zipIdx_nil, List.map_cons, List.map_nil, Option.getD_some, Option.getD_none, putAll, Act.put, List.setIfInBounds_toArray, List.set_cons_zero, List.set_cons_succ, List.set_nil, Nat.reduceAdd]
         go_simp
        ·intro s b_ w_ hI hbi hd hq R hR hN
         generalize hA : putAll _ 0 s _ = A
         clear hq
         have hR' := hR rfl (.pointer (some ⟨w1.heap.size, 0, none⟩)) rfl
         clear hR hN hd
         refine opGives_value ?_ hR'
         subst hA
         simp only [dsN, List.zipIdx_cons, List.zipIdx_nil, List.map_cons, List.map_nil, Option.getD_some, Option.getD_none, putAll, Act.put, List.setIfInBounds_toArray, List.set_cons_zero, List.set_cons_succ, List.set_nil, Nat.reduceAdd]
         go_simp
        ·intro s b_ w_ hI hbi hd hq R hR hN
         generalize hA : putAll _ 0 s _ = A
         clear hq
         have hR' := hR rfl (.slice (some am) m.length cm) rfl
         clear hR hN hd
         refine opGives_value ?_ hR'
         subst hA
         simp only [dsN, List.zipIdx_cons, List.zipIdx_nil, List.map_cons, List.map_nil, Option.getD_some, Option.getD_none, putAll, Act.put, List.setIfInBounds_toArray, List.set_cons_zero, List.set_cons_succ, List.set_nil, Nat.reduceAdd]
         go_simp
        ·intro s b_ w_ hI hbi hd hq R hR hN
         generalize hA : putAll _ 0 s _ = A
         clear hq
         have e5 : s 5 = _ := (hd 5 (by kernel_rfl)).2 rfl
         have hR' := hR rfl (.int .i64 (m.length : Int)) rfl
         clear hR hN hd
         refine opGives_value ?_ hR'
         subst hA
         simp only [dsN, List.zipIdx_cons, List.zipIdx_nil, List.map_cons, List.map_nil, Option.getD_some, Option.getD_none, putAll, Act.put, List.setIfInBounds_toArray, List.set_cons_zero, List.set_cons_succ, List.set_nil, Nat.reduceAdd]
         go_simp
        ·intro s b_ w_ hI hbi hd hq R hR hN
         generalize hA : putAll _ 0 s _ = A
         clear hq
         have e4 : s 4 = _ := (hd 4 (by kernel_rfl)).2 rfl
         have e6 : s 6 = _ := (hd 6 (by kernel_rfl)).2 rfl
         clear hR
         refine opGives_call (f := 146) (args := #[.pointer (some ⟨w1.heap.size, 0, none⟩), .int .i64 (m.length : Int)]) ?_ ?_
         ·subst hA
          clear hN hd
          simp only [dsN, List.zipIdx_cons, List.zipIdx_nil, List.map_cons, List.map_nil, Option.getD_some, Option.getD_none, putAll, Act.put, List.setIfInBounds_toArray, List.set_cons_zero, List.set_cons_succ, List.set_nil, Nat.reduceAdd]
          go_simp
         clear hA A hd
         refine (next w1.heap.size (m.length : Int) w_ (by have := HML.out; have := HLL.out; omega) hI.src).mono ?_
         rintro e w5_ ⟨r, rfl, -, h1_, hd⟩
         obtain ⟨hra, hrb⟩ := h1_ (by omega)
         exact ⟨_, rfl, hN rfl _ _ ((hI.dw hd (by have := HZ1.out; omega) (HSD.out hd)).set (by decide) ⟨r.toNat, by rw [Int.toNat_of_nonneg hra], by omega⟩)⟩
        ·intro s b_ w_ hI hbi hd hq R hR hN
         generalize hA : putAll _ 0 s _ = A
         clear hq
         have e3 : s 3 = _ := (hd 3 (by kernel_rfl)).2 rfl
         have b7 : b_ 7 = true := (hd 7 (by kernel_rfl)).1
         obtain ⟨r7, e7, hr7⟩ : ∃ r : Nat, s 7 = .int .i64 (r : Int) ∧ r < m.length := hI.val 7 b7
         have hr7I : (r7 : Int) < (m.length : Int) := by omega
         clear hR
         have hN' := hN rfl (.pointer (some (am.add r7))) _ (hI.set (by decide) (⟨r7, rfl, hr7⟩))
         clear hN hd
         refine opGives_value ?_ hN'
         subst hA
         simp only [dsN, List.zipIdx_cons, List.zipIdx_nil, List.map_cons, List.map_nil, Option.getD_some, Option.getD_none, putAll, Act.put, List.setIfInBounds_toArray, List.set_cons_zero, List.set_cons_succ, List.set_nil, Nat.reduceAdd]
         go_simp
        ·intro s b_ w_ hI hbi hd hq R hR hN
         generalize hA : putAll _ 0 s _ = A
         clear hq
         have b8 : b_ 8 = true := (hd 8 (by kernel_rfl)).1
         obtain ⟨r8, e8, hr8⟩ : ∃ r : Nat, s 8 = .pointer (some (am.add r)) ∧ r < m.length := hI.val 8 b8
         obtain ⟨ad_, y8, e_, hcell, HYY⟩ := ReadI.get (i := r8) (by obtain ⟨_, _, e, _, h⟩ := (hI.own HMr.out HSB7.out (by have := HZ1.out; omega)).read; cases e; exact h) hr8
         cases e_
         clear hR
         have hN' := hN rfl (.int .i64 y8) _ (hI.set (by decide) (⟨y8, rfl⟩))
         clear hN hd
         refine opGives_value ?_ hN'
         subst hA
         simp only [dsN, List.zipIdx_cons, List.zipIdx_nil, List.map_cons, List.map_nil, Option.getD_some, Option.getD_none, putAll, Act.put, List.setIfInBounds_toArray, List.set_cons_zero, List.set_cons_succ, List.set_nil, Nat.reduceAdd]
         go_simp
        ·intro s b_ w_ hI hbi hd hq
         clear hq
         have e0 : s 0 = _ := (hd 0 (by kernel_rfl)).2 rfl
         have hk := hI.c0 hbi
         have c00 : w_.cell? ⟨w.heap.size, 0, none⟩ = some (.int .i64 0) := blk_cell hk 0
         have c01 : w_.cell? ⟨w.heap.size, 1, none⟩ = some (.slice none 0 0) := blk_cell hk 1
         have f00 : w_.frozen? ⟨w.heap.size, 0, none⟩ = false := blk_frozen hk 0
         have f01 : w_.frozen? ⟨w.heap.size, 1, none⟩ = false := blk_frozen hk 1
         clear hk
         refine ⟨(w_.setCell ⟨w.heap.size, 0, none⟩ (.int .i64 a)).setCell ⟨w.heap.size, 1, none⟩ (.slice Az ys.length cz), ?_, ?_⟩
         ·clear hd
          simp only [dsN, List.zipIdx_cons, List.zipIdx_nil, List.map_cons, List.map_nil, Option.getD_some, Option.getD_none, putAll, Act.put, List.setIfInBounds_toArray, List.set_cons_zero, List.set_cons_succ, List.set_nil, Nat.reduceAdd]
          go_simp
         ·exact hI.put hbi (by have := HZ1.out; omega) (HPJ.out _ _) (fun _ hg => HST.out hg)
        ·intro s b_ w_ hI hbi hd hq R hR hN
         generalize hA : putAll _ 0 s _ = A
         clear hq
         have e1 : s 1 = _ := (hd 1 (by kernel_rfl)).2 rfl
         have hR' := hR rfl (.slice At PL ct) rfl
         clear hR hN hd
         refine opGives_value ?_ hR'
         subst hA
         simp only [dsN, List.zipIdx_cons, List.zipIdx_nil, List.map_cons, List.map_nil, Option.getD_some, Option.getD_none, putAll, Act.put, List.setIfInBounds_toArray, List.set_cons_zero, List.set_cons_succ, List.set_nil, Nat.reduceAdd]
         go_simp
        ·intro s b_ w_ hI hbi hd hq R hR hN
         generalize hA : putAll _ 0 s _ = A
         clear hq
         have e2 : s 2 = _ := (hd 2 (by kernel_rfl)).2 rfl
         have hR' := hR rfl (.int .i64 (y : Int)) rfl
         clear hR hN hd
         refine opGives_value ?_ hR'
         subst hA
         simp only [dsN, List.zipIdx_cons, List.zipIdx_nil, List.map_cons, List.map_nil, Option.getD_some, Option.getD_none, putAll, Act.put, List.setIfInBounds_toArray, List.set_cons_zero, List.set_cons_succ, List.set_nil, Nat.reduceAdd]
         go_simp
        ·intro s b_ w_ hI hbi hd hq R hR hN
         generalize hA : putAll _ 0 s _ = A
         clear hq
         have b9 : b_ 9 = true := (hd 9 (by kernel_rfl)).1
         clear hR
         have hN' := hN rfl (s 9) _ (hI.set (by decide) (hI.val 9 b9))
         clear hN hd
         refine opGives_value ?_ hN'
         subst hA
         simp only [dsN, List.zipIdx_cons, List.zipIdx_nil, List.map_cons, List.map_nil, Option.getD_some, Option.getD_none, putAll, Act.put, List.setIfInBounds_toArray, List.set_cons_zero, List.set_cons_succ, List.set_nil, Nat.reduceAdd]
         go_simp
       case rest =>
        intro s9 b_ w9 hI hb hv
        have e11_ : s9 11 = _ := hv 11 _ rfl (fun h => by cases h) rfl
        have e12_ : s9 12 = _ := hv 12 _ rfl (fun h => by cases h) rfl
        simp only [dsN, List.zipIdx_cons, List.zipIdx_nil, List.map_cons, List.map_nil, Option.getD_some, Option.getD_none, putAll, Act.put, List.setIfInBounds_toArray, List.set_cons_zero, List.set_cons_succ, List.set_nil, Nat.reduceAdd]
        rw [e11_, e12_]
        clear hv e11_ e12_
        have HB9 := Aside0.mk hI.bel
        have HK9 : Aside0 (w9.heap[w.heap.size]? = some (.cells #[.int .i64 a, .slice Az ys.length cz] 26)) := ⟨by have h := hI.blk; rw [hb 10 (by decide)] at h; exact h⟩
        have HO9 := Aside0.mk (hI.own HOr.out HLT.out (by have := HZ1.out; omega))
        have HT9 := Aside0.mk (hI.ownP HTr.out HLT.out (by have := HZ1.out; omega))
        obtain ⟨y9, ey9⟩ : ∃ r : Int, s9 13 = .int .i64 r := hI.val 13 (hb 13 (by decide))
        rw [ey9]
        clear hb hI
        go_wp2
        refine bodyPost_ret (results_cttt rfl _ _ w.heap.size 26 #[.int .i64 a, .slice Az ys.length cz] (0, 0) _ rfl HK9.out Tryz.underlying26 rfl (by kernel_rfl)) rfl ?_
        have hlt := HLT.out
        have hz := HZ1.out
        exact ⟨a, _, y9, _, _, ys, ps, rfl, HO9.out.lower (by omega), HT9.out.lower (by omega), HR.out, HTL.out, HB1.out.trans ((HBr.out.mono (by omega)).trans HB9.out)⟩
 ·have hc0b : (c == 0) = false := by rw [beq_eq_false_iff_ne]; exact hc0
  clear HXN
  go_upto_region 5 with (fail)
  have HKw : Aside0 (w5.heap[w3.heap.size]? = some (.cells #[.int .i64 a, .slice Az ys.length cz] 26)) := ⟨HK5.out⟩
  have HIS : Aside0 (∀ b s, (∀ i, b i = false) → DI w1.heap.size w.heap.size 8 #[.int .i64 a, .slice Az ys.length cz] (PRi [4, 7, 10, 11]) w5 b s w5.drew) := ⟨fun b s hb => DI.start HS5.out HC5.out hb⟩
  have HST : Aside0 (∀ {W W' : World}, W.grownBy W' (some w.heap.size) → ∀ j v, (PRi [4, 7, 10, 11]) j v W → (PRi [4, 7, 10, 11]) j v W') := ⟨fun hg j v h => h⟩
  have HSD : Aside0 (∀ {W W' : World}, Dw w1.heap.size W W' → ∀ j v, (PRi [4, 7, 10, 11]) j v W → (PRi [4, 7, 10, 11]) j v W') := ⟨fun hg j v h => h⟩
  have HPQ : Aside0 (∀ i, (!(i == 4) && !(i == 7) && !(i == 8) && !(i == 10) && !(i == 11)) = true → ∀ v W, (PRi [4, 7, 10, 11]) i v W) := ⟨fun i hq v W => fun hj => by simp only [List.mem_cons, List.not_mem_nil, or_false] at hj; rcases hj with rfl | rfl | rfl | rfl <;> exact absurd hq (by decide)⟩
  have HPJ : Aside0 (∀ v W, (PRi [4, 7, 10, 11]) 8 v W) := ⟨fun v W => fun h => absurd h (by decide)⟩
  have HSW : Aside0 (w2.heap.size ≤ w5.heap.size) := ⟨by have := blk_lt HK5.out; have := HSZ3.out; omega⟩
  refine wp_region_s 200 (fun i => !(i == 4) && !(i == 7) && !(i == 8) && !(i == 10) && !(i == 11)) (fun i => match i with | 0 => fun v => v = .agg #[.int .i64 a, .slice Az ys.length cz] | 1 => fun v => v = .slice At PL ct | 2 => fun v => v = .pointer (some ⟨w1.heap.size, 0, none⟩) | 3 => fun v => v = .agg #[.int .i64 a, .slice Az ys.length cz] | 5 => fun v => v = .pointer (some ⟨w1.heap.size, 0, none⟩) | 6 => fun v => v = .agg #[.int .i64 a, .slice Az ys.length cz] | 9 => fun v => v = .slice At PL ct | _ => fun _ => True)
   (DI w1.heap.size w.heap.size 8 #[.int .i64 a, .slice Az ys.length cz] (PRi [4, 7, 10, 11]) w5) [0, 0, 0, 0, 12, 0, 0, 124, 253, 511, 1023, 2047] hmx (by kernel_rfl) ?start ?stay ?steps ?rest
  case start =>
   intro b s hb
   exact HIS.out b s hb
  case stay =>
   intro i b s v w1_ hq hI
   exact hI.set (fun h => by subst h; exact absurd hq (by decide)) (HPQ.out i hq v w1_)
  case steps =>
   refine ⟨?_, ?_, ?_, ?_, ?_, ?_, ?_, ?_, ?_, ?_, ?_, ?_, trivial⟩
   ·intro s b_ w_ hI hbi hd hq R hR hN
    generalize hA : putAll _ 0 s _ = A
    clear hq
    have hk := hI.hold HKw.out (by have := HSZ3.out; have := HLT.out; omega) (by have := HSZ3.out; have := HLT.out; have := HZ1.out; omega)
    have k0 := blk_cell hk 0
    have k1 := blk_cell hk 1
    clear hk
    have hR' := hR rfl (.agg #[.int .i64 a, .slice Az ys.length cz]) rfl
    clear hR hN hd
    refine opGives_value ?_ hR'
    subst hA
    simp only [dsN, List.zipIdx_cons, List.zipIdx_nil, List.map_cons, List.map_nil, Option.getD_some, Option.getD_none, putAll, Act.put, List.setIfInBounds_toArray, List.set_cons_zero, List.set_cons_succ, List.set_nil, Nat.reduceAdd]
    go_simp
   ·intro s b_ w_ hI hbi hd hq R hR hN
    generalize hA : putAll _ 0 s _ = A
    clear hq
    have hR' := hR rfl (.slice At PL ct) rfl
    clear hR hN hd
    refine opGives_value ?_ hR'
    subst hA
    simp only [dsN, List.zipIdx_cons, List.zipIdx_nil, List.map_cons, List.map_nil, Option.getD_some, Option.getD_none, putAll, Act.put, List.setIfInBounds_toArray, List.set_cons_zero, List.set_cons_succ, List.set_nil, Nat.reduceAdd]
    go_simp
   ·intro s b_ w_ hI hbi hd hq R hR hN
    generalize hA : putAll _ 0 s _ = A
    clear hq
    have hR' := hR rfl (.pointer (some ⟨w1.heap.size, 0, none⟩)) rfl
    clear hR hN hd
    refine opGives_value ?_ hR'
    subst hA
    simp only [dsN, List.zipIdx_cons, List.zipIdx_nil, List.map_cons, List.map_nil, Option.getD_some, Option.getD_none, putAll, Act.put, List.setIfInBounds_toArray, List.set_cons_zero, List.set_cons_succ, List.set_nil, Nat.reduceAdd]
    go_simp
   ·intro s b_ w_ hI hbi hd hq R hR hN
    generalize hA : putAll _ 0 s _ = A
    clear hq
    have hk := hI.hold HKw.out (by have := HSZ3.out; have := HLT.out; omega) (by have := HSZ3.out; have := HLT.out; have := HZ1.out; omega)
    have k0 := blk_cell hk 0
    have k1 := blk_cell hk 1
    clear hk
    have hR' := hR rfl (.agg #[.int .i64 a, .slice Az ys.length cz]) rfl
    clear hR hN hd
    refine opGives_value ?_ hR'
    subst hA
    simp only [dsN, List.zipIdx_cons, List.zipIdx_nil, List.map_cons, List.map_nil, Option.getD_some, Option.getD_none, putAll, Act.put, List.setIfInBounds_toArray, List.set_cons_zero, List.set_cons_succ, List.set_nil, Nat.reduceAdd]
    go_simp
   ·intro s b_ w_ hI hbi hd hq R hR hN
    generalize hA : putAll _ 0 s _ = A
    clear hq
    have e2 : s 2 = _ := (hd 2 (by kernel_rfl)).2 rfl
    have e3 : s 3 = _ := (hd 3 (by kernel_rfl)).2 rfl
    clear hR
    refine opGives_call (f := 231) (args := #[.pointer (some ⟨w1.heap.size, 0, none⟩), .agg #[.int .i64 a, .slice Az ys.length cz]]) ?_ ?_
    ·subst hA
     clear hN hd
     simp only [dsN, List.zipIdx_cons, List.zipIdx_nil, List.map_cons, List.map_nil, Option.getD_some, Option.getD_none, putAll, Act.put, List.setIfInBounds_toArray, List.set_cons_zero, List.set_cons_succ, List.set_nil, Nat.reduceAdd]
     go_simp
    clear hA A hd
    have hz9 := Nat.le_trans HSW.out hI.size
    refine (drawFace w1.heap.size w2.heap.size a _ ys w_ hI.src (hI.own HO5.out HLT.out (by have := HZ1.out; omega)) HLT.out hz9 HYL.out).mono ?_
    rintro e w5_ ⟨r_, rfl, hd⟩
    exact ⟨_, rfl, hN rfl _ _ ((hI.dw hd (by have := HZ1.out; omega) (HSD.out hd)).set (by decide) (fun _ => ⟨r_, rfl⟩))⟩
   ·intro s b_ w_ hI hbi hd hq R hR hN
    generalize hA : putAll _ 0 s _ = A
    clear hq
    have hR' := hR rfl (.pointer (some ⟨w1.heap.size, 0, none⟩)) rfl
    clear hR hN hd
    refine opGives_value ?_ hR'
    subst hA
    simp only [dsN, List.zipIdx_cons, List.zipIdx_nil, List.map_cons, List.map_nil, Option.getD_some, Option.getD_none, putAll, Act.put, List.setIfInBounds_toArray, List.set_cons_zero, List.set_cons_succ, List.set_nil, Nat.reduceAdd]
    go_simp
   ·intro s b_ w_ hI hbi hd hq R hR hN
    generalize hA : putAll _ 0 s _ = A
    clear hq
    have hk := hI.hold HKw.out (by have := HSZ3.out; have := HLT.out; omega) (by have := HSZ3.out; have := HLT.out; have := HZ1.out; omega)
    have k0 := blk_cell hk 0
    have k1 := blk_cell hk 1
    clear hk
    have hR' := hR rfl (.agg #[.int .i64 a, .slice Az ys.length cz]) rfl
    clear hR hN hd
    refine opGives_value ?_ hR'
    subst hA
    simp only [dsN, List.zipIdx_cons, List.zipIdx_nil, List.map_cons, List.map_nil, Option.getD_some, Option.getD_none, putAll, Act.put, List.setIfInBounds_toArray, List.set_cons_zero, List.set_cons_succ, List.set_nil, Nat.reduceAdd]
    go_simp
   ·intro s b_ w_ hI hbi hd hq R hR hN
    generalize hA : putAll _ 0 s _ = A
    clear hq
    have e5 : s 5 = _ := (hd 5 (by kernel_rfl)).2 rfl
    have e6 : s 6 = _ := (hd 6 (by kernel_rfl)).2 rfl
    clear hR
    refine opGives_call (f := 231) (args := #[.pointer (some ⟨w1.heap.size, 0, none⟩), .agg #[.int .i64 a, .slice Az ys.length cz]]) ?_ ?_
    ·subst hA
     clear hN hd
     simp only [dsN, List.zipIdx_cons, List.zipIdx_nil, List.map_cons, List.map_nil, Option.getD_some, Option.getD_none, putAll, Act.put, List.setIfInBounds_toArray, List.set_cons_zero, List.set_cons_succ, List.set_nil, Nat.reduceAdd]
     go_simp
    clear hA A hd
    have hz9 := Nat.le_trans HSW.out hI.size
    refine (drawFace w1.heap.size w2.heap.size a _ ys w_ hI.src (hI.own HO5.out HLT.out (by have := HZ1.out; omega)) HLT.out hz9 HYL.out).mono ?_
    rintro e w5_ ⟨r_, rfl, hd⟩
    exact ⟨_, rfl, hN rfl _ _ ((hI.dw hd (by have := HZ1.out; omega) (HSD.out hd)).set (by decide) (fun _ => ⟨r_, rfl⟩))⟩
   ·intro s b_ w_ hI hbi hd hq
    clear hq
    have e0 : s 0 = _ := (hd 0 (by kernel_rfl)).2 rfl
    have hk := hI.c0 hbi
    have c00 : w_.cell? ⟨w.heap.size, 0, none⟩ = some (.int .i64 0) := blk_cell hk 0
    have c01 : w_.cell? ⟨w.heap.size, 1, none⟩ = some (.slice none 0 0) := blk_cell hk 1
    have f00 : w_.frozen? ⟨w.heap.size, 0, none⟩ = false := blk_frozen hk 0
    have f01 : w_.frozen? ⟨w.heap.size, 1, none⟩ = false := blk_frozen hk 1
    clear hk
    refine ⟨(w_.setCell ⟨w.heap.size, 0, none⟩ (.int .i64 a)).setCell ⟨w.heap.size, 1, none⟩ (.slice Az ys.length cz), ?_, ?_⟩
    ·clear hd
     simp only [dsN, List.zipIdx_cons, List.zipIdx_nil, List.map_cons, List.map_nil, Option.getD_some, Option.getD_none, putAll, Act.put, List.setIfInBounds_toArray, List.set_cons_zero, List.set_cons_succ, List.set_nil, Nat.reduceAdd]
     go_simp
    ·exact hI.put hbi (by have := HZ1.out; omega) (HPJ.out _ _) (fun _ hg => HST.out hg)
   ·intro s b_ w_ hI hbi hd hq R hR hN
    generalize hA : putAll _ 0 s _ = A
    clear hq
    have e1 : s 1 = _ := (hd 1 (by kernel_rfl)).2 rfl
    have hR' := hR rfl (.slice At PL ct) rfl
    clear hR hN hd
    refine opGives_value ?_ hR'
    subst hA
    simp only [dsN, List.zipIdx_cons, List.zipIdx_nil, List.map_cons, List.map_nil, Option.getD_some, Option.getD_none, putAll, Act.put, List.setIfInBounds_toArray, List.set_cons_zero, List.set_cons_succ, List.set_nil, Nat.reduceAdd]
    go_simp
   ·intro s b_ w_ hI hbi hd hq R hR hN
    generalize hA : putAll _ 0 s _ = A
    clear hq
    have b4 : b_ 4 = true := (hd 4 (by kernel_rfl)).1
    clear hR
    have hN' := hN rfl (s 4) _ (hI.set (by decide) (fun _ => hI.val 4 b4 (by decide)))
    clear hN hd
    refine opGives_value ?_ hN'
    subst hA
    simp only [dsN, List.zipIdx_cons, List.zipIdx_nil, List.map_cons, List.map_nil, Option.getD_some, Option.getD_none, putAll, Act.put, List.setIfInBounds_toArray, List.set_cons_zero, List.set_cons_succ, List.set_nil, Nat.reduceAdd]
    go_simp
   ·intro s b_ w_ hI hbi hd hq R hR hN
    generalize hA : putAll _ 0 s _ = A
    clear hq
    have b7 : b_ 7 = true := (hd 7 (by kernel_rfl)).1
    clear hR
    have hN' := hN rfl (s 7) _ (hI.set (by decide) (fun _ => hI.val 7 b7 (by decide)))
    clear hN hd
    refine opGives_value ?_ hN'
    subst hA
    simp only [dsN, List.zipIdx_cons, List.zipIdx_nil, List.map_cons, List.map_nil, Option.getD_some, Option.getD_none, putAll, Act.put, List.setIfInBounds_toArray, List.set_cons_zero, List.set_cons_succ, List.set_nil, Nat.reduceAdd]
    go_simp
  case rest =>
   intro s9 b_ w9 hI hb hv
   have e9_ : s9 9 = _ := hv 9 _ rfl (fun h => by cases h) rfl
   simp only [dsN, List.zipIdx_cons, List.zipIdx_nil, List.map_cons, List.map_nil, Option.getD_some, Option.getD_none, putAll, Act.put, List.setIfInBounds_toArray, List.set_cons_zero, List.set_cons_succ, List.set_nil, Nat.reduceAdd]
   rw [e9_]
   clear hv e9_
   have HB9 := Aside0.mk hI.bel
   have HK9 : Aside0 (w9.heap[w.heap.size]? = some (.cells #[.int .i64 a, .slice Az ys.length cz] 26)) := ⟨by have h := hI.blk; rw [hb 8 (by decide)] at h; exact h⟩
   have HO9 := Aside0.mk (hI.own HO5.out HLT.out (by have := HZ1.out; omega))
   have HT9 := Aside0.mk (hI.ownP HT5.out HLT.out (by have := HZ1.out; omega))
   obtain ⟨x9, ex9⟩ : ∃ r : Int, s9 10 = .int .i64 r := hI.val 10 (hb 10 (by decide)) (by decide)
   obtain ⟨y9, ey9⟩ : ∃ r : Int, s9 11 = .int .i64 r := hI.val 11 (hb 11 (by decide)) (by decide)
   rw [ex9, ey9]
   clear hb hI
   go_wp2
   refine bodyPost_ret (results_cttt rfl _ _ w.heap.size 26 #[.int .i64 a, .slice Az ys.length cz] (0, 0) _ rfl HK9.out Tryz.underlying26 rfl (by kernel_rfl)) rfl ?_
   have hlt := HLT.out
   have hz := HZ1.out
   exact ⟨a, x9, y9, _, _, ys, ps, rfl, HO9.out.lower (by omega), HT9.out.lower (by omega), HR.out, HTL.out, HB1.out.trans ((HB5.out.mono (by omega)).trans HB9.out)⟩
end Go.Proofs.YtomofijniefelaaGreat.H
