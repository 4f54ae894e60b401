/- Maps drawn: l09DrawMap. A region of open order: heads as in wp_region_u, then stores that may come early, the last operations one behind the other. l09With: what is known between its statements. DrawQuestionsFor: what its region keeps. l09With: what its last region keeps. A region that hands out complexes: stores into result blocks, whose order against the loads is open. -/
import Derived.Test.YtomofijniefelaaGreatKFnMaps1
import Derived.Test.YtomofijniefelaaGreatKFnMaps2
import Derived.Test.YtomofijniefelaaGreatKFnMaps3
import Derived.Test.YtomofijniefelaaGreatKFnMaps4
import Derived.Test.YtomofijniefelaaGreatKFnMaps5
import Derived.Test.YtomofijniefelaaGreatKFnMaps6
import Derived.Test.YtomofijniefelaaGreatKFnMaps7
import Derived.Test.YtomofijniefelaaGreatKFnMaps8
import Derived.Test.YtomofijniefelaaGreatKFnMaps9
import Derived.Test.YtomofijniefelaaGreatKFnMaps10
import Derived.Test.YtomofijniefelaaGreatKFnMaps11
import Derived.Test.YtomofijniefelaaGreatKFnMaps12
import Derived.Test.YtomofijniefelaaGreatKFnMaps13

namespace Go.Proofs.YtomofijniefelaaGreat.H
open Go.RowKit Go.Proofs.YtomofijniefelaaGreatW.PrintWords Go.Proofs.YtomofijniefelaaGreatW.PrintLast
set_option linter.unusedVariables false
set_option linter.unusedSimpArgs false
theorem blk_dw {bs k : Nat} {w w' : World} {o : Obj} (hd : Dw bs w w') (hne : k ≠ bs) (h : w.heap[k]? = some o) : w'.heap[k]? = some o := by
 rw [hd.1.block k (blk_lt h) (fun e => hne (Option.some.inj e))]; exact h
theorem blk_up {k B : Nat} {w w' : World} {o : Obj} (hb : Below B w w') (hk : k < B) (h : w.heap[k]? = some o) : w'.heap[k]? = some o := by
 rw [hb.block k hk]; exact h
set_option maxRecDepth 100000 in
set_option maxHeartbeats 4000000 in
theorem drawMap (bs a b : Nat) (ha : a ≤ 6) (hb1 : 1 ≤ b) (hb6 : b ≤ 6) (A1 A2 : Option Addr) (n1 d1 n2 d2 : Nat) (w : World) (hs : Src bs w) :
  Calls Tryz.prog 149 #[.pointer (some ⟨bs, 0, none⟩), cx a (.slice A1 n1 d1), cx b (.slice A2 n2 d2)] w fun e w' => ∃ (v : Value) (p : List Int), e = .returned v ∧ OwnI w.heap.size w' v p ∧ p.length ≤ 7 ∧ (∀ x ∈ p, -1 ≤ x ∧ x ≤ 6) ∧ Dw bs w w' := by
 have HBS := Aside0.mk hs.lt
 obtain ⟨w1, hw1⟩ : ∃ w1, w1 = ((w.alloc (.cells #[.int .i64 a, .slice A1 n1 d1] 26)).alloc (.cells #[.int .i64 b, .slice A2 n2 d2] 26)).alloc (.cells #[] 2) := ⟨_, rfl⟩
 have hsz : w1.heap.size = w.heap.size + 3 := by rw [hw1]; simp
 have hB : Below w.heap.size w w1 := by rw [hw1]; exact (((Below.refl _ w).alloc (Nat.le_refl _) _).alloc (by simp) _).alloc (by simp; omega) _
 have hk0 : w1.heap[w.heap.size]? = some (.cells #[.int .i64 a, .slice A1 n1 d1] 26) := by
  rw [hw1]; exact blk_below (blk_below (heap_alloc_new w _) (Below.alloc (Below.refl _ _) (Nat.le_refl _) _)) (Below.alloc (Below.refl _ _) (Nat.le_refl _) _)
 have hk1 : w1.heap[w.heap.size + 1]? = some (.cells #[.int .i64 b, .slice A2 n2 d2] 26) := by
  rw [hw1]; have h := heap_alloc_new (w.alloc (.cells #[.int .i64 a, .slice A1 n1 d1] 26)) (.cells #[.int .i64 b, .slice A2 n2 d2] 26)
  rw [World.size_alloc] at h
  exact blk_below h (Below.alloc (Below.refl _ _) (Nat.le_refl _) _)
 have ho1 : OwnI (w.heap.size + 2) w1 (.slice (some ⟨w.heap.size + 2, 0, none⟩) 0 0) [] := by
  have h := lit_own ((w.alloc (.cells #[.int .i64 a, .slice A1 n1 d1] 26)).alloc (.cells #[.int .i64 b, .slice A2 n2 d2] 26)) (w.heap.size + 2) [] (by simp) (by decide)
  rw [World.size_alloc, World.size_alloc] at h
  rw [hw1]; exact h
 have HO1 := Aside0.mk ho1
 have HK0 := Aside0.mk hk0
 have HK1 := Aside0.mk hk1
 have HD1 := Aside0.mk (Dw.of_below hs hB)
 have HZ1 : Aside0 (w.heap.size + 2 ≤ w1.heap.size) := ⟨by omega⟩
 have hmx : Tryz.prog.follows .mixedOrders = true := by kernel_rfl
 clear hs hB hk0 hk1 ho1 hsz
 go_enter Tryz.func149, Tryz.ntmps149
 go_wp2
 rw [← hw1]
 clear hw1
 go_loopw [7, 8] (fun s7 s8 wr => ∃ (i g c : Nat) (L : List Int), s8 = .int .i64 i ∧ s7 = .slice (some ⟨g, 0, none⟩) i c ∧ i ≤ a ∧ L.length = i ∧ (∀ x ∈ L, -1 ≤ x ∧ x ≤ 6) ∧ Aside0 (OwnI (w.heap.size + 2) wr (.slice (some ⟨g, 0, none⟩) i c) L) ∧ Aside0 (Dw bs w wr) ∧ Aside0 (w.heap.size + 2 ≤ wr.heap.size) ∧ Aside0 (wr.heap[w.heap.size]? = some (.cells #[.int .i64 a, .slice A1 n1 d1] 26)) ∧ Aside0 (wr.heap[w.heap.size + 1]? = some (.cells #[.int .i64 b, .slice A2 n2 d2] 26))) (fun _ s8 _ => a - (intOf s8).toNat)
 case atStart => exact ⟨0, _, 0, [], rfl, rfl, Nat.zero_le _, rfl, (fun x hx => by cases hx), HO1, HD1, HZ1, HK0, HK1⟩
 case round =>
  obtain ⟨i, g, c, L, rfl, rfl, hi, hL, hbd, HOr, HDr, HZr, HK0r, HK1r⟩ := hrel
  have c0 : wr.cell? ⟨w.heap.size, 0, none⟩ = some (.int .i64 a) := blk_cell HK0r.out 0
  have c2 : wr.cell? ⟨w.heap.size + 1, 0, none⟩ = some (.int .i64 b) := blk_cell HK1r.out 0
  have HBD := Aside0.mk hbd
  clear hbd
  by_cases hlt : i < a
  ·have hltI : (i : Int) < (a : Int) := by omega
   go_wp2_with (first | (go_at_call 146; refine Aside0.out ?_))
   refine Aside0.mk ?_
   have HSs := Aside0.mk HDr.out.2
   with_reducible refine (next bs (b : Int) wr (by omega) HSs.out).mono ?_
   rintro e w5 ⟨r, rfl, -, hr, hd⟩
   replace hr := hr (by omega)
   have HD5 := Aside0.mk (HDr.out.trans hd)
   have HO5 := Aside0.mk (HOr.out.gm hd.1 (by have := HBS.out; omega))
   have HK0' := Aside0.mk (blk_dw hd (by have := HBS.out; omega) HK0r.out)
   have HK1' := Aside0.mk (blk_dw hd (by have := HBS.out; omega) HK1r.out)
   have HZ5 : Aside0 (w.heap.size + 2 ≤ w5.heap.size) := ⟨Nat.le_trans HZr.out hd.size⟩
   clear hd HSs c0 c2
   go_wp2_with (first | ((with_reducible refine gate_dst (N := 22) rfl ?_); refine Aside0.out ?_))
   refine Aside0.mk ?_
   refine app_own (w0 := w5) (w.heap.size + 2) rfl _ _ rfl (.slice (some ⟨g, 0, none⟩) i c) L r rfl rfl HO5.out (Below.refl _ _) HZ5.out (by omega) ?_
   intro v1 w6 ho6 hb6' hg6 hh6
   obtain ⟨g1, c1, rfl, -⟩ := Kd.R_form ho6 (by simp)
   have hM : (L ++ [r]).length = i + 1 := by simp; omega
   rw [hM] at ho6 ⊢
   have HO6 := Aside0.mk ho6
   have HD6 := Aside0.mk (HD5.out.top hb6' (by omega) (by have := HBS.out; omega))
   have HK06 := Aside0.mk (blk_up hb6' (by omega) HK0'.out)
   have HK16 := Aside0.mk (blk_up hb6' (by omega) HK1'.out)
   have HZ6 : Aside0 (w.heap.size + 2 ≤ w6.heap.size) := ⟨Nat.le_trans HZ5.out hg6.size⟩
   have HBD6 : Aside0 (∀ x ∈ L ++ [r], -1 ≤ x ∧ x ≤ 6) := ⟨fun x hx => by
    rcases List.mem_append.1 hx with h | h
    ·exact HBD.out x h
    ·rw [List.mem_singleton] at h; subst h; omega⟩
   clear ho6 hb6' hg6 hh6
   go_wp2
   go_roundw
   case rel => exact ⟨i + 1, g1, c1, _, by go_num, rfl, by omega, hM, HBD6.out, HO6, HD6, HZ6, HK06, HK16⟩
   case measure => simp [intOf]; omega
  ·have hltI : ¬ (i : Int) < (a : Int) := by omega
   obtain rfl : i = a := by omega
   go_wp2_with (first | (go_at_call 146; refine Aside0.out ?_))
   refine Aside0.mk ?_
   have HSs := Aside0.mk HDr.out.2
   with_reducible refine (next bs 24 wr (by omega) HSs.out).mono ?_
   rintro e w5 ⟨q, rfl, -, -, hd⟩
   have HD5 := Aside0.mk (HDr.out.trans hd)
   have HO5 := Aside0.mk (HOr.out.gm hd.1 (by have := HBS.out; omega))
   have HK1' := Aside0.mk (blk_dw hd (by have := HBS.out; omega) HK1r.out)
   have HZ5 : Aside0 (w.heap.size + 2 ≤ w5.heap.size) := ⟨Nat.le_trans HZr.out hd.size⟩
   clear hd HSs c0 c2
   by_cases hq : q = 0
   ·have hq1 : (q == 0) = true := by rw [beq_iff_eq]; exact hq
    have hq2 : (q == 1) = false := by rw [beq_eq_false_iff_ne]; omega
    clear hq
    go_wp2_with (first | ((with_reducible refine gate_dst (N := 29) rfl ?_); refine Aside0.out ?_))
    refine Aside0.mk ?_
    refine app_own (w0 := w5) (w.heap.size + 2) rfl _ _ rfl (.slice (some ⟨g, 0, none⟩) i c) L 0 rfl rfl HO5.out (Below.refl _ _) HZ5.out (by omega) ?_
    intro v1 w6 ho6 hb6' hg6 hh6
    obtain ⟨g1, c1, rfl, -⟩ := Kd.R_form ho6 (by simp)
    have hM : (L ++ [(0 : Int)]).length = i + 1 := by simp; omega
    rw [hM] at ho6 ⊢
    have HO6 := Aside0.mk ho6
    have HD6 := Aside0.mk (HD5.out.top hb6' (by omega) (by have := HBS.out; omega))
    have HBD6 : Aside0 (∀ x ∈ L ++ [0], -1 ≤ x ∧ x ≤ 6) := ⟨fun x hx => by
     rcases List.mem_append.1 hx with h | h
     ·exact HBD.out x h
     ·rw [List.mem_singleton] at h; subst h; omega⟩
    clear ho6 hb6' hg6 hh6
    go_wp2
    go_ret
    exact ⟨_, L ++ [0], rfl, HO6.out.lower (b' := w.heap.size) (by omega), by simp; omega, HBD6.out, HD6.out⟩
   ·have hq1 : (q == 0) = false := by rw [beq_eq_false_iff_ne]; exact hq
    by_cases hq3 : q = 1
    ·have hq2 : (q == 1) = true := by rw [beq_iff_eq]; exact hq3
     clear hq hq3
     by_cases hi0 : 0 < i
     ·have hiI : (0 : Int) < (i : Int) := by omega
      obtain ⟨w6, hw6⟩ : ∃ w6, w6 = w5.alloc (.cells #[.int .i64 (-1), .int .i64 b] 2) := ⟨_, rfl⟩
      have hb6' : Below w5.heap.size w5 w6 := by rw [hw6]; exact Below.alloc (Below.refl _ _) (Nat.le_refl _) _
      have hl6 : RdK bs w6 (.slice (some ⟨w5.heap.size, 0, none⟩) 2 2) [-1, (b : Int)] := by
       rw [hw6]; exact (lit_own w5 w5.heap.size [-1, (b : Int)] (Nat.le_refl _) (by simp)).rdk HD5.out.2.lt
      have HL6 := Aside0.mk hl6
      have HB6 := Aside0.mk hb6'
      have c2 : w5.cell? ⟨w.heap.size + 1, 0, none⟩ = some (.int .i64 b) := blk_cell HK1'.out 0
      clear hb6' hl6
      go_wp2_with (first | (go_at_call 255; rw [← hw6]; clear hw6; refine Aside0.out ?_))
      refine Aside0.mk ?_
      have HS6 := Aside0.mk (HD5.out.2.below HB6.out)
      with_reducible refine (pick bs _ [-1, (b : Int)] w6 HS6.out HL6.out (by simp) (by simp)).mono ?_
      rintro e w7 ⟨y, rfl, hy, hd⟩
      have hyb : -1 ≤ y ∧ y ≤ 6 := by
       simp only [List.mem_cons, List.not_mem_nil, or_false] at hy
       omega
      have HY := Aside0.mk hyb
      have HD7 := Aside0.mk ((HD5.out.then_below HB6.out).trans hd)
      have HO7 := Aside0.mk ((HO5.out.below HB6.out).gm hd.1 (by have := HBS.out; omega))
      have HZ7 : Aside0 (w.heap.size + 2 ≤ w7.heap.size) := ⟨Nat.le_trans HZ5.out (Nat.le_trans HB6.out.size hd.size)⟩
      clear hy hd HL6 HS6 c2 hyb
      obtain ⟨⟨y0, hcell2⟩, hf2⟩ := OwnI.slot HO7.out (i := 0) (by omega)
      go_wp2_with (first | ((with_reducible refine gate_store (t := 2) (p := 41) rfl ?_); refine store_own (w0 := w) rfl (p := 41) rfl rfl 0 y HO7.out ?ha ?hb ?hc ?_; (case ha => omega); (case hb => rfl); (case hc => rfl); intro w8 ho hg hb; have HO8 := Aside0.mk ho; have HB8 := Aside0.mk hb; clear ho hg hb))
      go_ret
      exact ⟨_, L.set 0 y, rfl, HO8.out.lower (b' := w.heap.size) (by omega), by rw [List.length_set]; omega, (fun x hx => by
       rcases List.mem_or_eq_of_mem_set hx with h | h
       ·exact HBD.out x h
       ·subst h; exact HY.out), HD7.out.top HB8.out (by omega) (by have := HBS.out; omega)⟩
     ·have hiI : ¬ (0 : Int) < (i : Int) := by omega
      go_wp2
      go_ret
      exact ⟨_, L, rfl, HO5.out.lower (b' := w.heap.size) (by omega), by omega, HBD.out, HD5.out⟩
    ·have hq2 : (q == 1) = false := by rw [beq_eq_false_iff_ne]; exact hq3
     clear hq hq3
     go_wp2
     go_ret
     exact ⟨_, L, rfl, HO5.out.lower (b' := w.heap.size) (by omega), by omega, HBD.out, HD5.out⟩
def tailOkW (l : List Oper) (B : List Nat) (n k1 k : Nat) : Bool :=
 decide (k < l.length) && (l.take k1).all (fun o => o.dst.isSome) && l.all (fun o => o.guard.isNone) && decide (dsOf (l.take k1)).Nodup && (dsOf (l.take k1)).all (fun d => decide (d < n)) &&
 waitsOk (rtab .any l.toArray).2 B && baseOk (rtab .any l.toArray).2 (List.range l.length) &&
 (List.range l.length).all (fun i => decide (i < k) || (List.range i).all fun j => (B.getD i 0).testBit j) &&
 (List.range k).all (fun i => (List.range l.length).all fun j => decide (j < i) || !(B.getD i 0).testBit j)
theorem wp_region_w {P : Program} {id : Nat} {Q : Exit → Act → World → Prop} {a : Act} {w : World} {l : List Oper} (k1 k : Nat) (hkk : k1 ≤ k) (qt : Nat → Bool) (V : Nat → Value → Prop) (I : (Nat → Bool) → (Nat → Value) → World → Prop) (B : List Nat) (hm : P.follows .mixedOrders = true) (hok : tailOkW l B a.tmps.size k1 k = true)
  (hI0 : ∀ b s, (∀ i, b i = false) → I b s w.drew)
  (hI : ∀ i b s v w1, qt i = true → I b s w1 → I (markU b i) (upd s i v) w1)
  (hs : uSteps qt V I P (l.take k1) B a 0 (l.take k1))
  (ht : ∀ i o, k1 ≤ i → i < k → l[i]? = some o → ∀ s b w1, I b s w1 → b i = false → (∀ j, j < i → (B.getD i 0).testBit j = true → b j = true ∧ (j < k1 → qt j = true → V j (s j))) → o.dst = none ∧ ∃ w', (execOp (putAll (dsOf (l.take k1)) 0 s a).eval o).run P w1 = .ok .skip w' ∧ I (markU b i) s w')
  (hend : ∀ s b w1, I b s w1 → (∀ i, i < k → b i = true) → (∀ i, i < k1 → qt i = true → V i (s i)) → tailList P Q (l.drop k) (putAll (dsOf (l.take k1)) 0 s a) w1) : (Code.region id l.toArray true).wp P Q a w := by
 simp only [tailOkW, Bool.and_eq_true] at hok
 obtain ⟨⟨⟨⟨⟨⟨⟨⟨hk, h1⟩, h0⟩, h2⟩, h3⟩, h4⟩, h5⟩, hBt⟩, hBd⟩ := hok
 have hk : k < l.length := of_decide_eq_true hk
 have hnd : (dsOf (l.take k1)).Nodup := of_decide_eq_true h2
 have hBt : ∀ i j, i < l.length → k ≤ i → j < i → (B.getD i 0).testBit j = true := by
  intro i j hi hki hj
  have := List.all_eq_true.1 hBt i (List.mem_range.2 hi)
  rw [decide_eq_false (by omega), Bool.false_or] at this
  exact List.all_eq_true.1 this j (List.mem_range.2 hj)
 have hBd : ∀ i j, i < k → j < l.length → (B.getD i 0).testBit j = true → j < i := by
  intro i j hi hj hij
  have := List.all_eq_true.1 (List.all_eq_true.1 hBd i (List.mem_range.2 hi)) j (List.mem_range.2 hj)
  rw [hij, Bool.not_true, Bool.or_false] at this
  exact of_decide_eq_true this
 have hTl : (rtab .any l.toArray).2.length = l.length := by rw [rtab_length]; simp
 have hdl : ∀ i, i < k1 → (l.take k1)[i]? = l[i]? := fun i hi => by rw [List.getElem?_take_of_lt hi]
 have hlt : (l.take k1).length = k1 := by rw [List.length_take]; omega
 have hds : ∀ (i : Nat) (o : Oper), i < k1 → l[i]? = some o → o.dst = some ((dsOf (l.take k1))[i]?.getD 0) ∧ (dsOf (l.take k1))[i]? = some (o.dst.getD 0) := by
  intro i o hi ho
  have ho' : (l.take k1)[i]? = some o := (hdl i hi).trans ho
  have e : (dsOf (l.take k1))[i]? = some (o.dst.getD 0) := by unfold dsOf; rw [List.getElem?_map, ho']; rfl
  refine ⟨?_, e⟩
  have := List.all_eq_true.1 h1 o (List.mem_of_getElem? ho')
  rw [e]
  cases hd : o.dst with
  | none => rw [hd] at this; cases this
  | some d => rfl
 have hrange : ∀ j, j < l.length → (List.range l.length).contains j = true := fun j hj => by simpa using hj
 refine wp_region_last_drew (S := fun _ => True) (ds := []) hm trivial (fun _ => ?_)
 refine inv_ (T := rtab .any l.toArray) (B := B) (List.range l.length) (fun b a' w' => (b k = false → ∃ s, a' = putAll (dsOf (l.take k1)) 0 s a ∧ I b s w' ∧ (∀ i, i < k1 → b i = true → qt i = true → V i (s i)) ∧ ∀ i, i < k1 → b i = false → s i = (a.tmps[(dsOf (l.take k1))[i]?.getD 0]?).getD undef) ∧ (∀ n, k < n → n ≤ l.length → (∀ j, j < n → b j = true) → (∀ j, n ≤ j → j < l.length → b j = false) → tailList P Q (l.drop n) a' w')) rfl h4 h5 ?_ ?_ ?_ ?_
 ·rw [hTl, Bool.and_eq_true, beq_iff_eq, beq_iff_eq]
  refine ⟨?_, by simp⟩
  apply List.ext_getElem
  ·simp [lof]
  ·intro i hi1 hi2
   have hi : i < l.length := by simpa [lof] using hi1
   simp [lof, hi]
 ·refine ⟨fun _ => ⟨fun k' => (a.tmps[(dsOf (l.take k1))[k']?.getD 0]?).getD undef, ?_, hI0 _ _ (fun _ => rfl), (fun _ _ h => by cases h), fun _ _ _ => rfl⟩, fun n hn _ hj _ => by have := hj 0 (by omega); cases this⟩
  refine (putAll_self _ _ _ _ (fun j d hj => ?_)).symm
  have hd := List.all_eq_true.1 h3 d (List.mem_of_getElem? hj)
  have hd' : d < a.tmps.size := of_decide_eq_true hd
  simp [hj, hd']
 ·intro i hi b a' w' ⟨hA, hT⟩ hbi hon hoff
  have hil : i < l.length := List.mem_range.1 hi
  have ho : l[i]? = some l[i] := List.getElem?_eq_getElem hil
  refine ⟨l[i], by simp, fun K hK => ?_⟩
  have hK' := Shut.out hK
  have hg : l[i].guard = none := by
   have := List.all_eq_true.1 h0 l[i] (List.mem_of_getElem? ho)
   cases hq : l[i].guard with
   | none => rfl
   | some g => rw [hq] at this; cases this
  rw [if_pos (by simp [Region.wanted, hg])]
  have hon' : ∀ j, j < l.length → (B.getD i 0).testBit j = true → b j = true := fun j hj hb => hon j (by rw [hrange j hj, hb]; rfl)
  have hoff' : ∀ d, d < l.length → (B.getD d 0).testBit i = true → b d = false := fun d hd hb => hoff d (by rw [hrange d hd, hb]; rfl)
  by_cases hik0 : i < k
  ·have hbk : b k = false := hoff' k hk (hBt k i hk (Nat.le_refl _) hik0)
   obtain ⟨s, rfl, hIb, hvs, hq0⟩ := hA hbk
   have hup : up b i = markU b i := by
    funext j
    by_cases hji : j = i
    ·subst hji; rw [up_self, markU_self]
    ·rw [up_ne hji, markU_ne b hji]
   by_cases hik : i < k1
   ··
     have hfin : ∀ v w2, I (markU b i) (upd s i v) w2 → (qt i = true → V i v) → K ((putAll (dsOf (l.take k1)) 0 s a).put l[i].dst v) w2 := by
      intro v w2 hI2 hV2
      rw [(hds i _ hik ho).1, (hds i _ hik ho).2, Option.getD_some, putAll_put _ _ _ _ _ _ _ hnd (Nat.zero_le _) (by rw [Nat.sub_zero]; exact (hds i _ hik ho).2)]
      refine hK' _ _ ⟨fun _ => ⟨upd s i v, rfl, by rw [hup]; exact hI2, fun j hj hbj hqj => ?_, fun j hj hbj => ?_⟩, fun n hn hnl hj _ => ?_⟩
      ·by_cases hji : j = i
       ·subst hji; rw [upd_self]; exact hV2 hqj
       ·rw [upd_ne s v hji]; rw [up_ne hji] at hbj
        exact hvs j hj hbj hqj
      ·have hji : j ≠ i := by
        rintro rfl
        rw [up_self] at hbj
        cases hbj
       rw [upd_ne s v hji]; rw [up_ne hji] at hbj
       exact hq0 j hj hbj
      ·have := hj k hn
       rw [up_ne (by omega), hbk] at this
       cases this
     have hst := uSteps_at (l.take k1) 0 hs i _ ((hdl i hik).trans ho) s b w' hIb (by rw [Nat.zero_add]; exact hbi) (fun j hj => by
      rw [Nat.zero_add] at hj
      have h6 := Bool.and_eq_true _ _ ▸ hj
      have h7 : j < k1 := by have := of_decide_eq_true h6.1; rw [hlt] at this; exact this
      have h8 : b j = true := hon' j (by omega) h6.2
      exact ⟨h8, hvs j h7 h8⟩) (fun j hj => by
      rw [Nat.zero_add] at hj
      have h6 := Bool.and_eq_true _ _ ▸ hj
      have h7 : j < k1 := by have := of_decide_eq_true h6.1; rw [hlt] at this; exact this
      exact hq0 j h7 (hoff' j (by omega) h6.2)) (fun v w2 => K ((putAll (dsOf (l.take k1)) 0 s a).put l[i].dst v) w2) (fun hqi v hvi => by
      rw [Nat.zero_add] at hqi hvi
      exact hfin v w' (hI i b s v w' hqi hIb) (fun _ => hvi)) (fun hqi v w2 hI2 => by
      rw [Nat.zero_add] at hqi hI2
      exact hfin v w2 hI2 (fun h => by rw [hqi] at h; cases h))
     unfold stepG at hst
     rw [if_pos (by simp [Region.wanted, hg])] at hst
     exact opGives_wp hst
   ·obtain ⟨e0, w2, e1, e2⟩ := ht i _ (by omega) hik0 ho s b w' hIb hbi (fun j hj hb => by
     have h8 : b j = true := hon' j (by omega) hb
     exact ⟨h8, fun h1 h2 => hvs j h1 h8 h2⟩)
    unfold Oper.wp
    rw [e1]
    refine hK' _ _ ⟨fun _ => ⟨s, by rw [e0]; rfl, by rw [hup]; exact e2, fun j hj hbj hqj => ?_, fun j hj hbj => ?_⟩, fun n hn hnl hj _ => ?_⟩
    ·rw [up_ne (by omega)] at hbj; exact hvs j hj hbj hqj
    ·rw [up_ne (by omega)] at hbj; exact hq0 j hj hbj
    ·have := hj k hn
     rw [up_ne (by omega), hbk] at this
     cases this
  ·have hall : ∀ j, j < i → b j = true := fun j hj => hon' j (by omega) (hBt i j hil (by omega) hj)
   have hnone : ∀ j, i ≤ j → j < l.length → b j = false := by
    intro j hj hjl
    by_cases hji : j = i
    ·subst hji; exact hbi
    ·exact hoff' j hjl (hBt j i hjl (by omega) (by omega))
   have htl : tailList P Q (l.drop i) a' w' := by
    by_cases hki : i = k
    ·subst hki
     obtain ⟨s, rfl, hIb, hvs, -⟩ := hA hbi
     exact hend s b w' hIb (fun j hj => hall j hj) (fun j hj => hvs j hj (hall j (by omega)))
    ·exact hT i (by omega) (by omega) hall hnone
   rw [List.drop_eq_getElem_cons hil] at htl
   have hnext : ∀ a2 w2, tailList P Q (l.drop (i + 1)) a2 w2 → K a2 w2 := by
    intro a2 w2 hq
    refine hK' _ _ ⟨fun h => ?_, fun n hn hnl hj hj2 => ?_⟩
    ·by_cases hki : i = k
     ·subst hki; rw [up_self] at h; cases h
     ·rw [up_ne (by omega)] at h
      have := hall k (by omega)
      rw [h] at this; cases this
    ·have hni : n = i + 1 := by
      by_cases h6 : n ≤ i
      ·have := hj2 i h6 hil
       rw [up_self] at this; cases this
      ·by_cases h7 : i + 1 < n
       ·have := hj (i + 1) h7
        rw [up_ne (by omega), hnone (i + 1) (by omega) (by omega)] at this
        cases this
       ·omega
     subst hni
     exact hq
   rcases htl with htl | ⟨w2, h1, h2⟩
   ·refine opGives_wp (opGives_mono htl (fun v w2 hq => hnext _ _ hq))
   ·unfold Oper.wp
    rw [h1]
    exact hnext _ _ h2
 ·intro b a' w' hall ⟨hA, hT⟩
  have := hT l.length hk (Nat.le_refl _) (fun j hj => hall j (hrange j hj)) (fun j h1 h2 => by omega)
  rw [List.drop_length] at this
  exact this
theorem Gc.nat {n : Nat} {xs : List Int} (h : Gc n xs) : ∀ x ∈ xs, ∃ f : Nat, x = f ∧ 1 ≤ f ∧ f ≤ 63 := fun x hx => by
 have h1 := h.2.2.1 x hx
 have h2 := pwn h.2.1
 exact ⟨x.toNat, by omega, by omega, by omega⟩
/-- two complexes in blocks k and k + 1, two results not yet written -/
structure WS (bs : Nat) (w : World) (k n : Nat) (uv : Value) (xs : List Int) (m : Nat) (zv : Value) (ys : List Int) (W : World) : Prop where
 hD : Dw bs w W
 r0 : W.heap[w.heap.size]? = some C0
 r1 : W.heap[w.heap.size + 1]? = some C0
 h5 : W.heap[k]? = some (.cells #[.int .i64 n, uv] 26)
 h6 : W.heap[k + 1]? = some (.cells #[.int .i64 m, zv] 26)
 o5 : OwnI (w.heap.size + 2) W uv xs
 o6 : OwnI (w.heap.size + 2) W zv ys
 g5 : Gc n xs
 g6 : Gc m ys
 hk : w.heap.size + 2 ≤ k
 hb : bs < w.heap.size
section
variable {bs k n m : Nat} {w W W' : World} {uv zv : Value} {xs ys : List Int}
theorem WS.dw (h : WS bs w k n uv xs m zv ys W) (hd : Dw bs W W') : WS bs w k n uv xs m zv ys W' :=
 ⟨h.hD.trans hd, blk_dw hd (by have := h.hb; omega) h.r0, blk_dw hd (by have := h.hb; omega) h.r1, blk_dw hd (by have := h.hb; have := h.hk; omega) h.h5, blk_dw hd (by have := h.hb; have := h.hk; omega) h.h6, h.o5.gm hd.1 (by have := h.hb; omega), h.o6.gm hd.1 (by have := h.hb; omega), h.g5, h.g6, h.hk, h.hb⟩
theorem WS.below (h : WS bs w k n uv xs m zv ys W) (hb : Below W.heap.size W W') : WS bs w k n uv xs m zv ys W' := h.dw (Dw.of_below h.hD.2 hb)
theorem WS.c5 (h : WS bs w k n uv xs m zv ys W) : W.cell? ⟨k, 0, none⟩ = some (.int .i64 n) ∧ W.cell? ⟨k, 1, none⟩ = some uv := ⟨blk_cell h.h5 0, blk_cell h.h5 1⟩
theorem WS.c6 (h : WS bs w k n uv xs m zv ys W) : W.cell? ⟨k + 1, 0, none⟩ = some (.int .i64 m) ∧ W.cell? ⟨k + 1, 1, none⟩ = some zv := ⟨blk_cell h.h6 0, blk_cell h.h6 1⟩
theorem WS.f6 (h : WS bs w k n uv xs m zv ys W) : W.frozen? ⟨k + 1, 0, none⟩ = false ∧ W.frozen? ⟨k + 1, 1, none⟩ = false := ⟨blk_frozen h.h6 0, blk_frozen h.h6 1⟩
/-- what lies at B and above does not count -/
theorem WS.up (h : WS bs w k n uv xs m zv ys W) {B : Nat} (hb : Below B W W') (hB : k + 1 < B) (hu : ∀ j, uv.ownBlock = some j → j < B) (hz : ∀ j, zv.ownBlock = some j → j < B) : WS bs w k n uv xs m zv ys W' := by
 have hk := h.hk
 have hbs := h.hb
 have own : ∀ {v : Value} {l : List Int}, OwnI (w.heap.size + 2) W v l → (∀ j, v.ownBlock = some j → j < B) → OwnI (w.heap.size + 2) W' v l := fun {v l} ho hj => by
  obtain ⟨h0, inner, h1, hr⟩ := ho
  exact ⟨h0, inner, own_move h1 (fun j hj' => hb.block j (hj j hj')), hr⟩
 exact ⟨h.hD.top hb (by omega) (by omega), blk_up hb (by omega) h.r0, blk_up hb (by omega) h.r1, blk_up hb (by omega) h.h5, blk_up hb (by omega) h.h6, own h.o5 hu, own h.o6 hz, h.g5, h.g6, hk, hbs⟩
/-- block k + 1 is turned -/
theorem WS.put6 (h : WS bs w k n uv xs m zv ys W) {m' : Nat} {zv' : Value} {ys' : List Int} (ho : OwnI (w.heap.size + 2) W zv' ys') (hg : Gc m' ys') (hne : ∀ j, zv'.ownBlock = some j → j ≠ k + 1) (hne5 : ∀ j, uv.ownBlock = some j → j ≠ k + 1) :
  WS bs w k n uv xs m' zv' ys' ((W.setCell ⟨k + 1, 0, none⟩ (.int .i64 m')).setCell ⟨k + 1, 1, none⟩ zv') := by
 have hgr : W.grownBy ((W.setCell ⟨k + 1, 0, none⟩ (.int .i64 m')).setCell ⟨k + 1, 1, none⟩ zv') (some (k + 1)) := grown_trans (set_grown' _ (k + 1) _ _) (set_grown' _ (k + 1) _ _)
 have hb : Below (k + 1) W ((W.setCell ⟨k + 1, 0, none⟩ (.int .i64 m')).setCell ⟨k + 1, 1, none⟩ zv') := below_grown hgr (Nat.le_refl _) (by have := blk_lt h.h6; omega)
 have hk := h.hk
 have hbs := h.hb
 refine ⟨h.hD.top hb (by omega) (by omega), blk_up hb (by omega) h.r0, blk_up hb (by omega) h.r1, blk_up hb (by omega) h.h5, ?_, h.o5.grown hgr (fun j hj e => hne5 j hj (Option.some.inj e)), ho.grown hgr (fun j hj e => hne j hj (Option.some.inj e)), h.g5, hg, hk, hbs⟩
 refine blk_put (cs := #[.int .i64 m', zv]) ?_ 1 _ rfl
 exact blk_put (cs := #[.int .i64 m, zv]) h.h6 0 _ rfl
/-- a row of numbers lies in no block of another kind -/
theorem own_ne {b k : Nat} {v : Value} {l : List Int} {cs : Array Value} {t : TypeId} (ho : OwnI b W v l) (hk : W.heap[k]? = some (.cells cs t)) (ht : t ≠ 2) : ∀ j, v.ownBlock = some j → j ≠ k := by
 intro j hj e
 subst e
 rcases (Kd.own_of_R ho).2 with ⟨e, -⟩ | ⟨g, cap, cur, e, -, hh, -⟩
 ·rw [e] at hj; simp [Value.ownBlock] at hj
 ·rw [e] at hj
  simp [Value.ownBlock] at hj
  subst hj
  rw [hh] at hk
  injection hk with hk
  injection hk with _ hk _
  exact ht hk.symm
end
theorem results_cct {P : Program} {fn : Func} {p p' u : Tmp} {ty ty' : TypeId} (h : fn.results = #[.cell p ty, .cell p' ty', .tmp u]) (tmps : Array Value) (w : World) (g g' : Nat) (t t' : TypeId) (cs cs' : Array Value) (fr fr' : Nat × Nat) (d d' : TypeDesc)
  (hp : tmps.getD p undef = .pointer (some ⟨g, 0, none⟩)) (hg : w.heap[g]? = some (.cells cs t fr))
  (hu : P.underlying ty = some d) (hd : (match d with | .struct _ | .array _ _ => true | _ => false) = true) (hi : (P.info? ty).map (·.size) = some cs.size)
  (hp' : tmps.getD p' undef = .pointer (some ⟨g', 0, none⟩)) (hg' : w.heap[g']? = some (.cells cs' t' fr'))
  (hu' : P.underlying ty' = some d') (hd' : (match d' with | .struct _ | .array _ _ => true | _ => false) = true) (hi' : (P.info? ty').map (·.size) = some cs'.size) :
  (results fn tmps).run P w = .ok (.tuple #[.agg cs, .agg cs', tmps.getD u undef]) w := by
 have h1 : tmps[p]?.getD undef = .pointer (some ⟨g, 0, none⟩) := by simpa using hp
 have h2 : tmps[p']?.getD undef = .pointer (some ⟨g', 0, none⟩) := by simpa using hp'
 simp [results, h, h1, h2, asAddr, run_loadVar_row w g t ty cs fr d hg hu hd hi, run_loadVar_row w g' t' ty' cs' fr' d' hg' hu' hd' hi']
/-- a complex that a slot holds -/
def Rv (B : Nat) (W : World) (v : Value) : Prop := ∃ (a : Int) (A : Option Addr) (c : Nat) (ys : List Int), v = .agg #[.int .i64 a, .slice A ys.length c] ∧ OwnI B W (.slice A ys.length c) ys ∧ Rc a ys
/-- two results, written or not -/
structure WI (bs : Nat) (w : World) (k n : Nat) (uv : Value) (xs : List Int) (m : Nat) (zv : Value) (ys : List Int) (pv : Value) (p : List Int) (b : Nat → Bool) (s : Nat → Value) (W : World) : Prop where
 hD : Dw bs w W
 h5 : W.heap[k]? = some (.cells #[.int .i64 n, uv] 26)
 h6 : W.heap[k + 1]? = some (.cells #[.int .i64 m, zv] 26)
 o5 : OwnI (w.heap.size + 2) W uv xs
 o6 : OwnI (w.heap.size + 2) W zv ys
 op : OwnI (w.heap.size + 2) W pv p
 v2 : b 2 = true → Rv (w.heap.size + 2) W (s 2)
 v5 : b 5 = true → Rv (w.heap.size + 2) W (s 5)
 r0 : ∃ cs, W.heap[w.heap.size]? = some (.cells cs 26) ∧ (b 7 = false → cs = #[.int .i64 0, .slice none 0 0]) ∧ (b 7 = true → s 2 = .agg cs)
 r1 : ∃ cs, W.heap[w.heap.size + 1]? = some (.cells cs 26) ∧ (b 8 = false → cs = #[.int .i64 0, .slice none 0 0]) ∧ (b 8 = true → s 5 = .agg cs)
 q7 : b 7 = true → b 2 = true
 q8 : b 8 = true → b 5 = true
 hk : w.heap.size + 2 ≤ k
 hb : bs < w.heap.size
section
variable {bs k n m : Nat} {w W W' : World} {uv zv pv : Value} {xs ys p : List Int} {b : Nat → Bool} {s : Nat → Value}
theorem Rv.dw {B : Nat} {v : Value} (h : Rv B W v) (hd : Dw bs W W') (hB : bs < B) : Rv B W' v := by
 obtain ⟨a, A, c, l, e, ho, hr⟩ := h
 exact ⟨a, A, c, l, e, ho.gm hd.1 hB, hr⟩
theorem WI.dw (h : WI bs w k n uv xs m zv ys pv p b s W) (hd : Dw bs W W') : WI bs w k n uv xs m zv ys pv p b s W' := by
 have hb := h.hb
 have hk := h.hk
 obtain ⟨c0, e0, f0, g0⟩ := h.r0
 obtain ⟨c1, e1, f1, g1⟩ := h.r1
 exact ⟨h.hD.trans hd, blk_dw hd (by omega) h.h5, blk_dw hd (by omega) h.h6, h.o5.gm hd.1 (by omega), h.o6.gm hd.1 (by omega), h.op.gm hd.1 (by omega), fun q => (h.v2 q).dw hd (by omega), fun q => (h.v5 q).dw hd (by omega), ⟨c0, blk_dw hd (by omega) e0, f0, g0⟩, ⟨c1, blk_dw hd (by omega) e1, f1, g1⟩, h.q7, h.q8, hk, hb⟩
theorem WI.start (h : WS bs w k n uv xs m zv ys W) (hp : OwnI (w.heap.size + 2) W pv p) (hb : ∀ i, b i = false) : WI bs w k n uv xs m zv ys pv p b s W :=
 ⟨h.hD, h.h5, h.h6, h.o5, h.o6, hp, (fun q => by rw [hb] at q; cases q), (fun q => by rw [hb] at q; cases q), ⟨_, h.r0, fun _ => rfl, fun q => by rw [hb] at q; cases q⟩, ⟨_, h.r1, fun _ => rfl, fun q => by rw [hb] at q; cases q⟩, (fun q => by rw [hb] at q; cases q), (fun q => by rw [hb] at q; cases q), h.hk, h.hb⟩
theorem WI.quiet (h : WI bs w k n uv xs m zv ys pv p b s W) {i : Nat} (hq : (!(i == 2) && !(i == 5) && !(i == 7) && !(i == 8)) = true) (v : Value) : WI bs w k n uv xs m zv ys pv p (markU b i) (upd s i v) W := by
 simp only [Bool.and_eq_true, Bool.not_eq_true', beq_eq_false_iff_ne] at hq
 obtain ⟨⟨⟨h2, h5⟩, h7⟩, h8⟩ := hq
 obtain ⟨c0, e0, f0, g0⟩ := h.r0
 obtain ⟨c1, e1, f1, g1⟩ := h.r1
 refine ⟨h.hD, h.h5, h.h6, h.o5, h.o6, h.op, ?_, ?_, ⟨c0, e0, ?_, ?_⟩, ⟨c1, e1, ?_, ?_⟩, ?_, ?_, h.hk, h.hb⟩
 ·rw [markU_ne b (Ne.symm h2), upd_ne s v (Ne.symm h2)]; exact h.v2
 ·rw [markU_ne b (Ne.symm h5), upd_ne s v (Ne.symm h5)]; exact h.v5
 ·rw [markU_ne b (Ne.symm h7)]; exact f0
 ·rw [markU_ne b (Ne.symm h7), upd_ne s v (Ne.symm h2)]; exact g0
 ·rw [markU_ne b (Ne.symm h8)]; exact f1
 ·rw [markU_ne b (Ne.symm h8), upd_ne s v (Ne.symm h5)]; exact g1
 ·rw [markU_ne b (Ne.symm h7), markU_ne b (Ne.symm h2)]; exact h.q7
 ·rw [markU_ne b (Ne.symm h8), markU_ne b (Ne.symm h5)]; exact h.q8
theorem WI.set2 (h : WI bs w k n uv xs m zv ys pv p b s W) (hb2 : b 2 = false) {v : Value} (hv : Rv (w.heap.size + 2) W v) : WI bs w k n uv xs m zv ys pv p (markU b 2) (upd s 2 v) W := by
 obtain ⟨c0, e0, f0, g0⟩ := h.r0
 obtain ⟨c1, e1, f1, g1⟩ := h.r1
 have h7 : b 7 = false := by cases hc : b 7 with | false => rfl | true => rw [h.q7 hc] at hb2; cases hb2
 refine ⟨h.hD, h.h5, h.h6, h.o5, h.o6, h.op, ?_, ?_, ⟨c0, e0, ?_, ?_⟩, ⟨c1, e1, ?_, ?_⟩, ?_, ?_, h.hk, h.hb⟩
 ·intro _; rw [upd_self]; exact hv
 ·rw [markU_ne b (by decide), upd_ne s v (by decide)]; exact h.v5
 ·rw [markU_ne b (by decide)]; exact f0
 ·rw [markU_ne b (by decide), h7]; intro q; cases q
 ·rw [markU_ne b (by decide)]; exact f1
 ·rw [markU_ne b (by decide), upd_ne s v (by decide)]; exact g1
 ·intro _; rw [markU_self]
 ·rw [markU_ne b (by decide), markU_ne b (by decide)]; exact h.q8
theorem WI.set5 (h : WI bs w k n uv xs m zv ys pv p b s W) (hb5 : b 5 = false) {v : Value} (hv : Rv (w.heap.size + 2) W v) : WI bs w k n uv xs m zv ys pv p (markU b 5) (upd s 5 v) W := by
 obtain ⟨c0, e0, f0, g0⟩ := h.r0
 obtain ⟨c1, e1, f1, g1⟩ := h.r1
 have h8 : b 8 = false := by cases hc : b 8 with | false => rfl | true => rw [h.q8 hc] at hb5; cases hb5
 refine ⟨h.hD, h.h5, h.h6, h.o5, h.o6, h.op, ?_, ?_, ⟨c0, e0, ?_, ?_⟩, ⟨c1, e1, ?_, ?_⟩, ?_, ?_, h.hk, h.hb⟩
 ·rw [markU_ne b (by decide), upd_ne s v (by decide)]; exact h.v2
 ·intro _; rw [upd_self]; exact hv
 ·rw [markU_ne b (by decide)]; exact f0
 ·rw [markU_ne b (by decide), upd_ne s v (by decide)]; exact g0
 ·rw [markU_ne b (by decide)]; exact f1
 ·rw [markU_ne b (by decide), h8]; intro q; cases q
 ·rw [markU_ne b (by decide), markU_ne b (by decide)]; exact h.q7
 ·intro _; rw [markU_self]
/-- a result is written -/
theorem WI.put7 (h : WI bs w k n uv xs m zv ys pv p b s W) (hb2 : b 2 = true) {a : Int} {z : Value} (e2 : s 2 = .agg #[.int .i64 a, z]) (hb7 : b 7 = false) :
  WI bs w k n uv xs m zv ys pv p (markU b 7) s ((W.setCell ⟨w.heap.size, 0, none⟩ (.int .i64 a)).setCell ⟨w.heap.size, 1, none⟩ z) := by
 obtain ⟨c0, e0, f0, g0⟩ := h.r0
 obtain ⟨c1, e1, f1, g1⟩ := h.r1
 have hb := h.hb
 have hk := h.hk
 have hw := h.hD.1.size
 obtain rfl := f0 hb7
 have hg : W.grownBy ((W.setCell ⟨w.heap.size, 0, none⟩ (.int .i64 a)).setCell ⟨w.heap.size, 1, none⟩ z) (some w.heap.size) := grown_trans (set_grown' _ w.heap.size _ _) (set_grown' _ w.heap.size _ _)
 have hbl : Below w.heap.size W ((W.setCell ⟨w.heap.size, 0, none⟩ (.int .i64 a)).setCell ⟨w.heap.size, 1, none⟩ z) := below_grown hg (Nat.le_refl _) hw
 have far : ∀ {j : Nat} {o : Obj}, j ≠ w.heap.size → W.heap[j]? = some o → ((W.setCell ⟨w.heap.size, 0, none⟩ (.int .i64 a)).setCell ⟨w.heap.size, 1, none⟩ z).heap[j]? = some o := fun {j o} hne hj => by
  rw [hg.block j (blk_lt hj) (fun e => hne (Option.some.inj e))]; exact hj
 have own : ∀ {v : Value} {l : List Int}, OwnI (w.heap.size + 2) W v l → OwnI (w.heap.size + 2) ((W.setCell ⟨w.heap.size, 0, none⟩ (.int .i64 a)).setCell ⟨w.heap.size, 1, none⟩ z) v l := fun {v l} ho => ho.grown hg (fun q hq e => own_ne ho e0 (by decide) q hq (Option.some.inj e))
 have rv : ∀ {v : Value}, Rv (w.heap.size + 2) W v → Rv (w.heap.size + 2) ((W.setCell ⟨w.heap.size, 0, none⟩ (.int .i64 a)).setCell ⟨w.heap.size, 1, none⟩ z) v := fun {v} hv => by
  obtain ⟨a, A, c, l, e, ho, hr⟩ := hv
  exact ⟨a, A, c, l, e, own ho, hr⟩
 refine ⟨h.hD.top hbl (Nat.le_refl _) hb, far (by omega) h.h5, far (by omega) h.h6, own h.o5, own h.o6, own h.op, ?_, ?_, ⟨#[.int .i64 a, z], ?_, ?_, ?_⟩, ⟨c1, far (by omega) e1, ?_, ?_⟩, ?_, ?_, hk, hb⟩
 ·rw [markU_ne b (by decide)]; exact fun q => rv (h.v2 q)
 ·rw [markU_ne b (by decide)]; exact fun q => rv (h.v5 q)
 ·refine blk_put (cs := #[.int .i64 a, .slice none 0 0]) ?_ 1 _ rfl
  exact blk_put (cs := #[.int .i64 0, .slice none 0 0]) e0 0 _ rfl
 ·rw [markU_self]; intro q; cases q
 ·intro _; exact e2
 ·rw [markU_ne b (by decide)]; exact f1
 ·rw [markU_ne b (by decide)]; exact g1
 ·intro _; rw [markU_ne b (by decide)]; exact hb2
 ·rw [markU_ne b (by decide), markU_ne b (by decide)]; exact h.q8
theorem WI.put8 (h : WI bs w k n uv xs m zv ys pv p b s W) (hb5 : b 5 = true) {a : Int} {z : Value} (e2 : s 5 = .agg #[.int .i64 a, z]) (hb8 : b 8 = false) :
  WI bs w k n uv xs m zv ys pv p (markU b 8) s ((W.setCell ⟨w.heap.size + 1, 0, none⟩ (.int .i64 a)).setCell ⟨w.heap.size + 1, 1, none⟩ z) := by
 obtain ⟨c0, e0, f0, g0⟩ := h.r0
 obtain ⟨c1, e1, f1, g1⟩ := h.r1
 have hb := h.hb
 have hk := h.hk
 have hw := h.hD.1.size
 have hw1 := blk_lt e1
 obtain rfl := f1 hb8
 have hg : W.grownBy ((W.setCell ⟨w.heap.size + 1, 0, none⟩ (.int .i64 a)).setCell ⟨w.heap.size + 1, 1, none⟩ z) (some (w.heap.size + 1)) := grown_trans (set_grown' _ (w.heap.size + 1) _ _) (set_grown' _ (w.heap.size + 1) _ _)
 have hbl : Below (w.heap.size + 1) W ((W.setCell ⟨w.heap.size + 1, 0, none⟩ (.int .i64 a)).setCell ⟨w.heap.size + 1, 1, none⟩ z) := below_grown hg (Nat.le_refl _) (by omega)
 have far : ∀ {j : Nat} {o : Obj}, j ≠ w.heap.size + 1 → W.heap[j]? = some o → ((W.setCell ⟨w.heap.size + 1, 0, none⟩ (.int .i64 a)).setCell ⟨w.heap.size + 1, 1, none⟩ z).heap[j]? = some o := fun {j o} hne hj => by
  rw [hg.block j (blk_lt hj) (fun e => hne (Option.some.inj e))]; exact hj
 have own : ∀ {v : Value} {l : List Int}, OwnI (w.heap.size + 2) W v l → OwnI (w.heap.size + 2) ((W.setCell ⟨w.heap.size + 1, 0, none⟩ (.int .i64 a)).setCell ⟨w.heap.size + 1, 1, none⟩ z) v l := fun {v l} ho => ho.grown hg (fun q hq e => own_ne ho e1 (by decide) q hq (Option.some.inj e))
 have rv : ∀ {v : Value}, Rv (w.heap.size + 2) W v → Rv (w.heap.size + 2) ((W.setCell ⟨w.heap.size + 1, 0, none⟩ (.int .i64 a)).setCell ⟨w.heap.size + 1, 1, none⟩ z) v := fun {v} hv => by
  obtain ⟨a, A, c, l, e, ho, hr⟩ := hv
  exact ⟨a, A, c, l, e, own ho, hr⟩
 refine ⟨h.hD.top hbl (by omega) (by omega), far (by omega) h.h5, far (by omega) h.h6, own h.o5, own h.o6, own h.op, ?_, ?_, ⟨c0, far (by omega) e0, ?_, ?_⟩, ⟨#[.int .i64 a, z], ?_, ?_, ?_⟩, ?_, ?_, hk, hb⟩
 ·rw [markU_ne b (by decide)]; exact fun q => rv (h.v2 q)
 ·rw [markU_ne b (by decide)]; exact fun q => rv (h.v5 q)
 ·rw [markU_ne b (by decide)]; exact f0
 ·rw [markU_ne b (by decide)]; exact g0
 ·refine blk_put (cs := #[.int .i64 a, .slice none 0 0]) ?_ 1 _ rfl
  exact blk_put (cs := #[.int .i64 0, .slice none 0 0]) e1 0 _ rfl
 ·rw [markU_self]; intro q; cases q
 ·intro _; exact e2
 ·rw [markU_ne b (by decide), markU_ne b (by decide)]; exact h.q7
 ·intro _; rw [markU_ne b (by decide)]; exact hb5
end
/-- one complex that is handed out: the store's number, the result's block, the complex -/
structure Ent where
 j : Nat
 k : Nat
 a : Int
 z : Value
/-- result blocks of w0, written so far as b says -/
structure CO (w0 : World) (L : List Ent) (b : Nat → Bool) (W : World) : Prop where
 os : W.os = w0.os
 tape : W.tape = w0.tape
 output : W.output = w0.output
 size : w0.heap.size ≤ W.heap.size
 far : ∀ k, k < w0.heap.size → (∀ e ∈ L, k ≠ e.k) → W.heap[k]? = w0.heap[k]?
 out : ∀ e ∈ L, W.heap[e.k]? = some (if b e.j then .cells #[.int .i64 e.a, e.z] 26 else C0)
section
variable {w w0 W : World} {L : List Ent} {b : Nat → Bool}
theorem CO.start (h : ∀ e ∈ L, w0.heap[e.k]? = some C0) (hb : ∀ i, b i = false) : CO w0 L b w0.drew :=
 ⟨rfl, rfl, rfl, Nat.le_refl _, fun _ _ _ => rfl, fun e he => by rw [hb, if_neg (by decide)]; exact h e he⟩
theorem CO.quiet (h : CO w0 L b W) {i : Nat} (hi : ∀ e ∈ L, e.j ≠ i) : CO w0 L (markU b i) W :=
 ⟨h.os, h.tape, h.output, h.size, h.far, fun e he => by rw [markU_ne b (hi e he)]; exact h.out e he⟩
theorem CO.blk (h : CO w0 L b W) {k : Nat} {o : Obj} (hk : w0.heap[k]? = some o) (hne : ∀ e ∈ L, k ≠ e.k) : W.heap[k]? = some o := by
 rw [h.far k (blk_lt hk) hne]; exact hk
theorem CO.put (h : CO w0 L b W) {e : Ent} (he : e ∈ L) (hb : b e.j = false) (h1 : ∀ e' ∈ L, e'.k = e.k → e' = e) (h2 : ∀ e' ∈ L, e'.j = e.j → e' = e) :
  CO w0 L (markU b e.j) ((W.setCell ⟨e.k, 0, none⟩ (.int .i64 e.a)).setCell ⟨e.k, 1, none⟩ e.z) := by
 have hk := h.out e he
 rw [hb, if_neg (by decide)] at hk
 have hg : W.grownBy ((W.setCell ⟨e.k, 0, none⟩ (.int .i64 e.a)).setCell ⟨e.k, 1, none⟩ e.z) (some e.k) := grown_trans (set_grown' _ e.k _ _) (set_grown' _ e.k _ _)
 refine ⟨hg.os.trans h.os, hg.tape.trans h.tape, hg.output.trans h.output, Nat.le_trans h.size hg.size, fun k hk1 hk2 => ?_, fun e' he' => ?_⟩
 ·rw [hg.block k (Nat.lt_of_lt_of_le hk1 h.size) (fun q => hk2 e he (Option.some.inj q))]; exact h.far k hk1 hk2
 ·by_cases hj : e'.j = e.j
  ·obtain rfl := h2 e' he' hj
   rw [markU_self, if_pos rfl]
   refine blk_put (cs := #[.int .i64 e'.a, .slice none 0 0]) ?_ 1 _ rfl
   exact blk_put (cs := #[.int .i64 0, .slice none 0 0]) hk 0 _ rfl
  ·rw [markU_ne b hj]
   have hne : e'.k ≠ e.k := fun q => hj (by rw [h1 e' he' q])
   rw [hg.block _ (blk_lt (h.out e' he')) (fun q => hne (Option.some.inj q))]
   exact h.out e' he'
theorem CO.own (h : CO w0 L b W) {B : Nat} {v : Value} {l : List Int} (ho : OwnI B w0 v l) (hL : ∀ e ∈ L, w0.heap[e.k]? = some C0) : OwnI B W v l := by
 have hne : ∀ j, v.ownBlock = some j → W.heap[j]? = w0.heap[j]? := fun j hj => h.far j (ho.lt j hj) (fun e he => own_ne ho (hL e he) (by decide) j hj)
 obtain ⟨h0, inner, h1, hr⟩ := ho
 exact ⟨h0, inner, own_move h1 hne, hr⟩
theorem CO.below (h : CO w0 L b W) {B : Nat} (hb : Below B w w0) (hB : B ≤ w0.heap.size) (hL : ∀ e ∈ L, B ≤ e.k) : Below B w W :=
 ⟨h.os.trans hb.os, h.tape.trans hb.tape, h.output.trans hb.output, Nat.le_trans hb.size h.size, fun k hk => (h.far k (by omega) (fun e he => by have := hL e he; omega)).trans (hb.block k hk)⟩
end
end Go.Proofs.YtomofijniefelaaGreat.H
