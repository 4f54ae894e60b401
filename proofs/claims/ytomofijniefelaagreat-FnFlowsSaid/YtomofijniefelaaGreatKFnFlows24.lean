/- Pairings and chains drawn: l06Draw, l06Two, DrawFlowOf, DrawIsChain, DrawCriticalChain (printed by gend25.py). -/
import Derived.Test.YtomofijniefelaaGreatKFnFlows1
import Derived.Test.YtomofijniefelaaGreatKFnFlows2
import Derived.Test.YtomofijniefelaaGreatKFnFlows3
import Derived.Test.YtomofijniefelaaGreatKFnFlows4
import Derived.Test.YtomofijniefelaaGreatKFnFlows5
import Derived.Test.YtomofijniefelaaGreatKFnFlows6
import Derived.Test.YtomofijniefelaaGreatKFnFlows7
import Derived.Test.YtomofijniefelaaGreatKFnFlows8
import Derived.Test.YtomofijniefelaaGreatKFnFlows9
import Derived.Test.YtomofijniefelaaGreatKFnFlows10
import Derived.Test.YtomofijniefelaaGreatKFnFlows11
import Derived.Test.YtomofijniefelaaGreatKFnFlows12
import Derived.Test.YtomofijniefelaaGreatKFnFlows13
import Derived.Test.YtomofijniefelaaGreatKFnFlows14
import Derived.Test.YtomofijniefelaaGreatKFnFlows15
import Derived.Test.YtomofijniefelaaGreatKFnFlows16
import Derived.Test.YtomofijniefelaaGreatKFnFlows17
import Derived.Test.YtomofijniefelaaGreatKFnFlows18
import Derived.Test.YtomofijniefelaaGreatKFnFlows19
import Derived.Test.YtomofijniefelaaGreatKFnFlows20
import Derived.Test.YtomofijniefelaaGreatKFnFlows21
import Derived.Test.YtomofijniefelaaGreatKFnFlows22
import Derived.Test.YtomofijniefelaaGreatKFnFlows23

namespace Go.Proofs.YtomofijniefelaaGreat.H
open Go.RowKit Go.Proofs.YtomofijniefelaaGreatW.PrintWords Go.Proofs.YtomofijniefelaaGreatW.PrintLast
set_option linter.unusedVariables false
set_option linter.unusedSimpArgs false
theorem results_cttt {P : Program} {fn : Func} {p u v x : Tmp} {ty : TypeId} (h : fn.results = #[.cell p ty, .tmp u, .tmp v, .tmp x]) (tmps : Array Value) (w : World) (g : Nat) (t : TypeId) (cs : Array Value) (fr : Nat × Nat) (d : TypeDesc)
  (hp : tmps.getD p undef = .pointer (some ⟨g, 0, none⟩)) (hg : w.heap[g]? = some (.cells cs t fr))
  (hu : P.underlying ty = some d) (hd : (match d with | .struct _ | .array _ _ => true | _ => false) = true) (hi : (P.info? ty).map (·.size) = some cs.size) :
  (results fn tmps).run P w = .ok (.tuple #[.agg cs, tmps.getD u undef, tmps.getD v undef, tmps.getD x undef]) w := by
 have h1 : tmps[p]?.getD undef = .pointer (some ⟨g, 0, none⟩) := by simpa using hp
 simp [results, h, h1, asAddr, run_loadVar_row w g t ty cs fr d hg hu hd hi]
/-- a draw of a pairing and a chain -/
def ChDraw (w : World) (e : Ending) (w' : World) : Prop := ∃ (a : Int) (u tv cv : Value) (ys : List Int) (ps : List (Int × Int)) (l : List Int), e = .returned (.tuple #[.agg #[.int .i64 a, u], tv, cv]) ∧ OwnI w.heap.size w' u ys ∧ OwnP w.heap.size w' tv ps ∧ OwnI w.heap.size w' cv l ∧ Rc a ys ∧ ps.length ≤ 5000 ∧ l.length ≤ 70 ∧ Below w.heap.size w w'
/-- a draw of a pairing and two faces -/
def TwDraw (w : World) (e : Ending) (w' : World) : Prop := ∃ (a b c : Int) (u tv : Value) (ys : List Int) (ps : List (Int × Int)), e = .returned (.tuple #[.agg #[.int .i64 a, u], tv, .int .i64 b, .int .i64 c]) ∧ OwnI w.heap.size w' u ys ∧ OwnP w.heap.size w' tv ps ∧ Rc a ys ∧ ps.length ≤ 5000 ∧ Below w.heap.size w w'
def PRc (B : Nat) (js : List Nat) (j : Nat) (v : Value) (W : World) : Prop := j ∈ js → ∃ l, OwnI B W v l ∧ l.length ≤ 70
def PRi (js : List Nat) (j : Nat) (v : Value) (W : World) : Prop := j ∈ js → ∃ r : Int, v = .int .i64 r
def PRx (ad : Addr) (n j : Nat) (v : Value) (W : World) : Prop := match j with | 7 => ∃ r : Nat, v = .int .i64 (r : Int) ∧ r < n | 8 => ∃ r : Nat, v = .pointer (some (ad.add r)) ∧ r < n | 9 => ∃ y : Int, v = .int .i64 y | 13 => ∃ y : Int, v = .int .i64 y | _ => True
set_option maxRecDepth 100000 in
set_option maxHeartbeats 4000000 in
theorem drawFlow (v : Value) (nb : Nat) (w : World) (hn : nb ≤ 4096) (hv : ReadY w v nb) :
  Calls Tryz.prog 162 #[v] w (ChDraw w) := by
 obtain ⟨w1, hw1⟩ : ∃ w1, w1 = w.alloc C0 := ⟨_, rfl⟩
 have hb1 : Below w.heap.size w w1 := by rw [hw1]; exact Below.alloc (Below.refl _ _) (Nat.le_refl _) _
 have HZ1 : Aside0 (w1.heap.size = w.heap.size + 1) := ⟨by rw [hw1]; simp⟩
 have HK1 : Aside0 (w1.heap[w.heap.size]? = some C0) := ⟨by rw [hw1]; exact blk_new w _⟩
 have HB1 := Aside0.mk hb1
 have HFR := Aside0.mk (srcFrom v nb hn w1 (hv.below hb1))
 have hmx : Tryz.prog.follows .mixedOrders = true := by kernel_rfl
 clear hv hb1
 go_enter Tryz.func162, Tryz.ntmps162
 go_wp2_with (first | (go_at_call 117; rw [← hw1]; clear hw1; refine Aside0.out ?_) | (go_at_call 230; refine Aside0.out ?_))
 refine Aside0.mk ?_
 refine HFR.out.mono ?_
 rintro e w2 ⟨rfl, hs, hb⟩
 have HLT := Aside0.mk hs.lt
 have HB2 := Aside0.mk hb
 have HDB := Aside0.mk (drawPaired w1.heap.size w2 hs)
 clear hs hb
 go_wp2_with (first | (go_at_call 230; refine Aside0.out ?_))
 refine Aside0.mk ?_
 refine HDB.out.mono ?_
 rintro e w3 ⟨a, z, tv, ys, ps, rfl, ho, ht, hr, htl, hd⟩
 obtain ⟨Az, cz, rfl, -⟩ := id ho.read
 obtain ⟨At, ct, rfl, -⟩ := id ht.read
 obtain ⟨w4, hw4⟩ : ∃ w4, w4 = w3.alloc (.cells #[.int .i64 a, .slice Az ys.length cz] 26) := ⟨_, rfl⟩
 have hb4 : Below w3.heap.size w3 w4 := by rw [hw4]; exact Below.alloc (Below.refl _ _) (Nat.le_refl _) _
 have hk4 : w4.heap[w3.heap.size]? = some (.cells #[.int .i64 a, .slice Az ys.length cz] 26) := by rw [hw4]; exact heap_alloc_new w3 _
 have hd4 := hd.then_below hb4
 have hB4 : Below w1.heap.size w1 w4 := HB2.out.trans (below_grown hd4.1 (Nat.le_refl _) (Nat.le_of_lt HLT.out))
 have HSZ3 : Aside0 (w2.heap.size ≤ w3.heap.size) := ⟨hd.size⟩
 have HO4 := Aside0.mk (ho.below hb4)
 have HT4 := Aside0.mk (ht.below hb4)
 have HS4 := Aside0.mk hd4.2
 have HB4 := Aside0.mk hB4
 have HK4 := Aside0.mk hk4
 have HC4 : Aside0 (w4.heap[w.heap.size]? = some C0) := ⟨by rw [hB4.block _ (by have := HZ1.out; omega)]; exact HK1.out⟩
 have HR := Aside0.mk hr
 have HTL := Aside0.mk htl
 have c40 : w4.cell? ⟨w3.heap.size, 0, none⟩ = some (.int .i64 a) := blk_cell hk4 0
 have c41 : w4.cell? ⟨w3.heap.size, 1, none⟩ = some (.slice Az ys.length cz) := blk_cell hk4 1
 clear ho ht hr htl hd hb4 hk4 hd4 hB4
 obtain ⟨PL, hPL⟩ : ∃ PL, PL = ps.length := ⟨_, rfl⟩
 rw [← hPL] at HT4 ⊢
 have HPL := Aside0.mk hPL
 clear hPL
 go_upto_region 3 with (fail)
 rw [← hw4]
 clear hw4 c40 c41
 have HKw : Aside0 (w4.heap[w3.heap.size]? = some (.cells #[.int .i64 a, .slice Az ys.length cz] 26)) := ⟨HK4.out⟩
 have HIS : Aside0 (∀ b s, (∀ i, b i = false) → DI w1.heap.size w.heap.size 5 #[.int .i64 a, .slice Az ys.length cz] (PRc w2.heap.size [4, 7]) w4 b s w4.drew) := ⟨fun b s hb => DI.start HS4.out HC4.out hb⟩
 have HST : Aside0 (∀ {W W' : World}, W.grownBy W' (some w.heap.size) → ∀ j v, (PRc w2.heap.size [4, 7]) j v W → (PRc w2.heap.size [4, 7]) j v W') := ⟨fun hg j v h => fun hj => by obtain ⟨l, h1, h2⟩ := h hj; exact ⟨l, h1.gm hg (by have := HZ1.out; have := HLT.out; omega), h2⟩⟩
 have HSD : Aside0 (∀ {W W' : World}, Dw w1.heap.size W W' → ∀ j v, (PRc w2.heap.size [4, 7]) j v W → (PRc w2.heap.size [4, 7]) j v W') := ⟨fun hg j v h => fun hj => by obtain ⟨l, h1, h2⟩ := h hj; exact ⟨l, h1.gm hg.1 HLT.out, h2⟩⟩
 have HPQ : Aside0 (∀ i, (!(i == 4) && !(i == 5) && !(i == 7)) = true → ∀ v W, (PRc w2.heap.size [4, 7]) i v W) := ⟨fun i hq v W => fun hj => by simp only [List.mem_cons, List.not_mem_nil, or_false] at hj; rcases hj with rfl | rfl <;> exact absurd hq (by decide)⟩
 have HPJ : Aside0 (∀ v W, (PRc w2.heap.size [4, 7]) 5 v W) := ⟨fun v W => fun h => absurd h (by decide)⟩
 have HW34 : Aside0 (w3.heap.size ≤ w4.heap.size) := ⟨by have := blk_lt HK4.out; omega⟩
 refine wp_region_s 30 (fun i => !(i == 4) && !(i == 5) && !(i == 7)) (fun i => match i with | 0 => fun v => v = .agg #[.int .i64 a, .slice Az ys.length cz] | 1 => fun v => v = .slice At PL ct | 2 => fun v => v = .pointer (some ⟨w1.heap.size, 0, none⟩) | 3 => fun v => v = .agg #[.int .i64 a, .slice Az ys.length cz] | 6 => fun v => v = .slice At PL ct | _ => fun _ => True)
  (DI w1.heap.size w.heap.size 5 #[.int .i64 a, .slice Az ys.length cz] (PRc w2.heap.size [4, 7]) w4) [0, 0, 0, 0, 12, 29, 63, 127] hmx (by kernel_rfl) ?start ?stay ?steps ?rest
 case start =>
  intro b s hb
  exact HIS.out b s hb
 case stay =>
  intro i b s v w1_ hq hI
  exact hI.set (fun h => by subst h; exact absurd hq (by decide)) (HPQ.out i hq v w1_)
 case steps =>
  refine ⟨?_, ?_, ?_, ?_, ?_, ?_, ?_, ?_, trivial⟩
  ·intro s b_ w_ hI hbi hd hq R hR hN
   generalize hA : putAll _ 0 s _ = A
   clear hq
   have hk := hI.hold HKw.out (by have := HSZ3.out; have := HLT.out; omega) (by have := HSZ3.out; have := HLT.out; have := HZ1.out; omega)
   have k0 := blk_cell hk 0
   have k1 := blk_cell hk 1
   clear hk
   have hR' := hR rfl (.agg #[.int .i64 a, .slice Az ys.length cz]) rfl
   clear hR hN hd
   refine opGives_value ?_ hR'
   subst hA
   simp only [dsN, List.zipIdx_cons, List.zipIdx_nil, List.map_cons, List.map_nil, Option.getD_some, Option.getD_none, putAll, Act.put, List.setIfInBounds_toArray, List.set_cons_zero, List.set_cons_succ, List.set_nil, Nat.reduceAdd]
   go_simp
  ·intro s b_ w_ hI hbi hd hq R hR hN
   generalize hA : putAll _ 0 s _ = A
   clear hq
   have hR' := hR rfl (.slice At PL ct) rfl
   clear hR hN hd
   refine opGives_value ?_ hR'
   subst hA
   simp only [dsN, List.zipIdx_cons, List.zipIdx_nil, List.map_cons, List.map_nil, Option.getD_some, Option.getD_none, putAll, Act.put, List.setIfInBounds_toArray, List.set_cons_zero, List.set_cons_succ, List.set_nil, Nat.reduceAdd]
   go_simp
  ·intro s b_ w_ hI hbi hd hq R hR hN
   generalize hA : putAll _ 0 s _ = A
   clear hq
   have hR' := hR rfl (.pointer (some ⟨w1.heap.size, 0, none⟩)) rfl
   clear hR hN hd
   refine opGives_value ?_ hR'
   subst hA
   simp only [dsN, List.zipIdx_cons, List.zipIdx_nil, List.map_cons, List.map_nil, Option.getD_some, Option.getD_none, putAll, Act.put, List.setIfInBounds_toArray, List.set_cons_zero, List.set_cons_succ, List.set_nil, Nat.reduceAdd]
   go_simp
  ·intro s b_ w_ hI hbi hd hq R hR hN
   generalize hA : putAll _ 0 s _ = A
   clear hq
   have hk := hI.hold HKw.out (by have := HSZ3.out; have := HLT.out; omega) (by have := HSZ3.out; have := HLT.out; have := HZ1.out; omega)
   have k0 := blk_cell hk 0
   have k1 := blk_cell hk 1
   clear hk
   have hR' := hR rfl (.agg #[.int .i64 a, .slice Az ys.length cz]) rfl
   clear hR hN hd
   refine opGives_value ?_ hR'
   subst hA
   simp only [dsN, List.zipIdx_cons, List.zipIdx_nil, List.map_cons, List.map_nil, Option.getD_some, Option.getD_none, putAll, Act.put, List.setIfInBounds_toArray, List.set_cons_zero, List.set_cons_succ, List.set_nil, Nat.reduceAdd]
   go_simp
  ·intro s b_ w_ hI hbi hd hq R hR hN
   generalize hA : putAll _ 0 s _ = A
   clear hq
   have e2 : s 2 = _ := (hd 2 (by kernel_rfl)).2 rfl
   have e3 : s 3 = _ := (hd 3 (by kernel_rfl)).2 rfl
   clear hR
   refine opGives_call (f := 286) (args := #[.pointer (some ⟨w1.heap.size, 0, none⟩), .agg #[.int .i64 a, .slice Az ys.length cz]]) ?_ ?_
   ·subst hA
    clear hN hd
    simp only [dsN, List.zipIdx_cons, List.zipIdx_nil, List.map_cons, List.map_nil, Option.getD_some, Option.getD_none, putAll, Act.put, List.setIfInBounds_toArray, List.set_cons_zero, List.set_cons_succ, List.set_nil, Nat.reduceAdd]
    go_simp
   clear hA A hd
   have hz9 := Nat.le_trans (Nat.le_trans HSZ3.out HW34.out) hI.size
   refine (drawChain w1.heap.size w2.heap.size a _ ys w_ hI.src (hI.own HO4.out HLT.out (by have := HZ1.out; omega)) HLT.out hz9 HR.out).mono ?_
   rintro e w5_ ⟨v_, l_, rfl, ho, hl, hd⟩
   exact ⟨_, rfl, hN rfl _ _ ((hI.dw hd (by have := HZ1.out; omega) (HSD.out hd)).set (by decide) (fun _ => ⟨l_, ho.lower hz9, hl⟩))⟩
  ·intro s b_ w_ hI hbi hd hq
   clear hq
   have e0 : s 0 = _ := (hd 0 (by kernel_rfl)).2 rfl
   have hk := hI.c0 hbi
   have c00 : w_.cell? ⟨w.heap.size, 0, none⟩ = some (.int .i64 0) := blk_cell hk 0
   have c01 : w_.cell? ⟨w.heap.size, 1, none⟩ = some (.slice none 0 0) := blk_cell hk 1
   have f00 : w_.frozen? ⟨w.heap.size, 0, none⟩ = false := blk_frozen hk 0
   have f01 : w_.frozen? ⟨w.heap.size, 1, none⟩ = false := blk_frozen hk 1
   clear hk
   refine ⟨(w_.setCell ⟨w.heap.size, 0, none⟩ (.int .i64 a)).setCell ⟨w.heap.size, 1, none⟩ (.slice Az ys.length cz), ?_, ?_⟩
   ·clear hd
    simp only [dsN, List.zipIdx_cons, List.zipIdx_nil, List.map_cons, List.map_nil, Option.getD_some, Option.getD_none, putAll, Act.put, List.setIfInBounds_toArray, List.set_cons_zero, List.set_cons_succ, List.set_nil, Nat.reduceAdd]
    go_simp
   ·exact hI.put hbi (by have := HZ1.out; omega) (HPJ.out _ _) (fun _ hg => HST.out hg)
  ·intro s b_ w_ hI hbi hd hq R hR hN
   generalize hA : putAll _ 0 s _ = A
   clear hq
   have e1 : s 1 = _ := (hd 1 (by kernel_rfl)).2 rfl
   have hR' := hR rfl (.slice At PL ct) rfl
   clear hR hN hd
   refine opGives_value ?_ hR'
   subst hA
   simp only [dsN, List.zipIdx_cons, List.zipIdx_nil, List.map_cons, List.map_nil, Option.getD_some, Option.getD_none, putAll, Act.put, List.setIfInBounds_toArray, List.set_cons_zero, List.set_cons_succ, List.set_nil, Nat.reduceAdd]
   go_simp
  ·intro s b_ w_ hI hbi hd hq R hR hN
   generalize hA : putAll _ 0 s _ = A
   clear hq
   have b4 : b_ 4 = true := (hd 4 (by kernel_rfl)).1
   clear hR
   have hN' := hN rfl (s 4) _ (hI.set (by decide) (fun _ => hI.val 4 b4 (by decide)))
   clear hN hd
   refine opGives_value ?_ hN'
   subst hA
   simp only [dsN, List.zipIdx_cons, List.zipIdx_nil, List.map_cons, List.map_nil, Option.getD_some, Option.getD_none, putAll, Act.put, List.setIfInBounds_toArray, List.set_cons_zero, List.set_cons_succ, List.set_nil, Nat.reduceAdd]
   go_simp
 case rest =>
  intro s9 b_ w9 hI hb hv
  have e6_ : s9 6 = _ := hv 6 _ rfl (fun h => by cases h) rfl
  simp only [dsN, List.zipIdx_cons, List.zipIdx_nil, List.map_cons, List.map_nil, Option.getD_some, Option.getD_none, putAll, Act.put, List.setIfInBounds_toArray, List.set_cons_zero, List.set_cons_succ, List.set_nil, Nat.reduceAdd]
  rw [e6_]
  clear hv e6_
  have HB9 := Aside0.mk hI.bel
  have HK9 : Aside0 (w9.heap[w.heap.size]? = some (.cells #[.int .i64 a, .slice Az ys.length cz] 26)) := ⟨by have h := hI.blk; rw [hb 5 (by decide)] at h; exact h⟩
  have HO9 := Aside0.mk (hI.own HO4.out HLT.out (by have := HZ1.out; omega))
  have HT9 := Aside0.mk (hI.ownP HT4.out HLT.out (by have := HZ1.out; omega))
  obtain ⟨l7, hl7⟩ : ∃ l, OwnI w2.heap.size w9 (s9 7) l ∧ l.length ≤ 70 := hI.val 7 (hb 7 (by decide)) (by decide)
  have HL7 := Aside0.mk hl7
  clear hb hI hl7
  go_wp2
  refine bodyPost_ret (results_ctt rfl _ _ w.heap.size 26 #[.int .i64 a, .slice Az ys.length cz] (0, 0) _ rfl HK9.out Tryz.underlying26 rfl (by kernel_rfl)) rfl ?_
  have hlt := HLT.out
  have hz := HZ1.out
  exact ⟨a, _, _, _, ys, ps, l7, rfl, HO9.out.lower (by omega), HT9.out.lower (by omega), HL7.out.1.lower (by omega), HR.out, HTL.out, HL7.out.2, HB1.out.trans ((HB4.out.mono (by omega)).trans HB9.out)⟩
set_option maxRecDepth 100000 in
set_option maxHeartbeats 4000000 in
theorem drawFlowOf (v : Value) (nb : Nat) (w : World) (hn : nb ≤ 4096) (hv : ReadY w v nb) :
  Calls Tryz.prog 36 #[v] w (ChDraw w) := by
 obtain ⟨w1, hw1⟩ : ∃ w1, w1 = w.alloc C0 := ⟨_, rfl⟩
 have hb1 : Below w.heap.size w w1 := by rw [hw1]; exact Below.alloc (Below.refl _ _) (Nat.le_refl _) _
 have HZ1 : Aside0 (w1.heap.size = w.heap.size + 1) := ⟨by rw [hw1]; simp⟩
 have HK1 : Aside0 (w1.heap[w.heap.size]? = some C0) := ⟨by rw [hw1]; exact blk_new w _⟩
 have HB1 := Aside0.mk hb1
 have HFR := Aside0.mk (drawFlow v nb w1 hn (hv.below hb1))
 clear hv hb1
 go_enter Tryz.func36, Tryz.ntmps36
 go_wp2_with (first | (go_at_call 162; go_must (rw [← hw1]; clear hw1; refine HFR.out.mono ?_; rintro e w2 ⟨a, z, tv, cv, ys, ps, l, rfl, ho, ht, hc, hr, hpl, hll, hb⟩; obtain ⟨Az, cz, rfl, -⟩ := id ho.read; have HO2 := Aside0.mk ho; have HT2 := Aside0.mk ht; have HC2 := Aside0.mk hc; have HR2 := Aside0.mk hr; have HPL2 := Aside0.mk hpl; have HB2 := Aside0.mk hb; have HLL2 := Aside0.mk hll; have HK2 : Aside0 (w2.heap[w.heap.size]? = some C0) := (⟨by rw [hb.block _ (by have := HZ1.out; omega)]; exact HK1.out⟩); clear ho ht hc; have hk := HK2.out; have c00 : w2.cell? ⟨w.heap.size, 0, none⟩ = some (.int .i64 0) := blk_cell hk 0; have c01 : w2.cell? ⟨w.heap.size, 1, none⟩ = some (.slice none 0 0) := blk_cell hk 1; have f00 : w2.frozen? ⟨w.heap.size, 0, none⟩ = false := blk_frozen hk 0; have f01 : w2.frozen? ⟨w.heap.size, 1, none⟩ = false := blk_frozen hk 1; clear hk)))
 refine bodyPost_ret (results_ctt rfl _ _ w.heap.size 26 #[.int .i64 a, .slice Az ys.length cz] (0, 0) _ rfl (by refine blk_put (cs := #[.int .i64 a, .slice none 0 0]) ?_ 1 _ rfl; refine blk_put (cs := #[.int .i64 0, .slice none 0 0]) ?_ 0 _ rfl; exact HK2.out) Tryz.underlying26 rfl (by kernel_rfl)) rfl ?_
 have hg : World.grownBy w2 ((w2.setCell ⟨w.heap.size, 0, none⟩ (.int .i64 a)).setCell ⟨w.heap.size, 1, none⟩ (.slice Az ys.length cz)) (some w.heap.size) := grown_trans (set_grown' _ w.heap.size _ _) (set_grown' _ w.heap.size _ _)
 have hz := HZ1.out
 have hbz : Below w.heap.size w ((w2.setCell ⟨w.heap.size, 0, none⟩ (.int .i64 a)).setCell ⟨w.heap.size, 1, none⟩ (.slice Az ys.length cz)) := (HB1.out.trans (HB2.out.mono HB1.out.size)).trans (below_grown hg (Nat.le_refl _) (Nat.le_of_lt (blk_lt HK2.out)))
 exact ⟨a, _, _, _, ys, ps, l, rfl, (HO2.out.gm hg (by omega)).lower (by omega), (HT2.out.gm hg (by omega)).lower (by omega), (HC2.out.gm hg (by omega)).lower (by omega), HR2.out, HPL2.out, HLL2.out, hbz⟩
set_option maxRecDepth 100000 in
set_option maxHeartbeats 4000000 in
theorem drawIsChain (v : Value) (nb : Nat) (w : World) (hn : nb ≤ 4096) (hv : ReadY w v nb) :
  Calls Tryz.prog 41 #[v] w (fun e w' => ∃ (a : Int) (u cv : Value) (ys l : List Int), e = .returned (.tuple #[.agg #[.int .i64 a, u], cv]) ∧ OwnI w.heap.size w' u ys ∧ OwnI w.heap.size w' cv l ∧ Rc a ys ∧ l.length ≤ 70 ∧ Below w.heap.size w w') := by
 obtain ⟨w1, hw1⟩ : ∃ w1, w1 = w.alloc C0 := ⟨_, rfl⟩
 have hb1 : Below w.heap.size w w1 := by rw [hw1]; exact Below.alloc (Below.refl _ _) (Nat.le_refl _) _
 have HZ1 : Aside0 (w1.heap.size = w.heap.size + 1) := ⟨by rw [hw1]; simp⟩
 have HK1 : Aside0 (w1.heap[w.heap.size]? = some C0) := ⟨by rw [hw1]; exact blk_new w _⟩
 have HB1 := Aside0.mk hb1
 have HFR := Aside0.mk (drawFlow v nb w1 hn (hv.below hb1))
 clear hv hb1
 go_enter Tryz.func41, Tryz.ntmps41
 go_upto_region 1 with (fail)
 go_upto_region 2 with (first | (go_at_call 162; rw [← hw1]; clear hw1; refine HFR.out.mono ?_; rintro e w2 ⟨a, z, tv, cv, ys, ps, l, rfl, ho, ht, hc, hr, hpl, hll, hb⟩; obtain ⟨Az, cz, rfl, -⟩ := id ho.read; have HOb := Aside0.mk ho; have HTb := Aside0.mk ht; have HCb := Aside0.mk hc; have HRb := Aside0.mk hr; have HPLb := Aside0.mk hpl; have HBb := Aside0.mk hb; have HLLb := Aside0.mk hll; have HK1b : Aside0 (w2.heap[w.heap.size]? = some C0) := (⟨by rw [hb.block _ (by have := HZ1.out; omega)]; exact HK1.out⟩); clear ho ht hc hb))
 obtain ⟨w3, hw3⟩ : ∃ w3, w3 = w2.alloc (.cells #[.int .i64 a, .slice Az ys.length cz] 26) := ⟨_, rfl⟩
 rw [← hw3]
 have hb3 : Below w2.heap.size w2 w3 := by rw [hw3]; exact Below.alloc (Below.refl _ _) (Nat.le_refl _) _
 have hk3 : w3.heap[w2.heap.size]? = some (.cells #[.int .i64 a, .slice Az ys.length cz] 26) := by rw [hw3]; exact heap_alloc_new w2 _
 clear hw3
 have d30 : w3.cell? ⟨w2.heap.size, 0, none⟩ = some (.int .i64 a) := blk_cell hk3 0
 have d31 : w3.cell? ⟨w2.heap.size, 1, none⟩ = some (.slice Az ys.length cz) := blk_cell hk3 1
 have HK2 : Aside0 (w3.heap[w.heap.size]? = some C0) := ⟨by rw [hb3.block _ (blk_lt HK1b.out)]; exact HK1b.out⟩
 have HB2 : Aside0 (Below w1.heap.size w1 w3) := ⟨HBb.out.trans (hb3.mono HBb.out.size)⟩
 have HO2 := Aside0.mk (HOb.out.below hb3)
 have HT2 := Aside0.mk (HTb.out.below hb3)
 have HC2 := Aside0.mk (HCb.out.below hb3)
 clear hk3 hb3
 have hk := HK2.out
 have c00 : w3.cell? ⟨w.heap.size, 0, none⟩ = some (.int .i64 0) := blk_cell hk 0
 have c01 : w3.cell? ⟨w.heap.size, 1, none⟩ = some (.slice none 0 0) := blk_cell hk 1
 have f00 : w3.frozen? ⟨w.heap.size, 0, none⟩ = false := blk_frozen hk 0
 have f01 : w3.frozen? ⟨w.heap.size, 1, none⟩ = false := blk_frozen hk 1
 clear hk
 go_wp2
 refine bodyPost_ret (results_ct rfl _ _ w.heap.size 26 #[.int .i64 a, .slice Az ys.length cz] (0, 0) _ rfl (by refine blk_put (cs := #[.int .i64 a, .slice none 0 0]) ?_ 1 _ rfl; refine blk_put (cs := #[.int .i64 0, .slice none 0 0]) ?_ 0 _ rfl; exact HK2.out) Tryz.underlying26 rfl (by kernel_rfl)) rfl ?_
 have hg : World.grownBy w3 ((w3.setCell ⟨w.heap.size, 0, none⟩ (.int .i64 a)).setCell ⟨w.heap.size, 1, none⟩ (.slice Az ys.length cz)) (some w.heap.size) := grown_trans (set_grown' _ w.heap.size _ _) (set_grown' _ w.heap.size _ _)
 have hz := HZ1.out
 have hbz : Below w.heap.size w ((w3.setCell ⟨w.heap.size, 0, none⟩ (.int .i64 a)).setCell ⟨w.heap.size, 1, none⟩ (.slice Az ys.length cz)) := (HB1.out.trans (HB2.out.mono HB1.out.size)).trans (below_grown hg (Nat.le_refl _) (Nat.le_of_lt (blk_lt HK2.out)))
 exact ⟨a, _, _, ys, l, rfl, (HO2.out.gm hg (by omega)).lower (by omega), (HC2.out.gm hg (by omega)).lower (by omega), HRb.out, HLLb.out, hbz⟩
end Go.Proofs.YtomofijniefelaaGreat.H
