/- those: the complex of the sets that are as told. part: the complex of the faces that are as told. FixedFaces of the program and of the reference. OpenFibre of the program and of the reference. Pairings by fibres: the plain law. A region of open order whose calls turn memory in a way that is told by a relation. Pairs in order, told with what was drawn. Rows of pairs that a sort has turned. -/
import Derived.Shelf.GgSortFunc.InsertionK
import Derived.Test.YtcbkchnfjeegmaaKFnExactPairingByFibres1
import Derived.Test.YtcbkchnfjeegmaaKFnExactPairingByFibres2
import Derived.Test.YtcbkchnfjeegmaaKFnExactPairingByFibres3
import Derived.Test.YtcbkchnfjeegmaaKFnExactPairingByFibres4

namespace Go.Proofs.Ytcbkchnfjeegmaa.H
open Go.RowKit Go.Proofs.YtcbkchnfjeegmaaW.PrintWords Go.Proofs.YtcbkchnfjeegmaaW.PrintLast Go.Proofs.YtcbkchnfjeegmaaW.PrintMore
set_option linter.unusedVariables false
set_option linter.unusedSimpArgs false

/-- those of 1 .. k - 1 that are as told -/
def thL (p : Int → Bool) (k : Nat) : List Int := (List.range k).filterMap fun (f : Nat) => if decide (1 ≤ f) && p (f : Int) then some (f : Int) else none
theorem thL_hit {p : Int → Bool} {k : Nat} (h1 : 1 ≤ k) (h : p k = true) : thL p (k + 1) = thL p k ++ [(k : Int)] := by
  unfold thL
  rw [List.range_succ, List.filterMap_append]
  simp [h, h1]
theorem thL_miss {p : Int → Bool} {k : Nat} (h : p k = false) : thL p (k + 1) = thL p k := by
  unfold thL
  rw [List.range_succ, List.filterMap_append]
  simp [h]
theorem thL_len (p : Int → Bool) (k : Nat) : (thL p k).length ≤ k := by
  unfold thL
  exact Nat.le_trans (List.length_filterMap_le _ _) (by simp)
theorem thL_one (p : Int → Bool) : thL p 1 = [] := by simp [thL]
theorem set_grown' (w : World) (b i : Nat) (v : Value) : w.grownBy (w.setCell ⟨b, i, none⟩ v) (some b) :=
  ⟨rfl, rfl, rfl, by simp, fun k _ hne => Below.heap_setCell w ⟨b, i, none⟩ v k (fun e => hne (by rw [e]))⟩

set_option maxHeartbeats 2000000 in
theorem those (n : Nat) (hn : n ≤ 6) (fv : Value) (p : Int → Bool) (w : World) (hp : PredI w fv p (fun f => 1 ≤ f ∧ f < ((2 ^ n : Nat) : Int))) :
    Calls Try.prog 185 #[.int .i64 n, fv] w fun e w' => ∃ u, e = .returned (.agg #[.int .i64 n, u]) ∧ OwnI w.heap.size w' u (thL p (2 ^ n)) ∧ Below w.heap.size w w' := by
  obtain ⟨g, first, caps, rfl, hent, hp⟩ := hp
  have HP := Aside0.mk hp
  unfold Enters at hent
  have hsh := pow_wrap n (by omega)
  have hb64 : 1 ≤ 2 ^ n ∧ 2 ^ n ≤ 64 := by
    rcases (by omega : n = 0 ∨ n = 1 ∨ n = 2 ∨ n = 3 ∨ n = 4 ∨ n = 5 ∨ n = 6) with rfl | rfl | rfl | rfl | rfl | rfl | rfl <;> decide
  obtain ⟨N, hN⟩ : ∃ N : Nat, N = 2 ^ n := ⟨_, rfl⟩
  rw [← hN] at hsh hb64 HP ⊢
  clear hp hN
  obtain ⟨w0, hw0⟩ : ∃ w0, w0 = (w.alloc (Obj.cells #[Value.int IntKind.i64 0, Value.slice none 0 0] 28)).alloc (Obj.cells #[Value.int IntKind.i64 n, Value.slice none 0 0] 28) := ⟨_, rfl⟩
  have hs0 : w0.heap.size = w.heap.size + 1 + 1 := by rw [hw0]; simp
  have hb1 : w0.heap[w.heap.size]? = some (Obj.cells #[Value.int IntKind.i64 0, Value.slice none 0 0] 28) := by
    rw [hw0]; exact blk_alloc (blk_new w _) _
  have hb2 : w0.heap[w.heap.size + 1]? = some (Obj.cells #[Value.int IntKind.i64 n, Value.slice none 0 0] 28) := by
    rw [hw0]
    have := blk_new (w.alloc (Obj.cells #[Value.int IntKind.i64 0, Value.slice none 0 0] 28)) (Obj.cells #[Value.int IntKind.i64 n, Value.slice none 0 0] 28)
    rwa [World.size_alloc] at this
  have hB0 : Below w.heap.size w w0 := by rw [hw0]; exact ((Below.refl _ w).alloc (Nat.le_refl _) _).alloc (by simp) _
  have HB0 := Aside0.mk hB0
  have HK1 := Aside0.mk hb1
  have HK2 := Aside0.mk hb2
  have HS0 := Aside0.mk hs0
  clear hB0 hb1 hb2 hs0
  go_enter Try.func185, Try.ntmps185
  go_wp2
  rw [← hw0]
  clear hw0
  go_loopw [6] (fun s wr => ∃ k : Nat, s = .int .i64 k ∧ 1 ≤ k ∧ k ≤ N ∧ (∃ v, Aside0 (wr.heap[w.heap.size + 1]? = some (Obj.cells #[.int .i64 n, v] 28)) ∧ Aside0 (OwnI w0.heap.size wr v (thL p k))) ∧ Aside0 (wr.heap[w.heap.size]? = some (Obj.cells #[.int .i64 0, .slice none 0 0] 28)) ∧ Aside0 (Below w.heap.size w wr)) (fun s _ => N - (intOf s).toNat)
  case atStart => exact ⟨1, rfl, by omega, hb64.1, ⟨_, HK2, ⟨by rw [thL_one]; exact OwnI.nil _ _⟩⟩, HK1, HB0⟩
  case round =>
    obtain ⟨k, rfl, hk1, hkN, ⟨v, HKb, HO⟩, HKa, HB⟩ := hrel
    obtain ⟨Av, cv, rfl, -⟩ := HO.out.read
    by_cases hlt : k < N
    · have hdom : 1 ≤ (k : Int) ∧ (k : Int) < N := by omega
      have HD := Aside0.mk hdom
      have hll := thL_len p k
      clear hdom
      cases hpk : p k with
      | true =>
        have HH := Aside0.mk (thL_hit hk1 hpk)
        go_wp2_with (first | (refine (HP.out _ _ HB.out HD.out).mono ?_; rintro e w5 ⟨rfl, hb⟩; have HKb5 := Aside0.mk (blk_below HKb.out hb); have HKa5 := Aside0.mk (blk_below HKa.out hb); have HO5 := Aside0.mk (OwnI.below HO.out hb); have HB5 := Aside0.mk (HB.out.trans (hb.mono HB.out.size)); have c51 : w5.cell? ⟨w.heap.size + 1, 1, none⟩ = some (.slice Av (thL p k).length cv) := blk_cell HKb5.out 1; have hz5 : w0.heap.size ≤ w5.heap.size := (by have := HS0.out; have := blk_lt HKb5.out; omega); clear hb) | (at_builtin; refine app_own (w0 := w5) w0.heap.size rfl (.tmp 19) (.tmp 21) rfl _ (thL p k) k rfl rfl HO5.out (Below.refl _ _) hz5 ?hl ?_; (case hl => omega); intro v1 w6 ho hb2 hg hat; have hne : some (w.heap.size + 1) ≠ (Value.slice Av (thL p k).length cv).ownBlock := (fun e => by have := HO5.out.base _ e.symm; have := HS0.out; omega); have hne2 : some w.heap.size ≠ (Value.slice Av (thL p k).length cv).ownBlock := (fun e => by have := HO5.out.base _ e.symm; have := HS0.out; omega); have HKb6 := Aside0.mk ((hg.block _ (blk_lt HKb5.out) hne).trans HKb5.out); have HKa6 := Aside0.mk ((hg.block _ (blk_lt HKa5.out) hne2).trans HKa5.out); have HO6 := Aside0.mk ho; have HB6 := Aside0.mk (HB5.out.trans (hb2.mono (by have := HS0.out; omega))); have c61 : w6.cell? ⟨w.heap.size + 1, 1, none⟩ = some (.slice Av (thL p k).length cv) := blk_cell HKb6.out 1; have f61 : w6.frozen? ⟨w.heap.size + 1, 1, none⟩ = false := blk_frozen HKb6.out 1; obtain ⟨A6, d6, rfl, -⟩ := ho.read; clear ho hb2 hg hat hne hne2))
        go_roundw
        case rel =>
          refine ⟨k + 1, by go_num, by omega, by omega, ⟨_, ⟨blk_put HKb6.out 1 _ rfl⟩, ⟨?_⟩⟩, ⟨blk_far HKa6.out (by simp) _⟩, ⟨HB6.out.setCell (by simp) _⟩⟩
          rw [HH.out]
          have h6 := HO6.out
          rw [List.length_append, List.length_singleton] at h6
          exact h6.grown (set_grown' _ (w.heap.size + 1) _ _) (fun j hj e => by have := h6.base _ hj; have := HS0.out; cases e; omega)
        case measure => simp [intOf]; omega
      | false =>
        have HH := Aside0.mk (thL_miss hpk)
        go_wp2_with (first | (refine (HP.out _ _ HB.out HD.out).mono ?_; rintro e w5 ⟨rfl, hb⟩))
        go_roundw
        case rel => exact ⟨k + 1, by go_num, by omega, by omega, ⟨_, ⟨blk_below HKb.out hb⟩, ⟨by rw [HH.out]; exact OwnI.below HO.out hb⟩⟩, ⟨blk_below HKa.out hb⟩, ⟨HB.out.trans (hb.mono HB.out.size)⟩⟩
        case measure => simp [intOf]; omega
    · have e : k = N := by omega
      have HE := Aside0.mk e
      have c10 : wr.cell? ⟨w.heap.size + 1, 0, none⟩ = some (.int .i64 n) := blk_cell HKb.out 0
      have c11 : wr.cell? ⟨w.heap.size + 1, 1, none⟩ = some (.slice Av (thL p k).length cv) := blk_cell HKb.out 1
      have c00 : wr.cell? ⟨w.heap.size, 0, none⟩ = some (.int .i64 0) := blk_cell HKa.out 0
      have c01 : wr.cell? ⟨w.heap.size, 1, none⟩ = some (.slice none 0 0) := blk_cell HKa.out 1
      have f00 : wr.frozen? ⟨w.heap.size, 0, none⟩ = false := blk_frozen HKa.out 0
      have f01 : wr.frozen? ⟨w.heap.size, 1, none⟩ = false := blk_frozen HKa.out 1
      clear e
      go_wp2
      refine bodyPost_ret (results_cell_row rfl _ _ w.heap.size 28 #[.int .i64 n, .slice Av (thL p k).length cv] (0, 0) _ rfl (by refine blk_put (cs := #[.int .i64 n, .slice none 0 0]) ?_ 1 _ rfl; refine blk_put (cs := #[.int .i64 0, .slice none 0 0]) ?_ 0 _ rfl; exact HKa.out) Try.underlying28 rfl (by kernel_rfl)) rfl ?_
      refine ⟨_, rfl, ?_, (HB.out.setCell (by simp) _).setCell (by simp) _⟩
      rw [← HE.out]
      have hn := HO.out.base
      have hs := HS0.out
      have ho := HO.out.lower (b' := w.heap.size) (by omega)
      exact (ho.grown (set_grown' _ w.heap.size _ _) (fun j hj e => by have := hn _ hj; cases e; omega)).grown (set_grown' _ w.heap.size _ _) (fun j hj e => by have := hn _ hj; cases e; omega)
end Go.Proofs.Ytcbkchnfjeegmaa.H

namespace Go.Proofs.Ytcbkchnfjeegmaa.H
open Go.RowKit Go.Proofs.YtcbkchnfjeegmaaW.PrintWords Go.Proofs.YtcbkchnfjeegmaaW.PrintLast Go.Proofs.YtcbkchnfjeegmaaW.PrintMore
set_option linter.unusedVariables false
set_option linter.unusedSimpArgs false

/-- two ascending lists of the same numbers -/
theorem asc_ext : ∀ {l l' : List Int}, l.Pairwise (· < ·) → l'.Pairwise (· < ·) → (∀ x, x ∈ l ↔ x ∈ l') → l = l'
  | [], [], _, _, _ => rfl
  | [], b :: l', _, _, h => by have := (h b).2 List.mem_cons_self; cases this
  | a :: l, [], _, _, h => by have := (h a).1 List.mem_cons_self; cases this
  | a :: l, b :: l', h1, h2, h => by
    rw [List.pairwise_cons] at h1 h2
    have hab : a = b := by
      have e1 := (h a).1 List.mem_cons_self
      have e2 := (h b).2 List.mem_cons_self
      rcases List.mem_cons.1 e1 with e1 | e1
      · exact e1
      · rcases List.mem_cons.1 e2 with e2 | e2
        · exact e2.symm
        · have := h2.1 a e1; have := h1.1 b e2; omega
    subst hab
    rw [asc_ext h1.2 h2.2 (fun x => ?_)]
    constructor
    · intro hx
      have h3 := h1.1 x hx
      rcases List.mem_cons.1 ((h x).1 (List.mem_cons_of_mem _ hx)) with e | e
      · omega
      · exact e
    · intro hx
      have h3 := h2.1 x hx
      rcases List.mem_cons.1 ((h x).2 (List.mem_cons_of_mem _ hx)) with e | e
      · omega
      · exact e
theorem thL_mem {p : Int → Bool} {k : Nat} {x : Int} : x ∈ thL p k ↔ ∃ q : Nat, x = q ∧ 1 ≤ q ∧ q < k ∧ p q = true := by
  unfold thL
  rw [List.mem_filterMap]
  constructor
  · rintro ⟨q, hq, h⟩
    rw [List.mem_range] at hq
    split at h
    · next h1 =>
      simp only [Bool.and_eq_true, decide_eq_true_eq] at h1
      exact ⟨q, by cases h; rfl, h1.1, hq, h1.2⟩
    · cases h
  · rintro ⟨q, rfl, h1, h2, h3⟩
    exact ⟨q, List.mem_range.2 h2, by simp [h1, h3]⟩
theorem thL_asc (p : Int → Bool) (k : Nat) : (thL p k).Pairwise (· < ·) := by
  induction k with
  | zero => simp [thL]
  | succ k ih =>
    cases hp : p k with
    | false => rw [thL_miss hp]; exact ih
    | true =>
      by_cases h1 : 1 ≤ k
      · rw [thL_hit h1 hp, List.pairwise_append]
        refine ⟨ih, by simp, fun x hx y hy => ?_⟩
        obtain ⟨q, rfl, _, hq, _⟩ := thL_mem.1 hx
        simp at hy
        omega
      · obtain rfl : k = 0 := by omega
        rw [thL_one]
        exact List.Pairwise.nil
theorem thL_filter {n : Nat} {xs : List Int} (hc : Cx n xs) (p : Int → Bool) : thL (fun f => decide (f ∈ xs) && p f) (2 ^ n) = xs.filter p := by
  refine asc_ext (thL_asc _ _) (hc.asc.sublist List.filter_sublist) (fun x => ?_)
  rw [thL_mem, List.mem_filter]
  constructor
  · rintro ⟨q, rfl, _, _, h⟩
    simpa using h
  · rintro ⟨hx, hp⟩
    have hb := hc.bd x hx
    have := pw6 hc.hi
    refine ⟨x.toNat, by omega, by omega, by omega, ?_⟩
    have e : ((x.toNat : Nat) : Int) = x := by omega
    rw [e]
    simp [hx, hp]

set_option maxHeartbeats 1000000 in
theorem part1 (w : World) (bk bi : Nat) (n : Nat) (ku : Value) (xs : List Int) (fv : Value) (p : Int → Bool) (hk : ReadI w ku xs) (hc : Cx n xs) (hp : PredI w fv p (fun f => f ∈ xs)) (h0 : w.cell? ⟨bk, 0, none⟩ = some (.int .i64 n)) (h1 : w.cell? ⟨bk, 1, none⟩ = some ku) (h2 : w.cell? ⟨bi, 0, none⟩ = some fv) :
    PredI w (.func (.func 186) #[] #[.pointer (some ⟨bk, 0, none⟩), .pointer (some ⟨bi, 0, none⟩)]) (fun f => decide (f ∈ xs) && p f) (fun f => 1 ≤ f ∧ f < ((2 ^ n : Nat) : Int)) := by
  refine ⟨_, _, _, rfl, Enters.mk' Try.func186 rfl rfl, fun w1 x hb hx => ?_⟩
  obtain ⟨g, first, caps, rfl, hent, hp⟩ := hp
  unfold Enters at hent
  have c0 := pw_cell_below hb h0
  have c1 := pw_cell_below hb h1
  have c2 := pw_cell_below hb h2
  have HK := Aside0.mk (hk.below hb)
  have HC := Aside0.mk hc
  have HB := Aside0.mk hb
  have HP := Aside0.mk hp
  obtain ⟨A1, d1, rfl, -⟩ := id hk
  have hlen := hc.len
  clear hb h0 h1 h2 hx hk hc hp
  show Calls _ _ #[_, _, _] _ _
  by_cases hm : x ∈ xs
  · have hmd : decide (x ∈ xs) = true := decide_eq_true hm
    have HM := Aside0.mk hm
    clear hm
    go_enter Try.func186, Try.ntmps186
    go_wp2_with (first | (go_at_call 119; refine (has n _ xs x _ HK.out HC.out.asc (by omega)).mono ?_; rintro e w2 ⟨rfl, hb2⟩; rw [hmd]; have c2 := pw_cell_below hb2 c2; have HB2 := Aside0.mk hb2; clear hb2) | (refine (HP.out _ _ (HB.out.trans (HB2.out.mono HB.out.size)) HM.out).mono ?_; rintro e w3 ⟨rfl, hb3⟩))
    go_ret
    exact ⟨by rw [hmd]; rfl, by have := HB2.out; (repeat (first | (with_reducible exact Below.refl _ _) | (with_reducible assumption) | (with_reducible refine below_step ?_ (by assumption)) | (with_reducible apply below_alloc) | (with_reducible apply below_drewN)))⟩
  · have hmd : decide (x ∈ xs) = false := decide_eq_false hm
    clear hm
    go_enter Try.func186, Try.ntmps186
    go_wp2_with (first | (go_at_call 119; refine (has n _ xs x _ HK.out HC.out.asc (by omega)).mono ?_; rintro e w2 ⟨rfl, hb2⟩; rw [hmd]; have c2 := pw_cell_below hb2 c2; have HB2 := Aside0.mk hb2; clear hb2))
    go_ret
    exact ⟨by rw [hmd]; rfl, by have := HB2.out; (repeat (first | (with_reducible exact Below.refl _ _) | (with_reducible assumption) | (with_reducible refine below_step ?_ (by assumption)) | (with_reducible apply below_alloc) | (with_reducible apply below_drewN)))⟩

set_option maxHeartbeats 1000000 in
theorem part (n : Nat) (ku : Value) (xs : List Int) (fv : Value) (p : Int → Bool) (w : World) (hk : ReadI w ku xs) (hc : Cx n xs) (hp : PredI w fv p (fun f => f ∈ xs)) :
    Calls Try.prog 148 #[cx n ku, fv] w fun e w' => ∃ u, e = .returned (.agg #[.int .i64 n, u]) ∧ OwnI w.heap.size w' u (xs.filter p) ∧ Below w.heap.size w w' := by
  obtain ⟨wa, hwa⟩ : ∃ wa, wa = (w.alloc (.cells #[.int .i64 n, ku] 28)).alloc (.cells #[fv] 118) := ⟨_, rfl⟩
  obtain ⟨w0, hw0⟩ : ∃ w0, w0 = wa.alloc (.cells #[.int .i64 0, .slice none 0 0] 28) := ⟨_, rfl⟩
  have hsa : wa.heap.size = w.heap.size + 1 + 1 := by rw [hwa]; simp
  have hBa : Below w.heap.size w wa := by rw [hwa]; exact ((Below.refl _ w).alloc (Nat.le_refl _) _).alloc (by simp) _
  have hB0 : Below wa.heap.size wa w0 := by rw [hw0]; exact Below.alloc (Below.refl _ _) (Nat.le_refl _) _
  have hs0 : w0.heap.size = w.heap.size + 1 + 1 + 1 := by rw [hw0]; simp [hsa]
  have hB : Below w.heap.size w w0 := hBa.trans (hB0.mono hBa.size)
  have c0 : w0.cell? ⟨w.heap.size, 0, none⟩ = some (.int .i64 n) := pw_cell_below hB0 (by rw [hwa]; simp)
  have c1 : w0.cell? ⟨w.heap.size, 1, none⟩ = some ku := pw_cell_below hB0 (by rw [hwa]; simp)
  have c2 : w0.cell? ⟨w.heap.size + 1, 0, none⟩ = some fv := pw_cell_below hB0 (by rw [hwa]; simp)
  have hb : w0.heap[w.heap.size + 1 + 1]? = some (.cells #[.int .i64 0, .slice none 0 0] 28) := by rw [hw0, ← hsa]; exact blk_new _ _
  have HP := Aside0.mk (part1 w0 _ _ n ku xs fv p (hk.below hB) hc (hp.below hB) c0 c1 c2)
  have HF := Aside0.mk (thL_filter hc p)
  have HB := Aside0.mk hB
  have HK := Aside0.mk hb
  have HS := Aside0.mk hs0
  have hn := hc.hi
  obtain ⟨A1, d1, rfl, -⟩ := id hk
  obtain ⟨g, first, caps, rfl, -⟩ := id hp
  have c0a : wa.cell? ⟨w.heap.size, 0, none⟩ = some (.int .i64 n) := by rw [hwa]; simp
  clear hk hp hc hB hBa hB0 hsa hs0 hb
  subst hwa
  go_enter Try.func148, Try.ntmps148
  go_wp2_with (first | (go_at_call 185; rw [← hw0]; clear hw0 c0a; refine (those n hn _ _ _ HP.out).mono ?_; rintro e w2 ⟨u, rfl, ho, hb2⟩; obtain ⟨A2, d2, rfl, -⟩ := ho.read; have HO := Aside0.mk ho; have HB2 := Aside0.mk hb2; have HK2 := Aside0.mk (blk_below HK.out hb2); have c60 : w2.cell? ⟨w.heap.size + 1 + 1, 0, none⟩ = some (.int .i64 0) := blk_cell HK2.out 0; have c61 : w2.cell? ⟨w.heap.size + 1 + 1, 1, none⟩ = some (.slice none 0 0) := blk_cell HK2.out 1; have f60 : w2.frozen? ⟨w.heap.size + 1 + 1, 0, none⟩ = false := blk_frozen HK2.out 0; have f61 : w2.frozen? ⟨w.heap.size + 1 + 1, 1, none⟩ = false := blk_frozen HK2.out 1; clear ho hb2))
  refine bodyPost_ret (results_cell_row rfl _ _ (w.heap.size + 1 + 1) 28 #[.int .i64 n, .slice A2 (thL (fun f => decide (f ∈ xs) && p f) (2 ^ n)).length d2] (0, 0) _ rfl (by refine blk_put (cs := #[.int .i64 n, .slice none 0 0]) ?_ 1 _ rfl; refine blk_put (cs := #[.int .i64 0, .slice none 0 0]) ?_ 0 _ rfl; exact HK2.out) Try.underlying28 rfl (by kernel_rfl)) rfl ?_
  have hb := HB.out.trans (HB2.out.mono HB.out.size)
  refine ⟨_, rfl, ?_, (hb.setCell (by simp; omega) _).setCell (by simp; omega) _⟩
  have hs := HS.out
  have hbs := HO.out.base
  have ho := HO.out.lower (b' := w.heap.size) (by omega)
  rw [HF.out] at ho hbs ⊢
  exact (ho.grown (set_grown' _ (w.heap.size + 1 + 1) _ _) (fun j hj e => by have := hbs _ hj; cases e; omega)).grown (set_grown' _ (w.heap.size + 1 + 1) _ _) (fun j hj e => by have := hbs _ hj; cases e; omega)
end Go.Proofs.Ytcbkchnfjeegmaa.H

namespace Go.Proofs.Ytcbkchnfjeegmaa.H
open Go.RowKit Go.Proofs.YtcbkchnfjeegmaaW.PrintWords Go.Proofs.YtcbkchnfjeegmaaW.PrintLast Go.Proofs.YtcbkchnfjeegmaaW.PrintMore
set_option linter.unusedVariables false
set_option linter.unusedSimpArgs false

theorem codeSimp_zero' {a b : Int} {xs ys : List Int} {fs : List (List Int)} {r : Bool} (h : codeSimp a b xs ys fs r = 0) : ∃ n m : Nat, a = n ∧ b = m ∧ Cx n xs ∧ Cx m ys ∧ (∀ f ∈ fs, Mp n m f) ∧ (∀ f ∈ fs, simpOk xs ys f = true) ∧ r = true := by
  by_cases h0 : codeMap a b xs ys fs r = 0
  · obtain ⟨n, m, rfl, rfl, h1, h2, h3, h4, h5⟩ := codeMap_zero h0
    refine ⟨n, m, rfl, rfl, h1, h2, h3, ?_, h4⟩
    rw [h5] at h
    split at h
    · next h6 => exact List.all_eq_true.1 h6
    · cases h
  · rw [codeSimp_map h0] at h
    exact absurd h h0
theorem field_faces (a : Int) (A : Option Addr) (l c : Nat) (w : World) : (Instr.field 28 (.agg #[.int .i64 a, .slice A l c]) 1).run Try.prog w = .ok (.slice A l c) w := by kernel_rfl
theorem cx_dom {n m : Nat} {xs f : List Int} (hc : Cx n xs) (hf : Mp n m f) {x : Int} (hx : x ∈ xs) : ∃ z : Nat, x = z ∧ z < 2 ^ f.length ∧ z ≤ 63 := by
  obtain ⟨z, rfl, _, h2⟩ := hc.lt hx
  exact ⟨z, rfl, by rw [hf.len]; exact h2, by have := pw6 hc.hi; omega⟩

theorem filter_take {xs : List Int} {i : Nat} {y : Int} (p : Int → Bool) (h : i < xs.length) (hy : xs.getD i 0 = y) : (xs.take (i + 1)).filter p = if p y then (xs.take i).filter p ++ [y] else (xs.take i).filter p := by
  rw [take_get h hy, List.filter_append]
  cases hp : p y <;> simp [hp]

end Go.Proofs.Ytcbkchnfjeegmaa.H

namespace Go.Proofs.Ytcbkchnfjeegmaa.H
open Go.RowKit Go.Proofs.YtcbkchnfjeegmaaW.PrintWords Go.Proofs.YtcbkchnfjeegmaaW.PrintLast Go.Proofs.YtcbkchnfjeegmaaW.PrintMore
set_option linter.unusedVariables false
set_option linter.unusedSimpArgs false

def opAt (f : List Int) (g : Int) (x : Int) : Bool := ((img x.toNat f : Nat) : Int) == g
set_option maxRecDepth 100000 in
set_option maxHeartbeats 1000000 in
theorem openFibre1 (w : World) (bf bg : Nat) (n m : Nat) (u : Value) (xs f : List Int) (g : Int) (hu : ReadI w u f) (hc : Cx n xs) (hm : m ≤ 6) (hf : Mp n m f) (h0 : w.cell? ⟨bf, 0, none⟩ = some u) (h1 : w.cell? ⟨bg, 0, none⟩ = some (.int .i64 g)) :
    PredI w (.func (.func 149) #[] #[.pointer (some ⟨bf, 0, none⟩), .pointer (some ⟨bg, 0, none⟩)]) (opAt f g) (fun x => x ∈ xs) := by
  refine ⟨_, _, _, rfl, Enters.mk' Try.func149 rfl rfl, fun w1 x hb hx => ?_⟩
  obtain ⟨z, rfl, hz, -⟩ := cx_dom hc hf hx
  have c0 := pw_cell_below hb h0
  have c1 := pw_cell_below hb h1
  have HU := Aside0.mk (hu.below hb)
  have hlf : f.length ≤ 6 := by rw [hf.len]; exact hc.hi
  obtain ⟨A1, d1, rfl, -⟩ := id hu
  have HI : Aside0 (∀ x : Ext w1, Calls Try.prog 150 #[.int .i64 z, .slice A1 f.length d1] x.1 fun e w' => e = .returned (.int .i64 (img z f : Nat)) ∧ Below x.1.heap.size x.1 w') := ⟨fun x => imageOf z _ f x.1 (HU.out.below x.2) hlf hz (hf.bd5 hm)⟩
  have x0 : ∀ x : Ext w1, x.1.cell? ⟨bf, 0, none⟩ = some (.slice A1 f.length d1) := fun x => Ext.cell c0 x
  have x1 : ∀ x : Ext w1, x.1.cell? ⟨bg, 0, none⟩ = some (.int .i64 g) := fun x => Ext.cell c1 x
  have HO : Aside0 (opAt f g (z : Int) = (((img z f : Nat) : Int) == g)) := ⟨rfl⟩
  clear hb h0 h1 hx hu hc hf hz hlf HU c0 c1
  generalize img z f = t at *
  show Calls _ _ #[_, _, _] _ _
  go_enter Try.func149, Try.ntmps149
  go_wp2
  refine wp_region_ext (by kernel_rfl) (by kernel_rfl) ?_
  repeat (go_big_quiet_step ((first | (go_at_call 150; exact Calls.ext_of (HI.out _)))))
  refine wpQuiet_nil ?_
  rintro _ ⟨x, rfl⟩
  have hbx := x.2
  go_wp2
  go_ret
  exact ⟨by rw [HO.out]; rfl, by (repeat (first | (with_reducible exact Below.refl _ _) | (with_reducible assumption) | (with_reducible refine below_step ?_ (by assumption)) | (with_reducible apply below_alloc) | (with_reducible apply below_drewN)))⟩

set_option maxRecDepth 100000 in
set_option maxHeartbeats 1000000 in
theorem openFibre (n m : Nat) (ku : Value) (xs : List Int) (v : Value) (f : List Int) (g : Int) (w : World) (hk : ReadI w ku xs) (hv : ReadI w v f) (hc : Cx n xs) (hm : m ≤ 6) (hf : Mp n m f) :
    Calls Try.prog 89 #[cx n ku, v, .int .i64 g] w fun e w' => ∃ u, e = .returned u ∧ OwnI w.heap.size w' u (xs.filter (opAt f g)) ∧ Below w.heap.size w w' := by
  obtain ⟨w0, hw0⟩ : ∃ w0, w0 = (w.alloc (.cells #[.int .i64 n, ku] 28)).alloc (.cells #[v] 22) := ⟨_, rfl⟩
  obtain ⟨w1, hw1⟩ : ∃ w1, w1 = w0.alloc (.cells #[.int .i64 g] 2) := ⟨_, rfl⟩
  have hs0 : w0.heap.size = w.heap.size + 1 + 1 := by rw [hw0]; simp
  have hB0 : Below w.heap.size w w0 := by rw [hw0]; exact ((Below.refl _ w).alloc (Nat.le_refl _) _).alloc (by simp) _
  have hB1 : Below w0.heap.size w0 w1 := by rw [hw1]; exact Below.alloc (Below.refl _ _) (Nat.le_refl _) _
  have hB : Below w.heap.size w w1 := hB0.trans (hB1.mono hB0.size)
  have c0 : w1.cell? ⟨w.heap.size, 0, none⟩ = some (.int .i64 n) := pw_cell_below hB1 (by rw [hw0]; simp)
  have c1 : w1.cell? ⟨w.heap.size, 1, none⟩ = some ku := pw_cell_below hB1 (by rw [hw0]; simp)
  have c2 : w1.cell? ⟨w.heap.size + 1, 0, none⟩ = some v := pw_cell_below hB1 (by rw [hw0]; simp)
  have c3 : w1.cell? ⟨w.heap.size + 1 + 1, 0, none⟩ = some (.int .i64 g) := by rw [hw1, ← hs0]; simp
  have HK := Aside0.mk (hk.below hB)
  have HP := Aside0.mk (openFibre1 w1 _ _ n m v xs f g (hv.below hB) hc hm hf c2 c3)
  have HB := Aside0.mk hB
  have HN := Aside0.mk hc
  have hsz := hB.size
  have hfd := field_faces (n : Int)
  obtain ⟨A1, d1, rfl, -⟩ := id hk
  obtain ⟨A2, d2, rfl, -⟩ := id hv
  clear hk hv hc hf hB hB0 hB1 hs0
  subst hw0
  go_enter Try.func89, Try.ntmps89
  go_wp2_with (first | (go_at_call 148; rw [← hw1]; clear hw1; refine (part n _ xs _ _ _ HK.out HN.out HP.out).mono ?_; rintro e w4 ⟨u, rfl, ho, hb4⟩; have HO := Aside0.mk ho; obtain ⟨A4, d4, rfl, -⟩ := ho.read; clear ho))
  go_ret
  exact ⟨_, rfl, HO.out.lower hsz, by have := HB.out; (repeat (first | (with_reducible exact Below.refl _ _) | (with_reducible assumption) | (with_reducible refine below_step ?_ (by assumption)) | (with_reducible apply below_alloc) | (with_reducible apply below_drewN)))⟩
end Go.Proofs.Ytcbkchnfjeegmaa.H

namespace Go.Proofs.Ytcbkchnfjeegmaa.H
open Go.RowKit Go.Proofs.YtcbkchnfjeegmaaW.PrintWords Go.Proofs.YtcbkchnfjeegmaaW.PrintLast Go.Proofs.YtcbkchnfjeegmaaW.PrintMore
set_option linter.unusedVariables false
set_option linter.unusedSimpArgs false

/-- the pairs of a list by a vertex -/
def pvs (F : List Int) (v : Nat) : List (Int × Int) := byTo F v F.length
/-- those by the first of k vertices, from v on, that gives any -/
def fpv (F : List Int) : Nat → Nat → List (Int × Int)
  | _, 0 => []
  | v, k + 1 => if (pvs F v).length = 0 then fpv F (v + 1) k else pvs F v
def fibL (xs f : List Int) (g : Int) : List Int := xs.filter (opAt f g)
def allPv (xs f : List Int) (n : Nat) (ys : List Int) : List (Int × Int) := ys.flatMap fun g => fpv (fibL xs f g) 0 n
theorem allPv_next {xs f ys : List Int} {n i : Nat} {g : Int} (h : i < ys.length) (hg : ys.getD i 0 = g) : allPv xs f n (ys.take (i + 1)) = allPv xs f n (ys.take i) ++ fpv (fibL xs f g) 0 n := by
  unfold allPv
  rw [take_get h hg, List.flatMap_append]
  simp
theorem fpv_succ (F : List Int) (v k : Nat) : fpv F v (k + 1) = if (pvs F v).length = 0 then fpv F (v + 1) k else pvs F v := rfl
theorem fpv_skip {F : List Int} {v n : Nat} (hv : v < n) (h : (pvs F v).length = 0) : fpv F v (n - v) = fpv F (v + 1) (n - (v + 1)) := by
  obtain ⟨k, rfl⟩ : ∃ k, n = v + 1 + k := ⟨n - (v + 1), by omega⟩
  rw [show v + 1 + k - v = k + 1 by omega, show v + 1 + k - (v + 1) = k by omega, fpv_succ, if_pos h]
theorem fpv_hit {F : List Int} {v n : Nat} (hv : v < n) (h : (pvs F v).length ≠ 0) : fpv F v (n - v) = pvs F v := by
  obtain ⟨k, rfl⟩ : ∃ k, n = v + 1 + k := ⟨n - (v + 1), by omega⟩
  rw [show v + 1 + k - v = k + 1 by omega, fpv_succ, if_neg h]
theorem fpv_end (F : List Int) (n : Nat) : fpv F n (n - n) = [] := by rw [Nat.sub_self]; rfl

/-- with what a face is paired, 0 without one -/
def highTo (ps : List (Int × Int)) (x : Int) : Int := match ps.find? (fun p => p.1 == x) with | some p => p.2 | none => 0
/-! lows -/
theorem by_lows (F : List Int) (v : Nat) : ∀ k, k ≤ F.length → ((byTo F v k).map Prod.fst).Sublist (F.take k)
  | 0, _ => by simp [byTo]
  | k + 1, h => by
    have ih := by_lows F v k (by omega)
    have e : byTo F v (k + 1) = byTo F v k ++ (if upAtV F v (F.getD k 0).toNat then [(F.getD k 0, (((F.getD k 0).toNat ||| 2 ^ v : Nat) : Int))] else []) := by
      unfold byTo
      rw [List.range_succ, List.filterMap_append]
      congr 1
      rw [List.filterMap_cons]
      by_cases hu : upAtV F v (F.getD k 0).toNat = true
      · rw [if_pos hu, if_pos hu]; rfl
      · rw [if_neg hu, if_neg hu]; rfl
    rw [e, List.map_append, take_get (by omega) rfl]
    refine List.Sublist.append ih ?_
    split <;> simp
theorem by_mem {F : List Int} {v k : Nat} {p : Int × Int} (hk : k ≤ F.length) (h : p ∈ byTo F v k) : p.1 ∈ F ∧ (((p.1.toNat ||| 2 ^ v : Nat) : Int) = p.2) ∧ 0 < p.2 := by
  unfold byTo at h
  obtain ⟨i, hi, e⟩ := List.mem_filterMap.1 h
  have hi' := List.mem_range.1 hi
  by_cases hu : upAtV F v (F.getD i 0).toNat = true
  · rw [if_pos hu] at e
    cases e
    refine ⟨mem_at (by omega) rfl, rfl, ?_⟩
    have : 0 < (F.getD i 0).toNat ||| 2 ^ v := by
      have := Nat.right_le_or (n := (F.getD i 0).toNat) (m := 2 ^ v)
      have := Nat.two_pow_pos v
      omega
    simp only
    omega
  · rw [if_neg hu] at e; cases e
theorem fpv_lows (F : List Int) : ∀ k v, ((fpv F v k).map Prod.fst).Sublist F
  | 0, v => by simp [fpv]
  | k + 1, v => by
    unfold fpv
    split
    · exact fpv_lows F k (v + 1)
    · have := by_lows F v F.length (Nat.le_refl _)
      rwa [List.take_length] at this
theorem fpv_mem {F : List Int} {p : Int × Int} : ∀ k v, p ∈ fpv F v k → p.1 ∈ F ∧ 0 < p.2
  | 0, v, h => by cases h
  | k + 1, v, h => by
    unfold fpv at h
    split at h
    · exact fpv_mem k (v + 1) h
    · have := by_mem (Nat.le_refl _) h
      exact ⟨this.1, this.2.2⟩
theorem all_mem {xs f : List Int} {n : Nat} {ys : List Int} {p : Int × Int} (h : p ∈ allPv xs f n ys) : ∃ g ∈ ys, p.1 ∈ xs ∧ opAt f g p.1 = true ∧ 0 < p.2 := by
  unfold allPv at h
  obtain ⟨g, hg, hp⟩ := List.mem_flatMap.1 h
  obtain ⟨h1, h2⟩ := fpv_mem _ _ hp
  obtain ⟨h3, h4⟩ := List.mem_filter.1 h1
  exact ⟨g, hg, h3, h4, h2⟩
theorem op_one {f : List Int} {g g' x : Int} (h : opAt f g x = true) (h' : opAt f g' x = true) : g = g' := by
  unfold opAt at h h'
  rw [← eq_of_beq h, ← eq_of_beq h']
theorem all_lows {xs f : List Int} {n : Nat} (hx : xs.Pairwise (· < ·)) : ∀ {ys : List Int}, ys.Pairwise (· < ·) → ((allPv xs f n ys).map Prod.fst).Nodup
  | [], _ => by simp [allPv]
  | g :: r, h => by
    have hp := List.pairwise_cons.1 h
    show (((g :: r).flatMap fun g => fpv (fibL xs f g) 0 n).map Prod.fst).Nodup
    rw [List.flatMap_cons, List.map_append, List.nodup_append]
    refine ⟨(fpv_lows _ _ _).nodup ?_, all_lows hx hp.2, ?_⟩
    · exact (hx.imp (fun h => by omega)).filter _
    · intro a ha b hb e
      obtain ⟨p, hp1, rfl⟩ := List.mem_map.1 ha
      obtain ⟨q, hq1, rfl⟩ := List.mem_map.1 hb
      obtain ⟨h1, -⟩ := fpv_mem _ _ hp1
      obtain ⟨g', hg', -, h2, -⟩ := all_mem (ys := r) hq1
      have h3 := (List.mem_filter.1 h1).2
      rw [← e] at h2
      have := hp.1 g' hg'
      have := op_one h3 h2
      omega

/-! the table -/
theorem high_app (L : List (Int × Int)) (z y x : Int) (hz : ∀ p ∈ L, p.1 ≠ z) : highTo (L ++ [(z, y)]) x = if x = z then y else highTo L x := by
  unfold highTo
  rw [List.find?_append]
  by_cases e : x = z
  · subst e
    rw [if_pos rfl, List.find?_eq_none.2 (fun p hp => by simpa using hz p hp)]
    simp
  · rw [if_neg e]
    have : ([(z, y)] : List (Int × Int)).find? (fun p => p.1 == x) = none := by simp; omega
    rw [this, Option.or_none]
theorem tab_set {xs : List Int} {L : List (Int × Int)} {i : Nat} {z y : Int} (hx : xs.Pairwise (· < ·)) (hi : i < xs.length) (hz : xs.getD i 0 = z) (hn : ∀ p ∈ L, p.1 ≠ z) : (xs.map (highTo L)).set i y = xs.map (highTo (L ++ [(z, y)])) := by
  apply List.ext_getElem
  · simp
  · intro k h1 h2
    have hk : k < xs.length := by simpa using h2
    rw [List.getElem_set, List.getElem_map, List.getElem_map, high_app L z y _ hn]
    have hzi : xs[i] = z := by rw [List.getD_eq_getElem?_getD, List.getElem?_eq_getElem hi] at hz; exact hz
    by_cases e : i = k
    · subst e
      rw [if_pos rfl, if_pos hzi]
    · rw [if_neg e, if_neg (fun h => e ?_)]
      rcases Nat.lt_trichotomy i k with h3 | h3 | h3
      · have := List.pairwise_iff_getElem.1 hx i k hi hk h3; omega
      · exact h3
      · have := List.pairwise_iff_getElem.1 hx k i hk hi h3; omega
theorem high_of {L : List (Int × Int)} : (L.map Prod.fst).Nodup → ∀ {x y : Int}, (x, y) ∈ L → highTo L x = y := by
  intro hn x y h
  obtain ⟨A, B, rfl⟩ := List.append_of_mem h
  have hA : ∀ p ∈ A, (p.1 == x) = false := fun p hp => by
    rw [beq_eq_false_iff_ne]
    rintro e
    rw [List.map_append, List.nodup_append] at hn
    exact hn.2.2 p.1 (List.mem_map.2 ⟨p, hp, rfl⟩) x (by simp) e
  unfold highTo
  rw [List.find?_append, List.find?_eq_none.2 (fun p hp => by rw [hA p hp]; decide)]
  simp
theorem high_in {L : List (Int × Int)} {x : Int} (h : highTo L x ≠ 0) : (x, highTo L x) ∈ L := by
  unfold highTo at h ⊢
  cases hf : L.find? (fun p => p.1 == x) with
  | none => rw [hf] at h; exact absurd rfl h
  | some p =>
    have h1 := List.find?_some hf
    have h2 := List.mem_of_find?_eq_some hf
    simp only at h1 ⊢
    rw [beq_iff_eq] at h1
    rw [← h1]
    exact h2

/-- the pairs of a table -/
def tabOut (xs : List Int) (L : List (Int × Int)) : List (Int × Int) := xs.filterMap fun x => if 0 < highTo L x then some (x, highTo L x) else none
theorem tab_mem {xs : List Int} {L : List (Int × Int)} {p : Int × Int} : p ∈ tabOut xs L ↔ p.1 ∈ xs ∧ highTo L p.1 = p.2 ∧ 0 < p.2 := by
  unfold tabOut
  rw [List.mem_filterMap]
  constructor
  · rintro ⟨x, hx, e⟩
    by_cases h : 0 < highTo L x
    · rw [if_pos h] at e; cases e; exact ⟨hx, rfl, h⟩
    · rw [if_neg h] at e; cases e
  · rintro ⟨h1, h2, h3⟩
    exact ⟨p.1, h1, by rw [h2, if_pos h3]⟩
theorem tab_asc (L : List (Int × Int)) : ∀ {xs : List Int}, xs.Pairwise (· < ·) → (tabOut xs L).Pairwise fun p q => p.1 < q.1 := by
  intro xs h
  unfold tabOut
  refine List.Pairwise.filterMap _ (fun a b hab p hp q hq => ?_) h
  by_cases h1 : 0 < highTo L a
  · rw [if_pos h1] at hp
    by_cases h2 : 0 < highTo L b
    · rw [if_pos h2] at hq
      cases hp; cases hq; exact hab
    · rw [if_neg h2] at hq; cases hq
  · rw [if_neg h1] at hp; cases hp
theorem tab_perm {xs f ys : List Int} {n : Nat} (hx : xs.Pairwise (· < ·)) (hy : ys.Pairwise (· < ·)) : (tabOut xs (allPv xs f n ys)).Perm (allPv xs f n ys) := by
  have hn := all_lows (xs := xs) (f := f) (n := n) hx hy
  refine (List.perm_ext_iff_of_nodup ((tab_asc _ hx).imp (fun h e => by rw [e] at h; omega)) (List.Pairwise.of_map Prod.fst (fun a b h e => h (by rw [e])) hn)).2 (fun p => ?_)
  rw [tab_mem]
  constructor
  · rintro ⟨-, h2, h3⟩
    have := high_in (L := allPv xs f n ys) (x := p.1) (by omega)
    rw [h2] at this
    exact this
  · intro h
    obtain ⟨g, -, h1, -, h2⟩ := all_mem h
    exact ⟨h1, high_of hn h, h2⟩
end Go.Proofs.Ytcbkchnfjeegmaa.H

namespace Go.Proofs.Ytcbkchnfjeegmaa.H
open Go.RowKit Go.Proofs.YtcbkchnfjeegmaaW.PrintWords Go.Proofs.YtcbkchnfjeegmaaW.PrintLast Go.Proofs.YtcbkchnfjeegmaaW.PrintMore
set_option linter.unusedVariables false
set_option linter.unusedSimpArgs false

/-- each step -/
def gSteps (G : World → World → Prop) (P : Program) (l : List Oper) (B : List Nat) (V : Nat → Value → World → Prop) (a : Act) (w : World) : Nat → List Oper → Prop
  | _, [] => True
  | i, o :: r => (∀ s w1, G w w1 → (∀ j, ((List.range l.length).contains j && (B.getD i 0).testBit j) = true → V j (s j) w1) → (∀ j, (decide (j < l.length) && (B.getD j 0).testBit i) = true → s j = (a.tmps[(dsOf l)[j]?.getD 0]?).getD undef) →
      ∀ R : Value → World → Prop, (∀ v w', G w1 w' → V i v w' → R v w') → opGives P o (putAll (dsOf l) 0 s a).eval w1 R) ∧ gSteps G P l B V a w (i + 1) r

theorem gSteps_at {G : World → World → Prop} {P : Program} {l : List Oper} {B : List Nat} {V : Nat → Value → World → Prop} {a : Act} {w : World} : ∀ (r : List Oper) (k : Nat), gSteps G P l B V a w k r → ∀ i o, r[i]? = some o →
    ∀ s w1, G w w1 → (∀ j, ((List.range l.length).contains j && (B.getD (k + i) 0).testBit j) = true → V j (s j) w1) → (∀ j, (decide (j < l.length) && (B.getD j 0).testBit (k + i)) = true → s j = (a.tmps[(dsOf l)[j]?.getD 0]?).getD undef) →
      ∀ R : Value → World → Prop, (∀ v w', G w1 w' → V (k + i) v w' → R v w') → opGives P o (putAll (dsOf l) 0 s a).eval w1 R
  | [], _, _, _, _, h => by cases h
  | x :: r, k, h, 0, o, ho => by cases ho; exact h.1
  | x :: r, k, h, i + 1, o, ho => by
    have := gSteps_at r (k + 1) h.2 i o ho
    rwa [show k + 1 + i = k + (i + 1) by omega] at this

theorem wp_region_g (G : World → World → Prop) (hGr : ∀ w, G w w.drew) (hGt : ∀ w1 w2 w3, G w1 w2 → G w2 w3 → G w1 w3) {P : Program} {id : Nat} {Q : Exit → Act → World → Prop} {a : Act} {w : World} {l : List Oper} (V : Nat → Value → World → Prop) (B : List Nat) (hm : P.follows .mixedOrders = true) (hok : phiOk l B a.tmps.size = true)
    (hV : ∀ i v w1 w2, G w1 w2 → V i v w1 → V i v w2)
    (hs : gSteps G P l B V a w 0 l)
    (hend : ∀ s w1, G w w1 → (∀ i, i < l.length → V i (s i) w1) → Q .normal (putAll (dsOf l) 0 s a) w1) : (Code.region id l.toArray true).wp P Q a w := by
  simp only [phiOk, Bool.and_eq_true] at hok
  obtain ⟨⟨⟨⟨⟨h1, h0⟩, h2⟩, h3⟩, h4⟩, h5⟩ := hok
  have hnd : (dsOf l).Nodup := of_decide_eq_true h2
  have hTl : (rtab .any l.toArray).2.length = l.length := by rw [rtab_length]; simp
  have hds : ∀ (i : Nat) (o : Oper), l[i]? = some o → o.dst = some ((dsOf l)[i]?.getD 0) ∧ (dsOf l)[i]? = some (o.dst.getD 0) := by
    intro i o ho
    have e : (dsOf l)[i]? = some (o.dst.getD 0) := by simp [dsOf, ho]
    refine ⟨?_, e⟩
    have := List.all_eq_true.1 h1 o (List.mem_of_getElem? ho)
    rw [e]
    cases hd : o.dst with
    | none => rw [hd] at this; cases this
    | some d => rfl
  refine wp_region_last_drew (S := fun _ => True) (ds := []) hm trivial (fun _ => ?_)
  refine inv_ (T := rtab .any l.toArray) (B := B) (List.range l.length) (fun b a' w' => ∃ s, a' = putAll (dsOf l) 0 s a ∧ G w w' ∧ (∀ i, i < l.length → b i = true → V i (s i) w') ∧ ∀ i, i < l.length → b i = false → s i = (a.tmps[(dsOf l)[i]?.getD 0]?).getD undef) rfl h4 h5 ?_ ?_ ?_ ?_
  · rw [hTl, Bool.and_eq_true, beq_iff_eq, beq_iff_eq]
    refine ⟨?_, by simp⟩
    apply List.ext_getElem
    · simp [lof]
    · intro i hi1 hi2
      have hi : i < l.length := by simpa [lof] using hi1
      simp [lof, hi]
  · refine ⟨fun k => (a.tmps[(dsOf l)[k]?.getD 0]?).getD undef, ?_, hGr _, (fun _ _ h => by cases h), fun _ _ _ => rfl⟩
    refine (putAll_self _ _ _ _ (fun j d hj => ?_)).symm
    have hd := List.all_eq_true.1 h3 d (List.mem_of_getElem? hj)
    have hd' : d < a.tmps.size := of_decide_eq_true hd
    simp [hj, hd']
  · intro i hi b a' w' ⟨s, ha, hb, hv, hq⟩ hbi hon hoff
    subst ha
    have hil : i < l.length := List.mem_range.1 hi
    have ho : l[i]? = some l[i] := List.getElem?_eq_getElem hil
    refine ⟨l[i], by simp, fun K hK => ?_⟩
    have hK' := Shut.out hK
    have hg : l[i].guard = none := by
      have := List.all_eq_true.1 h0 l[i] (List.mem_of_getElem? ho)
      cases hq : l[i].guard with
      | none => rfl
      | some g => rw [hq] at this; cases this
    rw [if_pos (by simp [Region.wanted, hg])]
    refine opGives_wp (gSteps_at l 0 hs i _ ho s w' hb (fun j hj => hv j (by have h6 := (Bool.and_eq_true _ _ ▸ hj : _ ∧ _).1; simpa using h6) (hon j (by simpa using hj))) (fun j hj => hq j (of_decide_eq_true (Bool.and_eq_true _ _ ▸ hj : _ ∧ _).1) (hoff j (by simpa using hj))) _ (fun v w2 hb2 hv2 => hK' _ _ ?_))
    refine ⟨upd s i v, ?_, hGt _ _ _ hb hb2, fun j hj hbj => ?_, fun j hj hbj => ?_⟩
    · rw [(hds i _ ho).1, (hds i _ ho).2, Option.getD_some]
      exact putAll_put _ _ _ _ _ _ _ hnd (Nat.zero_le _) (by rw [Nat.sub_zero]; exact (hds i _ ho).2)
    · by_cases hji : j = i
      · subst hji
        have : upd s j v j = v := by simp [upd]
        rw [this]
        rw [Nat.zero_add] at hv2
        exact hv2
      · have : upd s i v j = s j := by simp [upd, hji]
        rw [this]
        rw [up_ne hji] at hbj
        exact hV _ _ _ _ hb2 (hv j hj hbj)
    · have hji : j ≠ i := by
        rintro rfl
        rw [up_self] at hbj
        cases hbj
      have : upd s i v j = s j := by simp [upd, hji]
      rw [this]
      rw [up_ne hji] at hbj
      exact hq j hj hbj
  · intro b a' w' hall ⟨s, ha, hb, hv, hq⟩
    subst ha
    exact hend s w' hb (fun i hi => hv i hi (hall i (by simpa using hi)))
end Go.Proofs.Ytcbkchnfjeegmaa.H

namespace Go.Proofs.Ytcbkchnfjeegmaa.H
open Go.RowKit Go.Proofs.YtcbkchnfjeegmaaW.PrintWords Go.Proofs.YtcbkchnfjeegmaaW.PrintLast Go.Proofs.YtcbkchnfjeegmaaW.PrintMore
set_option linter.unusedVariables false
set_option linter.unusedSimpArgs false

def cmpI (x y : Int) : Int := if x < y then -1 else if x = y then 0 else 1
def cmpP (x y x' y' : Int) : Int := if x = x' then cmpI y y' else cmpI x x'
theorem cmpI_zero {x y : Int} (h : cmpI x y = 0) : x = y := by unfold cmpI at h; split at h <;> (try split at h) <;> omega
theorem cmpI_self (x : Int) : cmpI x x = 0 := by unfold cmpI; rw [if_neg (by omega), if_pos rfl]

/-- nothing old is turned, nothing drawn is given back -/
def Bd (w w' : World) : Prop := Below w.heap.size w w' ∧ w.drawn ≤ w'.drawn
theorem Bd.refl (w : World) : Bd w w := ⟨Below.refl _ _, Nat.le_refl _⟩
theorem Bd.trans {a b c : World} (h : Bd a b) (k : Bd b c) : Bd a c := ⟨h.1.trans (k.1.mono h.1.size), Nat.le_trans h.2 k.2⟩
theorem Bd.drew (w : World) : Bd w w.drew := ⟨(Below.refl _ w).drew, Nat.le_succ _⟩
theorem Bd.alloc (w : World) (o : Obj) : Bd w (w.alloc o) := ⟨Below.alloc (Below.refl _ _) (Nat.le_refl _) _, Nat.le_refl _⟩

theorem cmpNaND (x : Int) (w : World) : Calls Try.prog 200 #[.int .i64 x] w fun e w' => e = .returned (.bool false) ∧ Bd w w' := by
  go_enter Try.func200, Try.ntmps200
  go_wp2
  go_ret
  exact ⟨by simp, Bd.refl _⟩
theorem cmpCompareD (x y : Int) (w : World) : Calls Try.prog 160 #[.int .i64 x, .int .i64 y] w fun e w' => e = .returned (.int .i64 (cmpI x y)) ∧ Bd w w' := by
  rcases (by omega : x < y ∨ x = y ∨ y < x) with h | h | h
  · have HA : Aside0 (cmpI x y = -1) := ⟨by unfold cmpI; rw [if_pos h]⟩
    have h1 : decide (x < y) = true := decide_eq_true h
    go_enter Try.func160, Try.ntmps160
    go_wp2_with (first | (go_at_call 200; refine (cmpNaND _ w).mono ?_; rintro e w2 ⟨rfl, hb⟩) | (go_at_call 200; refine (cmpNaND _ w2).mono ?_; rintro e w3 ⟨rfl, hb2⟩))
    go_ret
    exact ⟨by rw [HA.out]; rfl, hb.trans hb2⟩
  · have HA : Aside0 (cmpI x y = 0) := ⟨by unfold cmpI; rw [if_neg (by omega), if_pos h]⟩
    have h1 : decide (x < y) = false := decide_eq_false (by omega)
    have h2 : decide (y < x) = false := decide_eq_false (by omega)
    go_enter Try.func160, Try.ntmps160
    go_wp2_with (first | (go_at_call 200; refine (cmpNaND _ w).mono ?_; rintro e w2 ⟨rfl, hb⟩) | (go_at_call 200; refine (cmpNaND _ w2).mono ?_; rintro e w3 ⟨rfl, hb2⟩))
    go_ret
    exact ⟨by rw [HA.out]; rfl, hb.trans hb2⟩
  · have HA : Aside0 (cmpI x y = 1) := ⟨by unfold cmpI; rw [if_neg (by omega), if_neg (by omega)]⟩
    have h1 : decide (x < y) = false := decide_eq_false (by omega)
    have h2 : decide (y < x) = true := decide_eq_true h
    go_enter Try.func160, Try.ntmps160
    go_wp2_with (first | (go_at_call 200; refine (cmpNaND _ w).mono ?_; rintro e w2 ⟨rfl, hb⟩) | (go_at_call 200; refine (cmpNaND _ w2).mono ?_; rintro e w3 ⟨rfl, hb2⟩))
    go_ret
    exact ⟨by rw [HA.out]; rfl, hb.trans hb2⟩

set_option maxRecDepth 100000 in
set_option maxHeartbeats 4000000 in
theorem compare2D (g g' : Nat) (x y x' y' : Int) (w : World) (c0 : w.cell? ⟨g, 0, none⟩ = some (.int .i64 x)) (c1 : w.cell? ⟨g, 1, none⟩ = some (.int .i64 y)) (c2 : w.cell? ⟨g', 0, none⟩ = some (.int .i64 x')) (c3 : w.cell? ⟨g', 1, none⟩ = some (.int .i64 y')) :
    Calls Try.prog 98 #[.slice (some ⟨g, 0, none⟩) 2 2, .slice (some ⟨g', 0, none⟩) 2 2] w fun e w' => e = .returned (.int .i64 (cmpP x y x' y')) ∧ Bd w w' := by
  have C0 := Aside0.mk c0
  have C1 := Aside0.mk c1
  have C2 := Aside0.mk c2
  have C3 := Aside0.mk c3
  clear c0 c1 c2 c3
  go_enter Try.func98, Try.ntmps98
  go_wp2
  go_loopw [11] (fun s wr => ∃ i : Nat, s = .int .i64 i ∧ i ≤ 2 ∧ Aside0 (0 < i → x = x') ∧ Aside0 (1 < i → y = y') ∧ Aside0 (Bd w wr)) (fun s _ => 2 - (intOf s).toNat)
  case atStart => exact ⟨0, rfl, by decide, ⟨fun h => absurd h (by decide)⟩, ⟨fun h => absurd h (by decide)⟩, ⟨Bd.refl _⟩⟩
  case round =>
    obtain ⟨i, rfl, hi, H0, H1, HBw⟩ := hrel
    have c0 := pw_cell_below HBw.out.1 C0.out
    have c1 := pw_cell_below HBw.out.1 C1.out
    have c2 := pw_cell_below HBw.out.1 C2.out
    have c3 := pw_cell_below HBw.out.1 C3.out
    rcases (by omega : i = 0 ∨ i = 1 ∨ i = 2) with rfl | rfl | rfl
    · have HE : Aside0 ((cmpI x x' != 0) = false → x = x') := ⟨fun h => cmpI_zero (by simpa using h)⟩
      have HN : Aside0 ((cmpI x x' != 0) = true → cmpP x y x' y' = cmpI x x') := ⟨fun h => by unfold cmpP; rw [if_neg]; rintro rfl; rw [cmpI_self] at h; exact absurd h (by decide)⟩
      have HC := Aside0.mk (fun W => cmpCompareD x x' W)
      obtain ⟨C, hC⟩ : ∃ C, C = cmpI x x' := ⟨_, rfl⟩
      rw [← hC] at HE HN HC
      clear hC
      cases hq : (C != 0) with
      | true =>
        have HA := Aside0.mk (HN.out hq)
        go_wp2_with (first | (go_at_call 160; refine (HC.out _).mono ?_; rintro e w3 ⟨rfl, hb⟩; have HB3 := Aside0.mk (HBw.out.trans hb); clear hb))
        go_ret
        exact ⟨by rw [HA.out]; rfl, HB3.out⟩
      | false =>
        have HX := Aside0.mk (HE.out hq)
        go_wp2_with (first | (go_at_call 160; refine (HC.out _).mono ?_; rintro e w3 ⟨rfl, hb⟩; have HB3 := Aside0.mk (HBw.out.trans hb); clear hb))
        go_roundw
        case rel => exact ⟨1, by go_num, by decide, ⟨fun _ => HX.out⟩, ⟨fun h => absurd h (by decide)⟩, HB3⟩
        case measure => simp [intOf]
    · have HE : Aside0 ((cmpI y y' != 0) = false → y = y') := ⟨fun h => cmpI_zero (by simpa using h)⟩
      have HN : Aside0 (cmpP x y x' y' = cmpI y y') := ⟨by unfold cmpP; rw [if_pos (H0.out (by decide))]⟩
      have HC := Aside0.mk (fun W => cmpCompareD y y' W)
      obtain ⟨C, hC⟩ : ∃ C, C = cmpI y y' := ⟨_, rfl⟩
      rw [← hC] at HE HN HC
      clear hC
      cases hq : (C != 0) with
      | true =>
        go_wp2_with (first | (go_at_call 160; refine (HC.out _).mono ?_; rintro e w3 ⟨rfl, hb⟩; have HB3 := Aside0.mk (HBw.out.trans hb); clear hb))
        go_ret
        exact ⟨by rw [HN.out]; rfl, HB3.out⟩
      | false =>
        have HX := Aside0.mk (HE.out hq)
        go_wp2_with (first | (go_at_call 160; refine (HC.out _).mono ?_; rintro e w3 ⟨rfl, hb⟩; have HB3 := Aside0.mk (HBw.out.trans hb); clear hb))
        go_roundw
        case rel => exact ⟨2, by go_num, by decide, ⟨fun _ => H0.out (by decide)⟩, ⟨fun _ => HX.out⟩, HB3⟩
        case measure => simp [intOf]
    · have HA : Aside0 (cmpP x y x' y' = 0) := ⟨by unfold cmpP; rw [if_pos (H0.out (by decide)), H1.out (by decide)]; exact cmpI_self _⟩
      go_wp2
      go_ret
      exact ⟨by rw [HA.out]; rfl, HBw.out⟩


set_option maxRecDepth 100000 in
set_option maxHeartbeats 4000000 in
theorem comparePairsD (x y x' y' : Int) (w : World) : Calls Try.prog 92 #[.agg #[.int .i64 x, .int .i64 y], .agg #[.int .i64 x', .int .i64 y']] w fun e w' => e = .returned (.int .i64 (cmpP x y x' y')) ∧ Bd w w' := by
  obtain ⟨w1, hw1⟩ : ∃ w1, w1 = (w.alloc (.cells #[.int .i64 x, .int .i64 y] 83)).alloc (.cells #[.int .i64 x', .int .i64 y'] 83) := ⟨_, rfl⟩
  have hB : Bd w w1 := by rw [hw1]; exact (Bd.alloc w _).trans (Bd.alloc _ _)
  have c0 : w1.cell? ⟨w.heap.size, 0, none⟩ = some (.int .i64 x) := by rw [hw1]; simp
  have c1 : w1.cell? ⟨w.heap.size, 1, none⟩ = some (.int .i64 y) := by rw [hw1]; simp
  have c2 : w1.cell? ⟨w.heap.size + 1, 0, none⟩ = some (.int .i64 x') := by rw [hw1]; simp
  have c3 : w1.cell? ⟨w.heap.size + 1, 1, none⟩ = some (.int .i64 y') := by rw [hw1]; simp
  have HB := Aside0.mk hB
  have HC : Aside0 (∀ z, Bd w1 z → Calls Try.prog 98 #[.slice (some ⟨w.heap.size, 0, none⟩) 2 2, .slice (some ⟨w.heap.size + 1, 0, none⟩) 2 2] z fun e w' => e = .returned (.int .i64 (cmpP x y x' y')) ∧ Bd z w') := ⟨fun z hz => compare2D _ _ x y x' y' z (pw_cell_below hz.1 c0) (pw_cell_below hz.1 c1) (pw_cell_below hz.1 c2) (pw_cell_below hz.1 c3)⟩
  have hmx : Try.prog.follows .mixedOrders = true := by kernel_rfl
  clear hB c0 c1 c2 c3
  go_enter Try.func92, Try.ntmps92
  go_wp2
  rw [← hw1]
  clear hw1
  refine wp_region_g Bd Bd.drew (fun _ _ _ => Bd.trans) (fun i => match i with | 0 => fun v _ => v = .slice (some ⟨w.heap.size, 0, none⟩) 2 2 | 1 => fun v _ => v = .slice (some ⟨w.heap.size + 1, 0, none⟩) 2 2 | 2 => fun v _ => v = .int .i64 (cmpP x y x' y') | 3 => fun v _ => v = .int .i64 (cmpP x y x' y') | _ => fun _ _ => True)
    [0, 0, 3, 7] hmx (by kernel_rfl) ?st ?steps ?rest
  case st =>
    intro i v w1_ w2_ hb
    match i with
    | 0 | 1 | 2 | 3 => exact id
    | n + 4 => exact id
  case steps =>
    refine ⟨?_, ?_, ?_, ?_, trivial⟩
    · intro s w_ hb hd hq R hR
      generalize hA : putAll _ 0 s _ = A
      clear hq
      have hR' := hR (.slice (some ⟨w.heap.size, 0, none⟩) 2 2) _ (Bd.refl _) rfl
      clear hR hd
      refine opGives_value ?_ hR'
      subst hA
      simp only [dsOf, List.map_cons, List.map_nil, Option.getD_some, putAll, Act.put, List.setIfInBounds_toArray, List.set_cons_zero, List.set_cons_succ]
      go_simp
    · intro s w_ hb hd hq R hR
      generalize hA : putAll _ 0 s _ = A
      clear hq
      have hR' := hR (.slice (some ⟨w.heap.size + 1, 0, none⟩) 2 2) _ (Bd.refl _) rfl
      clear hR hd
      refine opGives_value ?_ hR'
      subst hA
      simp only [dsOf, List.map_cons, List.map_nil, Option.getD_some, putAll, Act.put, List.setIfInBounds_toArray, List.set_cons_zero, List.set_cons_succ]
      go_simp
    · intro s w_ hb hd hq R hR
      generalize hA : putAll _ 0 s _ = A
      have e0 : s 0 = _ := hd 0 (by kernel_rfl)
      have e1 : s 1 = _ := hd 1 (by kernel_rfl)
      clear hq
      refine opGives_call (f := 98) (args := #[.slice (some ⟨w.heap.size, 0, none⟩) 2 2, .slice (some ⟨w.heap.size + 1, 0, none⟩) 2 2]) ?_ ?_
      · subst hA
        clear hR hd
        simp only [dsOf, List.map_cons, List.map_nil, Option.getD_some, putAll, Act.put, List.setIfInBounds_toArray, List.set_cons_zero, List.set_cons_succ]
        go_simp
      clear hA A hd
      refine (HC.out _ hb).mono ?_
      rintro e w3_ ⟨rfl, hb3⟩
      exact ⟨_, rfl, hR _ _ hb3 rfl⟩
    · intro s w_ hb hd hq R hR
      generalize hA : putAll _ 0 s _ = A
      have e2 : s 2 = _ := hd 2 (by kernel_rfl)
      clear hq
      have hR' := hR (.int .i64 (cmpP x y x' y')) _ (Bd.refl _) rfl
      clear hR hd
      refine opGives_value ?_ hR'
      subst hA
      simp only [dsOf, List.map_cons, List.map_nil, Option.getD_some, putAll, Act.put, List.setIfInBounds_toArray, List.set_cons_zero, List.set_cons_succ]
      go_simp
  case rest =>
    intro s9 w9 hb hv
    have e3_ : s9 3 = _ := hv 3 (by decide)
    simp only [dsOf, List.map_cons, List.map_nil, Option.getD_some, putAll, Act.put, List.setIfInBounds_toArray, List.set_cons_zero, List.set_cons_succ]
    rw [e3_]
    clear hv e3_
    go_wp2
    go_ret
    exact ⟨rfl, HB.out.trans hb⟩
end Go.Proofs.Ytcbkchnfjeegmaa.H

namespace Go.Proofs.Ytcbkchnfjeegmaa.H
open Go.RowKit Go.Sort Go.Proofs.YtcbkchnfjeegmaaW.PrintWords Go.Proofs.YtcbkchnfjeegmaaW.PrintLast Go.Proofs.YtcbkchnfjeegmaaW.PrintMore
set_option linter.unusedVariables false
set_option linter.unusedSimpArgs false

def encP (p : Int × Int) : List Value := [.int .i64 p.1, .int .i64 p.2]
theorem Bd.grow {w w' : World} (h : Bd w w') : ∃ q os, w' = grow (w.drewN q) os := by
  obtain ⟨hb, hd⟩ := h
  refine ⟨w'.drawn - w.drawn, w'.heap.extract w.heap.size w'.heap.size, ?_⟩
  obtain ⟨h1, h2, h3, h4, h5⟩ := hb
  cases w with
  | mk heap tape drawn os output =>
  cases w' with
  | mk heap' tape' drawn' os' output' =>
  simp only at h1 h2 h3 h4 h5 hd
  subst h1 h2 h3
  unfold Go.Sort.grow World.drewN
  simp only [World.mk.injEq, true_and, and_true]
  refine ⟨?_, by omega⟩
  apply Array.ext
  · simp; omega
  · intro i hi1 hi2
    rw [Array.getElem_append]
    by_cases hlt : i < heap.size
    · rw [dif_pos hlt]
      have := h5 i hlt
      rw [Array.getElem?_eq_getElem hi1, Array.getElem?_eq_getElem hlt] at this
      exact Option.some.inj this
    · rw [dif_neg hlt]
      simp only [Array.getElem_extract]
      congr 1; omega

theorem flat_at : ∀ (ps : List (Int × Int)) (t : Nat), (flat ps)[t]? = (ps[t / 2]?).map fun p => if t % 2 = 0 then p.1 else p.2
  | [], t => by simp [flat]
  | p :: r, 0 => by simp [flat]
  | p :: r, 1 => by simp [flat]
  | p :: r, t + 2 => by
    have ih := flat_at r t
    rw [show (t + 2) / 2 = t / 2 + 1 by omega, show (t + 2) % 2 = t % 2 by omega]
    show (p.1 :: p.2 :: flat r)[t + 2]? = _
    rw [List.getElem?_cons_succ, List.getElem?_cons_succ, List.getElem?_cons_succ, ih]
theorem enc_get (p : Int × Int) (c : Nat) (hc : c < 2) : (encP p)[c]! = .int .i64 (if c = 0 then p.1 else p.2) := by
  rcases (by omega : c = 0 ∨ c = 1) with rfl | rfl <;> rfl
theorem flatK_list (d : Array (Int × Int)) : (flatK encP 2 d).toList = (flat d.toList).map (Value.int .i64) := by
  apply List.ext_getElem?
  intro t
  rw [List.getElem?_map, flat_at]
  by_cases h : t < d.size * 2
  · have h2 : t / 2 < d.size := by omega
    have hg := get_flatK encP 2 d t h
    have hs : t < (flatK encP 2 d).size := by rw [size_flatK]; exact h
    rw [getElem!_pos _ t hs, enc_get _ _ (by omega), getElem!_pos d _ h2] at hg
    rw [Array.getElem?_toList, Array.getElem?_eq_getElem hs, hg, Array.getElem?_toList, Array.getElem?_eq_getElem h2]
    rfl
  · rw [List.getElem?_eq_none (by simp; omega), List.getElem?_eq_none (by simp; omega)]
    rfl
theorem put_take (F c : Array Value) (h : F.size ≤ c.size) : (putCells id 0 F c).toList.take F.size = F.toList := by
  apply List.ext_getElem?
  intro t
  by_cases ht : t < F.size
  · rw [List.getElem?_take_of_lt ht]
    unfold putCells
    rw [Array.getElem?_toList, Array.getElem?_mapIdx, Array.getElem?_eq_getElem (by omega), Array.getElem?_toList, Array.getElem?_eq_getElem ht]
    simp only [Option.map_some, Nat.zero_add, Nat.zero_le, true_and, ht, if_true, Nat.sub_zero, id]
    rw [getElem!_pos F t ht]
  · rw [List.getElem?_eq_none (by simp; omega), List.getElem?_eq_none (by simp; omega)]

theorem OwnP.holds {b : Nat} {w : World} {g cap : Nat} {ps : List (Int × Int)} (h : OwnP b w (.slice (some ⟨g, 0, none⟩) ps.length cap) ps) : HoldsK encP 2 w g 0 ps.toArray ∧ g < w.heap.size ∧ b ≤ g := by
  have hlt := h.lt g rfl
  have hbs := h.base g rfl
  refine ⟨?_, hlt, hbs⟩
  obtain ⟨hl, h | ⟨g', cap', cur, e, hb, hcur, hn, hm, hsz, htk⟩⟩ := h
  · exact absurd h.1 (by simp)
  · cases e
    intro t ht
    rw [size_flatK, List.size_toArray] at ht
    have hc : cur[t]? = some ((flatK encP 2 ps.toArray)[t]!) := by
      have hs : t < (flatK encP 2 ps.toArray).size := by rw [size_flatK, List.size_toArray]; exact ht
      rw [getElem!_pos _ t hs, ← Array.getElem?_toList, ← List.getElem?_take_of_lt (show t < ps.length * 2 from ht), htk]
      have := flatK_list ps.toArray
      have h2 := congrArg (fun l => l[t]?) this
      simp only [Array.getElem?_toList, Array.getElem?_eq_getElem hs] at h2
      exact h2.symm
    constructor
    · unfold World.cell?
      simp only [hcur, Nat.zero_add]
      exact hc
    · unfold World.frozen?
      simp only [hcur]
      simp
theorem OwnP.sorted {b : Nat} {w : World} {g cap : Nat} {ps qs : List (Int × Int)} (h : OwnP b w (.slice (some ⟨g, 0, none⟩) ps.length cap) ps) (hl : qs.length = ps.length) (n : Nat) (os : Array Obj) :
    OwnP b (sortWorldK encP 2 w g 0 n qs.toArray os) (.slice (some ⟨g, 0, none⟩) ps.length cap) qs := by
  have hlt := h.lt g rfl
  obtain ⟨hl2, h | ⟨g', cap', cur, e, hb, hcur, hn, hm, hsz, htk⟩⟩ := h
  · exact absurd h.1 (by simp)
  · cases e
    unfold OwnP
    rw [hl]
    refine ⟨by rw [List.length_map, flat_len, hl], .inr ⟨g, cap, putCells id 0 (flatK encP 2 qs.toArray) cur, rfl, hb, ?_, hn, hm, by unfold putCells; rw [Array.size_mapIdx]; exact hsz, ?_⟩⟩
    · unfold sortWorldK Go.Sort.grow putRowK putRow mapBlock Go.Sort.ahead
      simp only
      rw [Array.getElem?_append_left (by simpa using hlt), Array.getElem?_modify, if_pos rfl, hcur]
      rfl
    · have h1 := put_take (flatK encP 2 qs.toArray) cur (by rw [size_flatK, List.size_toArray, hl, hsz]; exact Nat.mul_le_mul_right 2 hn)
      rw [size_flatK, List.size_toArray, hl] at h1
      rw [h1, flatK_list]
theorem below_sorted {b : Nat} (w : World) {g : Nat} (hb : b ≤ g) (hg : g < w.heap.size) (n : Nat) (d : Array (Int × Int)) (os : Array Obj) : Below b w (sortWorldK encP 2 w g 0 n d os) := by
  unfold sortWorldK Go.Sort.grow putRowK putRow mapBlock Go.Sort.ahead
  refine ⟨rfl, rfl, rfl, by simp, fun k hk => ?_⟩
  simp only
  rw [Array.getElem?_append_left (by simp; omega), Array.getElem?_modify, if_neg (by omega)]
end Go.Proofs.Ytcbkchnfjeegmaa.H
