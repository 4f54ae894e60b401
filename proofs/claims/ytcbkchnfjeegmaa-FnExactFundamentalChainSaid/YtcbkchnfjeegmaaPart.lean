/- part: the complex of the faces that are as told. -/
import Derived.Test.YtcbkchnfjeegmaaThose
import Derived.Test.YtcbkchnfjeegmaaCx
namespace Go.Proofs.Ytcbkchnfjeegmaa.H
open Go.RowKit Go.Proofs.YtcbkchnfjeegmaaW.PrintWords Go.Proofs.YtcbkchnfjeegmaaW.PrintLast Go.Proofs.YtcbkchnfjeegmaaW.PrintMore
set_option linter.unusedVariables false
set_option linter.unusedSimpArgs false

/-- two ascending lists of the same numbers -/
theorem asc_ext : ∀ {l l' : List Int}, l.Pairwise (· < ·) → l'.Pairwise (· < ·) → (∀ x, x ∈ l ↔ x ∈ l') → l = l'
  | [], [], _, _, _ => rfl
  | [], b :: l', _, _, h => by have := (h b).2 List.mem_cons_self; cases this
  | a :: l, [], _, _, h => by have := (h a).1 List.mem_cons_self; cases this
  | a :: l, b :: l', h1, h2, h => by
    rw [List.pairwise_cons] at h1 h2
    have hab : a = b := by
      have e1 := (h a).1 List.mem_cons_self
      have e2 := (h b).2 List.mem_cons_self
      rcases List.mem_cons.1 e1 with e1 | e1
      · exact e1
      · rcases List.mem_cons.1 e2 with e2 | e2
        · exact e2.symm
        · have := h2.1 a e1; have := h1.1 b e2; omega
    subst hab
    rw [asc_ext h1.2 h2.2 (fun x => ?_)]
    constructor
    · intro hx
      have h3 := h1.1 x hx
      rcases List.mem_cons.1 ((h x).1 (List.mem_cons_of_mem _ hx)) with e | e
      · omega
      · exact e
    · intro hx
      have h3 := h2.1 x hx
      rcases List.mem_cons.1 ((h x).2 (List.mem_cons_of_mem _ hx)) with e | e
      · omega
      · exact e
theorem thL_mem {p : Int → Bool} {k : Nat} {x : Int} : x ∈ thL p k ↔ ∃ q : Nat, x = q ∧ 1 ≤ q ∧ q < k ∧ p q = true := by
  unfold thL
  rw [List.mem_filterMap]
  constructor
  · rintro ⟨q, hq, h⟩
    rw [List.mem_range] at hq
    split at h
    · next h1 =>
      simp only [Bool.and_eq_true, decide_eq_true_eq] at h1
      exact ⟨q, by cases h; rfl, h1.1, hq, h1.2⟩
    · cases h
  · rintro ⟨q, rfl, h1, h2, h3⟩
    exact ⟨q, List.mem_range.2 h2, by simp [h1, h3]⟩
theorem thL_asc (p : Int → Bool) (k : Nat) : (thL p k).Pairwise (· < ·) := by
  induction k with
  | zero => simp [thL]
  | succ k ih =>
    cases hp : p k with
    | false => rw [thL_miss hp]; exact ih
    | true =>
      by_cases h1 : 1 ≤ k
      · rw [thL_hit h1 hp, List.pairwise_append]
        refine ⟨ih, by simp, fun x hx y hy => ?_⟩
        obtain ⟨q, rfl, _, hq, _⟩ := thL_mem.1 hx
        simp at hy
        omega
      · obtain rfl : k = 0 := by omega
        rw [thL_one]
        exact List.Pairwise.nil
theorem thL_filter {n : Nat} {xs : List Int} (hc : Cx n xs) (p : Int → Bool) : thL (fun f => decide (f ∈ xs) && p f) (2 ^ n) = xs.filter p := by
  refine asc_ext (thL_asc _ _) (hc.asc.sublist List.filter_sublist) (fun x => ?_)
  rw [thL_mem, List.mem_filter]
  constructor
  · rintro ⟨q, rfl, _, _, h⟩
    simpa using h
  · rintro ⟨hx, hp⟩
    have hb := hc.bd x hx
    have := pw6 hc.hi
    refine ⟨x.toNat, by omega, by omega, by omega, ?_⟩
    have e : ((x.toNat : Nat) : Int) = x := by omega
    rw [e]
    simp [hx, hp]

set_option maxHeartbeats 1000000 in
theorem part1 (w : World) (bk bi : Nat) (n : Nat) (ku : Value) (xs : List Int) (fv : Value) (p : Int → Bool) (hk : ReadI w ku xs) (hc : Cx n xs) (hp : PredI w fv p (fun f => f ∈ xs)) (h0 : w.cell? ⟨bk, 0, none⟩ = some (.int .i64 n)) (h1 : w.cell? ⟨bk, 1, none⟩ = some ku) (h2 : w.cell? ⟨bi, 0, none⟩ = some fv) :
    PredI w (.func (.func 186) #[] #[.pointer (some ⟨bk, 0, none⟩), .pointer (some ⟨bi, 0, none⟩)]) (fun f => decide (f ∈ xs) && p f) (fun f => 1 ≤ f ∧ f < ((2 ^ n : Nat) : Int)) := by
  refine ⟨_, _, _, rfl, Enters.mk' Try.func186 rfl rfl, fun w1 x hb hx => ?_⟩
  obtain ⟨g, first, caps, rfl, hent, hp⟩ := hp
  unfold Enters at hent
  have c0 := pw_cell_below hb h0
  have c1 := pw_cell_below hb h1
  have c2 := pw_cell_below hb h2
  have HK := Aside0.mk (hk.below hb)
  have HC := Aside0.mk hc
  have HB := Aside0.mk hb
  have HP := Aside0.mk hp
  obtain ⟨A1, d1, rfl, -⟩ := id hk
  have hlen := hc.len
  clear hb h0 h1 h2 hx hk hc hp
  show Calls _ _ #[_, _, _] _ _
  by_cases hm : x ∈ xs
  · have hmd : decide (x ∈ xs) = true := decide_eq_true hm
    have HM := Aside0.mk hm
    clear hm
    go_enter Try.func186, Try.ntmps186
    go_wp2_with (first | (go_at_call 119; refine (has n _ xs x _ HK.out HC.out.asc (by omega)).mono ?_; rintro e w2 ⟨rfl, hb2⟩; rw [hmd]; have c2 := pw_cell_below hb2 c2; have HB2 := Aside0.mk hb2; clear hb2) | (refine (HP.out _ _ (HB.out.trans (HB2.out.mono HB.out.size)) HM.out).mono ?_; rintro e w3 ⟨rfl, hb3⟩))
    go_ret
    exact ⟨by rw [hmd]; rfl, by have := HB2.out; (repeat (first | (with_reducible exact Below.refl _ _) | (with_reducible assumption) | (with_reducible refine below_step ?_ (by assumption)) | (with_reducible apply below_alloc) | (with_reducible apply below_drewN)))⟩
  · have hmd : decide (x ∈ xs) = false := decide_eq_false hm
    clear hm
    go_enter Try.func186, Try.ntmps186
    go_wp2_with (first | (go_at_call 119; refine (has n _ xs x _ HK.out HC.out.asc (by omega)).mono ?_; rintro e w2 ⟨rfl, hb2⟩; rw [hmd]; have c2 := pw_cell_below hb2 c2; have HB2 := Aside0.mk hb2; clear hb2))
    go_ret
    exact ⟨by rw [hmd]; rfl, by have := HB2.out; (repeat (first | (with_reducible exact Below.refl _ _) | (with_reducible assumption) | (with_reducible refine below_step ?_ (by assumption)) | (with_reducible apply below_alloc) | (with_reducible apply below_drewN)))⟩

set_option maxHeartbeats 1000000 in
theorem part (n : Nat) (ku : Value) (xs : List Int) (fv : Value) (p : Int → Bool) (w : World) (hk : ReadI w ku xs) (hc : Cx n xs) (hp : PredI w fv p (fun f => f ∈ xs)) :
    Calls Try.prog 148 #[cx n ku, fv] w fun e w' => ∃ u, e = .returned (.agg #[.int .i64 n, u]) ∧ OwnI w.heap.size w' u (xs.filter p) ∧ Below w.heap.size w w' := by
  obtain ⟨wa, hwa⟩ : ∃ wa, wa = (w.alloc (.cells #[.int .i64 n, ku] 28)).alloc (.cells #[fv] 118) := ⟨_, rfl⟩
  obtain ⟨w0, hw0⟩ : ∃ w0, w0 = wa.alloc (.cells #[.int .i64 0, .slice none 0 0] 28) := ⟨_, rfl⟩
  have hsa : wa.heap.size = w.heap.size + 1 + 1 := by rw [hwa]; simp
  have hBa : Below w.heap.size w wa := by rw [hwa]; exact ((Below.refl _ w).alloc (Nat.le_refl _) _).alloc (by simp) _
  have hB0 : Below wa.heap.size wa w0 := by rw [hw0]; exact Below.alloc (Below.refl _ _) (Nat.le_refl _) _
  have hs0 : w0.heap.size = w.heap.size + 1 + 1 + 1 := by rw [hw0]; simp [hsa]
  have hB : Below w.heap.size w w0 := hBa.trans (hB0.mono hBa.size)
  have c0 : w0.cell? ⟨w.heap.size, 0, none⟩ = some (.int .i64 n) := pw_cell_below hB0 (by rw [hwa]; simp)
  have c1 : w0.cell? ⟨w.heap.size, 1, none⟩ = some ku := pw_cell_below hB0 (by rw [hwa]; simp)
  have c2 : w0.cell? ⟨w.heap.size + 1, 0, none⟩ = some fv := pw_cell_below hB0 (by rw [hwa]; simp)
  have hb : w0.heap[w.heap.size + 1 + 1]? = some (.cells #[.int .i64 0, .slice none 0 0] 28) := by rw [hw0, ← hsa]; exact blk_new _ _
  have HP := Aside0.mk (part1 w0 _ _ n ku xs fv p (hk.below hB) hc (hp.below hB) c0 c1 c2)
  have HF := Aside0.mk (thL_filter hc p)
  have HB := Aside0.mk hB
  have HK := Aside0.mk hb
  have HS := Aside0.mk hs0
  have hn := hc.hi
  obtain ⟨A1, d1, rfl, -⟩ := id hk
  obtain ⟨g, first, caps, rfl, -⟩ := id hp
  have c0a : wa.cell? ⟨w.heap.size, 0, none⟩ = some (.int .i64 n) := by rw [hwa]; simp
  clear hk hp hc hB hBa hB0 hsa hs0 hb
  subst hwa
  go_enter Try.func148, Try.ntmps148
  go_wp2_with (first | (go_at_call 185; rw [← hw0]; clear hw0 c0a; refine (those n hn _ _ _ HP.out).mono ?_; rintro e w2 ⟨u, rfl, ho, hb2⟩; obtain ⟨A2, d2, rfl, -⟩ := ho.read; have HO := Aside0.mk ho; have HB2 := Aside0.mk hb2; have HK2 := Aside0.mk (blk_below HK.out hb2); have c60 : w2.cell? ⟨w.heap.size + 1 + 1, 0, none⟩ = some (.int .i64 0) := blk_cell HK2.out 0; have c61 : w2.cell? ⟨w.heap.size + 1 + 1, 1, none⟩ = some (.slice none 0 0) := blk_cell HK2.out 1; have f60 : w2.frozen? ⟨w.heap.size + 1 + 1, 0, none⟩ = false := blk_frozen HK2.out 0; have f61 : w2.frozen? ⟨w.heap.size + 1 + 1, 1, none⟩ = false := blk_frozen HK2.out 1; clear ho hb2))
  refine bodyPost_ret (results_cell_row rfl _ _ (w.heap.size + 1 + 1) 28 #[.int .i64 n, .slice A2 (thL (fun f => decide (f ∈ xs) && p f) (2 ^ n)).length d2] (0, 0) _ rfl (by refine blk_put (cs := #[.int .i64 n, .slice none 0 0]) ?_ 1 _ rfl; refine blk_put (cs := #[.int .i64 0, .slice none 0 0]) ?_ 0 _ rfl; exact HK2.out) Try.underlying28 rfl (by kernel_rfl)) rfl ?_
  have hb := HB.out.trans (HB2.out.mono HB.out.size)
  refine ⟨_, rfl, ?_, (hb.setCell (by simp; omega) _).setCell (by simp; omega) _⟩
  have hs := HS.out
  have hbs := HO.out.base
  have ho := HO.out.lower (b' := w.heap.size) (by omega)
  rw [HF.out] at ho hbs ⊢
  exact (ho.grown (set_grown' _ (w.heap.size + 1 + 1) _ _) (fun j hj e => by have := hbs _ hj; cases e; omega)).grown (set_grown' _ (w.heap.size + 1 + 1) _ _) (fun j hj e => by have := hbs _ hj; cases e; omega)
end Go.Proofs.Ytcbkchnfjeegmaa.H
