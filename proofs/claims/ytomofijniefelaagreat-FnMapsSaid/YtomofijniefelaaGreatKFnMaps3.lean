/- borders(f): the sets with one vertex less, ascending. What a complex is: of the program and of the reference. Words (printed by a tool of the kit; of them, what is used). A region of open order: each operation is shown once; what holds of its value stays as memory grows. The laws' helpers over complexes, and the marks. -/
import Derived.Test.YtomofijniefelaaGreatKFnMaps1
import Derived.Test.YtomofijniefelaaGreatKFnMaps2

namespace Go.Proofs.YtomofijniefelaaGreat.H
open Go.Shelf
open Go.RowKit Go.Proofs.YtomofijniefelaaGreatW.PrintWords Go.Proofs.YtomofijniefelaaGreatW.PrintLast
set_option linter.unusedVariables false
set_option linter.unusedSimpArgs false
attribute [local go_sem] Oper.semAt_some
/-- f without v -/
def drop (f : Nat) (v : Nat) : Nat := f ^^^ (f &&& 2 ^ v)
/-- a vertex with its index among those of a face -/
abbrev IV := Nat × { v : Nat // v ≤ 5 }
/-- what is collected over some vertices -/
def bor (f : Nat) (l : List IV) : List Int := (l.filter fun x => decide (drop f x.2.1 ≠ 0)).map fun x => (drop f x.2.1 : Int)
theorem bor_hit (f : Nat) (l : List IV) (x : IV) (h : drop f x.2.1 ≠ 0) : bor f (l ++ [x]) = bor f l ++ [(drop f x.2.1 : Int)] := by simp [bor, h]
theorem bor_miss (f : Nat) (l : List IV) (x : IV) (h : drop f x.2.1 = 0) : bor f (l ++ [x]) = bor f l := by simp [bor, h]
theorem bor_len (f : Nat) (l : List IV) : (bor f l).length ≤ l.length := by
 unfold bor; rw [List.length_map]; exact List.length_filter_le _ _
/-- the k-th vertex from behind -/
def ivAt (f k : Nat) : IV := ((vs f).length - 1 - k, ⟨min ((vs f)[(vs f).length - 1 - k]?.getD 0).toNat 5, Nat.min_le_right _ _⟩)
def ivEnc (x : IV) : Array Value := #[.int .i64 (x.1 : Int), .int .i64 (x.2.1 : Int)]
/-- the sets with one vertex less, other than the empty one, ascending -/
def below (f : Nat) : List Int := (((List.range 6).reverse.filter fun v => f.testBit v).map (drop f)).filterMap fun (g : Nat) => if g = 0 then none else some (g : Int)
theorem below_bor : ∀ f, f < 64 → bor f (upto (ivAt f) (vs f).length) = below f := by decide +kernel
theorem vs_bd : ∀ f, f < 64 → ∀ x ∈ vs f, 0 ≤ x ∧ x ≤ 5 := by decide +kernel
theorem vs_len : ∀ f, f < 64 → (vs f).length ≤ 6 := by decide +kernel
theorem drop_lt {f v : Nat} (hf : f ≤ 63) (hv : v ≤ 5) : drop f v < 64 := by
 unfold drop
 exact Nat.xor_lt_two_pow (n := 6) (by omega) (Nat.and_lt_two_pow _ (by have := pow_bd v hv; omega))
theorem drop_bits (f v : Nat) (hf : f ≤ 63) (hv : v ≤ 5) : bits .andNot .i64 (f : Int) ((2 ^ v : Nat) : Int) = (drop f v : Int) := by
 have := pow_bd v hv
 unfold drop
 exact andNot_i64 f (2 ^ v) (by omega) (by omega)
theorem appended_mid {W w1 : World} {n₀ n₁ B : Nat} {t e : TypeId} {size : Nat} {v v' : Value} {k m : Nat} {xs ys : List Value} {tmp : Obj}
  (hv : Boxed W B t v) (hte : t ≠ e) (hrow : W.ownsRow n₀ e size v k xs) (hn₁ : n₁ ≤ n₀) (hn₀ : n₀ ≤ W.heap.size) (hB : n₁ ≤ B)
  (hown' : w1.ownsRow n₀ e size v' m ys) (hgrow : (W.alloc tmp).grownBy w1 v.ownBlock) :
  Boxed w1 B t v ∧ Boxed (w1.setCell ⟨B, 0, none⟩ v') B t v' ∧ (w1.setCell ⟨B, 0, none⟩ v').ownsRow n₀ e size v' m ys ∧ KeepsOthers W (w1.setCell ⟨B, 0, none⟩ v') ∧ Below n₁ W (w1.setCell ⟨B, 0, none⟩ v') ∧ ∀ j, j < n₀ → j ≠ B → (w1.setCell ⟨B, 0, none⟩ v').heap[j]? = W.heap[j]? := by
 obtain ⟨a1, a2, -, a4, a5⟩ := hv.appended hte (own_less hrow hn₁) (Nat.le_trans hn₁ hn₀) hB (own_less hown' hn₁) hgrow
 refine ⟨a1, a2, hown'.kept (grownBy_setCell' w1 B v') (.inr (a1.not_row hte hown').symm), a4, a5, fun j hj1 hj2 => ?_⟩
 have hne : some j ≠ v.ownBlock := by
  rcases hrow.2 with ⟨rfl, _⟩ | ⟨g, cap, cur, rfl, hb, _, _⟩
  ·simp [Value.ownBlock]
  ·simp [Value.ownBlock]; omega
 have h1 := (grownBy_setCell' w1 B v').block j (by have := hgrow.size; simp at this; omega) (by simp; omega)
 have h2 := hgrow.block j (by simp; omega) hne
 rw [h1, h2]
 exact (World.grownBy_alloc W tmp none).block j (by omega) (by simp)
theorem iv_enc {f k : Nat} (hf : f < 64) (hk : k < (vs f).length) : ivEnc (ivAt f k) = #[.int .i64 (((vs f).length : Int) - 1 - k), .int .i64 ((vs f)[(vs f).length - 1 - k]?.getD 0)] := by
 have h : (vs f).length - 1 - k < (vs f).length := by omega
 have hb := vs_bd f hf _ (List.getElem_mem h)
 have e1 : (((vs f).length - 1 - k : Nat) : Int) = ((vs f).length : Int) - 1 - k := by omega
 have e2 : ((min ((vs f)[(vs f).length - 1 - k]?.getD 0).toNat 5 : Nat) : Int) = (vs f)[(vs f).length - 1 - k]?.getD 0 := by
  rw [List.getElem?_eq_getElem h, Option.getD_some]; omega
 unfold ivEnc ivAt
 rw [e1, e2]
set_option maxRecDepth 100000 in
set_option maxHeartbeats 2000000 in
theorem borders_in (n : Nat) (hn : 3 ≤ n) (f : Nat) (hf : f ≤ 63) (w : World) :
  CallsIn Fence.wide n Tryz.prog 140 #[.int .i64 f] w fun e w' => ∃ v, e = .returned v ∧ OwnI w.heap.size w' v (below f) ∧ Below w.heap.size w w' := by
 have h1 : 1 ≤ n := by omega
 obtain ⟨i0, hi, hz0, hz1, hz2⟩ := info_parts info64
 refine callsIn_of_wp_marks Tryz.func140 rfl trivial ?_ rfl
 simp only [Tryz.ntmps140, List.size_toArray, List.length_cons, List.length_nil, Nat.reduceAdd, Nat.reduceSub, Array.replicate_succ, Array.replicate_zero, List.push_toArray, List.append_toArray, List.nil_append, List.cons_append]
 gi_wp2_with (first | (refine ⟨trivial, ?_⟩; gi_at_call 272; refine (callsIn_wide.2 (vertices f hf _)).mono ?_; rintro e w3 ⟨v3, rfl, ho3, hb3⟩; obtain ⟨A3, c3, rfl, -⟩ := ho3.read) | (refine ⟨trivial, ?_⟩; gi_at_call 276; refine (back_in Fence.wide (n - 1) trivial rfl _ _ _ _).mono ?_; rintro e w' ⟨rfl, rfl⟩))
 have hf' : f < 64 := by omega
 have hlen := vs_len f hf'
 obtain ⟨w2, hw2⟩ : ∃ w2, w2 = (w.alloc (Obj.cells #[Value.int IntKind.i64 ↑f] 2)).alloc (Obj.cells #[Value.slice none 0 0] 24) := ⟨_, rfl⟩
 have bF : Boxed w2 w.heap.size 2 (.int .i64 f) := by rw [hw2]; exact (Boxed.new w _ _).alloc _
 have bO : Boxed w2 (w.heap.size + 1) 24 (.slice none 0 0) := by rw [hw2]; have := Boxed.new (w.alloc (Obj.cells #[Value.int IntKind.i64 ↑f] 2)) 24 (.slice none 0 0); rwa [World.size_alloc] at this
 have hB2 : Below w.heap.size w w2 := by rw [hw2]; exact ((Below.refl _ w).alloc (Nat.le_refl _) _).alloc (by simp) _
 rw [← hw2] at hb3 ho3
 clear hw2
 have hB3 : Below w.heap.size w w3 := hB2.trans (hb3.mono hB2.size)
 have bF3 : Boxed w3 w.heap.size 2 (.int .i64 f) := (hb3.block _ bF.lt).trans bF
 have bO3 : Boxed w3 (w.heap.size + 1) 24 (.slice none 0 0) := (hb3.block _ bO.lt).trans bO
 have bN := Boxed.new w3 24 (.slice A3 (vs f).length c3)
 have hlt3 := ho3.lt
 have hblt := bO.lt
 have hbsz := hb3.size
 have hbs3 := ho3.base
 obtain ⟨w4, hw4⟩ : ∃ w4, w4 = w3.alloc (Obj.cells #[Value.slice A3 (vs f).length c3] 24) := ⟨_, rfl⟩
 have ho4 : OwnI w2.heap.size w4 (.slice A3 (vs f).length c3) (vs f) := by rw [hw4]; exact ho3.below (Below.alloc (Below.refl _ _) (Nat.le_refl _) _)
 have bF4 : Boxed w4 w.heap.size 2 (.int .i64 f) := by rw [hw4]; exact bF3.alloc _
 have bO4 : Boxed w4 (w.heap.size + 1) 24 (.slice none 0 0) := by rw [hw4]; exact bO3.alloc _
 have hB4 : Below w.heap.size w w4 := by rw [hw4]; exact hB3.alloc hB3.size _
 have hs4 : w4.heap.size = w3.heap.size + 1 := by rw [hw4]; simp
 rw [← hw4] at bN ⊢
 clear hw4
 refine wpIn_rangeFunc_ownG rfl h1 (gf := 356) (lb := #[.pointer (some ⟨w3.heap.size, 0, none⟩)]) rfl trivial (enters_of Tryz.func356 (by kernel_rfl) rfl)
  (back_stops ivEnc (ivAt f) Fence.wide (n - 1) trivial rfl (by omega) w3.heap.size w2.heap.size w4.heap.size _ (vs f) (by omega) w4 _ (by have := hb3.size; omega) (Nat.le_refl _) bN.cell ho4 (fun k hk => iv_enc hf' hk) (fun k hk => by have := hlt3 k hk; have := hbs3 k hk; omega)) (fun a b => Mid.trans a b) ?hKb (Below.refl _ _) (fun _ => rfl)
  (fun pre W => (∃ v, Boxed W (w.heap.size + 1) 24 v ∧ W.ownsRow w4.heap.size 2 1 v (bor f pre).length ((bor f pre).map (Value.int .i64)) ∧ True) ∧ (Boxed W w.heap.size 2 (.int .i64 f) ∧ Below w.heap.size w W ∧ w4.heap.size ≤ W.heap.size))
  (fun _ _ _ => False)
  ?hI (fun _ _ _ _ _ hs _ _ => hs) ?h0
  (fun x => { tmps := #[.int .i64 f, .pointer (some ⟨w.heap.size, 0, none⟩), .slice none 0 0, .pointer (some ⟨w.heap.size + 1, 0, none⟩), undef, .int .i64 (x.2.1 : Int), undef, .int .i64 f, .slice A3 (vs f).length c3, .func (.func 356) #[] #[.pointer (some ⟨w3.heap.size, 0, none⟩)], .int .i64 (x.1 : Int), .int .i64 (x.2.1 : Int), undef, undef, undef, undef, undef, undef, undef, undef, undef, undef, undef], defers := [] }) ?assign ?body ?done ?stop
 case hI => exact OwnFrom.and (Own.from (holdsRow_own w4.heap.size (w.heap.size + 1) 24 2 1 (fun pre => (bor f pre).length) (fun pre => (bor f pre).map (Value.int .i64)) (fun pre v => True)) _) (OwnFrom.and (Own.from (boxed_own _ _ _) _) (OwnFrom.and (ownFrom_below (Nat.le_refl _) (by have := hB4.size; omega)) (fun s W W' row hs hg hr => Nat.le_trans hs hg.size)))
 case hKb => exact fun W l o o' hl ho h1 h2 => Mid.of_below (belowK_b (w := w4) (Nat.le_refl _) W l o o' hl ho h1 h2)
 case h0 => exact ⟨⟨_, bO4, World.ownsRow_nil _ _ _ _, trivial⟩, bF4, hB4, Nat.le_refl _⟩
 case assign =>
  intro l x W K hK
  unfold ivEnc
  gi_wp2
  exact hK
 case body =>
  rintro l pre ⟨j, v, hv5⟩ W ⟨⟨v0, hv, hrow, -⟩, hbF, hB, hz4⟩ hlt
  have hc := hv.cell
  have hcf := hbF.cell
  have hpl := bor_len f pre
  have hmx : Tryz.prog.follows .mixedOrders = true := by kernel_rfl
  obtain ⟨p, hp⟩ : ∃ p : Nat, p = 2 ^ v := ⟨_, rfl⟩
  have hpb : p ≤ 32 := by rw [hp]; exact pow_bd v hv5
  have hsh : wrap64 ((2 : Int) ^ v) = (p : Int) := by rw [hp]; exact pow_wrap v (by omega)
  have hdn : bits .andNot .i64 (f : Int) (p : Int) = (drop f v : Int) := by rw [hp]; exact drop_bits f v hf hv5
  have hdl := drop_lt hf hv5
  have HP := Aside0.mk hp
  clear hp
  obtain ⟨d, hd⟩ : ∃ d, d = drop f v := ⟨_, rfl⟩
  rw [← hd] at hdn hdl
  have HD := Aside0.mk hd
  clear hd
  have hshr : IntKind.i64.wrap ((2 : Int) ^ v) = (p : Int) := by rw [HP.out]; exact pow_wrap' v (by omega)
  have hps := hB.size
  by_cases h0 : d = 0
  ·have h0b : ((d : Int) != 0) = false := by rw [h0]; rfl
   have HZ := Aside0.mk h0
   clear h0
   gi_wp2
   gi_region_with_o (fail)
   all_goals gi_wp2
   all_goals exact ⟨⟨Nat.le_refl _, fun _ _ _ h _ => h⟩, fun _ _ _ => rfl, ⟨v0, hv, by rw [bor_miss f pre (j, ⟨v, hv5⟩) (HD.out.symm.trans HZ.out)]; exact hrow, trivial⟩, hbF, hB.drew, hz4⟩
  ·have h0b : ((d : Int) != 0) = true := by simp; exact h0
   have HZ := Aside0.mk h0
   clear h0
   gi_wp2
   gi_region_with_o (fail)
   all_goals (obtain ⟨W1, hW1⟩ : ∃ W1, W1 = W.drew := ⟨_, rfl⟩)
   all_goals (have hk1 : KeepsFrom w4.heap.size W W1 := (by rw [hW1]; exact ⟨Nat.le_refl _, fun _ _ _ h _ => h⟩))
   all_goals (have hm1 : Mid w2.heap.size w4.heap.size W W1 := (by rw [hW1]; exact fun _ _ _ => rfl))
   all_goals (replace hv : Boxed W1 (w.heap.size + 1) 24 v0 := (by rw [hW1]; exact hv))
   all_goals (replace hbF : Boxed W1 w.heap.size 2 (.int .i64 f) := (by rw [hW1]; exact hbF))
   all_goals (replace hrow : W1.ownsRow w4.heap.size 2 1 v0 (bor f pre).length ((bor f pre).map (Value.int .i64)) := (by rw [hW1]; exact hrow))
   all_goals (replace hB : Below w.heap.size w W1 := (by rw [hW1]; exact hB.drew))
   all_goals (replace hz4 : w4.heap.size ≤ W1.heap.size := (by rw [hW1]; exact hz4))
   all_goals rw [← hW1]
   all_goals clear hW1 hc hcf hps
   all_goals (have hmL : 100 ≤ maxLen := (by decide))
   all_goals (have hc := hv.cell; have hcf := hbF.cell; have hps := hB.size)
   all_goals gi_wp2_with (gi_at_builtin; refine wpListIn_append_own _ rfl _ _ 24 rfl w4.heap.size 2 i0 (.int .i64 0) 1 8 Tryz.underlying24 hi hz0 hz1 hz2 rfl (by decide) _ _ _ rfl (hrow.alloc _) ⟨W1.heap.size, 0, none⟩ 1 1 [.int .i64 d] rfl rfl (cell_one_new _ _ _) (by simp [Value.oneCell']) (by omega) (by omega) (by simp; omega) ?_; intro v' w1 hown' hgrow _; obtain ⟨g', cap', rfl⟩ := ownsRow_succ hown'; obtain ⟨hv1, hv2, hr2, hk2, hb2, hm2⟩ := appended_mid hv (by decide) hrow hB4.size hz4 (Nat.le_succ _) hown' hgrow; have hc1 := hv1.cell; have hf1 := hv1.frozen)
   all_goals exact ⟨hk1.trans (hk2.from _), hm1.trans fun k k1 k2 => hm2 k k2 (by omega), ⟨_, hv2, by rw [bor_hit f pre (j, ⟨v, hv5⟩) (fun e => HZ.out (HD.out.trans e))]; simpa [← HD.out] using hr2, trivial⟩, (hm2 _ (by omega) (by omega)).trans hbF, hB.trans hb2, Nat.le_trans hz4 hk2.size⟩
 case done =>
  rintro D ys W hD rfl ⟨⟨v0, hv, hrow, -⟩, hbF, hB, hz4⟩ hK
  have hc := hv.cell
  gi_wp2
  refine ⟨by simp, .inl ⟨_, _, rfl, run_takeDeferred hK, ?_⟩⟩
  have hBD := hB.trans (belowK_b (w := w) (Nat.le_refl _) W D _ (.deferred none) (by have := hB4.size; omega) hK rfl rfl)
  rw [below_bor f hf'] at hrow
  exact ⟨_, results_tmp rfl _ _ _, v0, rfl, OwnI.of_row (ownsRow_putObj hrow _ hK rfl) hB4.size, hBD⟩
 case stop =>
  rintro D c pre W _ _ h _
  exact h.elim
theorem borders (f : Nat) (hf : f ≤ 63) (w : World) :
  Calls Tryz.prog 140 #[.int .i64 f] w fun e w' => ∃ v, e = .returned v ∧ OwnI w.heap.size w' v (below f) ∧ Below w.heap.size w w' :=
 callsIn_wide.1 (borders_in 3 (Nat.le_refl _) f hf w)
end Go.Proofs.YtomofijniefelaaGreat.H

namespace Go.Proofs.YtomofijniefelaaGreat.H
open Go.RowKit Go.Proofs.YtomofijniefelaaGreatW.PrintWords Go.Proofs.YtomofijniefelaaGreatW.PrintLast
set_option linter.unusedVariables false
set_option linter.unusedSimpArgs false
theorem pow_wrap62 : ∀ v, v < 63 → wrap64 ((2 : Int) ^ v) = ((2 ^ v : Nat) : Int) := by decide +kernel
theorem pow_bd62 : ∀ v, v < 63 → 1 ≤ 2 ^ v ∧ 2 ^ v ≤ 4611686018427387904 := by decide +kernel
theorem OwnI.empty {b : Nat} (w : World) (hb : b ≤ w.heap.size) : OwnI b (w.alloc (.cells #[] 2)) (.slice (some ⟨w.heap.size, 0, none⟩) 0 0) [] :=
 OwnI.of_row (xs := []) ⟨rfl, .inr ⟨w.heap.size, 0, #[], rfl, hb, World.alloc_heap_new _ _, Nat.le_refl _, by decide, rfl, rfl⟩⟩ (Nat.le_refl _)
/-- what the reference collects over the first k places, from 62 down -/
def blw (f k : Nat) : List Int := (List.range k).filterMap fun i => if f.testBit (62 - i) && !(f == 2 ^ (62 - i)) then some ((f : Int) - ((2 ^ (62 - i) : Nat) : Int)) else none
theorem blw_hit (f v : Nat) (hv : v ≤ 62) (h : f.testBit v = true) (h2 : ¬ f = 2 ^ v) : blw f (62 - v + 1) = blw f (62 - v) ++ [(f : Int) - ((2 ^ v : Nat) : Int)] := by
 unfold blw
 rw [List.range_succ, List.filterMap_append]
 have e : 62 - (62 - v) = v := by omega
 simp [e, h, h2]
theorem blw_miss (f v : Nat) (hv : v ≤ 62) (h : f.testBit v = false ∨ f = 2 ^ v) : blw f (62 - v + 1) = blw f (62 - v) := by
 unfold blw
 rw [List.range_succ, List.filterMap_append]
 have e : 62 - (62 - v) = v := by omega
 rcases h with h | h <;> simp [e, h]
theorem blw_len (f k : Nat) : (blw f k).length ≤ k := by
 unfold blw
 exact Nat.le_trans (List.length_filterMap_le _ _) (by simp)
theorem blw_all : ∀ f, f < 64 → blw f 63 = below f := by decide +kernel
set_option maxHeartbeats 1000000 in
theorem specBelow (f : Nat) (hf : f ≤ 63) (w : World) :
  Calls Tryz.prog 285 #[.int .i64 f] w fun e w' => ∃ v, e = .returned v ∧ OwnI w.heap.size w' v (below f) ∧ Below w.heap.size w w' := by
 rw [← blw_all f (by omega)]
 go_enter Tryz.func285, Tryz.ntmps285
 go_wp2
 go_loopw [3, 4] (fun v i wr => ∃ k : Nat, i = .int .i64 ((k : Int) - 1) ∧ k ≤ 63 ∧ Aside0 (OwnI w.heap.size wr v (blw f (63 - k))) ∧ Aside0 (Below w.heap.size w wr)) (fun _ i _ => (intOf i + 1).toNat)
 case atStart => exact ⟨63, rfl, by omega, ⟨by simp [blw]; exact OwnI.empty _ (Nat.le_refl _)⟩, ⟨Below.alloc (Below.refl _ _) (Nat.le_refl _) _⟩⟩
 case round =>
  obtain ⟨k, rfl, hk, HO, HB⟩ := hrel
  by_cases hlt : 0 < k
  ·obtain ⟨v, rfl⟩ : ∃ v, k = v + 1 := ⟨k - 1, by omega⟩
   have ev : (((v + 1 : Nat) : Int) - 1) = (v : Int) := by omega
   rw [ev]
   have e62 : 63 - (v + 1) = 62 - v := by omega
   rw [e62] at HO
   have hbit := bit_of f v (by omega)
   have hsh := pow_wrap62 v (by omega)
   have hpb := pow_bd62 v (by omega)
   have HE : Aside0 (63 - v = 62 - v + 1) := ⟨by omega⟩
   obtain ⟨p, hp⟩ : ∃ p : Nat, p = 2 ^ v := ⟨_, rfl⟩
   rw [← hp] at hsh hpb
   have HP := Aside0.mk hp
   clear hp ev e62
   cases ht : f.testBit v with
   | true =>
    rw [ht, if_pos rfl] at hbit
    have HT := Aside0.mk ht
    clear ht
    by_cases hfp : f = p
    ·have hfb : ((f : Int) != (p : Int)) = false := by simp; omega
     have HF := Aside0.mk hfp
     clear hfp
     go_wp2
     go_roundw
     case rel => exact ⟨v, by go_num, by omega, ⟨by rw [HE.out, blw_miss f v (by omega) (.inr (HF.out.trans HP.out))]; exact HO.out⟩, HB⟩
     case measure => simp [intOf]
    ·have hfb : ((f : Int) != (p : Int)) = true := by simp; omega
     have HF := Aside0.mk hfp
     clear hfp
     go_wp2_with (first | (at_builtin; refine app_own (w0 := w) w.heap.size rfl (.tmp 23) (.tmp 29) rfl _ (blw f (62 - v)) ((f : Int) - p) rfl rfl HO.out HB.out HB.out.size ?hl ?_; (case hl => have := blw_len f (62 - v); omega); intro v1 w1 ho hb hg hat; have HO1 := Aside0.mk ho; have HB1 := Aside0.mk hb; clear ho hb hg hat))
     go_roundw
     case rel => exact ⟨v, by go_num, by omega, ⟨by rw [HE.out, blw_hit f v (by omega) HT.out (fun e => HF.out (e.trans HP.out.symm)), ← HP.out]; exact HO1.out⟩, HB1⟩
     case measure => simp [intOf]
   | false =>
    rw [ht, if_neg (by decide)] at hbit
    have HT := Aside0.mk ht
    clear ht
    go_wp2
    go_roundw
    case rel => exact ⟨v, by go_num, by omega, ⟨by rw [HE.out, blw_miss f v (by omega) (.inl HT.out)]; exact HO.out⟩, HB⟩
    case measure => simp [intOf]
  ·obtain rfl : k = 0 := by omega
   go_wp2
   go_ret
   exact ⟨_, rfl, HO.out, HB.out⟩
/-- the i-th face is as it has to be -/
def upAt (n : Nat) (l : List Int) (i : Nat) : Bool := (decide (1 ≤ l.getD i 0) && decide (l.getD i 0 ≤ ((2 ^ n : Nat) : Int) - 1)) && !(decide (0 < i) && decide (l.getD i 0 ≤ l.getD (i - 1) 0))
def belowIn (l : List Int) (f : Int) : Bool := (below f.toNat).all fun g => decide (g ∈ l)
def cxUp (n : Nat) (l : List Int) : Bool := (List.range l.length).all (upAt n l)
/-- these make a complex -/
def cxOk (a : Int) (l : List Int) : Bool := (decide (1 ≤ a) && decide (a ≤ 6)) && (cxUp a.toNat l && l.all (belowIn l))
theorem cxUp_at {n : Nat} {l : List Int} {i : Nat} (h : cxUp n l = true) (hi : i < l.length) : upAt n l i = true := by
 unfold cxUp at h
 rw [List.all_eq_true] at h
 exact h i (List.mem_range.2 hi)
theorem cxUp_bd {n : Nat} {l : List Int} (h : cxUp n l = true) : ∀ x ∈ l, 1 ≤ x ∧ x ≤ ((2 ^ n : Nat) : Int) - 1 := by
 intro x hx
 obtain ⟨i, hi, rfl⟩ := List.getElem_of_mem hx
 have := cxUp_at h hi
 unfold upAt at this
 simp only [Bool.and_eq_true, decide_eq_true_eq] at this
 have e : l.getD i 0 = l[i] := by simp [List.getD_eq_getElem?_getD, hi]
 rw [e] at this
 exact this.1
theorem cxUp_asc {n : Nat} {l : List Int} (h : cxUp n l = true) : l.Pairwise (· < ·) := by
 have key : ∀ k i, i + k < l.length → 0 < k → l.getD i 0 < l.getD (i + k) 0 := by
  intro k
  induction k with
  | zero => intro i _ h0; omega
  | succ k ih =>
   intro i hi _
   have h1 := cxUp_at h (i := i + (k + 1)) hi
   unfold upAt at h1
   simp only [Bool.and_eq_true, Bool.not_eq_true', Bool.and_eq_false_iff, decide_eq_false_iff_not] at h1
   have h2 : l.getD (i + k) 0 < l.getD (i + (k + 1)) 0 := by
    rcases h1.2 with h3 | h3
    ·omega
    ·have e : i + (k + 1) - 1 = i + k := by omega
     rw [e] at h3; omega
   by_cases hk : k = 0
   ·subst hk; exact h2
   ·have := ih i (by omega) (by omega)
    omega
 rw [List.pairwise_iff_getElem]
 intro i j hi hj hij
 have := key (j - i) i (by omega) (by omega)
 have e : i + (j - i) = j := by omega
 rw [e] at this
 simpa [List.getD_eq_getElem?_getD, hi, hj] using this
theorem pw6 {n : Nat} (h : n ≤ 6) : 1 ≤ 2 ^ n ∧ 2 ^ n ≤ 64 := by
 rcases (by omega : n = 0 ∨ n = 1 ∨ n = 2 ∨ n = 3 ∨ n = 4 ∨ n = 5 ∨ n = 6) with rfl | rfl | rfl | rfl | rfl | rfl | rfl <;> decide
theorem asc_len {l : List Int} (h : l.Pairwise (· < ·)) {b : Nat} (hb : ∀ x ∈ l, 1 ≤ x ∧ x ≤ (b : Int)) : l.length ≤ b := by
 have key : ∀ i, i < l.length → (i : Int) + 1 ≤ l.getD i 0 := by
  intro i
  induction i with
  | zero => intro h0; have := (hb _ (mem_at h0 rfl)).1; simpa using this
  | succ i ih => intro hi; have h1 := ih (by omega); have h2 := asc_lt h (show i < i + 1 by omega) hi; push_cast; omega
 cases hl : l.length with
 | zero => omega
 | succ m =>
  have h1 := key m (by omega)
  have h2 := (hb _ (mem_at (i := m) (by omega) rfl)).2
  omega
theorem cxUp_len {n : Nat} (hn : n ≤ 6) {l : List Int} (h : cxUp n l = true) : l.length ≤ 63 := by
 have := pw6 hn
 have h1 := asc_len (cxUp_asc h) (b := 2 ^ n - 1) (fun x hx => by have := cxUp_bd h x hx; omega)
 omega
/-- what is known of a complex -/
structure Cx (n : Nat) (l : List Int) : Prop where
 lo : 1 ≤ n
 hi : n ≤ 6
 asc : l.Pairwise (· < ·)
 bd : ∀ x ∈ l, 1 ≤ x ∧ x ≤ ((2 ^ n : Nat) : Int) - 1
 len : l.length ≤ 63
theorem cxOk_cx {a : Int} {l : List Int} (h : cxOk a l = true) : ∃ n : Nat, a = n ∧ Cx n l ∧ l.all (belowIn l) = true := by
 unfold cxOk at h
 simp only [Bool.and_eq_true, decide_eq_true_eq] at h
 obtain ⟨⟨h1, h2⟩, h3, h4⟩ := h
 refine ⟨a.toNat, by omega, ⟨by omega, by omega, cxUp_asc h3, cxUp_bd h3, cxUp_len (by omega) h3⟩, h4⟩
theorem Cx.nat {n : Nat} {l : List Int} (h : Cx n l) {x : Int} (hx : x ∈ l) : ∃ f : Nat, x = f ∧ 1 ≤ f ∧ f ≤ 63 := by
 have := h.bd x hx
 have := pw6 h.hi
 exact ⟨x.toNat, by omega, by omega, by omega⟩
/-- has as a function value -/
theorem hasPred {w : World} {a : Int} {u : Value} {l : List Int} (hr : ReadI w u l) (hs : l.Pairwise (· < ·)) (hl : l.length ≤ 1000) :
  PredI w (.func (.func 129) #[cx a u] #[]) (fun f => decide (f ∈ l)) (fun _ => True) :=
 ⟨_, _, _, rfl, Enters.mk' Tryz.func129 rfl rfl, fun w1 x hb _ => has a u l x w1 (hr.below hb) hs hl⟩
set_option maxHeartbeats 1000000 in
theorem isComplex1 (w : World) (b : Nat) (a : Int) (u : Value) (l : List Int) (hr : ReadI w u l) (hs : l.Pairwise (· < ·)) (hl : l.length ≤ 1000) (h0 : w.cell? ⟨b, 0, none⟩ = some (.int .i64 a)) (h1 : w.cell? ⟨b, 1, none⟩ = some u) :
  PredI w (.func (.func 139) #[] #[.pointer (some ⟨b, 0, none⟩)]) (belowIn l) (fun f => 1 ≤ f ∧ f ≤ 63) := by
 refine ⟨_, _, _, rfl, Enters.mk' Tryz.func139 rfl rfl, fun w1 x hb hx => ?_⟩
 obtain ⟨f, rfl⟩ : ∃ f : Nat, x = f := ⟨x.toNat, by omega⟩
 have hf : f ≤ 63 := by omega
 have hc0 : w1.cell? ⟨b, 0, none⟩ = some (.int .i64 a) := pw_cell_below hb h0
 have hc1 : w1.cell? ⟨b, 1, none⟩ = some u := pw_cell_below hb h1
 have HR := Aside0.mk (hr.below hb)
 have HS := Aside0.mk hs
 clear hb h0 h1 hs hx
 show Calls _ _ #[_, _] _ _
 go_enter Tryz.func139, Tryz.ntmps139
 go_wp2
 have hmx : Tryz.prog.follows .mixedOrders = true := by kernel_rfl
 have hD : Below w1.heap.size w1 w1.drew := (Below.refl _ _).drew
 go_region_with (first | (go_at_call 140; refine (borders f hf _).mono ?_; rintro e w3 ⟨v, rfl, ho, hb⟩; have hc0' := pw_cell_below hb (show w1.drew.cell? _ = _ from hc0); have hc1' := pw_cell_below hb (show w1.drew.cell? _ = _ from hc1); obtain ⟨A3, c3, rfl, -⟩ := ho.read; have HO := Aside0.mk ho; clear ho) | (go_at_call 138; refine (areAll _ _ _ (fun g => decide (g ∈ l)) (fun _ => True) _ HO.out.read (hasPred (HR.out.below ?hx) HS.out hl) (fun _ _ => trivial)).mono ?_; (case hx => (repeat (first | (with_reducible exact Below.refl _ _) | (with_reducible assumption) | (with_reducible refine below_step ?_ (by assumption)) | (with_reducible apply below_alloc) | (with_reducible apply below_drewN)))); rintro e w4 ⟨rfl, hb4⟩))
 all_goals go_wp2
 all_goals go_ret
 all_goals exact ⟨rfl, by (repeat (first | (with_reducible exact Below.refl _ _) | (with_reducible assumption) | (with_reducible refine below_step ?_ (by assumption)) | (with_reducible apply below_alloc) | (with_reducible apply below_drewN)))⟩
theorem up_false {n : Nat} {l : List Int} {i : Nat} (hi : i < l.length) (h : upAt n l i = false) : cxUp n l = false := by
 unfold cxUp
 rw [List.all_eq_false]
 exact ⟨i, List.mem_range.2 hi, by rw [h]; decide⟩
theorem up_true {n : Nat} {l : List Int} (h : ∀ i, i < l.length → upAt n l i = true) : cxUp n l = true := by
 unfold cxUp
 rw [List.all_eq_true]
 exact fun i hi => h i (List.mem_range.1 hi)
set_option maxHeartbeats 2000000 in
theorem isComplex (a : Int) (u : Value) (l : List Int) (w : World) (hr : ReadI w u l) :
  Calls Tryz.prog 16 #[cx a u] w fun e w' => e = .returned (.bool (cxOk a l)) ∧ Below w.heap.size w w' := by
 have hba : Below w.heap.size w (w.alloc (.cells #[.int .i64 a, u] 26)) := Below.alloc (Below.refl _ _) (Nat.le_refl _) _
 have HB := Aside0.mk hba
 have HR0 := Aside0.mk (hr.below hba)
 obtain ⟨A, c, rfl, hc, hr⟩ := id hr
 have HR := Aside0.mk (Kd.C_below hr hba)
 have hlen : l.length ≤ 9223372036854775807 := hr.2.1
 clear hr hba
 obtain ⟨w1, hw1⟩ : ∃ w1, w1 = w.alloc (Obj.cells #[.int .i64 a, Value.slice A l.length c] 26) := ⟨_, rfl⟩
 have hc0 : w1.cell? ⟨w.heap.size, 0, none⟩ = some (.int .i64 a) := by rw [hw1]; simp
 have hc1 : w1.cell? ⟨w.heap.size, 1, none⟩ = some (Value.slice A l.length c) := by rw [hw1]; simp
 rw [← hw1] at HB HR HR0
 by_cases ha : 1 ≤ a ∧ a ≤ 6
 ·obtain ⟨n, rfl⟩ : ∃ n : Nat, a = n := ⟨a.toNat, by omega⟩
  have hs : (decide ((1 : Int) ≤ n) && decide ((n : Int) ≤ 6)) = true := by simp; omega
  have hn : 1 ≤ n ∧ n ≤ 6 := by omega
  have HA : Aside0 (cxOk n l = (cxUp n l && l.all (belowIn l))) := ⟨by unfold cxOk; rw [hs]; rfl⟩
  obtain ⟨N, hN⟩ : ∃ N : Nat, N = 2 ^ n := ⟨_, rfl⟩
  have HN := Aside0.mk hN
  clear hN ha
  go_enter Tryz.func16, Tryz.ntmps16
  go_wp2_with (first | (rw [← hw1]; clear hw1; go_at_call 135; refine (isSize _ _).mono ?_; rintro e w2 ⟨rfl, hb⟩; rw [hs]; have hc0 := pw_cell_below hb hc0; have hc1 := pw_cell_below hb hc1; have HB2 := Aside0.mk hb; clear hb))
  go_loopw [12] (fun v wr => ∃ i : Nat, v = .int .i64 i ∧ i ≤ l.length ∧ Aside0 (∀ k, k < i → upAt n l k = true) ∧ Below w2.heap.size w2 wr) (fun v _ => l.length - (intOf v).toNat)
  case atStart => exact ⟨0, rfl, Nat.zero_le _, ⟨fun j hj => absurd hj (Nat.not_lt_zero _)⟩, Below.refl _ _⟩
  case round =>
   obtain ⟨i, rfl, hi, HU, hb⟩ := hrel
   have hc0r := pw_cell_below hb hc0
   have hc1r := pw_cell_below hb hc1
   have HBr := Aside0.mk (HB2.out.trans (hb.mono HB2.out.size))
   have HB3 := Aside0.mk hb
   clear hb
   by_cases hlt : i < l.length
   ·obtain ⟨ad, y, rfl, hcell, HY⟩ := ReadI.get (Kd.C_below HR.out HBr.out) hlt
    cases hwi : (decide ((1 : Int) ≤ y) && decide (y ≤ (N : Int) - 1)) with
    | false =>
     go_wp2_with (first | (go_at_call 137; refine (full n hn.2 _ _).mono ?_; rintro e w3 ⟨rfl, hb3⟩; rw [← HN.out]) | (go_at_call 136; refine (within _ _ _ _).mono ?_; rintro e w4 ⟨rfl, hb4⟩; rw [hwi]))
     go_ret
     exact ⟨by rw [HA.out, up_false hlt (by unfold upAt; rw [HY.out, ← HN.out, hwi]; rfl)]; rfl, by have := HB.out; have := HBr.out; (repeat (first | (with_reducible exact Below.refl _ _) | (with_reducible assumption) | (with_reducible refine below_step ?_ (by assumption)) | (with_reducible apply below_alloc) | (with_reducible apply below_drewN)))⟩
    | true =>
     by_cases h0 : i = 0
     ·have h0' : ¬ (0 : Int) < (i : Int) := by omega
      clear h0
      go_wp2_with (first | (go_at_call 137; refine (full n hn.2 _ _).mono ?_; rintro e w3 ⟨rfl, hb3⟩; rw [← HN.out]) | (go_at_call 136; refine (within _ _ _ _).mono ?_; rintro e w4 ⟨rfl, hb4⟩; rw [hwi]))
      go_roundw
      case rel =>
       refine ⟨i + 1, by go_num, by omega, ⟨fun k hk => ?_⟩, by have := HB3.out; (repeat (first | (with_reducible exact Below.refl _ _) | (with_reducible assumption) | (with_reducible refine below_step ?_ (by assumption)) | (with_reducible apply below_alloc) | (with_reducible apply below_drewN)))⟩
       rcases Nat.lt_succ_iff_lt_or_eq.1 hk with h | rfl
       ·exact HU.out k h
       ·unfold upAt; rw [HY.out, ← HN.out, hwi, decide_eq_false (by omega)]; rfl
      case measure => simp [intOf]; omega
     ·have h0' : (0 : Int) < (i : Int) := by omega
      obtain ⟨ad', y', e2, hcell2, HY2⟩ := ReadI.get (Kd.C_below HR.out HBr.out) (i := i - 1) (by omega)
      cases e2
      by_cases hle : y ≤ y'
      ·have HLE := Aside0.mk (decide_eq_true hle)
       go_wp2_with (first | (go_at_call 137; refine (full n hn.2 _ _).mono ?_; rintro e w3 ⟨rfl, hb3⟩; rw [← HN.out]; have hcell2 := pw_cell_below hb3 hcell2; have hc1r := pw_cell_below hb3 hc1r) | (go_at_call 136; refine (within _ _ _ _).mono ?_; rintro e w4 ⟨rfl, hb4⟩; rw [hwi]; have hcell2 := pw_cell_below hb4 hcell2; have hc1r := pw_cell_below hb4 hc1r))
       go_ret
       exact ⟨by rw [HA.out, up_false hlt (by unfold upAt; rw [HY.out, HY2.out, ← HN.out, hwi, HLE.out, decide_eq_true (by omega)]; rfl)]; rfl, by have := HB.out; have := HBr.out; (repeat (first | (with_reducible exact Below.refl _ _) | (with_reducible assumption) | (with_reducible refine below_step ?_ (by assumption)) | (with_reducible apply below_alloc) | (with_reducible apply below_drewN)))⟩
      ·have HLE := Aside0.mk (decide_eq_false hle)
       go_wp2_with (first | (go_at_call 137; refine (full n hn.2 _ _).mono ?_; rintro e w3 ⟨rfl, hb3⟩; rw [← HN.out]; have hcell2 := pw_cell_below hb3 hcell2; have hc1r := pw_cell_below hb3 hc1r) | (go_at_call 136; refine (within _ _ _ _).mono ?_; rintro e w4 ⟨rfl, hb4⟩; rw [hwi]; have hcell2 := pw_cell_below hb4 hcell2; have hc1r := pw_cell_below hb4 hc1r))
       go_roundw
       case rel =>
        refine ⟨i + 1, by go_num, by omega, ⟨fun k hk => ?_⟩, by have := HB3.out; (repeat (first | (with_reducible exact Below.refl _ _) | (with_reducible assumption) | (with_reducible refine below_step ?_ (by assumption)) | (with_reducible apply below_alloc) | (with_reducible apply below_drewN)))⟩
        rcases Nat.lt_succ_iff_lt_or_eq.1 hk with h | rfl
        ·exact HU.out k h
        ·unfold upAt; rw [HY.out, HY2.out, ← HN.out, hwi, HLE.out, Bool.and_false]; rfl
       case measure => simp [intOf]; omega
   ·have hu : cxUp n l = true := up_true (fun k hk => HU.out k (by omega))
    have HP := Aside0.mk (isComplex1 wr w.heap.size n (.slice A l.length c) l (HR0.out.below HBr.out) (cxUp_asc hu) (by have := cxUp_len hn.2 hu; omega) hc0r hc1r)
    have HBD : Aside0 (∀ x ∈ l, 1 ≤ x ∧ x ≤ 63) := ⟨fun x hx => by have := cxUp_bd hu x hx; have := pw6 hn.2; omega⟩
    have HUU := Aside0.mk hu
    clear hu
    go_wp2_with (first | (go_at_call 138; refine (areAll _ _ _ (belowIn l) _ _ (HR0.out.below HBr.out) HP.out HBD.out).mono ?_; rintro e w' ⟨rfl, hb3⟩))
    go_ret
    exact ⟨by rw [HA.out, HUU.out]; rfl, by have := HB.out; have := HBr.out; (repeat (first | (with_reducible exact Below.refl _ _) | (with_reducible assumption) | (with_reducible refine below_step ?_ (by assumption)) | (with_reducible apply below_alloc) | (with_reducible apply below_drewN)))⟩
 ·have hs : (decide ((1 : Int) ≤ a) && decide (a ≤ 6)) = false := by simp; omega
  have HA : Aside0 (cxOk a l = false) := ⟨by unfold cxOk; rw [hs]; rfl⟩
  clear ha
  go_enter Tryz.func16, Tryz.ntmps16
  go_wp2_with (first | (rw [← hw1]; clear hw1; go_at_call 135; refine (isSize _ _).mono ?_; rintro e w2 ⟨rfl, hb⟩; rw [hs]))
  go_ret
  exact ⟨by rw [HA.out]; rfl, by have := HB.out; (repeat (first | (with_reducible exact Below.refl _ _) | (with_reducible assumption) | (with_reducible refine below_step ?_ (by assumption)) | (with_reducible apply below_alloc) | (with_reducible apply below_drewN)))⟩
end Go.Proofs.YtomofijniefelaaGreat.H

/-! ### 50. A region's order in a table, made once a region: each step asks the table (numbers alone), not the operations -/
namespace Go.Proofs.YtomofijniefelaaGreatW.PrintLast
open Go.Proofs.YtomofijniefelaaGreatW.PrintWords (Aside0)
def needsOf (md : Region.Mode) (o : Oper) : List Nat := (o.after.toList.filter (fun e => Region.binds md e)).map (fun e => e.on)
def clashOf (md : Region.Mode) (ops : Array Oper) (i : Nat) (oi : Oper) : List Nat := (List.range ops.size).filter fun j => !(j == i) && match ops[j]? with
 | some oj => !(oj.after.any (fun e => Region.binds md e && e.on == i) || oi.apart ops oj)
 | none => false
/-- No select in it; for each operation: what must have come up before it, and what may not come up behind it if it is taken first. -/
def rtab (md : Region.Mode) (ops : Array Oper) : Bool × List (List Nat × List Nat) := (Region.noSelect ops, (List.range ops.size).map fun i => match ops[i]? with
 | some o => (needsOf md o, clashOf md ops i o)
 | none => ([], []))
def readyAt (T : List (List Nat × List Nat)) (l : List Bool) (i : Nat) : Bool := !l.getD i true && match T[i]? with
 | some r => r.1.all (fun j => l.getD j false)
 | none => false
def readyT (T : List (List Nat × List Nat)) (l : List Bool) : List Nat := (List.range T.length).filter (readyAt T l)
section
variable {md : Region.Mode} {ops : Array Oper} {T : Bool × List (List Nat × List Nat)} {l l' li lj lk : Array Bool} {ds : List Nat} {i j k : Nat}
theorem gd (l : Array Bool) (j : Nat) (b : Bool) : l.getD j b = l.toList.getD j b := by simp [Array.getD_eq_getD_getElem?, List.getD_eq_getElem?_getD]
theorem needs_all (o : Oper) (p : Nat → Bool) : o.after.all (fun e => !Region.binds md e || p e.on) = (needsOf md o).all p := by
 unfold needsOf
 rw [← Array.all_toList]
 induction o.after.toList with
 | nil => rfl
 | cons e r ih =>
  rw [List.all_cons, ih, List.filter_cons]
  cases h : Region.binds md e <;> simp
theorem rtab_length : (rtab md ops).2.length = ops.size := by simp [rtab]
theorem rtab_some {o : Oper} (h : ops[i]? = some o) : (rtab md ops).2[i]? = some (needsOf md o, clashOf md ops i o) := by
 have hi := (Array.getElem?_eq_some_iff.1 h).1
 unfold rtab
 rw [List.getElem?_map, List.getElem?_range hi, Option.map_some, h]
theorem rtab_none (h : ops[i]? = none) : (rtab md ops).2[i]? = none := by
 have hi : ops.size ≤ i := Array.getElem?_eq_none_iff.1 h
 exact List.getElem?_eq_none (by rw [rtab_length]; exact hi)
theorem readyAt_eq : readyAt (rtab md ops).2 l.toList i = (!l.getD i true && ((ops[i]?).map (·.after.all fun e => !Region.binds md e || l.getD e.on false)).getD false) := by
 unfold readyAt
 rw [gd]
 cases h : ops[i]? with
 | none => rw [rtab_none h]; rfl
 | some o =>
  rw [rtab_some h]
  simp only [Option.map_some, Option.getD_some]
  rw [← needs_all]
  simp only [gd]
theorem ready_eq : Region.ready md ops l = readyT (rtab md ops).2 l.toList := by
 unfold Region.ready readyT
 rw [rtab_length]
 refine List.filter_congr (fun i _ => ?_)
 rw [readyAt_eq]
/-- What d waits for, as_ bits: told in the table (B), checked in one pass: each bit is a need of d, or a bit of an earlier need's. -/
def upM (B : List Nat) (d : Nat) : List Nat → Nat
 | [] => 0
 | n :: r => (2 ^ n ||| (if n < d then B.getD n 0 else 0)) ||| upM B d r
def waitsOk (T : List (List Nat × List Nat)) (B : List Nat) : Bool := (List.range T.length).all fun d => match T[d]? with
 | some r => (B.getD d 0 ||| upM B d r.1) == upM B d r.1
 | none => false
theorem upM_bit {B : List Nat} {d i : Nat} : ∀ {ns : List Nat}, (upM B d ns).testBit i = true → ∃ n ∈ ns, n = i ∨ (n < d ∧ (B.getD n 0).testBit i = true)
 | [], h => by simp [upM] at h
 | n :: r, h => by
  unfold upM at h
  rw [Nat.testBit_or, Nat.testBit_or, Bool.or_eq_true, Bool.or_eq_true] at h
  rcases h with (h | h) | h
  ·rw [Nat.testBit_two_pow] at h
   exact ⟨n, List.mem_cons_self, .inl (by simpa using h)⟩
  ·by_cases hn : n < d
   ·rw [if_pos hn] at h
    exact ⟨n, List.mem_cons_self, .inr ⟨hn, h⟩⟩
   ·rw [if_neg hn] at h
    simp at h
  ·obtain ⟨m, hm, h2⟩ := upM_bit h
   exact ⟨m, List.mem_cons_of_mem _ hm, h2⟩
end
end Go.Proofs.YtomofijniefelaaGreatW.PrintLast

/-! ### 57. A region of open order by ONE relation over what is listed so far: each operation is shown once, whatever came up before it -/
namespace Go.Proofs.YtomofijniefelaaGreatW.PrintLast
/-- Number i is listed too. -/
def up (b : Nat → Bool) (i : Nat) : Nat → Bool := fun j => if j = i then true else b j
theorem up_self (b : Nat → Bool) (i : Nat) : up b i i = true := by simp [up]
theorem up_ne {b : Nat → Bool} {i j : Nat} (h : j ≠ i) : up b i j = b j := by simp [up, h]
/-- What is listed: O's operations by b, all else already. -/
def lof (n : Nat) (O : List Nat) (b : Nat → Bool) : List Bool := (List.range n).map fun j => if O.contains j then b j else true
section
variable {P : Program} {ops : Array Oper} {Q : Exit → Act → World → Prop} {md : Region.Mode} {T : Bool × List (List Nat × List Nat)} {B : List Nat} {O : List Nat} {b : Nat → Bool} {i j n : Nat}
theorem lof_length : (lof n O b).length = n := by simp [lof]
theorem lof_get {d : Bool} (hj : j < n) : (lof n O b).getD j d = if O.contains j then b j else true := by
 simp [lof, List.getD_eq_getElem?_getD, hj]
theorem lof_up (hi : O.contains i = true) : (lof n O b).set i true = lof n O (up b i) := by
 apply List.ext_getElem?
 intro j
 by_cases hj : j < n
 ·by_cases hij : i = j
  ·subst hij
   have hl : i < (lof n O b).length := by rw [lof_length]; exact hj
   rw [List.getElem?_set_self hl]
   simp only [lof, List.getElem?_map, List.getElem?_range hj, Option.map_some, hi, if_true, up_self]
  ·rw [List.getElem?_set_ne hij]
   simp only [lof, List.getElem?_map, List.getElem?_range hj, Option.map_some]
   rw [up_ne (Ne.symm hij)]
 ·rw [List.getElem?_eq_none (by simp [lof]; omega), List.getElem?_eq_none (by simp [lof]; omega)]
/-- The step of operation i: out of the relation, it not being listed, all it waits for being so, and nothing that waits for it. -/
def StepAt (P : Program) (ops : Array Oper) (Q : Exit → Act → World → Prop) (B : List Nat) (O : List Nat) (I : (Nat → Bool) → Act → World → Prop) (i : Nat) : Prop :=
 ∀ b a w, I b a w → b i = false → (∀ j, (O.contains j && (B.getD i 0).testBit j) = true → b j = true) → (∀ d, (O.contains d && (B.getD d 0).testBit i) = true → b d = false) →
  ∃ oi, ops[i]? = some oi ∧ ∀ K : Act → World → Prop, Shut (∀ a' w', I (up b i) a' w' → K a' w') → if Region.wanted oi (yielded ops a.tmps) = true then Oper.wp P oi a w K Q else K (a.put oi.dst undef) w
/-- Every edge goes to an earlier operation; what is listed already waits for nothing of O; O's numbers are the region's, each once. -/
def baseOk (T : List (List Nat × List Nat)) (O : List Nat) : Bool :=
 (List.range T.length).all (fun d => match T[d]? with
  | some r => (O.contains d || r.1.all fun n => !O.contains n) && r.1.all fun n => decide (n < d)
  | none => false) && O.all (fun i => decide (i < T.length)) && decide O.Nodup
theorem baseOk_row {T : List (List Nat × List Nat)} (h : baseOk T O = true) {d : Nat} {r : List Nat × List Nat} (hr : T[d]? = some r) : (O.contains d = false → ∀ n ∈ r.1, O.contains n = false) ∧ ∀ n ∈ r.1, n < d := by
 simp only [baseOk, Bool.and_eq_true] at h
 have h1 := List.all_eq_true.1 h.1.1 d (List.mem_range.2 (List.getElem?_eq_some_iff.1 hr).1)
 rw [hr] at h1
 simp only [Bool.and_eq_true, Bool.or_eq_true, List.all_eq_true, decide_eq_true_eq] at h1
 refine ⟨fun hd n hn => ?_, h1.2⟩
 rcases h1.1 with h2 | h2
 ·rw [hd] at h2; cases h2
 ·simpa using h2 n hn
theorem baseOk_lt {T : List (List Nat × List Nat)} (h : baseOk T O = true) {i : Nat} (hi : i ∈ O) : i < T.length := by
 simp only [baseOk, Bool.and_eq_true] at h
 simpa using List.all_eq_true.1 h.1.2 i hi
theorem baseOk_nodup {T : List (List Nat × List Nat)} (h : baseOk T O = true) : O.Nodup := by
 simp only [baseOk, Bool.and_eq_true] at h
 exact of_decide_eq_true h.2
def Closed (T : List (List Nat × List Nat)) (O : List Nat) (b : Nat → Bool) : Prop := ∀ d r, T[d]? = some r → O.contains d = true → b d = true → ∀ n ∈ r.1, O.contains n = true → b n = true
/-- What waits for nothing of O has none of it in its bits. -/
theorem bits_out {T : List (List Nat × List Nat)} (hw : waitsOk T B = true) (hk : baseOk T O = true) : ∀ (m d : Nat), d ≤ m → d < T.length → O.contains d = false → ∀ j, (B.getD d 0).testBit j = true → O.contains j = false := by
 intro m
 induction m with
 | zero =>
  intro d hd hl hO j hj
  have hd0 : d = 0 := by omega
  subst hd0
  have hr : T[0]? = some T[0] := List.getElem?_eq_getElem hl
  have h1 := List.all_eq_true.1 hw 0 (List.mem_range.2 hl)
  rw [hr] at h1
  simp only [beq_iff_eq] at h1
  have h2 : (upM B 0 T[0].1).testBit j = true := by rw [← h1, Nat.testBit_or, hj, Bool.true_or]
  obtain ⟨n, hn, h3⟩ := upM_bit h2
  have := (baseOk_row hk hr).2 n hn
  omega
 | succ m ih =>
  intro d hd hl hO j hj
  have hr : T[d]? = some T[d] := List.getElem?_eq_getElem hl
  have h1 := List.all_eq_true.1 hw d (List.mem_range.2 hl)
  rw [hr] at h1
  simp only [beq_iff_eq] at h1
  have h2 : (upM B d T[d].1).testBit j = true := by rw [← h1, Nat.testBit_or, hj, Bool.true_or]
  obtain ⟨n, hn, h3⟩ := upM_bit h2
  have hO2 := (baseOk_row hk hr).1 hO n hn
  rcases h3 with rfl | ⟨h4, h5⟩
  ·exact hO2
  ·exact ih n (by omega) (by omega) hO2 j h5
theorem closed_bits {T : List (List Nat × List Nat)} (hw : waitsOk T B = true) (hk : baseOk T O = true) (hc : Closed T O b) : ∀ (m d : Nat), d ≤ m → d < T.length → O.contains d = true → b d = true → ∀ j, O.contains j = true → (B.getD d 0).testBit j = true → b j = true := by
 intro m
 induction m with
 | zero =>
  intro d hd hl hO hb j hjO hj
  have hd0 : d = 0 := by omega
  subst hd0
  have hr : T[0]? = some T[0] := List.getElem?_eq_getElem hl
  have h1 := List.all_eq_true.1 hw 0 (List.mem_range.2 hl)
  rw [hr] at h1
  simp only [beq_iff_eq] at h1
  have h2 : (upM B 0 T[0].1).testBit j = true := by rw [← h1, Nat.testBit_or, hj, Bool.true_or]
  obtain ⟨n, hn, h3⟩ := upM_bit h2
  have := (baseOk_row hk hr).2 n hn
  omega
 | succ m ih =>
  intro d hd hl hO hb j hjO hj
  have hr : T[d]? = some T[d] := List.getElem?_eq_getElem hl
  have h1 := List.all_eq_true.1 hw d (List.mem_range.2 hl)
  rw [hr] at h1
  simp only [beq_iff_eq] at h1
  have h2 : (upM B d T[d].1).testBit j = true := by rw [← h1, Nat.testBit_or, hj, Bool.true_or]
  obtain ⟨n, hn, h3⟩ := upM_bit h2
  rcases h3 with rfl | ⟨h4, h5⟩
  ·exact hc d _ hr hO hb n hn hjO
  ·cases hO2 : O.contains n with
   | true => exact ih n (by omega) (by omega) hO2 (hc d _ hr hO hb n hn hO2) j hjO h5
   | false =>
    have := bits_out hw hk n n (Nat.le_refl _) (by omega) hO2 j h5
    rw [hjO] at this
    cases this
theorem up_count : ∀ {O : List Nat}, O.Nodup → i ∈ O → b i = false → (O.filter fun j => !up b i j).length + 1 = (O.filter fun j => !b j).length
 | [], _, hi, _ => by cases hi
 | x :: r, hn, hi, hb => by
  rw [List.nodup_cons] at hn
  rcases List.mem_cons.1 hi with rfl | hi
  ·have h1 : (r.filter fun j => !up b i j) = r.filter fun j => !b j := by
    refine List.filter_congr (fun j hj => ?_)
    rw [up_ne (fun e => hn.1 (by rw [← e]; exact hj))]
   rw [List.filter_cons, List.filter_cons]
   simp [up_self, hb, h1]
  ·have hxi : x ≠ i := fun e => hn.1 (e ▸ hi)
   have h1 := up_count hn.2 hi hb
   rw [List.filter_cons, List.filter_cons, up_ne hxi]
   cases hbx : b x
   ·simp only [Bool.not_false, if_true, List.length_cons]
    omega
   ·simpa using h1
theorem inv_all (hT : rtab md ops = T) (hw : waitsOk T.2 B = true) (hk : baseOk T.2 O = true) (I : (Nat → Bool) → Act → World → Prop) (hs : ∀ i ∈ O, StepAt P ops Q B O I i)
  (hend : ∀ b a w, (∀ j, O.contains j = true → b j = true) → I b a w → Q .normal a w) :
  ∀ (m : Nat) (b : Nat → Bool) (a : Act) (w : World), (O.filter fun j => !b j).length = m → Closed T.2 O b → I b a w → wpAnyLast P md ops Q (fun _ => True) [] m (lof T.2.length O b).toArray a w := by
 subst hT
 have mem_ready' : ∀ {b : Nat → Bool} {i : Nat}, i ∈ Region.ready md ops (lof (rtab md ops).2.length O b).toArray → i < (rtab md ops).2.length ∧ O.contains i = true ∧ b i = false ∧ ∀ r, (rtab md ops).2[i]? = some r → ∀ n ∈ r.1, n < (rtab md ops).2.length → O.contains n = true → b n = true := by
  intro b i hi
  rw [ready_eq] at hi
  unfold readyT at hi
  rw [List.mem_filter, List.mem_range] at hi
  obtain ⟨hl, h1⟩ := hi
  unfold readyAt at h1
  rw [Bool.and_eq_true, lof_get hl] at h1
  obtain ⟨h2, h3⟩ := h1
  have h4 : O.contains i = true := by
   cases h : O.contains i with
   | true => rfl
   | false => rw [h] at h2; simp at h2
  rw [h4] at h2
  refine ⟨hl, h4, by simpa using h2, fun r hr n hn hnl hO => ?_⟩
  rw [hr] at h3
  simp only [List.all_eq_true] at h3
  have h5 := h3 n hn
  rw [lof_get hnl, hO] at h5
  simpa using h5
 intro m
 induction m with
 | zero =>
  intro b a w hm hc hI
  have hall : ∀ j, O.contains j = true → b j = true := by
   intro j hj
   cases hb : b j with
   | true => rfl
   | false =>
    have : j ∈ O.filter fun j => !b j := List.mem_filter.2 ⟨List.contains_iff_mem.1 hj, by simp [hb]⟩
    rw [List.eq_nil_of_length_eq_zero hm] at this
    cases this
  refine ⟨?_, hend b a w hall hI⟩
  refine List.eq_nil_iff_forall_not_mem.2 (fun i hi => ?_)
  obtain ⟨_, h1, h2, _⟩ := mem_ready' hi
  rw [hall i h1] at h2
  cases h2
 | succ m ih =>
  intro b a w hm hc hI
  refine ⟨fun hr => ?_, fun i hi => ?_⟩
  ·exfalso
   -- the smallest number that isn't listed is ready
   have hex : ∃ i, O.contains i = true ∧ b i = false := by
    cases hf : O.filter (fun j => !b j) with
    | nil => rw [hf] at hm; simp at hm
    | cons x r =>
     have hx : x ∈ O.filter (fun j => !b j) := by rw [hf]; exact List.mem_cons_self
     rw [List.mem_filter] at hx
     exact ⟨x, List.contains_iff_mem.2 hx.1, by simpa using hx.2⟩
   have hmin : ∀ k, (∃ i, i ≤ k ∧ O.contains i = true ∧ b i = false) → ∃ i, O.contains i = true ∧ b i = false ∧ ∀ j, j < i → O.contains j = true → b j = true := by
    intro k
    induction k with
    | zero =>
     rintro ⟨i, hi, h1, h2⟩
     exact ⟨i, h1, h2, fun j hj => by omega⟩
    | succ k ihk =>
     rintro ⟨i, hi, h1, h2⟩
     by_cases hlow : ∃ j, j ≤ k ∧ O.contains j = true ∧ b j = false
     ·exact ihk hlow
     ·refine ⟨i, h1, h2, fun j hj hO => ?_⟩
      cases hb : b j with
      | true => rfl
      | false => exact absurd ⟨j, by omega, hO, hb⟩ hlow
   obtain ⟨i0, h1, h2⟩ := hex
   obtain ⟨i, hO, hb, hlow⟩ := hmin i0 ⟨i0, Nat.le_refl _, h1, h2⟩
   have hl := baseOk_lt hk (List.contains_iff_mem.1 hO)
   have hin : i ∈ Region.ready md ops (lof (rtab md ops).2.length O b).toArray := by
    rw [ready_eq]
    unfold readyT
    rw [List.mem_filter, List.mem_range]
    refine ⟨hl, ?_⟩
    unfold readyAt
    rw [lof_get hl, hO, hb]
    have hr2 : (rtab md ops).2[i]? = some (rtab md ops).2[i] := List.getElem?_eq_getElem hl
    rw [hr2]
    simp only [if_true, Bool.not_false, Bool.true_and, List.all_eq_true]
    intro n hn
    have hni := (baseOk_row hk hr2).2 n hn
    rw [lof_get (by omega)]
    cases hOn : O.contains n with
    | true => simpa using hlow n hni hOn
    | false => simp
   rw [hr] at hin
   cases hin
  ·obtain ⟨hl, hO, hb, hneed⟩ := mem_ready' hi
   have hon : ∀ j, (O.contains j && (B.getD i 0).testBit j) = true → b j = true := by
    intro j hj
    rw [Bool.and_eq_true] at hj
    have hr2 : (rtab md ops).2[i]? = some (rtab md ops).2[i] := List.getElem?_eq_getElem hl
    have h1 := List.all_eq_true.1 hw i (List.mem_range.2 hl)
    rw [hr2] at h1
    simp only [beq_iff_eq] at h1
    have h2 : (upM B i (rtab md ops).2[i].1).testBit j = true := by rw [← h1, Nat.testBit_or, hj.2, Bool.true_or]
    obtain ⟨n, hn, h3⟩ := upM_bit h2
    have hni := (baseOk_row hk hr2).2 n hn
    rcases h3 with rfl | ⟨h4, h5⟩
    ·exact hneed _ hr2 n hn (by omega) hj.1
    ·cases hO2 : O.contains n with
     | true => exact closed_bits hw hk hc n n (Nat.le_refl _) (by omega) hO2 (hneed _ hr2 n hn (by omega) hO2) j hj.1 h5
     | false =>
      have := bits_out hw hk n n (Nat.le_refl _) (by omega) hO2 j h5
      rw [hj.1] at this
      cases this
   have hoff : ∀ d, (O.contains d && (B.getD d 0).testBit i) = true → b d = false := by
    intro d hd
    rw [Bool.and_eq_true] at hd
    cases hbd : b d with
    | false => rfl
    | true =>
     have hdl := baseOk_lt hk (List.contains_iff_mem.1 hd.1)
     have := closed_bits hw hk hc d d (Nat.le_refl _) hdl hd.1 hbd i hO hd.2
     rw [hb] at this
     cases this
   obtain ⟨oi, hoi, hK⟩ := hs i (List.contains_iff_mem.1 hO) b a w hI hb hon hoff
   refine wpOp_step hoi (fun K' hK' => hK K' (fun a' w' hI' => hK' a' w' ⟨fun _ _ => trivial, ?_⟩))
   have hset : (lof (rtab md ops).2.length O b).toArray.setIfInBounds i true = (lof (rtab md ops).2.length O (up b i)).toArray := by
    apply Array.ext'
    rw [Array.toList_setIfInBounds]
    exact lof_up hO
   rw [hset]
   refine ih (up b i) a' w' ?_ ?_ hI'
   ·have := up_count (baseOk_nodup hk) (List.contains_iff_mem.1 hO) hb
    omega
   ·intro d r hr hOd hbd n hn hOn
    by_cases hni : n = i
    ·rw [hni, up_self]
    ·rw [up_ne hni]
     by_cases hdi : d = i
     ·subst hdi
      exact hneed r hr n hn (by have := (baseOk_row hk hr).2 n hn; omega) hOn
     ·rw [up_ne hdi] at hbd
      exact hc d r hr hOd hbd n hn hOn
/-! The frame: what is listed has its destination filled. -/
theorem put_comm {a : Act} {s t : Tmp} {u v : Value} (h : s ≠ t) : (a.put (some s) u).put (some t) v = (a.put (some t) v).put (some s) u := by
 simp only [Act.put]
 rw [Array.setIfInBounds_comm _ _ h]
/-- THE REGION FROM HERE TO ITS END, by one relation I: l has all listed but O's operations; I holds with none of them listed; each step; with all listed what follows. -/
theorem inv_ {l : Array Bool} {fuel : Nat} {a : Act} {w : World} (O : List Nat) (I : (Nat → Bool) → Act → World → Prop) (hT : rtab md ops = T) (hw : waitsOk T.2 B = true) (hk : baseOk T.2 O = true)
  (hl : (lof T.2.length O (fun _ => false) == l.toList && O.length == fuel) = true) (h0 : I (fun _ => false) a w) (hs : ∀ i ∈ O, StepAt P ops Q B O I i)
  (hend : ∀ b a w, (∀ j, O.contains j = true → b j = true) → I b a w → Q .normal a w) : wpAnyLast P md ops Q (fun _ => True) [] fuel l a w := by
 rw [Bool.and_eq_true, beq_iff_eq, beq_iff_eq] at hl
 have h1 := inv_all hT hw hk I hs hend fuel (fun _ => false) a w (by rw [← hl.2]; simp) (fun d r _ _ hb => by cases hb) h0
 have h2 : (lof T.2.length O (fun _ => false)).toArray = l := by apply Array.ext'; exact hl.1
 rw [h2] at h1
 exact h1
end
end Go.Proofs.YtomofijniefelaaGreatW.PrintLast

namespace Go.Proofs.YtomofijniefelaaGreat.H
open Go.RowKit Go.Proofs.YtomofijniefelaaGreatW.PrintWords Go.Proofs.YtomofijniefelaaGreatW.PrintLast
set_option linter.unusedVariables false
set_option linter.unusedSimpArgs false
/-- the slots d, d', .. filled with s k, s (k + 1), .. -/
def putAll : List Tmp → Nat → (Nat → Value) → Act → Act
 | [], _, _, a => a
 | d :: r, k, s, a => putAll r (k + 1) s (a.put (some d) (s k))
def upd (s : Nat → Value) (i : Nat) (v : Value) : Nat → Value := fun j => if j = i then v else s j
theorem putAll_congr : ∀ (ds : List Tmp) (k : Nat) (s s' : Nat → Value) (a : Act), (∀ j, k ≤ j → s j = s' j) → putAll ds k s a = putAll ds k s' a
 | [], _, _, _, _, _ => rfl
 | d :: r, k, s, s', a, h => by
  unfold putAll
  rw [h k (Nat.le_refl _)]
  exact putAll_congr r (k + 1) s s' _ (fun j hj => h j (by omega))
theorem putAll_out : ∀ (ds : List Tmp) (k : Nat) (s : Nat → Value) (a : Act) (d : Tmp) (v : Value), d ∉ ds → (putAll ds k s a).put (some d) v = putAll ds k s (a.put (some d) v)
 | [], _, _, _, _, _, _ => rfl
 | e :: r, k, s, a, d, v, h => by
  unfold putAll
  rw [List.mem_cons, not_or] at h
  rw [putAll_out r (k + 1) s _ d v h.2, put_comm (Ne.symm h.1)]
theorem put_put {a : Act} {d : Tmp} {u v : Value} : (a.put (some d) u).put (some d) v = a.put (some d) v := by
 simp [Act.put]
theorem putAll_put : ∀ (ds : List Tmp) (k : Nat) (s : Nat → Value) (a : Act) (i : Nat) (d : Tmp) (v : Value), ds.Nodup → k ≤ i → ds[i - k]? = some d → (putAll ds k s a).put (some d) v = putAll ds k (upd s i v) a
 | [], _, _, _, _, _, _, _, _, h => by cases h
 | e :: r, k, s, a, i, d, v, hn, hk, h => by
  rw [List.nodup_cons] at hn
  unfold putAll
  by_cases hi : i = k
  ·subst hi
   rw [Nat.sub_self] at h
   cases h
   rw [putAll_out r (i + 1) s _ e v hn.1, put_put]
   have : upd s i v i = v := by simp [upd]
   rw [this]
   exact putAll_congr r (i + 1) _ _ _ (fun j hj => by simp [upd]; omega)
  ·have e1 : i - k = (i - (k + 1)) + 1 := by omega
   rw [e1] at h
   rw [putAll_put r (k + 1) s _ i d v hn.2 (by omega) h]
   have : upd s i v k = s k := by simp [upd]; omega
   rw [this]
theorem putAll_self : ∀ (ds : List Tmp) (k : Nat) (s : Nat → Value) (a : Act), (∀ j d, ds[j]? = some d → a.tmps[d]? = some (s (k + j))) → putAll ds k s a = a
 | [], _, _, _, _ => rfl
 | d :: r, k, s, a, h => by
  unfold putAll
  have h0 := h 0 d rfl
  have e : a.put (some d) (s k) = a := by
   obtain ⟨hd, he⟩ := Array.getElem?_eq_some_iff.1 h0
   rw [Nat.add_zero] at he
   have e2 : a.tmps.setIfInBounds d a.tmps[d] = a.tmps := by
    refine Array.ext (by rw [Array.size_setIfInBounds]) (fun i h1 h2 => ?_)
    by_cases hi : d = i
    ·subst hi; exact Array.getElem_setIfInBounds_self _
    ·exact Array.getElem_setIfInBounds_ne _ hi
   rw [he] at e2
   show ({ tmps := a.tmps.setIfInBounds d (s k), defers := a.defers } : Act) = a
   rw [e2]
  rw [e]
  exact putAll_self r (k + 1) s a (fun j d' hj => by have := h (j + 1) d' hj; rwa [show k + (j + 1) = k + 1 + j by omega] at this)
def dsOf (l : List Oper) : List Tmp := l.map fun o => o.dst.getD 0
def phiOk (l : List Oper) (B : List Nat) (n : Nat) : Bool :=
 l.all (fun o => o.dst.isSome) && l.all (fun o => o.guard.isNone) && decide (dsOf l).Nodup && (dsOf l).all (fun d => decide (d < n)) && waitsOk (rtab .any l.toArray).2 B && baseOk (rtab .any l.toArray).2 (List.range l.length)
/-- an operation that yields a value, or enters a call that returns one -/
def opGives (P : Program) (o : Oper) (ev : Operand → Value) (w : World) (R : Value → World → Prop) : Prop :=
 match (execOp ev o).run P w with
 | .ok (.value v) w' => R v w'
 | .ok (.enter f args) w' => Calls P f args w' fun e w'' => ∃ v, e = .returned v ∧ R v w''
 | _ => False
theorem opGives_value {P : Program} {o : Oper} {ev : Operand → Value} {w w' : World} {R : Value → World → Prop} {v : Value} (h : (execOp ev o).run P w = .ok (.value v) w') (hR : R v w') : opGives P o ev w R := by
 unfold opGives; rw [h]; exact hR
theorem opGives_call {P : Program} {o : Oper} {ev : Operand → Value} {w : World} {R : Value → World → Prop} {f : FuncId} {args : Array Value} (h : (execOp ev o).run P w = .ok (.enter f args) w) (hR : Calls P f args w fun e w'' => ∃ v, e = .returned v ∧ R v w'') : opGives P o ev w R := by
 unfold opGives; rw [h]; exact hR
theorem opGives_wp {P : Program} {o : Oper} {a : Act} {w : World} {K : Act → World → Prop} {Q : Exit → Act → World → Prop} (h : opGives P o a.eval w fun v w' => K (a.put o.dst v) w') : Oper.wp P o a w K Q := by
 unfold Oper.wp
 unfold opGives at h
 split at h
 ·next h1 => rw [h1]; exact h
 ·next f args w' h1 =>
  rw [h1]
  rw [Oper.upon_enter]
  refine h.mono fun e w'' hh => ?_
  obtain ⟨v, rfl, hK⟩ := hh
  exact hK
 ·exact h.elim
/-- each step -/
def phiSteps (P : Program) (l : List Oper) (B : List Nat) (V : Nat → Value → World → Prop) (a : Act) (w : World) : Nat → List Oper → Prop
 | _, [] => True
 | i, o :: r => (∀ s w1, Below w.heap.size w w1 → (∀ j, ((List.range l.length).contains j && (B.getD i 0).testBit j) = true → V j (s j) w1) →
   ∀ R : Value → World → Prop, (∀ v w', Below w1.heap.size w1 w' → V i v w' → R v w') → opGives P o (putAll (dsOf l) 0 s a).eval w1 R) ∧ phiSteps P l B V a w (i + 1) r
theorem phiSteps_at {P : Program} {l : List Oper} {B : List Nat} {V : Nat → Value → World → Prop} {a : Act} {w : World} : ∀ (r : List Oper) (k : Nat), phiSteps P l B V a w k r → ∀ i o, r[i]? = some o →
  ∀ s w1, Below w.heap.size w w1 → (∀ j, ((List.range l.length).contains j && (B.getD (k + i) 0).testBit j) = true → V j (s j) w1) →
   ∀ R : Value → World → Prop, (∀ v w', Below w1.heap.size w1 w' → V (k + i) v w' → R v w') → opGives P o (putAll (dsOf l) 0 s a).eval w1 R
 | [], _, _, _, _, h => by cases h
 | x :: r, k, h, 0, o, ho => by cases ho; exact h.1
 | x :: r, k, h, i + 1, o, ho => by
  have := phiSteps_at r (k + 1) h.2 i o ho
  rwa [show k + 1 + i = k + (i + 1) by omega] at this
theorem grown_trans {a b c : World} {r : Option Nat} (h : a.grownBy b r) (h' : b.grownBy c r) : a.grownBy c r :=
 ⟨h'.os.trans h.os, h'.tape.trans h.tape, h'.output.trans h.output, Nat.le_trans h.size h'.size, fun k hk hne => (h'.block k (Nat.lt_of_lt_of_le hk h.size) hne).trans (h.block k hk hne)⟩
end Go.Proofs.YtomofijniefelaaGreat.H
