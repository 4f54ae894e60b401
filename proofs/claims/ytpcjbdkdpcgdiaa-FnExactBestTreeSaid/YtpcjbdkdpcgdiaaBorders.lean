/- borders(f): the sets with one vertex less, ascending. -/
import Derived.Test.YtpcjbdkdpcgdiaaBack
import Derived.Test.YtpcjbdkdpcgdiaaFace
namespace Go.Proofs.Ytpcjbdkdpcgdiaa.H
open Go.Shelf
open Go.RowKit Go.Proofs.YtpcjbdkdpcgdiaaW.PrintWords Go.Proofs.YtpcjbdkdpcgdiaaW.PrintLast Go.Proofs.YtpcjbdkdpcgdiaaW.PrintMore
set_option linter.unusedVariables false
set_option linter.unusedSimpArgs false
attribute [local go_sem] Oper.semAt_some

/-- f without v -/
def drop (f : Nat) (v : Nat) : Nat := f ^^^ (f &&& 2 ^ v)
/-- a vertex with its index among those of a face -/
abbrev IV := Nat × { v : Nat // v ≤ 5 }
/-- what is collected over some vertices -/
def bor (f : Nat) (l : List IV) : List Int := (l.filter fun x => decide (drop f x.2.1 ≠ 0)).map fun x => (drop f x.2.1 : Int)
theorem bor_hit (f : Nat) (l : List IV) (x : IV) (h : drop f x.2.1 ≠ 0) : bor f (l ++ [x]) = bor f l ++ [(drop f x.2.1 : Int)] := by simp [bor, h]
theorem bor_miss (f : Nat) (l : List IV) (x : IV) (h : drop f x.2.1 = 0) : bor f (l ++ [x]) = bor f l := by simp [bor, h]
theorem bor_len (f : Nat) (l : List IV) : (bor f l).length ≤ l.length := by
  unfold bor; rw [List.length_map]; exact List.length_filter_le _ _
/-- the k-th vertex from behind -/
def ivAt (f k : Nat) : IV := ((vs f).length - 1 - k, ⟨min ((vs f)[(vs f).length - 1 - k]?.getD 0).toNat 5, Nat.min_le_right _ _⟩)
def ivEnc (x : IV) : Array Value := #[.int .i64 (x.1 : Int), .int .i64 (x.2.1 : Int)]
/-- the sets with one vertex less, other than the empty one, ascending -/
def below (f : Nat) : List Int := (((List.range 6).reverse.filter fun v => f.testBit v).map (drop f)).filterMap fun (g : Nat) => if g = 0 then none else some (g : Int)
theorem below_bor : ∀ f, f < 64 → bor f (upto (ivAt f) (vs f).length) = below f := by decide +kernel
theorem vs_bd : ∀ f, f < 64 → ∀ x ∈ vs f, 0 ≤ x ∧ x ≤ 5 := by decide +kernel
theorem vs_len : ∀ f, f < 64 → (vs f).length ≤ 6 := by decide +kernel
theorem drop_lt {f v : Nat} (hf : f ≤ 63) (hv : v ≤ 5) : drop f v < 64 := by
  unfold drop
  exact Nat.xor_lt_two_pow (n := 6) (by omega) (Nat.and_lt_two_pow _ (by have := pow_bd v hv; omega))
theorem drop_bits (f v : Nat) (hf : f ≤ 63) (hv : v ≤ 5) : bits .andNot .i64 (f : Int) ((2 ^ v : Nat) : Int) = (drop f v : Int) := by
  have := pow_bd v hv
  unfold drop
  exact andNot_i64 f (2 ^ v) (by omega) (by omega)
theorem appended_mid {W w1 : World} {n₀ n₁ B : Nat} {t e : TypeId} {size : Nat} {v v' : Value} {k m : Nat} {xs ys : List Value} {tmp : Obj}
    (hv : Boxed W B t v) (hte : t ≠ e) (hrow : W.ownsRow n₀ e size v k xs) (hn₁ : n₁ ≤ n₀) (hn₀ : n₀ ≤ W.heap.size) (hB : n₁ ≤ B)
    (hown' : w1.ownsRow n₀ e size v' m ys) (hgrow : (W.alloc tmp).grownBy w1 v.ownBlock) :
    Boxed w1 B t v ∧ Boxed (w1.setCell ⟨B, 0, none⟩ v') B t v' ∧ (w1.setCell ⟨B, 0, none⟩ v').ownsRow n₀ e size v' m ys ∧ KeepsOthers W (w1.setCell ⟨B, 0, none⟩ v') ∧ Below n₁ W (w1.setCell ⟨B, 0, none⟩ v') ∧ ∀ j, j < n₀ → j ≠ B → (w1.setCell ⟨B, 0, none⟩ v').heap[j]? = W.heap[j]? := by
  obtain ⟨a1, a2, -, a4, a5⟩ := hv.appended hte (own_less hrow hn₁) (Nat.le_trans hn₁ hn₀) hB (own_less hown' hn₁) hgrow
  refine ⟨a1, a2, hown'.kept (grownBy_setCell' w1 B v') (.inr (a1.not_row hte hown').symm), a4, a5, fun j hj1 hj2 => ?_⟩
  have hne : some j ≠ v.ownBlock := by
    rcases hrow.2 with ⟨rfl, _⟩ | ⟨g, cap, cur, rfl, hb, _, _⟩
    · simp [Value.ownBlock]
    · simp [Value.ownBlock]; omega
  have h1 := (grownBy_setCell' w1 B v').block j (by have := hgrow.size; simp at this; omega) (by simp; omega)
  have h2 := hgrow.block j (by simp; omega) hne
  rw [h1, h2]
  exact (World.grownBy_alloc W tmp none).block j (by omega) (by simp)
theorem iv_enc {f k : Nat} (hf : f < 64) (hk : k < (vs f).length) : ivEnc (ivAt f k) = #[.int .i64 (((vs f).length : Int) - 1 - k), .int .i64 ((vs f)[(vs f).length - 1 - k]?.getD 0)] := by
  have h : (vs f).length - 1 - k < (vs f).length := by omega
  have hb := vs_bd f hf _ (List.getElem_mem h)
  have e1 : (((vs f).length - 1 - k : Nat) : Int) = ((vs f).length : Int) - 1 - k := by omega
  have e2 : ((min ((vs f)[(vs f).length - 1 - k]?.getD 0).toNat 5 : Nat) : Int) = (vs f)[(vs f).length - 1 - k]?.getD 0 := by
    rw [List.getElem?_eq_getElem h, Option.getD_some]; omega
  unfold ivEnc ivAt
  rw [e1, e2]

set_option maxRecDepth 100000 in
set_option maxHeartbeats 2000000 in
theorem borders_in (n : Nat) (hn : 3 ≤ n) (f : Nat) (hf : f ≤ 63) (w : World) :
    CallsIn Fence.wide n Try.prog 102 #[.int .i64 f] w fun e w' => ∃ v, e = .returned v ∧ OwnI w.heap.size w' v (below f) ∧ Below w.heap.size w w' := by
  have h1 : 1 ≤ n := by omega
  obtain ⟨i0, hi, hz0, hz1, hz2⟩ := info_parts info64
  refine callsIn_of_wp_marks Try.func102 rfl trivial ?_ rfl
  simp only [Try.ntmps102, List.size_toArray, List.length_cons, List.length_nil, Nat.reduceAdd, Nat.reduceSub, Array.replicate_succ, Array.replicate_zero, List.push_toArray, List.append_toArray, List.nil_append, List.cons_append]
  gi_wp2_with (first | (refine ⟨trivial, ?_⟩; gi_at_call 128; refine (callsIn_wide.2 (vertices f hf _)).mono ?_; rintro e w3 ⟨v3, rfl, ho3, hb3⟩; obtain ⟨A3, c3, rfl, -⟩ := ho3.read) | (refine ⟨trivial, ?_⟩; gi_at_call 127; refine (back_in Fence.wide (n - 1) trivial rfl _ _ _ _).mono ?_; rintro e w' ⟨rfl, rfl⟩))
  have hf' : f < 64 := by omega
  have hlen := vs_len f hf'
  obtain ⟨w2, hw2⟩ : ∃ w2, w2 = (w.alloc (Obj.cells #[Value.int IntKind.i64 ↑f] 2)).alloc (Obj.cells #[Value.slice none 0 0] 22) := ⟨_, rfl⟩
  have bF : Boxed w2 w.heap.size 2 (.int .i64 f) := by rw [hw2]; exact (Boxed.new w _ _).alloc _
  have bO : Boxed w2 (w.heap.size + 1) 22 (.slice none 0 0) := by rw [hw2]; have := Boxed.new (w.alloc (Obj.cells #[Value.int IntKind.i64 ↑f] 2)) 22 (.slice none 0 0); rwa [World.size_alloc] at this
  have hB2 : Below w.heap.size w w2 := by rw [hw2]; exact ((Below.refl _ w).alloc (Nat.le_refl _) _).alloc (by simp) _
  rw [← hw2] at hb3 ho3
  clear hw2
  have hB3 : Below w.heap.size w w3 := hB2.trans (hb3.mono hB2.size)
  have bF3 : Boxed w3 w.heap.size 2 (.int .i64 f) := (hb3.block _ bF.lt).trans bF
  have bO3 : Boxed w3 (w.heap.size + 1) 22 (.slice none 0 0) := (hb3.block _ bO.lt).trans bO
  have bN := Boxed.new w3 22 (.slice A3 (vs f).length c3)
  have hlt3 := ho3.lt
  have hblt := bO.lt
  have hbsz := hb3.size
  have hbs3 := ho3.base
  obtain ⟨w4, hw4⟩ : ∃ w4, w4 = w3.alloc (Obj.cells #[Value.slice A3 (vs f).length c3] 22) := ⟨_, rfl⟩
  have ho4 : OwnI w2.heap.size w4 (.slice A3 (vs f).length c3) (vs f) := by rw [hw4]; exact ho3.below (Below.alloc (Below.refl _ _) (Nat.le_refl _) _)
  have bF4 : Boxed w4 w.heap.size 2 (.int .i64 f) := by rw [hw4]; exact bF3.alloc _
  have bO4 : Boxed w4 (w.heap.size + 1) 22 (.slice none 0 0) := by rw [hw4]; exact bO3.alloc _
  have hB4 : Below w.heap.size w w4 := by rw [hw4]; exact hB3.alloc hB3.size _
  have hs4 : w4.heap.size = w3.heap.size + 1 := by rw [hw4]; simp
  rw [← hw4] at bN ⊢
  clear hw4
  refine wpIn_rangeFunc_ownG rfl h1 (gf := 142) (lb := #[.pointer (some ⟨w3.heap.size, 0, none⟩)]) rfl trivial (enters_of Try.func142 (by kernel_rfl) rfl)
    (back_stops ivEnc (ivAt f) Fence.wide (n - 1) trivial rfl (by omega) w3.heap.size w2.heap.size w4.heap.size _ (vs f) (by omega) w4 _ (by have := hb3.size; omega) (Nat.le_refl _) bN.cell ho4 (fun k hk => iv_enc hf' hk) (fun k hk => by have := hlt3 k hk; have := hbs3 k hk; omega)) (fun a b => Mid.trans a b) ?hKb (Below.refl _ _) (fun _ => rfl)
    (fun pre W => (∃ v, Boxed W (w.heap.size + 1) 22 v ∧ W.ownsRow w4.heap.size 2 1 v (bor f pre).length ((bor f pre).map (Value.int .i64)) ∧ True) ∧ (Boxed W w.heap.size 2 (.int .i64 f) ∧ Below w.heap.size w W ∧ w4.heap.size ≤ W.heap.size))
    (fun _ _ _ => False)
    ?hI (fun _ _ _ _ _ hs _ _ => hs) ?h0
    (fun x => { tmps := #[.int .i64 f, .pointer (some ⟨w.heap.size, 0, none⟩), .slice none 0 0, .pointer (some ⟨w.heap.size + 1, 0, none⟩), undef, .int .i64 (x.2.1 : Int), undef, .int .i64 f, .slice A3 (vs f).length c3, .func (.func 142) #[] #[.pointer (some ⟨w3.heap.size, 0, none⟩)], .int .i64 (x.1 : Int), .int .i64 (x.2.1 : Int), undef, undef, undef, undef, undef, undef, undef, undef, undef, undef, undef], defers := [] }) ?assign ?body ?done ?stop
  case hI => exact OwnFrom.and (Own.from (holdsRow_own w4.heap.size (w.heap.size + 1) 22 2 1 (fun pre => (bor f pre).length) (fun pre => (bor f pre).map (Value.int .i64)) (fun pre v => True)) _) (OwnFrom.and (Own.from (boxed_own _ _ _) _) (OwnFrom.and (ownFrom_below (Nat.le_refl _) (by have := hB4.size; omega)) (fun s W W' row hs hg hr => Nat.le_trans hs hg.size)))
  case hKb => exact fun W l o o' hl ho h1 h2 => Mid.of_below (belowK_b (w := w4) (Nat.le_refl _) W l o o' hl ho h1 h2)
  case h0 => exact ⟨⟨_, bO4, World.ownsRow_nil _ _ _ _, trivial⟩, bF4, hB4, Nat.le_refl _⟩
  case assign =>
    intro l x W K hK
    unfold ivEnc
    gi_wp2
    exact hK
  case body =>
    rintro l pre ⟨j, v, hv5⟩ W ⟨⟨v0, hv, hrow, -⟩, hbF, hB, hz4⟩ hlt
    have hc := hv.cell
    have hcf := hbF.cell
    have hpl := bor_len f pre
    have hmx : Try.prog.follows .mixedOrders = true := by kernel_rfl
    obtain ⟨p, hp⟩ : ∃ p : Nat, p = 2 ^ v := ⟨_, rfl⟩
    have hpb : p ≤ 32 := by rw [hp]; exact pow_bd v hv5
    have hsh : wrap64 ((2 : Int) ^ v) = (p : Int) := by rw [hp]; exact pow_wrap v (by omega)
    have hdn : bits .andNot .i64 (f : Int) (p : Int) = (drop f v : Int) := by rw [hp]; exact drop_bits f v hf hv5
    have hdl := drop_lt hf hv5
    have HP := Aside0.mk hp
    clear hp
    obtain ⟨d, hd⟩ : ∃ d, d = drop f v := ⟨_, rfl⟩
    rw [← hd] at hdn hdl
    have HD := Aside0.mk hd
    clear hd
    have hshr : IntKind.i64.wrap ((2 : Int) ^ v) = (p : Int) := by rw [HP.out]; exact pow_wrap' v (by omega)
    have hps := hB.size
    by_cases h0 : d = 0
    · have h0b : ((d : Int) != 0) = false := by rw [h0]; rfl
      have HZ := Aside0.mk h0
      clear h0
      gi_wp2
      gi_region_with_o (fail)
      all_goals gi_wp2
      all_goals exact ⟨⟨Nat.le_refl _, fun _ _ _ h _ => h⟩, fun _ _ _ => rfl, ⟨v0, hv, by rw [bor_miss f pre (j, ⟨v, hv5⟩) (HD.out.symm.trans HZ.out)]; exact hrow, trivial⟩, hbF, hB.drew, hz4⟩
    · have h0b : ((d : Int) != 0) = true := by simp; exact h0
      have HZ := Aside0.mk h0
      clear h0
      gi_wp2
      gi_region_with_o (fail)
      all_goals (obtain ⟨W1, hW1⟩ : ∃ W1, W1 = W.drew := ⟨_, rfl⟩)
      all_goals (have hk1 : KeepsFrom w4.heap.size W W1 := (by rw [hW1]; exact ⟨Nat.le_refl _, fun _ _ _ h _ => h⟩))
      all_goals (have hm1 : Mid w2.heap.size w4.heap.size W W1 := (by rw [hW1]; exact fun _ _ _ => rfl))
      all_goals (replace hv : Boxed W1 (w.heap.size + 1) 22 v0 := (by rw [hW1]; exact hv))
      all_goals (replace hbF : Boxed W1 w.heap.size 2 (.int .i64 f) := (by rw [hW1]; exact hbF))
      all_goals (replace hrow : W1.ownsRow w4.heap.size 2 1 v0 (bor f pre).length ((bor f pre).map (Value.int .i64)) := (by rw [hW1]; exact hrow))
      all_goals (replace hB : Below w.heap.size w W1 := (by rw [hW1]; exact hB.drew))
      all_goals (replace hz4 : w4.heap.size ≤ W1.heap.size := (by rw [hW1]; exact hz4))
      all_goals rw [← hW1]
      all_goals clear hW1 hc hcf hps
      all_goals (have hmL : 100 ≤ maxLen := (by decide))
      all_goals (have hc := hv.cell; have hcf := hbF.cell; have hps := hB.size)
      all_goals gi_wp2_with (gi_at_builtin; refine wpListIn_append_own _ rfl _ _ 22 rfl w4.heap.size 2 i0 (.int .i64 0) 1 8 Try.underlying22 hi hz0 hz1 hz2 rfl (by decide) _ _ _ rfl (hrow.alloc _) ⟨W1.heap.size, 0, none⟩ 1 1 [.int .i64 d] rfl rfl (cell_one_new _ _ _) (by simp [Value.oneCell']) (by omega) (by omega) (by simp; omega) ?_; intro v' w1 hown' hgrow _; obtain ⟨g', cap', rfl⟩ := ownsRow_succ hown'; obtain ⟨hv1, hv2, hr2, hk2, hb2, hm2⟩ := appended_mid hv (by decide) hrow hB4.size hz4 (Nat.le_succ _) hown' hgrow; have hc1 := hv1.cell; have hf1 := hv1.frozen)
      all_goals exact ⟨hk1.trans (hk2.from _), hm1.trans fun k k1 k2 => hm2 k k2 (by omega), ⟨_, hv2, by rw [bor_hit f pre (j, ⟨v, hv5⟩) (fun e => HZ.out (HD.out.trans e))]; simpa [← HD.out] using hr2, trivial⟩, (hm2 _ (by omega) (by omega)).trans hbF, hB.trans hb2, Nat.le_trans hz4 hk2.size⟩
  case done =>
    rintro D ys W hD rfl ⟨⟨v0, hv, hrow, -⟩, hbF, hB, hz4⟩ hK
    have hc := hv.cell
    gi_wp2
    refine ⟨by simp, .inl ⟨_, _, rfl, run_takeDeferred hK, ?_⟩⟩
    have hBD := hB.trans (belowK_b (w := w) (Nat.le_refl _) W D _ (.deferred none) (by have := hB4.size; omega) hK rfl rfl)
    rw [below_bor f hf'] at hrow
    exact ⟨_, results_tmp rfl _ _ _, v0, rfl, OwnI.of_row (ownsRow_putObj hrow _ hK rfl) hB4.size, hBD⟩
  case stop =>
    rintro D c pre W _ _ h _
    exact h.elim
theorem borders (f : Nat) (hf : f ≤ 63) (w : World) :
    Calls Try.prog 102 #[.int .i64 f] w fun e w' => ∃ v, e = .returned v ∧ OwnI w.heap.size w' v (below f) ∧ Below w.heap.size w w' :=
  callsIn_wide.1 (borders_in 3 (Nat.le_refl _) f hf w)
end Go.Proofs.Ytpcjbdkdpcgdiaa.H
