/- Isomorphisms of the program: its own function. Rows of lists: what is said of them; append at them; a copy; the place of a number. Parts of a row of numbers; append of a row as one operation. Orders drawn: l01DrawOrder. A region of open order: heads as in wp_region_u, the last operations one behind the other. A region of open order: heads under any relation G between worlds, the last operations one behind the other. -/
import Derived.Deep.AppendLies
import Derived.Maps.AppendAt
import Derived.Test.YtomofijniefelaaGreatKFnMaps1
import Derived.Test.YtomofijniefelaaGreatKFnMaps2
import Derived.Test.YtomofijniefelaaGreatKFnMaps3
import Derived.Test.YtomofijniefelaaGreatKFnMaps4
import Derived.Test.YtomofijniefelaaGreatKFnMaps5
import Derived.Test.YtomofijniefelaaGreatKFnMaps6
import Derived.Test.YtomofijniefelaaGreatKFnMaps7
import Derived.Test.YtomofijniefelaaGreatKFnMaps8
import Derived.Test.YtomofijniefelaaGreatKFnMaps9
import Derived.Test.YtomofijniefelaaGreatKFnMaps10

namespace Go.Proofs.YtomofijniefelaaGreat.H
open Go.RowKit Go.Proofs.YtomofijniefelaaGreatW.PrintWords Go.Proofs.YtomofijniefelaaGreatW.PrintLast
set_option linter.unusedVariables false
set_option linter.unusedSimpArgs false
/-- a copy is made, one number is put behind it, and a call has it -/
structure RI (c d a f : Nat) (l : List Int) (x : Int) (w0 : World) (D : Value → World → Prop) (b : Nat → Bool) (s : Nat → Value) (w : World) : Prop where
 ne : c ≠ d ∧ c ≠ a ∧ c ≠ f ∧ d ≠ a ∧ d ≠ f ∧ a ≠ f
 ha : b a = true → b c = true ∧ b d = true
 hf : b f = true → b a = true
 hB : b f = false → Below w0.heap.size w0 w
 hC : b c = true → b a = false → OwnI w0.heap.size w (s c) l
 hS : b d = true → b a = false → ∃ k, s d = .slice (some ⟨k, 0, none⟩) 1 1 ∧ w.cell? ⟨k, 0, none⟩ = some (.int .i64 x)
 hA : b a = true → b f = false → OwnI w0.heap.size w (s a) (l ++ [x])
 hD : b f = true → D (s f) w
section
variable {c d a f : Nat} {l : List Int} {x : Int} {w0 w : World} {D : Value → World → Prop} {b : Nat → Bool} {s : Nat → Value}
theorem RI.start (hne : c ≠ d ∧ c ≠ a ∧ c ≠ f ∧ d ≠ a ∧ d ≠ f ∧ a ≠ f) (hb : ∀ i, b i = false) : RI c d a f l x w0 D b s w0.drew := by
 have hn : ∀ i, ¬ b i = true := fun i h => by rw [hb i] at h; cases h
 exact ⟨hne, fun h => absurd h (hn _), fun h => absurd h (hn _), fun _ => (Below.refl _ _).drew, fun h => absurd h (hn _), fun h => absurd h (hn _), fun h => absurd h (hn _), fun h => absurd h (hn _)⟩
theorem RI.noc (h : RI c d a f l x w0 D b s w) (hc : b c = false) : b a = false := by
 cases h1 : b a with
 | false => rfl
 | true => have := (h.ha h1).1; rw [hc] at this; cases this
theorem RI.nod (h : RI c d a f l x w0 D b s w) (hc : b d = false) : b a = false := by
 cases h1 : b a with
 | false => rfl
 | true => have := (h.ha h1).2; rw [hc] at this; cases this
theorem RI.noa (h : RI c d a f l x w0 D b s w) (hc : b a = false) : b f = false := by
 cases h1 : b f with
 | false => rfl
 | true => have := h.hf h1; rw [hc] at this; cases this
theorem RI.quiet (h : RI c d a f l x w0 D b s w) {i : Nat} (h1 : i ≠ c) (h2 : i ≠ d) (h3 : i ≠ a) (h4 : i ≠ f) (v : Value) : RI c d a f l x w0 D (markU b i) (upd s i v) w := by
 have m : ∀ j, j ≠ i → markU b i j = b j := fun j hj => markU_ne b hj
 have p : ∀ j, j ≠ i → upd s i v j = s j := fun j hj => upd_ne s v hj
 refine ⟨h.ne, ?_, ?_, ?_, ?_, ?_, ?_, ?_⟩
 ·rw [m a (Ne.symm h3), m c (Ne.symm h1), m d (Ne.symm h2)]; exact h.ha
 ·rw [m a (Ne.symm h3), m f (Ne.symm h4)]; exact h.hf
 ·rw [m f (Ne.symm h4)]; exact h.hB
 ·rw [m a (Ne.symm h3), m c (Ne.symm h1), p c (Ne.symm h1)]; exact h.hC
 ·rw [m a (Ne.symm h3), m d (Ne.symm h2), p d (Ne.symm h2)]; exact h.hS
 ·rw [m a (Ne.symm h3), m f (Ne.symm h4), p a (Ne.symm h3)]; exact h.hA
 ·rw [m f (Ne.symm h4), p f (Ne.symm h4)]; exact h.hD
theorem RI.clone (h : RI c d a f l x w0 D b s w) (hc : b c = false) {w' : World} {u : Value} (hb : Below w.heap.size w w') (ho : OwnI w0.heap.size w' u l) : RI c d a f l x w0 D (markU b c) (upd s c u) w' := by
 have ha := h.noc hc
 have hf := h.noa ha
 have m : ∀ j, j ≠ c → markU b c j = b j := fun j hj => markU_ne b hj
 have p : ∀ j, j ≠ c → upd s c u j = s j := fun j hj => upd_ne s u hj
 refine ⟨h.ne, ?_, ?_, ?_, ?_, ?_, ?_, ?_⟩
 ·rw [m a (Ne.symm h.ne.2.1), ha]; intro e; cases e
 ·rw [m f (Ne.symm h.ne.2.2.1), hf]; intro e; cases e
 ·exact fun _ => (h.hB hf).trans (hb.mono (h.hB hf).size)
 ·intro _ _; rw [upd_self]; exact ho
 ·intro h1 _
  rw [m d (Ne.symm h.ne.1)] at h1
  rw [p d (Ne.symm h.ne.1)]
  obtain ⟨k, e, hk⟩ := h.hS h1 ha
  exact ⟨k, e, pw_cell_below hb hk⟩
 ·rw [m a (Ne.symm h.ne.2.1), ha]; intro e; cases e
 ·rw [m f (Ne.symm h.ne.2.2.1), hf]; intro e; cases e
theorem RI.build (h : RI c d a f l x w0 D b s w) (hd : b d = false) : RI c d a f l x w0 D (markU b d) (upd s d (.slice (some ⟨w.heap.size, 0, none⟩) 1 1)) (w.alloc (.cells #[.int .i64 x] 2)) := by
 have ha := h.nod hd
 have hf := h.noa ha
 have hb : Below w.heap.size w (w.alloc (.cells #[.int .i64 x] 2)) := Below.alloc (Below.refl _ _) (Nat.le_refl _) _
 have m : ∀ j, j ≠ d → markU b d j = b j := fun j hj => markU_ne b hj
 have p : ∀ j, j ≠ d → upd s d (.slice (some ⟨w.heap.size, 0, none⟩) 1 1) j = s j := fun j hj => upd_ne s _ hj
 refine ⟨h.ne, ?_, ?_, ?_, ?_, ?_, ?_, ?_⟩
 ·rw [m a (Ne.symm h.ne.2.2.2.1), ha]; intro e; cases e
 ·rw [m f (Ne.symm h.ne.2.2.2.2.1), hf]; intro e; cases e
 ·exact fun _ => (h.hB hf).trans (hb.mono (h.hB hf).size)
 ·intro h1 _
  rw [m c h.ne.1] at h1
  rw [p c h.ne.1]
  exact (h.hC h1 ha).below hb
 ·intro _ _
  rw [upd_self]
  exact ⟨_, rfl, by simp⟩
 ·rw [m a (Ne.symm h.ne.2.2.2.1), ha]; intro e; cases e
 ·rw [m f (Ne.symm h.ne.2.2.2.2.1), hf]; intro e; cases e
theorem RI.app (h : RI c d a f l x w0 D b s w) (hc : b c = true) (hd : b d = true) (ha : b a = false) {w' : World} {u : Value} (ho : OwnI w0.heap.size w' u (l ++ [x])) (hg : w.grownBy w' (s c).ownBlock) : RI c d a f l x w0 D (markU b a) (upd s a u) w' := by
 have hf := h.noa ha
 have m : ∀ j, j ≠ a → markU b a j = b j := fun j hj => markU_ne b hj
 have hC := h.hC hc ha
 refine ⟨h.ne, ?_, ?_, ?_, ?_, ?_, ?_, ?_⟩
 ·intro _; rw [m c h.ne.2.1, m d h.ne.2.2.2.1]; exact ⟨hc, hd⟩
 ·rw [m f (Ne.symm h.ne.2.2.2.2.2), hf]; intro e; cases e
 ·exact fun _ => (h.hB hf).grown hg (h.hB hf).size (fun j hj => OwnI.base hC j hj)
 ·rw [markU_self]; intro _ e; cases e
 ·rw [markU_self]; intro _ e; cases e
 ·intro _ _; rw [upd_self]; exact ho
 ·rw [m f (Ne.symm h.ne.2.2.2.2.2), hf]; intro e; cases e
theorem RI.call (h : RI c d a f l x w0 D b s w) (ha : b a = true) (hf : b f = false) {w' : World} {u : Value} (hD : D u w') : RI c d a f l x w0 D (markU b f) (upd s f u) w' := by
 have m : ∀ j, j ≠ f → markU b f j = b j := fun j hj => markU_ne b hj
 refine ⟨h.ne, ?_, ?_, ?_, ?_, ?_, ?_, ?_⟩
 ·intro _; rw [m c h.ne.2.2.1, m d h.ne.2.2.2.2.1]; exact h.ha ha
 ·intro _; rw [m a h.ne.2.2.2.2.2]; exact ha
 ·rw [markU_self]; intro e; cases e
 ·rw [m a h.ne.2.2.2.2.2, ha]; intro _ e; cases e
 ·rw [m a h.ne.2.2.2.2.2, ha]; intro _ e; cases e
 ·rw [markU_self]; intro _ e; cases e
 ·intro _; rw [upd_self]; exact hD
end
set_option maxRecDepth 100000 in
set_option maxHeartbeats 1000000 in
theorem specOwn2 (v : Value) (xs : List Int) (w : World) (hv : ReadI w v xs) (hl : xs.length ≤ 1000000) :
  Calls Tryz.prog 153 #[v] w fun e w' => ∃ u, e = .returned u ∧ OwnI w.heap.size w' u xs ∧ Below w.heap.size w w' := by
 obtain ⟨A, c, rfl, hc, hr⟩ := id hv
 obtain ⟨w1, hw1⟩ : ∃ w1, w1 = w.alloc (.cells #[] 2) := ⟨_, rfl⟩
 have hB : Below w.heap.size w w1 := by rw [hw1]; exact Below.alloc (Below.refl _ _) (Nat.le_refl _) _
 have hs1 : w.heap.size ≤ w1.heap.size := hB.size
 have HO := Aside0.mk (show OwnI w.heap.size w1 (.slice (some ⟨w.heap.size, 0, none⟩) 0 0) [] by rw [hw1]; exact OwnI.empty w (Nat.le_refl _))
 have HB := Aside0.mk hB
 have HR := Aside0.mk (Kd.C_below hr hB)
 clear hr hv hB
 go_enter Tryz.func153, Tryz.ntmps153
 go_wp2_with (first | ((with_reducible refine gate_builtin (b := .append) (xs := #[.tmp 3, .tmp 4]) rfl ?_); rw [← hw1]; clear hw1; refine Kd.R_append_row (Value.int .i64) (0 : Int) (w0 := w) w.heap.size rfl (.tmp 3) (.tmp 4) 24 2 (.int .i64 0) 8 rfl Tryz.underlying24 info64 rfl (by decide) _ [] xs A xs.length c (fun _ => True) rfl rfl (fun _ _ => trivial) HO.out HR.out HB.out hs1 (by simp; omega) ?_; intro v1 w2 ho hb hg hat; have HO2 := Aside0.mk ho; have HB2 := Aside0.mk hb; clear ho hb hg hat))
 go_ret
 exact ⟨_, rfl, HO2.out, HB2.out⟩
/-- xs[k:] -/
theorem ReadI.from_ {w : World} {A : Option Addr} {n c : Nat} {xs : List Int} (h : ReadI w (.slice A n c) xs) {k : Nat} (hk : k ≤ xs.length) :
  ∃ A' c', (∀ W : World, (Instr.slice 24 (.slice A n c) (some (.int .i64 (k : Int))) none none).run Tryz.prog W = .ok (.slice A' (xs.length - k) c') W) ∧ ReadI w (.slice A' (xs.length - k) c') (xs.drop k) ∧ (A ≠ none → A' ≠ none) := by
 obtain ⟨A0, c0, e, hc, hr⟩ := h
 cases e
 obtain ⟨i, hi, hs⟩ := Option.map_eq_some_iff.1 (show (Tryz.prog.info? 2).map (·.size) = some 1 by kernel_rfl)
 have h2 : (k : Int) ≤ (xs.length : Int) := by omega
 have hrun : ∀ W : World, (Instr.slice 24 (.slice A xs.length c) (some (.int .i64 (k : Int))) none none).run Tryz.prog W = .ok (.slice (if c = k then A else A.map (·.add k)) (xs.length - k) (c - k)) W := fun W => by
  have h3 : ¬ xs.length < k := by omega
  by_cases hck : c = k
  ·simp [Instr.slice, Instr.sliceBounds, Instr.sliceBound, asIntOf, run_underlying Tryz.underlying24, sizeOf, typeInfo, hi, hs, go_sem, h2, h3, hck]
  ·simp [Instr.slice, Instr.sliceBounds, Instr.sliceBound, asIntOf, run_underlying Tryz.underlying24, sizeOf, typeInfo, hi, hs, go_sem, h2, h3, hck]
 have hne : A ≠ none → (if c = k then A else A.map (·.add k)) ≠ none := fun hA => by
  split
  ·exact hA
  ·cases A with
   | none => exact absurd rfl hA
   | some a => simp
 refine ⟨_, _, hrun, ⟨_, _, by rw [List.length_drop], by rw [List.length_drop]; omega, Kd.C_of_reads (d := (0 : Int)) (h1 := fun _ => rfl) ⟨rfl, by rw [List.length_drop]; have := hr.2.1; omega, fun hp => ?_⟩⟩, hne⟩
 rw [List.length_drop] at hp
 obtain ⟨ad, e, -⟩ := ReadI.at_ hr (i := k) (by omega)
 refine ⟨ad.add k, by rw [if_neg (by omega), e]; rfl, fun j hj => ?_⟩
 rw [List.length_drop] at hj
 obtain ⟨ad', e', hcell⟩ := ReadI.at_ hr (i := k + j) (by omega)
 rw [e] at e'
 cases e'
 have ha : (ad.add k).add j = ad.add (k + j) := Go.Proofs.YtomofijniefelaaGreatW.PrintWords.add_add ad k j
 rw [ha, hcell]
 simp [List.getD_eq_getElem?_getD]
/-- xs[:k] -/
theorem ReadI.to_ {w : World} {A : Option Addr} {n c : Nat} {xs : List Int} (h : ReadI w (.slice A n c) xs) {k : Nat} (hk : k ≤ xs.length) :
  (∀ W : World, (Instr.slice 24 (.slice A n c) none (some (.int .i64 (k : Int))) none).run Tryz.prog W = .ok (.slice A k c) W) ∧ ReadI w (.slice A k c) (xs.take k) := by
 obtain ⟨A0, c0, e, hc, hr⟩ := h
 cases e
 obtain ⟨i, hi, hs⟩ := Option.map_eq_some_iff.1 (show (Tryz.prog.info? 2).map (·.size) = some 1 by kernel_rfl)
 have h2 : (k : Int) ≤ (c : Int) := by omega
 have hl : (xs.take k).length = k := by rw [List.length_take]; omega
 refine ⟨fun W => ?_, ⟨A, c, by rw [hl], by rw [hl]; omega, Kd.C_of_reads (d := (0 : Int)) (h1 := fun _ => rfl) ⟨rfl, by rw [hl]; have := hr.2.1; omega, fun hp => ?_⟩⟩⟩
 ·have h3 : ¬ c < k := by omega
  by_cases hc0 : c = 0
  ·obtain rfl : k = 0 := by omega
   simp [Instr.slice, Instr.sliceBounds, Instr.sliceBound, asIntOf, run_underlying Tryz.underlying24, sizeOf, typeInfo, hi, hs, go_sem, h2, h3, hc0]
  ·simp [Instr.slice, Instr.sliceBounds, Instr.sliceBound, asIntOf, run_underlying Tryz.underlying24, sizeOf, typeInfo, hi, hs, go_sem, h2, h3, hc0]
 ·rw [hl] at hp ⊢
  obtain ⟨ad, e, -⟩ := ReadI.at_ hr (i := 0) (by omega)
  refine ⟨ad, e, fun j hj => ?_⟩
  obtain ⟨ad', e', hcell⟩ := ReadI.at_ hr (i := j) (by omega)
  rw [e] at e'
  cases e'
  rw [hcell]
  simp [List.getD_eq_getElem?_getD, List.getElem?_take, hj]
/-- a slice expression, its run told -/
theorem slice_exec {P : Program} {o : Oper} {ev : Operand → Value} {W : World} {t e : TypeId} {s : Operand} {lo hi : Option Operand} {u : Value} (ht : P.underlying t = some (.slice e)) (ho : o.op = .slice t s lo hi none) (hr : (Instr.slice t (ev s) (lo.map ev) (hi.map ev) none).run P W = .ok u W) : (execOp ev o).run P W = .ok (.value u) W := by
 have hel : P.elem t = e := by simp [Program.elem, ht]
 have h1 := run_sliceAt_slice (P := P) (w := W) t (ev s) (lo.map ev) (hi.map ev) none (by rw [hel]; exact ht)
 simp [execOp, ho, h1, hr]
section
variable {P : Program} {ops : Array Oper} {rest : List Oper} {o : Oper} {a : Act} {Q : Exit → Act → World → Prop}
end
set_option maxRecDepth 100000 in
/-- append(v, ys...) as one operation -/
theorem appendRow_gives {o : Oper} {ev : Operand → Value} {W : World} (base : Nat) (s x : Operand) (ho : o.op = .call { callee := .builtin .append, args := #[s, x], argTypes := #[24, 24] })
  (v : Value) (xs ys : List Int) (ad : Addr) (n c : Nat) (hs : ev s = v) (hx : ev x = .slice (some ad) n c) (hn : n = ys.length) (hr : ReadI W (.slice (some ad) n c) ys)
  (HO : OwnI base W v xs) (hbase : base ≤ W.heap.size) (hl : xs.length + ys.length < 1000000) {R : Value → World → Prop}
  (h : ∀ v1 w1, OwnI base w1 v1 (xs ++ ys) → W.grownBy w1 v.ownBlock → R v1 w1) : opGives Tryz.prog o ev W R := by
 obtain ⟨i64, hi, hii⟩ := Option.map_eq_some_iff.1 info64
 simp only [Prod.mk.injEq] at hii
 obtain ⟨hi0, hi1, hi2⟩ := hii
 obtain ⟨A0, c0, e0, -, hr⟩ := hr
 cases e0
 have hO := Kd.own_of_R HO
 obtain ⟨v', w', hrun, h2, h3, -⟩ := run_append_own_at (P := Tryz.prog) W base 24 o.type 2 _ (.int .i64 0) 1 8 Tryz.underlying24 hi hi0 hi1 hi2 rfl (by decide) v xs.length (xs.map (Value.int .i64)) hO ad ys.length c (ys.map (Value.int .i64)) (by rw [List.length_map, Nat.mul_one])
  (fun j u hj => by
   rw [List.getElem?_map] at hj
   obtain ⟨y, hy, rfl⟩ := Option.map_eq_some_iff.1 hj
   have hjl := (List.getElem?_eq_some_iff.1 hy).1
   obtain ⟨ad', e', hcell⟩ := ReadI.at_ hr hjl
   cases e'
   rw [hcell, List.getD_eq_getElem?_getD, hy]; rfl) (fun u hu => by
   obtain ⟨y, -, rfl⟩ := List.mem_map.1 hu
   rfl) (by simp only [maxLen]; omega) (by omega) hbase
 refine opGives_value (w' := w') (v := v') ?_ (h v' w' (OwnI.of_row (b := base) (by rw [List.length_append, List.map_append]; exact h2) (Nat.le_refl _)) h3)
 unfold execOp
 simp only [ho, resolve, invoke, builtin, Sem.run_bind, Sem.run_pure, Result.andThen_ok, List.map_toArray, List.map_cons, List.map_nil, hs, hx, hn, hrun]
/-- a copy, one number behind it, a row behind that -/
def SJ (l : List Int) (x : Int) (w0 : World) (D : Value → World → Prop) (b : Nat → Bool) (s : Nat → Value) (w : World) : Prop := RI 3 5 6 10 l x w0 D b s w ∧ (b 11 = true → b 10 = true ∧ s 11 = s 10)
section
variable {l : List Int} {x : Int} {w0 w : World} {D : Value → World → Prop} {b : Nat → Bool} {s : Nat → Value}
theorem SJ.start (hb : ∀ i, b i = false) : SJ l x w0 D b s w0.drew := ⟨RI.start (by decide) hb, fun h => by rw [hb] at h; cases h⟩
theorem SJ.no11 (h : SJ l x w0 D b s w) (hb : b 3 = false ∨ b 5 = false ∨ b 6 = false ∨ b 10 = false) : b 11 = false := by
 cases h1 : b 11 with
 | false => rfl
 | true =>
  have h2 := (h.2 h1).1
  have h3 := h.1.hf h2
  have h4 := h.1.ha h3
  rcases hb with hb | hb | hb | hb
  ·rw [h4.1] at hb; cases hb
  ·rw [h4.2] at hb; cases hb
  ·rw [h3] at hb; cases hb
  ·rw [h2] at hb; cases hb
theorem SJ.step {i : Nat} {v : Value} {w' : World} (h : SJ l x w0 D b s w) (h1 : 11 ≠ i) (h11 : b 11 = false) (hr : RI 3 5 6 10 l x w0 D (markU b i) (upd s i v) w') : SJ l x w0 D (markU b i) (upd s i v) w' :=
 ⟨hr, fun e => by rw [markU_ne b h1, h11] at e; cases e⟩
theorem SJ.quiet (h : SJ l x w0 D b s w) {i : Nat} (h1 : ¬i = 3) (h2 : ¬i = 5) (h3 : ¬i = 6) (h4 : ¬i = 10) (h5 : ¬i = 11) (v : Value) : SJ l x w0 D (markU b i) (upd s i v) w :=
 ⟨h.1.quiet h1 h2 h3 h4 v, by rw [markU_ne b (Ne.symm h5), markU_ne b (Ne.symm h4), upd_ne s v (Ne.symm h5), upd_ne s v (Ne.symm h4)]; exact h.2⟩
theorem SJ.last (h : SJ l x w0 D b s w) (h10 : b 10 = true) (h11 : b 11 = false) : SJ l x w0 D (markU b 11) (upd s 11 (s 10)) w :=
 ⟨h.1.quiet (by decide) (by decide) (by decide) (by decide) _, fun _ => ⟨by rw [markU_ne b (by decide)]; exact h10, by rw [upd_self, upd_ne s _ (by decide)]⟩⟩
end
theorem OwnI.form0 {b : Nat} {w : World} {v : Value} {xs : List Int} (h : OwnI b w v xs) : ∃ (A : Option Addr) (c : Nat), v = .slice A xs.length c ∧ (A = none → c = 0) := by
 obtain ⟨A, c, e, -⟩ := h.read
 refine ⟨A, c, e, fun hA => ?_⟩
 rcases (Kd.own_of_R h).2 with ⟨e2, -⟩ | ⟨g, cap, cur, e2, -⟩
 ·rw [e2] at e; injection e with _ _ e3; exact e3.symm
 ·rw [e2] at e; injection e with e1; rw [hA] at e1; cases e1
set_option maxRecDepth 100000 in
/-- append(v, ys...) as one operation, ys nil or not -/
theorem appendAny_gives {o : Oper} {ev : Operand → Value} {W : World} (base : Nat) (s x : Operand) (ho : o.op = .call { callee := .builtin .append, args := #[s, x], argTypes := #[24, 24] })
  (v : Value) (xs ys : List Int) (A : Option Addr) (n c : Nat) (hs : ev s = v) (hx : ev x = .slice A n c) (hn : n = ys.length) (hr : ReadI W (.slice A n c) ys ∧ (A = none → c = 0))
  (HO : OwnI base W v xs) (hbase : base ≤ W.heap.size) (hl : xs.length + ys.length < 1000000) {R : Value → World → Prop}
  (h : ∀ v1 w1, OwnI base w1 v1 (xs ++ ys) → W.grownBy w1 v.ownBlock → R v1 w1) : opGives Tryz.prog o ev W R := by
 cases A with
 | some ad => exact appendRow_gives base s x ho v xs ys ad n c hs hx hn hr.1 HO hbase hl h
 | none =>
  obtain rfl := hr.2 rfl
  obtain ⟨A0, c0, e0, hc0, -⟩ := hr.1
  cases e0
  have hy : ys = [] := List.eq_nil_of_length_eq_zero (by omega)
  subst hy
  obtain ⟨i64, hi, hii⟩ := Option.map_eq_some_iff.1 info64
  have hrun := run_append_owned_none (P := Tryz.prog) (w := W) base 24 o.type 2 i64 1 Tryz.underlying24 hi v xs.length _ (Kd.own_of_R HO)
  refine opGives_value (w' := W) (v := v) ?_ (h v W (by rw [List.append_nil]; exact HO) ⟨rfl, rfl, rfl, Nat.le_refl _, fun _ _ _ => rfl⟩)
  unfold execOp
  simp only [ho, resolve, invoke, builtin, Sem.run_bind, Sem.run_pure, Result.andThen_ok, List.map_toArray, List.map_cons, List.map_nil, hs, hx, List.length_nil, hrun]
set_option maxRecDepth 100000 in
set_option maxHeartbeats 4000000 in
theorem drawOrder (bs n : Nat) (hn : n ≤ 6) (w : World) (hs : Src bs w) :
  Calls Tryz.prog 159 #[.pointer (some ⟨bs, 0, none⟩), .int .i64 n] w fun e w' => ∃ u, e = .returned u ∧ (∃ p : List Int, OwnI w.heap.size w' u p ∧ p.length = n ∧ ∀ x ∈ p, 0 ≤ x ∧ x ≤ 5) ∧ Dw bs w w' := by
 have HBS := Aside0.mk hs.lt
 obtain ⟨w1, hw1⟩ : ∃ w1, w1 = w.alloc (.cells #[] 2) := ⟨_, rfl⟩
 have hb1 : Below w.heap.size w w1 := by rw [hw1]; exact Below.alloc (Below.refl _ _) (Nat.le_refl _) _
 have HO1 : Aside0 (OwnI w.heap.size w1 (.slice (some ⟨w.heap.size, 0, none⟩) 0 0) []) := ⟨by rw [hw1]; exact OwnI.empty w (Nat.le_refl _)⟩
 have HD1 := Aside0.mk (Dw.of_below hs hb1)
 have hmx : Tryz.prog.follows .mixedOrders = true := by kernel_rfl
 clear hs hb1
 go_enter Tryz.func159, Tryz.ntmps159
 go_wp2
 rw [← hw1]
 clear hw1
 go_loopw [5, 6] (fun s5 s6 wr => ∃ (iv : Nat) (ss : List Int), s6 = .int .i64 iv ∧ iv ≤ n ∧ (∃ (A5 : Option Addr) (c5 : Nat), s5 = .slice A5 ss.length c5 ∧ (A5 = none → c5 = 0)) ∧ Aside0 (ss.length = iv) ∧ Aside0 (∀ x ∈ ss, 0 ≤ x ∧ x ≤ 5) ∧ Aside0 (OwnI w.heap.size wr s5 ss) ∧ Aside0 (Dw bs w wr)) (fun _ s6 _ => n - (intOf s6).toNat)
 case atStart => exact ⟨0, [], rfl, Nat.zero_le _, ⟨_, _, rfl, fun e => by cases e⟩, ⟨rfl⟩, ⟨fun x h => by cases h⟩, HO1, HD1⟩
 case round =>
  obtain ⟨iv, ss, rfl, hi, ⟨A5, c5, rfl, hA5⟩, HL, HSS, HO, HDr⟩ := hrel
  by_cases hlt : iv < n
  ·have hltI : (iv : Int) < (n : Int) := by omega
   have hw1' : IntKind.i64.wrap ((iv : Int) + 1) = (iv : Int) + 1 := IntWalk.i64_in _ (by omega)
   go_wp2_with (first | (go_at_call 146; go_must (refine (next bs ((iv : Int) + 1) wr (by omega) HDr.out.2).mono ?_; rintro e w2 ⟨r, rfl, -, hr, hd⟩; have hr := hr (by omega); obtain ⟨k, rfl⟩ : ∃ k : Nat, r = k := ⟨r.toNat, by omega⟩; have HK : Aside0 (k ≤ ss.length) := ⟨by rw [HL.out]; omega⟩; have HD2 := Aside0.mk (HDr.out.trans hd); have HO2 := Aside0.mk (HO.out.grown hd.1 (fun kk hk e => by have := HO.out.base kk hk; have := Option.some.inj e; have := HBS.out; omega)); clear hd)))
   obtain ⟨Af, cf, hsf, hrf, hnf⟩ := ReadI.from_ HO2.out.read HK.out
   have hS2 := Aside0.mk hsf
   have HS2 := Aside0.mk hsf
   have HS1 := Aside0.mk ((ReadI.to_ HO2.out.read HK.out).1)
   have HTK := Aside0.mk (fun W (h : Below w2.heap.size w2 W) => (ReadI.to_ (HO2.out.read.below h) HK.out).2)
   have hcf0 : Af = none → cf = 0 := fun hAf => by
    by_cases hA : A5 = none
    ·have h5 := hA5 hA
     obtain ⟨A0, c0, e0, hc0, -⟩ := HO2.out.read
     cases e0
     have hk0 : k = 0 := by have := HK.out; omega
     have hl0 : ss.length = 0 := by omega
     have h1 := hsf w2
     rw [hl0, hA, h5, hk0] at h1
     have h2 : (Instr.slice 24 (.slice none 0 0) (some (.int .i64 ((0 : Nat) : Int))) none none).run Tryz.prog w2 = .ok (.slice none 0 0) w2 := by
      obtain ⟨i, hi, hs⟩ := Option.map_eq_some_iff.1 (show (Tryz.prog.info? 2).map (·.size) = some 1 by kernel_rfl)
      simp [Instr.slice, Instr.sliceBounds, Instr.sliceBound, asIntOf, run_underlying Tryz.underlying24, sizeOf, typeInfo, hi, hs, go_sem]
     rw [h2] at h1
     injection h1 with h3
     injection h3 with _ _ h4
     exact h4.symm
    ·exact absurd hAf (hnf hA)
   have HDR : Aside0 (∀ W, Below w2.heap.size w2 W → ReadI W (.slice Af (ss.length - k) cf) (ss.drop k) ∧ (Af = none → cf = 0)) := ⟨fun W hb => ⟨hrf.below hb, hcf0⟩⟩
   have HSL : Aside0 (ss.length ≤ 6) := ⟨by rw [HL.out]; omega⟩
   have HTL : Aside0 ((ss.take k).length ≤ 6) := ⟨by rw [List.length_take]; have := HSL.out; omega⟩
   clear hsf hrf hnf hS2 hcf0
   go_wp2
   refine wp_region_u (fun i => !(i == 3) && !(i == 5) && !(i == 6) && !(i == 10) && !(i == 11)) (fun i => match i with | 0 => fun v => v = .slice A5 ss.length c5 | 1 => fun v => v = .int .i64 (k : Int) | 2 => fun v => v = .slice A5 k c5 | 4 => fun v => v = .int .i64 (iv : Int) | 7 => fun v => v = .slice A5 ss.length c5 | 8 => fun v => v = .int .i64 (k : Int) | 9 => fun v => v = .slice Af (ss.length - k) cf | _ => fun _ => True)
    (SJ (ss.take k) (iv : Int) w2 (fun z W => OwnI w2.heap.size W z (ss.take k ++ [(iv : Int)] ++ ss.drop k) ∧ Below w2.heap.size w2 W)) [0, 0, 3, 7, 0, 16, 63, 0, 0, 384, 1023, 2047] hmx (by kernel_rfl) ?start ?stay ?steps ?rest
   case start =>
    intro b_ s hb
    exact SJ.start hb
   case stay =>
    intro i_ b_ s v_ w1_ hq hI
    have h4 : (((¬i_ = 3 ∧ ¬i_ = 5) ∧ ¬i_ = 6) ∧ ¬i_ = 10) ∧ ¬i_ = 11 := by simpa using hq
    exact hI.quiet h4.1.1.1.1 h4.1.1.1.2 h4.1.1.2 h4.1.2 h4.2 v_
   case steps =>
    refine ⟨?_, ?_, ?_, ?_, ?_, ?_, ?_, ?_, ?_, ?_, ?_, ?_, trivial⟩
    ·intro s b_ w_ hI hbi hd hq R hR hN
     generalize hA : putAll _ 0 s _ = A
     have q11 : s 11 = .slice A5 ss.length c5 := hq 11 (by kernel_rfl)
     clear hq
     refine stepG_on rfl ?_
     have hR' := hR rfl (.slice A5 ss.length c5) rfl
     clear hR hN hd
     refine opGives_value ?_ hR'
     subst hA
     simp only [dsOf, List.map_cons, List.map_nil, Option.getD_some, putAll, Act.put, List.setIfInBounds_toArray, List.set_cons_zero, List.set_cons_succ]
     go_simp
    ·intro s b_ w_ hI hbi hd hq R hR hN
     generalize hA : putAll _ 0 s _ = A
     clear hq
     refine stepG_on rfl ?_
     have hR' := hR rfl (.int .i64 (k : Int)) rfl
     clear hR hN hd
     refine opGives_value ?_ hR'
     subst hA
     simp only [dsOf, List.map_cons, List.map_nil, Option.getD_some, putAll, Act.put, List.setIfInBounds_toArray, List.set_cons_zero, List.set_cons_succ]
     go_simp
    ·intro s b_ w_ hI hbi hd hq R hR hN
     generalize hA : putAll _ 0 s _ = A
     clear hq
     refine stepG_on rfl ?_
     have e0 : s 0 = _ := (hd 0 (by kernel_rfl)).2 rfl
     have e1 : s 1 = _ := (hd 1 (by kernel_rfl)).2 rfl
     have hR' := hR rfl (.slice A5 k c5) rfl
     clear hR hN hd
     refine opGives_value (slice_exec Tryz.underlying24 rfl ?_) hR'
     subst hA
     simp only [dsOf, List.map_cons, List.map_nil, Option.getD_some, putAll, Act.put, List.setIfInBounds_toArray, List.set_cons_zero, List.set_cons_succ]
     show (Instr.slice 24 (s 0) none (some (s 1)) none).run Tryz.prog w_ = _
     rw [e0, e1]
     exact HS1.out w_
    ·intro s b_ w_ hI hbi hd hq R hR hN
     generalize hA : putAll _ 0 s _ = A
     clear hq
     refine stepG_on rfl ?_
     have e2 : s 2 = _ := (hd 2 (by kernel_rfl)).2 rfl
     clear hR
     refine opGives_call (f := 153) (args := #[.slice A5 k c5]) ?_ ?_
     ·subst hA
      clear hN hd
      simp only [dsOf, List.map_cons, List.map_nil, Option.getD_some, putAll, Act.put, List.setIfInBounds_toArray, List.set_cons_zero, List.set_cons_succ]
      go_simp
     clear hA A hd
     have hBw := hI.1.hB (hI.1.noa (hI.1.noc hbi))
     refine (specOwn2 _ (ss.take k) w_ (HTK.out w_ hBw) (Nat.le_trans HTL.out (by decide))).mono ?_
     rintro e w3_ ⟨u3, rfl, ho, hb3⟩
     exact ⟨_, rfl, hN rfl _ _ (hI.step (by decide) (hI.no11 (.inl hbi)) (hI.1.clone hbi hb3 (ho.lower hBw.size)))⟩
    ·intro s b_ w_ hI hbi hd hq R hR hN
     generalize hA : putAll _ 0 s _ = A
     clear hq
     refine stepG_on rfl ?_
     have hR' := hR rfl (.int .i64 (iv : Int)) rfl
     clear hR hN hd
     refine opGives_value ?_ hR'
     subst hA
     simp only [dsOf, List.map_cons, List.map_nil, Option.getD_some, putAll, Act.put, List.setIfInBounds_toArray, List.set_cons_zero, List.set_cons_succ]
     go_simp
    ·intro s b_ w_ hI hbi hd hq R hR hN
     generalize hA : putAll _ 0 s _ = A
     clear hq
     refine stepG_on rfl ?_
     have e4 : s 4 = _ := (hd 4 (by kernel_rfl)).2 rfl
     clear hR
     have hN' := hN rfl (.slice (some ⟨w_.heap.size, 0, none⟩) 1 1) (w_.alloc (.cells #[.int .i64 (iv : Int)] 2)) (hI.step (by decide) (hI.no11 (.inr (.inl hbi))) (hI.1.build hbi))
     clear hN hd
     refine opGives_value ?_ hN'
     subst hA
     simp only [dsOf, List.map_cons, List.map_nil, Option.getD_some, putAll, Act.put, List.setIfInBounds_toArray, List.set_cons_zero, List.set_cons_succ]
     go_simp
    ·intro s b_ w_ hI hbi hd hq R hR hN
     generalize hA : putAll _ 0 s _ = A
     clear hq
     refine stepG_on rfl ?_
     have b3 : b_ 3 = true := (hd 3 (by kernel_rfl)).1
     have b5 : b_ 5 = true := (hd 5 (by kernel_rfl)).1
     clear hR
     have hOC := hI.1.hC b3 hbi
     obtain ⟨kb, ekb, hkb⟩ := hI.1.hS b5 hbi
     have hBw := hI.1.hB (hI.1.noa hbi)
     obtain ⟨Ac, cc, eC, -⟩ := hOC.read
     refine append_gives w2.heap.size (.tmp 21) (.tmp 23) rfl (.slice Ac (ss.take k).length cc) (ss.take k) (iv : Int) kb 1 ?_ ?_ hkb (by rw [← eC]; exact hOC) hBw.size (by have := HTL.out; omega) ?_
     ·subst hA
      clear hN hd
      simp only [dsOf, List.map_cons, List.map_nil, Option.getD_some, putAll, Act.put, List.setIfInBounds_toArray, List.set_cons_zero, List.set_cons_succ]
      exact eC
     ·subst hA
      clear hN hd
      simp only [dsOf, List.map_cons, List.map_nil, Option.getD_some, putAll, Act.put, List.setIfInBounds_toArray, List.set_cons_zero, List.set_cons_succ]
      exact ekb
     intro v1 wn1 ho1 hg1 hat1
     exact hN rfl _ _ (hI.step (by decide) (hI.no11 (.inr (.inr (.inl hbi)))) (hI.1.app b3 b5 hbi ho1 (by rw [eC]; exact hg1)))
    ·intro s b_ w_ hI hbi hd hq R hR hN
     generalize hA : putAll _ 0 s _ = A
     have q11 : s 11 = .slice A5 ss.length c5 := hq 11 (by kernel_rfl)
     clear hq
     refine stepG_on rfl ?_
     have hR' := hR rfl (.slice A5 ss.length c5) rfl
     clear hR hN hd
     refine opGives_value ?_ hR'
     subst hA
     simp only [dsOf, List.map_cons, List.map_nil, Option.getD_some, putAll, Act.put, List.setIfInBounds_toArray, List.set_cons_zero, List.set_cons_succ]
     go_simp
    ·intro s b_ w_ hI hbi hd hq R hR hN
     generalize hA : putAll _ 0 s _ = A
     clear hq
     refine stepG_on rfl ?_
     have hR' := hR rfl (.int .i64 (k : Int)) rfl
     clear hR hN hd
     refine opGives_value ?_ hR'
     subst hA
     simp only [dsOf, List.map_cons, List.map_nil, Option.getD_some, putAll, Act.put, List.setIfInBounds_toArray, List.set_cons_zero, List.set_cons_succ]
     go_simp
    ·intro s b_ w_ hI hbi hd hq R hR hN
     generalize hA : putAll _ 0 s _ = A
     clear hq
     refine stepG_on rfl ?_
     have e7 : s 7 = _ := (hd 7 (by kernel_rfl)).2 rfl
     have e8 : s 8 = _ := (hd 8 (by kernel_rfl)).2 rfl
     have hR' := hR rfl (.slice Af (ss.length - k) cf) rfl
     clear hR hN hd
     refine opGives_value (slice_exec Tryz.underlying24 rfl ?_) hR'
     subst hA
     simp only [dsOf, List.map_cons, List.map_nil, Option.getD_some, putAll, Act.put, List.setIfInBounds_toArray, List.set_cons_zero, List.set_cons_succ]
     show (Instr.slice 24 (s 7) (some (s 8)) none none).run Tryz.prog w_ = _
     rw [e7, e8]
     exact HS2.out w_
    ·intro s b_ w_ hI hbi hd hq R hR hN
     generalize hA : putAll _ 0 s _ = A
     clear hq
     refine stepG_on rfl ?_
     have b6 : b_ 6 = true := (hd 6 (by kernel_rfl)).1
     have e9 : s 9 = _ := (hd 9 (by kernel_rfl)).2 rfl
     clear hR
     have hOA := hI.1.hA b6 hbi
     have hBw := hI.1.hB hbi
     obtain ⟨Aa, ca, eA, -⟩ := hOA.read
     refine appendAny_gives w2.heap.size (.tmp 24) (.tmp 27) rfl (.slice Aa (ss.take k ++ [(iv : Int)]).length ca) (ss.take k ++ [(iv : Int)]) (ss.drop k) Af (ss.length - k) cf ?_ ?_ (by rw [List.length_drop]) (HDR.out w_ hBw) (by rw [← eA]; exact hOA) hBw.size (by have h1 := HTL.out; have h2 := HSL.out; rw [List.length_append, List.length_drop]; simp only [List.length_singleton]; omega) ?_
     ·subst hA
      clear hN hd
      simp only [dsOf, List.map_cons, List.map_nil, Option.getD_some, putAll, Act.put, List.setIfInBounds_toArray, List.set_cons_zero, List.set_cons_succ]
      exact eA
     ·subst hA
      clear hN hd
      simp only [dsOf, List.map_cons, List.map_nil, Option.getD_some, putAll, Act.put, List.setIfInBounds_toArray, List.set_cons_zero, List.set_cons_succ]
      exact e9
     intro v1 wn1 ho1 hg1
     exact hN rfl _ _ (hI.step (by decide) (hI.no11 (.inr (.inr (.inr hbi)))) (hI.1.call b6 hbi ⟨ho1, hBw.grown hg1 hBw.size (fun j hj => by rw [← eA] at hj; exact hOA.base j hj)⟩))
    ·intro s b_ w_ hI hbi hd hq R hR hN
     generalize hA : putAll _ 0 s _ = A
     clear hq
     refine stepG_on rfl ?_
     have b10 : b_ 10 = true := (hd 10 (by kernel_rfl)).1
     clear hR
     have hN' := hN rfl (s 10) w_ (hI.last b10 hbi)
     clear hN hd
     refine opGives_value ?_ hN'
     subst hA
     simp only [dsOf, List.map_cons, List.map_nil, Option.getD_some, putAll, Act.put, List.setIfInBounds_toArray, List.set_cons_zero, List.set_cons_succ]
     rfl
   case rest =>
    intro s9 b_ w9 hI hb hv
    simp only [dsOf, List.map_cons, List.map_nil, Option.getD_some, putAll, Act.put, List.setIfInBounds_toArray, List.set_cons_zero, List.set_cons_succ]
    clear hv 
    obtain ⟨hD1, hD2⟩ := hI.1.hD (hb 10 (by decide))
    have e11_ := (hI.2 (hb 11 (by decide))).2
    have HO9 := Aside0.mk hD1
    have HB9 := Aside0.mk hD2
    rw [e11_]
    obtain ⟨z9, hz9⟩ : ∃ z9, z9 = s9 10 := ⟨_, rfl⟩
    rw [← hz9] at HO9 ⊢
    clear hI hb hD1 hD2 e11_ hz9
    go_wp2
    go_roundw
    case rel => exact ⟨iv + 1, ss.take k ++ [(iv : Int)] ++ ss.drop k, by go_num, by omega, HO9.out.form0, ⟨by rw [List.length_append, List.length_append, List.length_take, List.length_drop, List.length_singleton]; have := HK.out; have := HL.out; omega⟩, ⟨fun x hx => by
     rcases List.mem_append.1 hx with hx | hx
     ·rcases List.mem_append.1 hx with hx | hx
      ·exact HSS.out x (List.mem_of_mem_take hx)
      ·rw [List.mem_singleton] at hx; omega
     ·exact HSS.out x (List.mem_of_mem_drop hx)⟩, ⟨HO9.out.lower HD2.out.size⟩, ⟨HD2.out.then_below HB9.out⟩⟩
    case measure => simp [intOf]; omega
  ·have e : iv = n := by omega
   have HE := Aside0.mk e
   clear e
   have hltI : ¬ (iv : Int) < (n : Int) := by omega
   go_wp2
   go_ret
   exact ⟨_, rfl, ⟨ss, HO.out, by rw [HL.out, HE.out], HSS.out⟩, HDr.out⟩
theorem wp_region_v {P : Program} {id : Nat} {Q : Exit → Act → World → Prop} {a : Act} {w : World} {l : List Oper} (k : Nat) (qt : Nat → Bool) (V : Nat → Value → Prop) (I : (Nat → Bool) → (Nat → Value) → World → Prop) (B : List Nat) (hm : P.follows .mixedOrders = true) (hok : tailOk l B a.tmps.size k = true)
  (hI0 : ∀ b s, (∀ i, b i = false) → I b s w.drew)
  (hI : ∀ i b s v w1, qt i = true → I b s w1 → I (markU b i) (upd s i v) w1)
  (hs : uSteps qt V I P (l.take k) B a 0 (l.take k))
  (hend : ∀ s b w1, I b s w1 → (∀ i, i < k → b i = true) → (∀ i, i < k → qt i = true → V i (s i)) → tailList P Q (l.drop k) (putAll (dsOf (l.take k)) 0 s a) w1) : (Code.region id l.toArray true).wp P Q a w := by
 simp only [tailOk, Bool.and_eq_true] at hok
 obtain ⟨⟨⟨⟨⟨⟨⟨⟨hk, h1⟩, h0⟩, h2⟩, h3⟩, h4⟩, h5⟩, hBt⟩, hBd⟩ := hok
 have hk : k < l.length := of_decide_eq_true hk
 have hnd : (dsOf (l.take k)).Nodup := of_decide_eq_true h2
 have hBt : ∀ i j, i < l.length → k ≤ i → j < i → (B.getD i 0).testBit j = true := by
  intro i j hi hki hj
  have := List.all_eq_true.1 hBt i (List.mem_range.2 hi)
  rw [decide_eq_false (by omega), Bool.false_or] at this
  exact List.all_eq_true.1 this j (List.mem_range.2 hj)
 have hBd : ∀ i j, i < k → j < l.length → (B.getD i 0).testBit j = true → j < i := by
  intro i j hi hj hij
  have := List.all_eq_true.1 (List.all_eq_true.1 hBd i (List.mem_range.2 hi)) j (List.mem_range.2 hj)
  rw [hij, Bool.not_true, Bool.or_false] at this
  exact of_decide_eq_true this
 have hTl : (rtab .any l.toArray).2.length = l.length := by rw [rtab_length]; simp
 have hdl : ∀ i, i < k → (l.take k)[i]? = l[i]? := fun i hi => by rw [List.getElem?_take_of_lt hi]
 have hlt : (l.take k).length = k := by rw [List.length_take]; omega
 have hds : ∀ (i : Nat) (o : Oper), i < k → l[i]? = some o → o.dst = some ((dsOf (l.take k))[i]?.getD 0) ∧ (dsOf (l.take k))[i]? = some (o.dst.getD 0) := by
  intro i o hi ho
  have ho' : (l.take k)[i]? = some o := (hdl i hi).trans ho
  have e : (dsOf (l.take k))[i]? = some (o.dst.getD 0) := by unfold dsOf; rw [List.getElem?_map, ho']; rfl
  refine ⟨?_, e⟩
  have := List.all_eq_true.1 h1 o (List.mem_of_getElem? ho')
  rw [e]
  cases hd : o.dst with
  | none => rw [hd] at this; cases this
  | some d => rfl
 have hrange : ∀ j, j < l.length → (List.range l.length).contains j = true := fun j hj => by simpa using hj
 refine wp_region_last_drew (S := fun _ => True) (ds := []) hm trivial (fun _ => ?_)
 refine inv_ (T := rtab .any l.toArray) (B := B) (List.range l.length) (fun b a' w' => (b k = false → ∃ s, a' = putAll (dsOf (l.take k)) 0 s a ∧ I b s w' ∧ (∀ i, i < k → b i = true → qt i = true → V i (s i)) ∧ ∀ i, i < k → b i = false → s i = (a.tmps[(dsOf (l.take k))[i]?.getD 0]?).getD undef) ∧ (∀ n, k < n → n ≤ l.length → (∀ j, j < n → b j = true) → (∀ j, n ≤ j → j < l.length → b j = false) → tailList P Q (l.drop n) a' w')) rfl h4 h5 ?_ ?_ ?_ ?_
 ·rw [hTl, Bool.and_eq_true, beq_iff_eq, beq_iff_eq]
  refine ⟨?_, by simp⟩
  apply List.ext_getElem
  ·simp [lof]
  ·intro i hi1 hi2
   have hi : i < l.length := by simpa [lof] using hi1
   simp [lof, hi]
 ·refine ⟨fun _ => ⟨fun k' => (a.tmps[(dsOf (l.take k))[k']?.getD 0]?).getD undef, ?_, hI0 _ _ (fun _ => rfl), (fun _ _ h => by cases h), fun _ _ _ => rfl⟩, fun n hn _ hj _ => by have := hj 0 (by omega); cases this⟩
  refine (putAll_self _ _ _ _ (fun j d hj => ?_)).symm
  have hd := List.all_eq_true.1 h3 d (List.mem_of_getElem? hj)
  have hd' : d < a.tmps.size := of_decide_eq_true hd
  simp [hj, hd']
 ·intro i hi b a' w' ⟨hA, hT⟩ hbi hon hoff
  have hil : i < l.length := List.mem_range.1 hi
  have ho : l[i]? = some l[i] := List.getElem?_eq_getElem hil
  refine ⟨l[i], by simp, fun K hK => ?_⟩
  have hK' := Shut.out hK
  have hg : l[i].guard = none := by
   have := List.all_eq_true.1 h0 l[i] (List.mem_of_getElem? ho)
   cases hq : l[i].guard with
   | none => rfl
   | some g => rw [hq] at this; cases this
  rw [if_pos (by simp [Region.wanted, hg])]
  have hon' : ∀ j, j < l.length → (B.getD i 0).testBit j = true → b j = true := fun j hj hb => hon j (by rw [hrange j hj, hb]; rfl)
  have hoff' : ∀ d, d < l.length → (B.getD d 0).testBit i = true → b d = false := fun d hd hb => hoff d (by rw [hrange d hd, hb]; rfl)
  by_cases hik : i < k
  ·have hbk : b k = false := hoff' k hk (hBt k i hk (Nat.le_refl _) hik)
   obtain ⟨s, rfl, hIb, hvs, hq0⟩ := hA hbk
   have hup : up b i = markU b i := by
    funext j
    by_cases hji : j = i
    ·subst hji; rw [up_self, markU_self]
    ·rw [up_ne hji, markU_ne b hji]
   have hfin : ∀ v w2, I (markU b i) (upd s i v) w2 → (qt i = true → V i v) → K ((putAll (dsOf (l.take k)) 0 s a).put l[i].dst v) w2 := by
    intro v w2 hI2 hV2
    rw [(hds i _ hik ho).1, (hds i _ hik ho).2, Option.getD_some, putAll_put _ _ _ _ _ _ _ hnd (Nat.zero_le _) (by rw [Nat.sub_zero]; exact (hds i _ hik ho).2)]
    refine hK' _ _ ⟨fun _ => ⟨upd s i v, rfl, by rw [hup]; exact hI2, fun j hj hbj hqj => ?_, fun j hj hbj => ?_⟩, fun n hn hnl hj _ => ?_⟩
    ·by_cases hji : j = i
     ·subst hji; rw [upd_self]; exact hV2 hqj
     ·rw [upd_ne s v hji]; rw [up_ne hji] at hbj
      exact hvs j hj hbj hqj
    ·have hji : j ≠ i := by
      rintro rfl
      rw [up_self] at hbj
      cases hbj
     rw [upd_ne s v hji]; rw [up_ne hji] at hbj
     exact hq0 j hj hbj
    ·have := hj k hn
     rw [up_ne (by omega), hbk] at this
     cases this
   have hst := uSteps_at (l.take k) 0 hs i _ ((hdl i hik).trans ho) s b w' hIb (by rw [Nat.zero_add]; exact hbi) (fun j hj => by
    rw [Nat.zero_add] at hj
    have h6 := Bool.and_eq_true _ _ ▸ hj
    have h7 : j < k := by have := of_decide_eq_true h6.1; rw [hlt] at this; exact this
    have h8 : b j = true := hon' j (by omega) h6.2
    exact ⟨h8, hvs j h7 h8⟩) (fun j hj => by
    rw [Nat.zero_add] at hj
    have h6 := Bool.and_eq_true _ _ ▸ hj
    have h7 : j < k := by have := of_decide_eq_true h6.1; rw [hlt] at this; exact this
    exact hq0 j h7 (hoff' j (by omega) h6.2)) (fun v w2 => K ((putAll (dsOf (l.take k)) 0 s a).put l[i].dst v) w2) (fun hqi v hvi => by
    rw [Nat.zero_add] at hqi hvi
    exact hfin v w' (hI i b s v w' hqi hIb) (fun _ => hvi)) (fun hqi v w2 hI2 => by
    rw [Nat.zero_add] at hqi hI2
    exact hfin v w2 hI2 (fun h => by rw [hqi] at h; cases h))
   unfold stepG at hst
   rw [if_pos (by simp [Region.wanted, hg])] at hst
   exact opGives_wp hst
  ·have hall : ∀ j, j < i → b j = true := fun j hj => hon' j (by omega) (hBt i j hil (by omega) hj)
   have hnone : ∀ j, i ≤ j → j < l.length → b j = false := by
    intro j hj hjl
    by_cases hji : j = i
    ·subst hji; exact hbi
    ·exact hoff' j hjl (hBt j i hjl (by omega) (by omega))
   have htl : tailList P Q (l.drop i) a' w' := by
    by_cases hki : i = k
    ·subst hki
     obtain ⟨s, rfl, hIb, hvs, -⟩ := hA hbi
     exact hend s b w' hIb (fun j hj => hall j hj) (fun j hj => hvs j hj (hall j hj))
    ·exact hT i (by omega) (by omega) hall hnone
   rw [List.drop_eq_getElem_cons hil] at htl
   have hnext : ∀ a2 w2, tailList P Q (l.drop (i + 1)) a2 w2 → K a2 w2 := by
    intro a2 w2 hq
    refine hK' _ _ ⟨fun h => ?_, fun n hn hnl hj hj2 => ?_⟩
    ·by_cases hki : i = k
     ·subst hki; rw [up_self] at h; cases h
     ·rw [up_ne (by omega)] at h
      have := hall k (by omega)
      rw [h] at this; cases this
    ·have hni : n = i + 1 := by
      by_cases h6 : n ≤ i
      ·have := hj2 i h6 hil
       rw [up_self] at this; cases this
      ·by_cases h7 : i + 1 < n
       ·have := hj (i + 1) h7
        rw [up_ne (by omega), hnone (i + 1) (by omega) (by omega)] at this
        cases this
       ·omega
     subst hni
     exact hq
   rcases htl with htl | ⟨w2, h1, h2⟩
   ·refine opGives_wp (opGives_mono htl (fun v w2 hq => hnext _ _ hq))
   ·unfold Oper.wp
    rw [h1]
    exact hnext _ _ h2
 ·intro b a' w' hall ⟨hA, hT⟩
  have := hT l.length hk (Nat.le_refl _) (fun j hj => hall j (hrange j hj)) (fun j h1 h2 => by omega)
  rw [List.drop_length] at this
  exact this
/-- heads under G -/
def IG (G : World → World → Prop) (k : Nat) (V : Nat → Value → World → Prop) (w : World) (b : Nat → Bool) (s : Nat → Value) (w1 : World) : Prop := G w w1 ∧ ∀ i, i < k → b i = true → V i (s i) w1
theorem g_to_u {G : World → World → Prop} (hGt : ∀ w1 w2 w3, G w1 w2 → G w2 w3 → G w1 w3) {P : Program} {l : List Oper} {B : List Nat} {V : Nat → Value → World → Prop} {a : Act} {w : World} (hV : ∀ i v w1 w2, G w1 w2 → V i v w1 → V i v w2) : ∀ (r : List Oper) (i : Nat), (∀ o ∈ r, o.guard = none) → gSteps G P l B V a w i r →
  uSteps (fun _ => false) (fun _ _ => True) (IG G l.length V w) P l B a i r
 | [], _, _, _ => trivial
 | o :: r, i, hg, h => by
  refine ⟨fun s b w1 hI hbi hd hq R _ hN => ?_, g_to_u hGt hV r (i + 1) (fun o ho => hg o (List.mem_cons_of_mem _ ho)) h.2⟩
  refine stepG_on (by simp [Region.wanted, hg o List.mem_cons_self]) ?_
  refine h.1 s w1 hI.1 (fun j hj => ?_) hq R (fun v w' hG hv => hN rfl v w' ⟨hGt _ _ _ hI.1 hG, fun j hj hbj => ?_⟩)
  ·have h6 := Bool.and_eq_true _ _ ▸ hj
   have h7 : j < l.length := by simpa using h6.1
   exact hI.2 j h7 (hd j (by rw [h6.2, Bool.and_true]; exact decide_eq_true h7)).1
  ·by_cases hji : j = i
   ·subst hji; rw [upd_self]; exact hv
   ·rw [upd_ne s v hji]; rw [markU_ne b hji] at hbj
    exact hV _ _ _ _ hG (hI.2 j hj hbj)
theorem wp_region_gv (G : World → World → Prop) (hGr : ∀ w, G w w.drew) (hGt : ∀ w1 w2 w3, G w1 w2 → G w2 w3 → G w1 w3) {P : Program} {id : Nat} {Q : Exit → Act → World → Prop} {a : Act} {w : World} {l : List Oper} (k : Nat) (V : Nat → Value → World → Prop) (B : List Nat) (hm : P.follows .mixedOrders = true) (hok : tailOk l B a.tmps.size k = true)
  (hV : ∀ i v w1 w2, G w1 w2 → V i v w1 → V i v w2)
  (hs : gSteps G P (l.take k) B V a w 0 (l.take k))
  (hend : ∀ s w1, G w w1 → (∀ i, i < k → V i (s i) w1) → tailList P Q (l.drop k) (putAll (dsOf (l.take k)) 0 s a) w1) : (Code.region id l.toArray true).wp P Q a w := by
 have hok' := hok
 simp only [tailOk, Bool.and_eq_true] at hok'
 obtain ⟨⟨⟨⟨⟨⟨⟨⟨hk, -⟩, h0⟩, -⟩, -⟩, -⟩, -⟩, -⟩, -⟩ := hok'
 have hk : k < l.length := of_decide_eq_true hk
 have hlt : (l.take k).length = k := by rw [List.length_take]; omega
 refine wp_region_v k (fun _ => false) (fun _ _ => True) (IG G (l.take k).length V w) B hm hok (fun b s hb => ⟨hGr w, fun i _ h => by rw [hb] at h; cases h⟩) (fun i b s v w1 h => by cases h) (g_to_u hGt hV _ _ (fun o ho => ?_) hs) (fun s b w1 hI hall _ => hend s w1 hI.1 (fun i hi => hI.2 i (by rw [hlt]; exact hi) (hall i hi)))
 have := List.all_eq_true.1 h0 o (List.mem_of_mem_take ho)
 cases hq : o.guard with
 | none => rfl
 | some g => rw [hq] at this; cases this
end Go.Proofs.YtomofijniefelaaGreat.H
