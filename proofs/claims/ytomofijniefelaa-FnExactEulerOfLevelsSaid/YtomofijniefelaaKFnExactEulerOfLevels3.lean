/- slices.Sort at numbers. slices.Sorted at numbers. Words (printed by a tool of the kit; of them, what is used). A region of open order: each operation is shown once; what holds of its value stays as memory grows. The laws' helpers over complexes, and the marks. Marks over complexes. What is known of a world is carried to the next one: the words of the printed laws. Bits of small numbers, as the walk spells them. -/
import Derived.Shelf.SortG.Plain
import Derived.Shelf.SortG.SortNone
import Derived.Test.YtomofijniefelaaKFnExactEulerOfLevels1
import Derived.Test.YtomofijniefelaaKFnExactEulerOfLevels2

namespace Go.Proofs.Ytomofijniefelaa.H
open Go.RowKit Go.Sort Go.Proofs.YtomofijniefelaaW.PrintWords Go.Proofs.YtomofijniefelaaW.PrintLast
set_option linter.unusedVariables false
set_option linter.unusedSimpArgs false
set_option maxRecDepth 100000 in
set_option maxHeartbeats 2000000 in
theorem sortInts (base : Nat) (w : World) (v : Value) (xs : List Int) (ho : OwnI base w v xs) (hl : xs.length ≤ 1000000) :
  Calls Try.prog 50 #[v] w fun e w' => e = .returned (.tuple #[]) ∧ OwnI base w' v (sortN xs) ∧ Below base w w' := by
 have hown := ho
 obtain ⟨-, ⟨rfl, h0⟩ | ⟨g, cap, cur, rfl, -⟩⟩ := Kd.own_of_R ho
 ·have hp : xs = [] := List.length_eq_zero_iff.1 h0
  subst hp
  exact (AnyG.slices_Sort_int_none Try.sortInts none 0 w).mono fun _ _ ⟨he, hw⟩ => ⟨he, by rw [hw, show sortN [] = [] by unfold sortN; simp]; exact OwnI.nil _ _, by rw [hw]; exact Below.refl _ _⟩
 ·obtain ⟨hh, -⟩ := hown.holds
  exact (AnyG.slices_Sort_int Try.sortInts g 0 cap xs w hh (hown.lt g rfl) (by omega)).mono fun _ _ ⟨he, n, os, hw⟩ =>
   ⟨he, by rw [hw]; exact hown.sorted (by rw [List.length_mergeSort]) n os, by rw [hw]; exact below_sortedI w (hown.base g rfl) (hown.lt g rfl) n _ os⟩
end Go.Proofs.Ytomofijniefelaa.H

namespace Go.Proofs.Ytomofijniefelaa.H
open Go.RowKit Go.Proofs.YtomofijniefelaaW.PrintWords Go.Proofs.YtomofijniefelaaW.PrintLast
set_option linter.unusedVariables false
set_option linter.unusedSimpArgs false
set_option maxHeartbeats 1000000 in
theorem sliceSorted (Bs : Nat) (w0 : World) (A : Option Addr) (cap : Nat) (zs : List Int) (hv : ReadI w0 (.slice A zs.length cap) zs) (w : World) (hw : Below w0.heap.size w0 w) (hc : w.cell? ⟨Bs, 0, none⟩ = some (.slice A zs.length cap)) (hB : Bs < w.heap.size) (hl : zs.length ≤ 1000000) :
  Calls Try.prog 24 #[.func (.func 51) #[] #[.pointer (some ⟨Bs, 0, none⟩)]] w fun e w' => ∃ v, e = .returned v ∧ OwnI w.heap.size w' v (sortN zs) ∧ Below w.heap.size w w' := by
 have HC := Aside0.mk (sliceCollect Bs w0 A cap zs hv w hw hc hB hl)
 have HL := Aside0.mk hl
 clear hv hw hc hB hl
 go_enter Try.func24, Try.ntmps24
 go_wp2_with (first | (go_at_call 49; refine HC.out.mono ?_; rintro e w2 ⟨v, rfl, ho, hb⟩; have HO := Aside0.mk ho; have HB := Aside0.mk hb; obtain ⟨A2, c2, rfl, -⟩ := id ho.read; clear ho hb) | (go_at_call 50; refine (sortInts w.heap.size _ _ zs HO.out HL.out).mono ?_; rintro e w3 ⟨rfl, ho, hb⟩; have HO3 := Aside0.mk ho; have HB3 := Aside0.mk hb; clear ho hb))
 go_ret
 exact ⟨_, rfl, HO3.out, HB.out.trans HB3.out⟩
end Go.Proofs.Ytomofijniefelaa.H

/-! ### 50. A region's order in a table, made once a region: each step asks the table (numbers alone), not the operations -/
namespace Go.Proofs.YtomofijniefelaaW.PrintLast
open Go.Proofs.YtomofijniefelaaW.PrintWords (Aside0)
def needsOf (md : Region.Mode) (o : Oper) : List Nat := (o.after.toList.filter (fun e => Region.binds md e)).map (fun e => e.on)
def clashOf (md : Region.Mode) (ops : Array Oper) (i : Nat) (oi : Oper) : List Nat := (List.range ops.size).filter fun j => !(j == i) && match ops[j]? with
 | some oj => !(oj.after.any (fun e => Region.binds md e && e.on == i) || oi.apart ops oj)
 | none => false
/-- No select in it; for each operation: what must have come up before it, and what may not come up behind it if it is taken first. -/
def rtab (md : Region.Mode) (ops : Array Oper) : Bool × List (List Nat × List Nat) := (Region.noSelect ops, (List.range ops.size).map fun i => match ops[i]? with
 | some o => (needsOf md o, clashOf md ops i o)
 | none => ([], []))
def readyAt (T : List (List Nat × List Nat)) (l : List Bool) (i : Nat) : Bool := !l.getD i true && match T[i]? with
 | some r => r.1.all (fun j => l.getD j false)
 | none => false
def readyT (T : List (List Nat × List Nat)) (l : List Bool) : List Nat := (List.range T.length).filter (readyAt T l)
section
variable {md : Region.Mode} {ops : Array Oper} {T : Bool × List (List Nat × List Nat)} {l l' li lj lk : Array Bool} {ds : List Nat} {i j k : Nat}
theorem gd (l : Array Bool) (j : Nat) (b : Bool) : l.getD j b = l.toList.getD j b := by simp [Array.getD_eq_getD_getElem?, List.getD_eq_getElem?_getD]
theorem needs_all (o : Oper) (p : Nat → Bool) : o.after.all (fun e => !Region.binds md e || p e.on) = (needsOf md o).all p := by
 unfold needsOf
 rw [← Array.all_toList]
 induction o.after.toList with
 | nil => rfl
 | cons e r ih =>
  rw [List.all_cons, ih, List.filter_cons]
  cases h : Region.binds md e <;> simp
theorem rtab_length : (rtab md ops).2.length = ops.size := by simp [rtab]
theorem rtab_some {o : Oper} (h : ops[i]? = some o) : (rtab md ops).2[i]? = some (needsOf md o, clashOf md ops i o) := by
 have hi := (Array.getElem?_eq_some_iff.1 h).1
 unfold rtab
 rw [List.getElem?_map, List.getElem?_range hi, Option.map_some, h]
theorem rtab_none (h : ops[i]? = none) : (rtab md ops).2[i]? = none := by
 have hi : ops.size ≤ i := Array.getElem?_eq_none_iff.1 h
 exact List.getElem?_eq_none (by rw [rtab_length]; exact hi)
theorem readyAt_eq : readyAt (rtab md ops).2 l.toList i = (!l.getD i true && ((ops[i]?).map (·.after.all fun e => !Region.binds md e || l.getD e.on false)).getD false) := by
 unfold readyAt
 rw [gd]
 cases h : ops[i]? with
 | none => rw [rtab_none h]; rfl
 | some o =>
  rw [rtab_some h]
  simp only [Option.map_some, Option.getD_some]
  rw [← needs_all]
  simp only [gd]
theorem ready_eq : Region.ready md ops l = readyT (rtab md ops).2 l.toList := by
 unfold Region.ready readyT
 rw [rtab_length]
 refine List.filter_congr (fun i _ => ?_)
 rw [readyAt_eq]
/-- What d waits for, as_ bits: told in the table (B), checked in one pass: each bit is a need of d, or a bit of an earlier need's. -/
def upM (B : List Nat) (d : Nat) : List Nat → Nat
 | [] => 0
 | n :: r => (2 ^ n ||| (if n < d then B.getD n 0 else 0)) ||| upM B d r
def waitsOk (T : List (List Nat × List Nat)) (B : List Nat) : Bool := (List.range T.length).all fun d => match T[d]? with
 | some r => (B.getD d 0 ||| upM B d r.1) == upM B d r.1
 | none => false
theorem upM_bit {B : List Nat} {d i : Nat} : ∀ {ns : List Nat}, (upM B d ns).testBit i = true → ∃ n ∈ ns, n = i ∨ (n < d ∧ (B.getD n 0).testBit i = true)
 | [], h => by simp [upM] at h
 | n :: r, h => by
  unfold upM at h
  rw [Nat.testBit_or, Nat.testBit_or, Bool.or_eq_true, Bool.or_eq_true] at h
  rcases h with (h | h) | h
  ·rw [Nat.testBit_two_pow] at h
   exact ⟨n, List.mem_cons_self, .inl (by simpa using h)⟩
  ·by_cases hn : n < d
   ·rw [if_pos hn] at h
    exact ⟨n, List.mem_cons_self, .inr ⟨hn, h⟩⟩
   ·rw [if_neg hn] at h
    simp at h
  ·obtain ⟨m, hm, h2⟩ := upM_bit h
   exact ⟨m, List.mem_cons_of_mem _ hm, h2⟩
end
end Go.Proofs.YtomofijniefelaaW.PrintLast

/-! ### 57. A region of open order by ONE relation over what is listed so far: each operation is shown once, whatever came up before it -/
namespace Go.Proofs.YtomofijniefelaaW.PrintLast
/-- Number i is listed too. -/
def up (b : Nat → Bool) (i : Nat) : Nat → Bool := fun j => if j = i then true else b j
theorem up_self (b : Nat → Bool) (i : Nat) : up b i i = true := by simp [up]
theorem up_ne {b : Nat → Bool} {i j : Nat} (h : j ≠ i) : up b i j = b j := by simp [up, h]
/-- What is listed: O's operations by b, all else already. -/
def lof (n : Nat) (O : List Nat) (b : Nat → Bool) : List Bool := (List.range n).map fun j => if O.contains j then b j else true
section
variable {P : Program} {ops : Array Oper} {Q : Exit → Act → World → Prop} {md : Region.Mode} {T : Bool × List (List Nat × List Nat)} {B : List Nat} {O : List Nat} {b : Nat → Bool} {i j n : Nat}
theorem lof_length : (lof n O b).length = n := by simp [lof]
theorem lof_get {d : Bool} (hj : j < n) : (lof n O b).getD j d = if O.contains j then b j else true := by
 simp [lof, List.getD_eq_getElem?_getD, hj]
theorem lof_up (hi : O.contains i = true) : (lof n O b).set i true = lof n O (up b i) := by
 apply List.ext_getElem?
 intro j
 by_cases hj : j < n
 ·by_cases hij : i = j
  ·subst hij
   have hl : i < (lof n O b).length := by rw [lof_length]; exact hj
   rw [List.getElem?_set_self hl]
   simp only [lof, List.getElem?_map, List.getElem?_range hj, Option.map_some, hi, if_true, up_self]
  ·rw [List.getElem?_set_ne hij]
   simp only [lof, List.getElem?_map, List.getElem?_range hj, Option.map_some]
   rw [up_ne (Ne.symm hij)]
 ·rw [List.getElem?_eq_none (by simp [lof]; omega), List.getElem?_eq_none (by simp [lof]; omega)]
/-- The step of operation i: out of the relation, it not being listed, all it waits for being so, and nothing that waits for it. -/
def StepAt (P : Program) (ops : Array Oper) (Q : Exit → Act → World → Prop) (B : List Nat) (O : List Nat) (I : (Nat → Bool) → Act → World → Prop) (i : Nat) : Prop :=
 ∀ b a w, I b a w → b i = false → (∀ j, (O.contains j && (B.getD i 0).testBit j) = true → b j = true) → (∀ d, (O.contains d && (B.getD d 0).testBit i) = true → b d = false) →
  ∃ oi, ops[i]? = some oi ∧ ∀ K : Act → World → Prop, Shut (∀ a' w', I (up b i) a' w' → K a' w') → if Region.wanted oi (yielded ops a.tmps) = true then Oper.wp P oi a w K Q else K (a.put oi.dst undef) w
/-- Every edge goes to an earlier operation; what is listed already waits for nothing of O; O's numbers are the region's, each once. -/
def baseOk (T : List (List Nat × List Nat)) (O : List Nat) : Bool :=
 (List.range T.length).all (fun d => match T[d]? with
  | some r => (O.contains d || r.1.all fun n => !O.contains n) && r.1.all fun n => decide (n < d)
  | none => false) && O.all (fun i => decide (i < T.length)) && decide O.Nodup
theorem baseOk_row {T : List (List Nat × List Nat)} (h : baseOk T O = true) {d : Nat} {r : List Nat × List Nat} (hr : T[d]? = some r) : (O.contains d = false → ∀ n ∈ r.1, O.contains n = false) ∧ ∀ n ∈ r.1, n < d := by
 simp only [baseOk, Bool.and_eq_true] at h
 have h1 := List.all_eq_true.1 h.1.1 d (List.mem_range.2 (List.getElem?_eq_some_iff.1 hr).1)
 rw [hr] at h1
 simp only [Bool.and_eq_true, Bool.or_eq_true, List.all_eq_true, decide_eq_true_eq] at h1
 refine ⟨fun hd n hn => ?_, h1.2⟩
 rcases h1.1 with h2 | h2
 ·rw [hd] at h2; cases h2
 ·simpa using h2 n hn
theorem baseOk_lt {T : List (List Nat × List Nat)} (h : baseOk T O = true) {i : Nat} (hi : i ∈ O) : i < T.length := by
 simp only [baseOk, Bool.and_eq_true] at h
 simpa using List.all_eq_true.1 h.1.2 i hi
theorem baseOk_nodup {T : List (List Nat × List Nat)} (h : baseOk T O = true) : O.Nodup := by
 simp only [baseOk, Bool.and_eq_true] at h
 exact of_decide_eq_true h.2
def Closed (T : List (List Nat × List Nat)) (O : List Nat) (b : Nat → Bool) : Prop := ∀ d r, T[d]? = some r → O.contains d = true → b d = true → ∀ n ∈ r.1, O.contains n = true → b n = true
/-- What waits for nothing of O has none of it in its bits. -/
theorem bits_out {T : List (List Nat × List Nat)} (hw : waitsOk T B = true) (hk : baseOk T O = true) : ∀ (m d : Nat), d ≤ m → d < T.length → O.contains d = false → ∀ j, (B.getD d 0).testBit j = true → O.contains j = false := by
 intro m
 induction m with
 | zero =>
  intro d hd hl hO j hj
  have hd0 : d = 0 := by omega
  subst hd0
  have hr : T[0]? = some T[0] := List.getElem?_eq_getElem hl
  have h1 := List.all_eq_true.1 hw 0 (List.mem_range.2 hl)
  rw [hr] at h1
  simp only [beq_iff_eq] at h1
  have h2 : (upM B 0 T[0].1).testBit j = true := by rw [← h1, Nat.testBit_or, hj, Bool.true_or]
  obtain ⟨n, hn, h3⟩ := upM_bit h2
  have := (baseOk_row hk hr).2 n hn
  omega
 | succ m ih =>
  intro d hd hl hO j hj
  have hr : T[d]? = some T[d] := List.getElem?_eq_getElem hl
  have h1 := List.all_eq_true.1 hw d (List.mem_range.2 hl)
  rw [hr] at h1
  simp only [beq_iff_eq] at h1
  have h2 : (upM B d T[d].1).testBit j = true := by rw [← h1, Nat.testBit_or, hj, Bool.true_or]
  obtain ⟨n, hn, h3⟩ := upM_bit h2
  have hO2 := (baseOk_row hk hr).1 hO n hn
  rcases h3 with rfl | ⟨h4, h5⟩
  ·exact hO2
  ·exact ih n (by omega) (by omega) hO2 j h5
theorem closed_bits {T : List (List Nat × List Nat)} (hw : waitsOk T B = true) (hk : baseOk T O = true) (hc : Closed T O b) : ∀ (m d : Nat), d ≤ m → d < T.length → O.contains d = true → b d = true → ∀ j, O.contains j = true → (B.getD d 0).testBit j = true → b j = true := by
 intro m
 induction m with
 | zero =>
  intro d hd hl hO hb j hjO hj
  have hd0 : d = 0 := by omega
  subst hd0
  have hr : T[0]? = some T[0] := List.getElem?_eq_getElem hl
  have h1 := List.all_eq_true.1 hw 0 (List.mem_range.2 hl)
  rw [hr] at h1
  simp only [beq_iff_eq] at h1
  have h2 : (upM B 0 T[0].1).testBit j = true := by rw [← h1, Nat.testBit_or, hj, Bool.true_or]
  obtain ⟨n, hn, h3⟩ := upM_bit h2
  have := (baseOk_row hk hr).2 n hn
  omega
 | succ m ih =>
  intro d hd hl hO hb j hjO hj
  have hr : T[d]? = some T[d] := List.getElem?_eq_getElem hl
  have h1 := List.all_eq_true.1 hw d (List.mem_range.2 hl)
  rw [hr] at h1
  simp only [beq_iff_eq] at h1
  have h2 : (upM B d T[d].1).testBit j = true := by rw [← h1, Nat.testBit_or, hj, Bool.true_or]
  obtain ⟨n, hn, h3⟩ := upM_bit h2
  rcases h3 with rfl | ⟨h4, h5⟩
  ·exact hc d _ hr hO hb n hn hjO
  ·cases hO2 : O.contains n with
   | true => exact ih n (by omega) (by omega) hO2 (hc d _ hr hO hb n hn hO2) j hjO h5
   | false =>
    have := bits_out hw hk n n (Nat.le_refl _) (by omega) hO2 j h5
    rw [hjO] at this
    cases this
theorem up_count : ∀ {O : List Nat}, O.Nodup → i ∈ O → b i = false → (O.filter fun j => !up b i j).length + 1 = (O.filter fun j => !b j).length
 | [], _, hi, _ => by cases hi
 | x :: r, hn, hi, hb => by
  rw [List.nodup_cons] at hn
  rcases List.mem_cons.1 hi with rfl | hi
  ·have h1 : (r.filter fun j => !up b i j) = r.filter fun j => !b j := by
    refine List.filter_congr (fun j hj => ?_)
    rw [up_ne (fun e => hn.1 (by rw [← e]; exact hj))]
   rw [List.filter_cons, List.filter_cons]
   simp [up_self, hb, h1]
  ·have hxi : x ≠ i := fun e => hn.1 (e ▸ hi)
   have h1 := up_count hn.2 hi hb
   rw [List.filter_cons, List.filter_cons, up_ne hxi]
   cases hbx : b x
   ·simp only [Bool.not_false, if_true, List.length_cons]
    omega
   ·simpa using h1
theorem inv_all (hT : rtab md ops = T) (hw : waitsOk T.2 B = true) (hk : baseOk T.2 O = true) (I : (Nat → Bool) → Act → World → Prop) (hs : ∀ i ∈ O, StepAt P ops Q B O I i)
  (hend : ∀ b a w, (∀ j, O.contains j = true → b j = true) → I b a w → Q .normal a w) :
  ∀ (m : Nat) (b : Nat → Bool) (a : Act) (w : World), (O.filter fun j => !b j).length = m → Closed T.2 O b → I b a w → wpAnyLast P md ops Q (fun _ => True) [] m (lof T.2.length O b).toArray a w := by
 subst hT
 have mem_ready' : ∀ {b : Nat → Bool} {i : Nat}, i ∈ Region.ready md ops (lof (rtab md ops).2.length O b).toArray → i < (rtab md ops).2.length ∧ O.contains i = true ∧ b i = false ∧ ∀ r, (rtab md ops).2[i]? = some r → ∀ n ∈ r.1, n < (rtab md ops).2.length → O.contains n = true → b n = true := by
  intro b i hi
  rw [ready_eq] at hi
  unfold readyT at hi
  rw [List.mem_filter, List.mem_range] at hi
  obtain ⟨hl, h1⟩ := hi
  unfold readyAt at h1
  rw [Bool.and_eq_true, lof_get hl] at h1
  obtain ⟨h2, h3⟩ := h1
  have h4 : O.contains i = true := by
   cases h : O.contains i with
   | true => rfl
   | false => rw [h] at h2; simp at h2
  rw [h4] at h2
  refine ⟨hl, h4, by simpa using h2, fun r hr n hn hnl hO => ?_⟩
  rw [hr] at h3
  simp only [List.all_eq_true] at h3
  have h5 := h3 n hn
  rw [lof_get hnl, hO] at h5
  simpa using h5
 intro m
 induction m with
 | zero =>
  intro b a w hm hc hI
  have hall : ∀ j, O.contains j = true → b j = true := by
   intro j hj
   cases hb : b j with
   | true => rfl
   | false =>
    have : j ∈ O.filter fun j => !b j := List.mem_filter.2 ⟨List.contains_iff_mem.1 hj, by simp [hb]⟩
    rw [List.eq_nil_of_length_eq_zero hm] at this
    cases this
  refine ⟨?_, hend b a w hall hI⟩
  refine List.eq_nil_iff_forall_not_mem.2 (fun i hi => ?_)
  obtain ⟨_, h1, h2, _⟩ := mem_ready' hi
  rw [hall i h1] at h2
  cases h2
 | succ m ih =>
  intro b a w hm hc hI
  refine ⟨fun hr => ?_, fun i hi => ?_⟩
  ·exfalso
   -- the smallest number that isn't listed is ready
   have hex : ∃ i, O.contains i = true ∧ b i = false := by
    cases hf : O.filter (fun j => !b j) with
    | nil => rw [hf] at hm; simp at hm
    | cons x r =>
     have hx : x ∈ O.filter (fun j => !b j) := by rw [hf]; exact List.mem_cons_self
     rw [List.mem_filter] at hx
     exact ⟨x, List.contains_iff_mem.2 hx.1, by simpa using hx.2⟩
   have hmin : ∀ k, (∃ i, i ≤ k ∧ O.contains i = true ∧ b i = false) → ∃ i, O.contains i = true ∧ b i = false ∧ ∀ j, j < i → O.contains j = true → b j = true := by
    intro k
    induction k with
    | zero =>
     rintro ⟨i, hi, h1, h2⟩
     exact ⟨i, h1, h2, fun j hj => by omega⟩
    | succ k ihk =>
     rintro ⟨i, hi, h1, h2⟩
     by_cases hlow : ∃ j, j ≤ k ∧ O.contains j = true ∧ b j = false
     ·exact ihk hlow
     ·refine ⟨i, h1, h2, fun j hj hO => ?_⟩
      cases hb : b j with
      | true => rfl
      | false => exact absurd ⟨j, by omega, hO, hb⟩ hlow
   obtain ⟨i0, h1, h2⟩ := hex
   obtain ⟨i, hO, hb, hlow⟩ := hmin i0 ⟨i0, Nat.le_refl _, h1, h2⟩
   have hl := baseOk_lt hk (List.contains_iff_mem.1 hO)
   have hin : i ∈ Region.ready md ops (lof (rtab md ops).2.length O b).toArray := by
    rw [ready_eq]
    unfold readyT
    rw [List.mem_filter, List.mem_range]
    refine ⟨hl, ?_⟩
    unfold readyAt
    rw [lof_get hl, hO, hb]
    have hr2 : (rtab md ops).2[i]? = some (rtab md ops).2[i] := List.getElem?_eq_getElem hl
    rw [hr2]
    simp only [if_true, Bool.not_false, Bool.true_and, List.all_eq_true]
    intro n hn
    have hni := (baseOk_row hk hr2).2 n hn
    rw [lof_get (by omega)]
    cases hOn : O.contains n with
    | true => simpa using hlow n hni hOn
    | false => simp
   rw [hr] at hin
   cases hin
  ·obtain ⟨hl, hO, hb, hneed⟩ := mem_ready' hi
   have hon : ∀ j, (O.contains j && (B.getD i 0).testBit j) = true → b j = true := by
    intro j hj
    rw [Bool.and_eq_true] at hj
    have hr2 : (rtab md ops).2[i]? = some (rtab md ops).2[i] := List.getElem?_eq_getElem hl
    have h1 := List.all_eq_true.1 hw i (List.mem_range.2 hl)
    rw [hr2] at h1
    simp only [beq_iff_eq] at h1
    have h2 : (upM B i (rtab md ops).2[i].1).testBit j = true := by rw [← h1, Nat.testBit_or, hj.2, Bool.true_or]
    obtain ⟨n, hn, h3⟩ := upM_bit h2
    have hni := (baseOk_row hk hr2).2 n hn
    rcases h3 with rfl | ⟨h4, h5⟩
    ·exact hneed _ hr2 n hn (by omega) hj.1
    ·cases hO2 : O.contains n with
     | true => exact closed_bits hw hk hc n n (Nat.le_refl _) (by omega) hO2 (hneed _ hr2 n hn (by omega) hO2) j hj.1 h5
     | false =>
      have := bits_out hw hk n n (Nat.le_refl _) (by omega) hO2 j h5
      rw [hj.1] at this
      cases this
   have hoff : ∀ d, (O.contains d && (B.getD d 0).testBit i) = true → b d = false := by
    intro d hd
    rw [Bool.and_eq_true] at hd
    cases hbd : b d with
    | false => rfl
    | true =>
     have hdl := baseOk_lt hk (List.contains_iff_mem.1 hd.1)
     have := closed_bits hw hk hc d d (Nat.le_refl _) hdl hd.1 hbd i hO hd.2
     rw [hb] at this
     cases this
   obtain ⟨oi, hoi, hK⟩ := hs i (List.contains_iff_mem.1 hO) b a w hI hb hon hoff
   refine wpOp_step hoi (fun K' hK' => hK K' (fun a' w' hI' => hK' a' w' ⟨fun _ _ => trivial, ?_⟩))
   have hset : (lof (rtab md ops).2.length O b).toArray.setIfInBounds i true = (lof (rtab md ops).2.length O (up b i)).toArray := by
    apply Array.ext'
    rw [Array.toList_setIfInBounds]
    exact lof_up hO
   rw [hset]
   refine ih (up b i) a' w' ?_ ?_ hI'
   ·have := up_count (baseOk_nodup hk) (List.contains_iff_mem.1 hO) hb
    omega
   ·intro d r hr hOd hbd n hn hOn
    by_cases hni : n = i
    ·rw [hni, up_self]
    ·rw [up_ne hni]
     by_cases hdi : d = i
     ·subst hdi
      exact hneed r hr n hn (by have := (baseOk_row hk hr).2 n hn; omega) hOn
     ·rw [up_ne hdi] at hbd
      exact hc d r hr hOd hbd n hn hOn
/-! The frame: what is listed has its destination filled. -/
theorem put_comm {a : Act} {s t : Tmp} {u v : Value} (h : s ≠ t) : (a.put (some s) u).put (some t) v = (a.put (some t) v).put (some s) u := by
 simp only [Act.put]
 rw [Array.setIfInBounds_comm _ _ h]
/-- THE REGION FROM HERE TO ITS END, by one relation I: l has all listed but O's operations; I holds with none of them listed; each step; with all listed what follows. -/
theorem inv_ {l : Array Bool} {fuel : Nat} {a : Act} {w : World} (O : List Nat) (I : (Nat → Bool) → Act → World → Prop) (hT : rtab md ops = T) (hw : waitsOk T.2 B = true) (hk : baseOk T.2 O = true)
  (hl : (lof T.2.length O (fun _ => false) == l.toList && O.length == fuel) = true) (h0 : I (fun _ => false) a w) (hs : ∀ i ∈ O, StepAt P ops Q B O I i)
  (hend : ∀ b a w, (∀ j, O.contains j = true → b j = true) → I b a w → Q .normal a w) : wpAnyLast P md ops Q (fun _ => True) [] fuel l a w := by
 rw [Bool.and_eq_true, beq_iff_eq, beq_iff_eq] at hl
 have h1 := inv_all hT hw hk I hs hend fuel (fun _ => false) a w (by rw [← hl.2]; simp) (fun d r _ _ hb => by cases hb) h0
 have h2 : (lof T.2.length O (fun _ => false)).toArray = l := by apply Array.ext'; exact hl.1
 rw [h2] at h1
 exact h1
end
end Go.Proofs.YtomofijniefelaaW.PrintLast

namespace Go.Proofs.Ytomofijniefelaa.H
open Go.RowKit Go.Proofs.YtomofijniefelaaW.PrintWords Go.Proofs.YtomofijniefelaaW.PrintLast
set_option linter.unusedVariables false
set_option linter.unusedSimpArgs false
/-- the slots d, d', .. filled with s k, s (k + 1), .. -/
def putAll : List Tmp → Nat → (Nat → Value) → Act → Act
 | [], _, _, a => a
 | d :: r, k, s, a => putAll r (k + 1) s (a.put (some d) (s k))
def upd (s : Nat → Value) (i : Nat) (v : Value) : Nat → Value := fun j => if j = i then v else s j
theorem putAll_congr : ∀ (ds : List Tmp) (k : Nat) (s s' : Nat → Value) (a : Act), (∀ j, k ≤ j → s j = s' j) → putAll ds k s a = putAll ds k s' a
 | [], _, _, _, _, _ => rfl
 | d :: r, k, s, s', a, h => by
  unfold putAll
  rw [h k (Nat.le_refl _)]
  exact putAll_congr r (k + 1) s s' _ (fun j hj => h j (by omega))
theorem putAll_out : ∀ (ds : List Tmp) (k : Nat) (s : Nat → Value) (a : Act) (d : Tmp) (v : Value), d ∉ ds → (putAll ds k s a).put (some d) v = putAll ds k s (a.put (some d) v)
 | [], _, _, _, _, _, _ => rfl
 | e :: r, k, s, a, d, v, h => by
  unfold putAll
  rw [List.mem_cons, not_or] at h
  rw [putAll_out r (k + 1) s _ d v h.2, put_comm (Ne.symm h.1)]
theorem put_put {a : Act} {d : Tmp} {u v : Value} : (a.put (some d) u).put (some d) v = a.put (some d) v := by
 simp [Act.put]
theorem putAll_put : ∀ (ds : List Tmp) (k : Nat) (s : Nat → Value) (a : Act) (i : Nat) (d : Tmp) (v : Value), ds.Nodup → k ≤ i → ds[i - k]? = some d → (putAll ds k s a).put (some d) v = putAll ds k (upd s i v) a
 | [], _, _, _, _, _, _, _, _, h => by cases h
 | e :: r, k, s, a, i, d, v, hn, hk, h => by
  rw [List.nodup_cons] at hn
  unfold putAll
  by_cases hi : i = k
  ·subst hi
   rw [Nat.sub_self] at h
   cases h
   rw [putAll_out r (i + 1) s _ e v hn.1, put_put]
   have : upd s i v i = v := by simp [upd]
   rw [this]
   exact putAll_congr r (i + 1) _ _ _ (fun j hj => by simp [upd]; omega)
  ·have e1 : i - k = (i - (k + 1)) + 1 := by omega
   rw [e1] at h
   rw [putAll_put r (k + 1) s _ i d v hn.2 (by omega) h]
   have : upd s i v k = s k := by simp [upd]; omega
   rw [this]
theorem putAll_self : ∀ (ds : List Tmp) (k : Nat) (s : Nat → Value) (a : Act), (∀ j d, ds[j]? = some d → a.tmps[d]? = some (s (k + j))) → putAll ds k s a = a
 | [], _, _, _, _ => rfl
 | d :: r, k, s, a, h => by
  unfold putAll
  have h0 := h 0 d rfl
  have e : a.put (some d) (s k) = a := by
   obtain ⟨hd, he⟩ := Array.getElem?_eq_some_iff.1 h0
   rw [Nat.add_zero] at he
   have e2 : a.tmps.setIfInBounds d a.tmps[d] = a.tmps := by
    refine Array.ext (by rw [Array.size_setIfInBounds]) (fun i h1 h2 => ?_)
    by_cases hi : d = i
    ·subst hi; exact Array.getElem_setIfInBounds_self _
    ·exact Array.getElem_setIfInBounds_ne _ hi
   rw [he] at e2
   show ({ tmps := a.tmps.setIfInBounds d (s k), defers := a.defers } : Act) = a
   rw [e2]
  rw [e]
  exact putAll_self r (k + 1) s a (fun j d' hj => by have := h (j + 1) d' hj; rwa [show k + (j + 1) = k + 1 + j by omega] at this)
def dsOf (l : List Oper) : List Tmp := l.map fun o => o.dst.getD 0
def phiOk (l : List Oper) (B : List Nat) (n : Nat) : Bool :=
 l.all (fun o => o.dst.isSome) && l.all (fun o => o.guard.isNone) && decide (dsOf l).Nodup && (dsOf l).all (fun d => decide (d < n)) && waitsOk (rtab .any l.toArray).2 B && baseOk (rtab .any l.toArray).2 (List.range l.length)
/-- an operation that yields a value, or enters a call that returns one -/
def opGives (P : Program) (o : Oper) (ev : Operand → Value) (w : World) (R : Value → World → Prop) : Prop :=
 match (execOp ev o).run P w with
 | .ok (.value v) w' => R v w'
 | .ok (.enter f args) w' => Calls P f args w' fun e w'' => ∃ v, e = .returned v ∧ R v w''
 | _ => False
theorem opGives_value {P : Program} {o : Oper} {ev : Operand → Value} {w w' : World} {R : Value → World → Prop} {v : Value} (h : (execOp ev o).run P w = .ok (.value v) w') (hR : R v w') : opGives P o ev w R := by
 unfold opGives; rw [h]; exact hR
theorem opGives_call {P : Program} {o : Oper} {ev : Operand → Value} {w : World} {R : Value → World → Prop} {f : FuncId} {args : Array Value} (h : (execOp ev o).run P w = .ok (.enter f args) w) (hR : Calls P f args w fun e w'' => ∃ v, e = .returned v ∧ R v w'') : opGives P o ev w R := by
 unfold opGives; rw [h]; exact hR
theorem opGives_wp {P : Program} {o : Oper} {a : Act} {w : World} {K : Act → World → Prop} {Q : Exit → Act → World → Prop} (h : opGives P o a.eval w fun v w' => K (a.put o.dst v) w') : Oper.wp P o a w K Q := by
 unfold Oper.wp
 unfold opGives at h
 split at h
 ·next h1 => rw [h1]; exact h
 ·next f args w' h1 =>
  rw [h1]
  rw [Oper.upon_enter]
  refine h.mono fun e w'' hh => ?_
  obtain ⟨v, rfl, hK⟩ := hh
  exact hK
 ·exact h.elim
/-- each step -/
def phiSteps (P : Program) (l : List Oper) (B : List Nat) (V : Nat → Value → World → Prop) (a : Act) (w : World) : Nat → List Oper → Prop
 | _, [] => True
 | i, o :: r => (∀ s w1, Below w.heap.size w w1 → (∀ j, ((List.range l.length).contains j && (B.getD i 0).testBit j) = true → V j (s j) w1) →
   ∀ R : Value → World → Prop, (∀ v w', Below w1.heap.size w1 w' → V i v w' → R v w') → opGives P o (putAll (dsOf l) 0 s a).eval w1 R) ∧ phiSteps P l B V a w (i + 1) r
theorem phiSteps_at {P : Program} {l : List Oper} {B : List Nat} {V : Nat → Value → World → Prop} {a : Act} {w : World} : ∀ (r : List Oper) (k : Nat), phiSteps P l B V a w k r → ∀ i o, r[i]? = some o →
  ∀ s w1, Below w.heap.size w w1 → (∀ j, ((List.range l.length).contains j && (B.getD (k + i) 0).testBit j) = true → V j (s j) w1) →
   ∀ R : Value → World → Prop, (∀ v w', Below w1.heap.size w1 w' → V (k + i) v w' → R v w') → opGives P o (putAll (dsOf l) 0 s a).eval w1 R
 | [], _, _, _, _, h => by cases h
 | x :: r, k, h, 0, o, ho => by cases ho; exact h.1
 | x :: r, k, h, i + 1, o, ho => by
  have := phiSteps_at r (k + 1) h.2 i o ho
  rwa [show k + 1 + i = k + (i + 1) by omega] at this
theorem wp_region_phi {P : Program} {id : Nat} {Q : Exit → Act → World → Prop} {a : Act} {w : World} {l : List Oper} (V : Nat → Value → World → Prop) (B : List Nat) (hm : P.follows .mixedOrders = true) (hok : phiOk l B a.tmps.size = true)
  (hV : ∀ i v w1 w2, Below w1.heap.size w1 w2 → V i v w1 → V i v w2)
  (hs : phiSteps P l B V a w 0 l)
  (hend : ∀ s w1, Below w.heap.size w w1 → (∀ i, i < l.length → V i (s i) w1) → Q .normal (putAll (dsOf l) 0 s a) w1) : (Code.region id l.toArray true).wp P Q a w := by
 simp only [phiOk, Bool.and_eq_true] at hok
 obtain ⟨⟨⟨⟨⟨h1, h0⟩, h2⟩, h3⟩, h4⟩, h5⟩ := hok
 have hnd : (dsOf l).Nodup := of_decide_eq_true h2
 have hTl : (rtab .any l.toArray).2.length = l.length := by rw [rtab_length]; simp
 have hds : ∀ (i : Nat) (o : Oper), l[i]? = some o → o.dst = some ((dsOf l)[i]?.getD 0) ∧ (dsOf l)[i]? = some (o.dst.getD 0) := by
  intro i o ho
  have e : (dsOf l)[i]? = some (o.dst.getD 0) := by simp [dsOf, ho]
  refine ⟨?_, e⟩
  have := List.all_eq_true.1 h1 o (List.mem_of_getElem? ho)
  rw [e]
  cases hd : o.dst with
  | none => rw [hd] at this; cases this
  | some d => rfl
 refine wp_region_last_drew (S := fun _ => True) (ds := []) hm trivial (fun _ => ?_)
 refine inv_ (T := rtab .any l.toArray) (B := B) (List.range l.length) (fun b a' w' => ∃ s, a' = putAll (dsOf l) 0 s a ∧ Below w.heap.size w w' ∧ ∀ i, i < l.length → b i = true → V i (s i) w') rfl h4 h5 ?_ ?_ ?_ ?_
 ·rw [hTl, Bool.and_eq_true, beq_iff_eq, beq_iff_eq]
  refine ⟨?_, by simp⟩
  apply List.ext_getElem
  ·simp [lof]
  ·intro i hi1 hi2
   have hi : i < l.length := by simpa [lof] using hi1
   simp [lof, hi]
 ·refine ⟨fun k => (a.tmps[(dsOf l)[k]?.getD 0]?).getD undef, ?_, (Below.refl _ _).drew, fun _ _ h => by cases h⟩
  refine (putAll_self _ _ _ _ (fun j d hj => ?_)).symm
  have hd := List.all_eq_true.1 h3 d (List.mem_of_getElem? hj)
  have hd' : d < a.tmps.size := of_decide_eq_true hd
  simp [hj, hd']
 ·intro i hi b a' w' ⟨s, ha, hb, hv⟩ hbi hon hoff
  subst ha
  have hil : i < l.length := List.mem_range.1 hi
  have ho : l[i]? = some l[i] := List.getElem?_eq_getElem hil
  refine ⟨l[i], by simp, fun K hK => ?_⟩
  have hK' := Shut.out hK
  have hg : l[i].guard = none := by
   have := List.all_eq_true.1 h0 l[i] (List.mem_of_getElem? ho)
   cases hq : l[i].guard with
   | none => rfl
   | some g => rw [hq] at this; cases this
  rw [if_pos (by simp [Region.wanted, hg])]
  refine opGives_wp (phiSteps_at l 0 hs i _ ho s w' hb (fun j hj => hv j (by have h6 := (Bool.and_eq_true _ _ ▸ hj : _ ∧ _).1; simpa using h6) (hon j (by simpa using hj))) _ (fun v w2 hb2 hv2 => hK' _ _ ?_))
  refine ⟨upd s i v, ?_, hb.trans (hb2.mono hb.size), fun j hj hbj => ?_⟩
  ·rw [(hds i _ ho).1, (hds i _ ho).2, Option.getD_some]
   exact putAll_put _ _ _ _ _ _ _ hnd (Nat.zero_le _) (by rw [Nat.sub_zero]; exact (hds i _ ho).2)
  ·by_cases hji : j = i
   ·subst hji
    have : upd s j v j = v := by simp [upd]
    rw [this]
    rw [Nat.zero_add] at hv2
    exact hv2
   ·have : upd s i v j = s j := by simp [upd, hji]
    rw [this]
    rw [up_ne hji] at hbj
    exact hV _ _ _ _ hb2 (hv j hj hbj)
 ·intro b a' w' hall ⟨s, ha, hb, hv⟩
  subst ha
  exact hend s w' hb (fun i hi => hv i hi (hall i (by simpa using hi)))
theorem grown_trans {a b c : World} {r : Option Nat} (h : a.grownBy b r) (h' : b.grownBy c r) : a.grownBy c r :=
 ⟨h'.os.trans h.os, h'.tape.trans h.tape, h'.output.trans h.output, Nat.le_trans h.size h'.size, fun k hk hne => (h'.block k (Nat.lt_of_lt_of_le hk h.size) hne).trans (h.block k hk hne)⟩
theorem set_grown (w : World) (b i : Nat) (v : Value) : w.grownBy (w.setCell ⟨b, i, none⟩ v) (some b) :=
 ⟨rfl, rfl, rfl, by simp, fun k _ hne => Below.heap_setCell w ⟨b, i, none⟩ v k (fun e => hne (by rw [e]))⟩
/-- what is left of a size -/
def szAns (left : Int) (n : Nat) : Int := if left - n < 0 then -1 else left - n
theorem szInt64S (A : Option Addr) (n c : Nat) (left : Int) (w : World) (h0 : 0 ≤ left) (h1 : left ≤ 1048576) (hn : n ≤ 9223372036854775807) :
  Calls Try.prog 17 #[.slice A n c, .int .i64 left] w fun e w' => e = .returned (.int .i64 (szAns left n)) ∧ Below w.heap.size w w' := by
 by_cases h : left - n < 0
 ·have HA : Aside0 (szAns left n = -1) := ⟨by unfold szAns; rw [if_pos h]⟩
  go_enter Try.func17, Try.ntmps17
  go_wp2
  go_ret
  exact ⟨by rw [HA.out]; rfl, Below.refl _ _⟩
 ·have HA : Aside0 (szAns left n = left - n) := ⟨by unfold szAns; rw [if_neg h]⟩
  go_enter Try.func17, Try.ntmps17
  go_wp2
  go_ret
  exact ⟨by rw [HA.out]; rfl, Below.refl _ _⟩
theorem szComplex (a : Int) (u : Value) (l : List Int) (left : Int) (w : World) (hr : ReadI w u l) (h0 : 0 ≤ left) (h1 : left ≤ 1048576) :
  Calls Try.prog 5 #[.agg #[.int .i64 a, u], .int .i64 left] w fun e w' => e = .returned (.int .i64 (szAns left l.length)) ∧ Below w.heap.size w w' := by
 have hl := hr.len
 obtain ⟨A, c, rfl, -⟩ := id hr
 have hba : Below w.heap.size w (w.alloc (.cells #[.int .i64 a, .slice A l.length c] 24)) := Below.alloc (Below.refl _ _) (Nat.le_refl _) _
 clear hr
 by_cases h : left - l.length < 0
 ·have HA : Aside0 (szAns left l.length = -1) := ⟨by unfold szAns; rw [if_pos h]⟩
  clear h
  go_enter Try.func5, Try.ntmps5
  go_wp2_with (first | (go_at_call 17; refine (szInt64S _ _ _ _ _ h0 h1 hl).mono ?_; rintro e w' ⟨rfl, hb⟩; rw [HA.out]))
  go_ret
  exact ⟨by rw [HA.out]; rfl, by (repeat (first | (with_reducible exact Below.refl _ _) | (with_reducible assumption) | (with_reducible refine below_step ?_ (by assumption)) | (with_reducible apply below_alloc) | (with_reducible apply below_drewN)))⟩
 ·have HA : Aside0 (szAns left l.length = left - l.length) := ⟨by unfold szAns; rw [if_neg h]⟩
  go_enter Try.func5, Try.ntmps5
  go_wp2_with (first | (go_at_call 17; refine (szInt64S _ _ _ _ _ h0 h1 hl).mono ?_; rintro e w' ⟨rfl, hb⟩; rw [HA.out]))
  go_ret
  exact ⟨by rw [HA.out]; rfl, by (repeat (first | (with_reducible exact Below.refl _ _) | (with_reducible assumption) | (with_reducible refine below_step ?_ (by assumption)) | (with_reducible apply below_alloc) | (with_reducible apply below_drewN)))⟩
set_option maxHeartbeats 1000000 in
theorem toComplex (a : Int) (u : Value) (l : List Int) (w : World) (hr : ReadI w u l) (hl : l.length ≤ 35184372088832) :
  Calls Try.prog 7 #[.agg #[.int .i64 a, u]] w fun e w' => ∃ u', e = .returned (.agg #[.int .i64 a, u']) ∧ OwnI w.heap.size w' u' l ∧ Below w.heap.size w w' := by
 have HR := Aside0.mk hr
 obtain ⟨A, c, rfl, -⟩ := id hr
 clear hr
 obtain ⟨w0, hw0⟩ : ∃ w0, w0 = ((w.alloc (Obj.cells #[Value.int IntKind.i64 a, Value.slice A l.length c] 24)).alloc (Obj.cells #[Value.int IntKind.i64 0, Value.slice none 0 0] 28)).alloc (Obj.cells #[Value.int IntKind.i64 a, Value.slice none 0 0] 28) := ⟨_, rfl⟩
 have hs0 : w0.heap.size = w.heap.size + 1 + 1 + 1 := by rw [hw0]; simp
 have hb2 : w0.heap[w.heap.size + 1]? = some (Obj.cells #[Value.int IntKind.i64 0, Value.slice none 0 0] 28) := by
  rw [hw0, (World.grownBy_alloc _ _ none).block _ (by simp) (by simp)]
  have := heap_alloc_new (w.alloc (Obj.cells #[Value.int IntKind.i64 a, Value.slice A l.length c] 24)) (Obj.cells #[Value.int IntKind.i64 0, Value.slice none 0 0] 28)
  rwa [World.size_alloc] at this
 have hb3 : w0.heap[w.heap.size + 1 + 1]? = some (Obj.cells #[Value.int IntKind.i64 a, Value.slice none 0 0] 28) := by
  rw [hw0]
  have := heap_alloc_new ((w.alloc (Obj.cells #[Value.int IntKind.i64 a, Value.slice A l.length c] 24)).alloc (Obj.cells #[Value.int IntKind.i64 0, Value.slice none 0 0] 28)) (Obj.cells #[Value.int IntKind.i64 a, Value.slice none 0 0] 28)
  rwa [World.size_alloc, World.size_alloc] at this
 have hB0 : Below w.heap.size w w0 := by rw [hw0]; exact (((Below.refl _ w).alloc (Nat.le_refl _) _).alloc (by simp) _).alloc (by simp; omega) _
 have HB0 := Aside0.mk hB0
 clear hB0
 go_enter Try.func7, Try.ntmps7
 go_wp2_with (first | (rw [← hw0]; clear hw0; go_at_call 8; refine (toInt64S _ l _ (ReadI.below HR.out HB0.out) hl).mono ?_; rintro e w1 ⟨u', rfl, ho, hb⟩; obtain ⟨A', c', rfl, -⟩ := ho.read; have hk2 := (hb.block (w.heap.size + 1) (by omega)).trans hb2; have hk3 := (hb.block (w.heap.size + 1 + 1) (by omega)).trans hb3; have hn := ho.base; have h30 : w1.cell? ⟨w.heap.size + 1 + 1, 0, none⟩ = some (.int .i64 a) := (by simp [World.cell?, hk3]); have h31 : w1.cell? ⟨w.heap.size + 1 + 1, 1, none⟩ = some (.slice none 0 0) := (by simp [World.cell?, hk3]); have h3f : w1.frozen? ⟨w.heap.size + 1 + 1, 1, none⟩ = false := (by simp [World.frozen?, hk3]); have h20 : w1.cell? ⟨w.heap.size + 1, 0, none⟩ = some (.int .i64 0) := (by simp [World.cell?, hk2]); have h21 : w1.cell? ⟨w.heap.size + 1, 1, none⟩ = some (.slice none 0 0) := (by simp [World.cell?, hk2]); have h2f : w1.frozen? ⟨w.heap.size + 1, 0, none⟩ = false := (by simp [World.frozen?, hk2]); have h2g : w1.frozen? ⟨w.heap.size + 1, 1, none⟩ = false := (by simp [World.frozen?, hk2]); have HO := Aside0.mk ho; have HB1 := Aside0.mk hb; have HN := Aside0.mk hn; have HK2 := Aside0.mk hk2; clear ho hb hk2 hk3 hn))
 refine bodyPost_ret (results_cell_row rfl _ _ (w.heap.size + 1) 28 #[.int .i64 a, .slice A' l.length c'] (0, 0) _ rfl (by refine blk_put (cs := #[.int .i64 a, .slice none 0 0]) ?_ 1 _ rfl; refine blk_put (cs := #[.int .i64 0, .slice none 0 0]) ?_ 0 _ rfl; refine blk_far ?_ ?_ _; exact HK2.out; simp) Try.underlying28 rfl (by kernel_rfl)) rfl ?_
 have hb := HB0.out.trans (HB1.out.mono (by rw [hs0]; omega))
 refine ⟨_, rfl, ?_, ((hb.setCell (by simp; omega) _).setCell (by simp) _).setCell (by simp) _⟩
 have hn := HN.out
 rw [hs0] at hn
 have ho := HO.out.lower (b' := w.heap.size) (by rw [hs0]; omega)
 exact ((ho.grown (set_grown _ _ _ _) (fun k hk => by have := hn k hk; simp; omega)).grown (set_grown _ _ _ _) (fun k hk => by have := hn k hk; simp; omega)).grown (set_grown _ _ _ _) (fun k hk => by have := hn k hk; simp; omega)
set_option maxHeartbeats 1000000 in
theorem eqComplex (a b : Int) (u v : Value) (xs ys : List Int) (w : World) (hu : ReadI w u xs) (hv : ReadI w v ys) :
  Calls Try.prog 11 #[.agg #[.int .i64 a, u], .agg #[.int .i64 b, v]] w fun e w' => e = .returned (.bool (decide (a = b) && (xs == ys))) ∧ Below w.heap.size w w' := by
 have HU := Aside0.mk hu
 have HV := Aside0.mk hv
 obtain ⟨A, c, rfl, -⟩ := id hu
 obtain ⟨A', c', rfl, -⟩ := id hv
 clear hu hv
 by_cases hab : a = b
 ·have h1 : (a != b) = false := by simp [hab]
  have HA := Aside0.mk hab
  clear hab
  cases hq : (xs == ys) with
  | true =>
   go_enter Try.func11, Try.ntmps11
   go_wp2_with (first | (go_at_call 10; refine (eqInt64S _ _ xs ys _ (ReadI.below HU.out ?hx) (ReadI.below HV.out ?hy)).mono ?_; (case hx => (repeat (first | (with_reducible exact Below.refl _ _) | (with_reducible assumption) | (with_reducible refine below_step ?_ (by assumption)) | (with_reducible apply below_alloc) | (with_reducible apply below_drewN)))); (case hy => (repeat (first | (with_reducible exact Below.refl _ _) | (with_reducible assumption) | (with_reducible refine below_step ?_ (by assumption)) | (with_reducible apply below_alloc) | (with_reducible apply below_drewN)))); rintro e w1 ⟨rfl, hb⟩; rw [hq]))
   go_ret
   exact ⟨by rw [HA.out, decide_eq_true rfl]; rfl, by (repeat (first | (with_reducible exact Below.refl _ _) | (with_reducible assumption) | (with_reducible refine below_step ?_ (by assumption)) | (with_reducible apply below_alloc) | (with_reducible apply below_drewN)))⟩
  | false =>
   go_enter Try.func11, Try.ntmps11
   go_wp2_with (first | (go_at_call 10; refine (eqInt64S _ _ xs ys _ (ReadI.below HU.out ?hx) (ReadI.below HV.out ?hy)).mono ?_; (case hx => (repeat (first | (with_reducible exact Below.refl _ _) | (with_reducible assumption) | (with_reducible refine below_step ?_ (by assumption)) | (with_reducible apply below_alloc) | (with_reducible apply below_drewN)))); (case hy => (repeat (first | (with_reducible exact Below.refl _ _) | (with_reducible assumption) | (with_reducible refine below_step ?_ (by assumption)) | (with_reducible apply below_alloc) | (with_reducible apply below_drewN)))); rintro e w1 ⟨rfl, hb⟩; rw [hq]))
   go_ret
   exact ⟨by rw [Bool.and_false]; rfl, by (repeat (first | (with_reducible exact Below.refl _ _) | (with_reducible assumption) | (with_reducible refine below_step ?_ (by assumption)) | (with_reducible apply below_alloc) | (with_reducible apply below_drewN)))⟩
 ·have h1 : (a != b) = true := by simpa using hab
  have HA := Aside0.mk hab
  clear hab
  go_enter Try.func11, Try.ntmps11
  go_wp2
  go_ret
  exact ⟨by rw [decide_eq_false HA.out]; rfl, by (repeat (first | (with_reducible exact Below.refl _ _) | (with_reducible assumption) | (with_reducible refine below_step ?_ (by assumption)) | (with_reducible apply below_alloc) | (with_reducible apply below_drewN)))⟩
/-- marked from k on -/
def marks (k : Int) (n : Nat) : List Int := (List.range n).map fun i : Nat => k + i
theorem marks_succ (k : Int) (n : Nat) : marks k (n + 1) = marks k n ++ [k + n] := by simp [marks, List.range_succ]
theorem marks_len (k : Int) (n : Nat) : (marks k n).length = n := by simp [marks]
theorem marks_set {k : Int} {xs : List Int} {i : Nat} (h : i < xs.length) : (marks k i ++ xs.drop i).set i (k + i) = marks k (i + 1) ++ xs.drop (i + 1) := by
 rw [List.set_append_right _ _ (by rw [marks_len]; exact Nat.le_refl _), marks_len, Nat.sub_self, List.drop_eq_getElem_cons h, List.set_cons_zero, marks_succ]
 simp
theorem marks_at (k : Int) {n i : Nat} (h : i < n) : (marks k n).getD i 0 = k + i := by
 simp [marks, List.getD_eq_getElem?_getD, h]
set_option maxHeartbeats 1000000 in
theorem markInt64S (b : Nat) (v : Value) (xs : List Int) (k : Nat) (w : World) (ho : OwnI b w v xs) (hk : k ≤ 1073741824) (hl : xs.length ≤ 1073741824) :
  Calls Try.prog 13 #[v, .int .i64 k] w fun e w' => e = .returned (.int .i64 ((k : Int) + xs.length)) ∧ OwnI b w' v (marks k xs.length) ∧ w.grownBy w' v.ownBlock ∧ Below b w w' := by
 have HO := Aside0.mk ho
 obtain ⟨A, c, rfl, -⟩ := ho.read
 clear ho
 go_enter Try.func13, Try.ntmps13
 go_wp2
 go_loopw [1, 5] (fun vk vi wr => ∃ i : Nat, vi = .int .i64 i ∧ vk = .int .i64 ((k : Int) + i) ∧ i ≤ xs.length ∧ Aside0 (OwnI b wr (.slice A xs.length c) (marks k i ++ xs.drop i)) ∧ Aside0 (w.grownBy wr (Value.slice A xs.length c).ownBlock) ∧ Aside0 (Below b w wr)) (fun _ vi _ => xs.length - (intOf vi).toNat)
 case atStart => exact ⟨0, rfl, by simp, Nat.zero_le _, by simpa [marks] using HO, ⟨⟨rfl, rfl, rfl, Nat.le_refl _, fun _ _ _ => rfl⟩⟩, ⟨Below.refl _ _⟩⟩
 case round =>
  obtain ⟨i, rfl, rfl, hi, HI, HG, HB⟩ := hrel
  by_cases hlt : i < xs.length
  ·obtain ⟨g, cap, e2, -⟩ := Kd.R_form HI.out (by simp [marks_len]; omega)
   have el : (marks k i ++ xs.drop i).length = xs.length := by rw [List.length_append, marks_len, List.length_drop]; omega
   rw [el] at e2
   cases e2
   obtain ⟨⟨y0, hcell2⟩, hf2⟩ := OwnI.slot HI.out (i := i) (by omega)
   have HM := Aside0.mk (marks_set (k := (k : Int)) hlt)
   clear el
   go_wp2_with (first | ((with_reducible refine gate_store (t := 2) (p := 15) rfl ?_); refine store_own (w0 := w) rfl (p := 15) rfl rfl i ((k : Int) + i) HI.out ?ha ?hb ?hc ?_; (case ha => omega); (case hb => rfl); (case hc => rfl); intro w' ho hg hb; have HO2 := Aside0.mk ho; have HB3 := Aside0.mk (HB.out.trans hb); have HG3 := Aside0.mk (grown_trans HG.out hg); clear ho hg hb))
   go_roundw
   case rel => exact ⟨i + 1, by go_num, by go_num, by omega, ⟨by rw [← HM.out]; exact HO2.out⟩, HG3, HB3⟩
   case measure => simp [intOf]; omega
  ·have e : i = xs.length := by omega
   have HE := Aside0.mk e
   clear e
   go_wp2
   go_ret
   exact ⟨by rw [HE.out]; rfl, by have := HI.out; rw [HE.out, List.drop_length, List.append_nil] at this; exact this, HG.out, HB.out⟩
set_option maxHeartbeats 1000000 in
theorem heldInt64S (v : Value) (k n : Nat) (w : World) (hr : ReadI w v (marks k n)) (hk : k ≤ 1073741824) (hl : n ≤ 1073741824) :
  Calls Try.prog 14 #[v, .int .i64 k] w fun e w' => e = .returned (.int .i64 ((k : Int) + n)) ∧ Below w.heap.size w w' := by
 obtain ⟨A, c, rfl, hc, hr⟩ := hr
 have HR := Aside0.mk hr
 rw [marks_len]
 have hlen := marks_len (k : Int) n
 rw [marks_len] at hc
 clear hr
 go_enter Try.func14, Try.ntmps14
 go_wp2
 go_loopw [1, 5] (fun vk vi wr => ∃ i : Nat, vi = .int .i64 i ∧ vk = .int .i64 ((k : Int) + i) ∧ i ≤ n ∧ Aside0 (Below w.heap.size w wr)) (fun _ vi _ => n - (intOf vi).toNat)
 case atStart => exact ⟨0, rfl, by simp, Nat.zero_le _, ⟨Below.refl _ _⟩⟩
 case round =>
  obtain ⟨i, rfl, rfl, hi, HB⟩ := hrel
  by_cases hlt : i < n
  ·obtain ⟨ad, y, e1, hcell, HY⟩ := ReadI.get (Kd.C_below HR.out HB.out) (i := i) (by omega)
   cases e1
   have hy := HY.out
   rw [marks_at _ hlt] at hy
   rw [← hy] at hcell
   clear hy
   go_wp2
   go_roundw
   case rel => exact ⟨i + 1, by go_num, by go_num, by omega, HB⟩
   case measure => simp [intOf]; omega
  ·have e : i = n := by omega
   have HE := Aside0.mk e
   clear e
   go_wp2
   go_ret
   exact ⟨by rw [HE.out]; rfl, HB.out⟩
theorem grown_alloc {w w' : World} {o : Obj} {r : Option Nat} (h : (w.alloc o).grownBy w' r) : w.grownBy w' r :=
 ⟨h.os, h.tape, h.output, Nat.le_trans (by simp) h.size, fun k hk hne => (h.block k (by simp; omega) hne).trans ((World.grownBy_alloc w o none).block k hk (by simp))⟩
set_option maxRecDepth 100000 in
set_option maxHeartbeats 1000000 in
theorem markComplex (b : Nat) (a : Int) (v : Value) (xs : List Int) (k : Nat) (w : World) (ho : OwnI b w v xs) (hk : k ≤ 1073741824) (hl : xs.length ≤ 1073741824) (hbw : b ≤ w.heap.size) :
  Calls Try.prog 12 #[.agg #[.int .i64 a, v], .int .i64 k] w fun e w' => e = .returned (.int .i64 ((k : Int) + xs.length)) ∧ OwnI b w' v (marks k xs.length) ∧ w.grownBy w' v.ownBlock ∧ Below b w w' := by
 have hba : Below w.heap.size w (w.alloc (.cells #[.int .i64 a, v] 28)) := Below.alloc (Below.refl _ _) (Nat.le_refl _) _
 have HO := Aside0.mk (OwnI.below ho hba)
 have HB := Aside0.mk (hba.mono hbw)
 obtain ⟨A, c, rfl, -⟩ := ho.read
 clear ho hba
 go_enter Try.func12, Try.ntmps12
 go_wp2_with (first | (go_at_call 13; refine (markInt64S b _ xs k _ HO.out hk hl).mono ?_; rintro e w2 ⟨rfl, ho, hg, hb⟩; have HO2 := Aside0.mk ho; have HG2 := Aside0.mk hg; have HB2 := Aside0.mk hb; clear ho hg hb))
 go_ret
 exact ⟨rfl, HO2.out, grown_alloc HG2.out, HB.out.trans HB2.out⟩
/-- where a walk stands -/
structure Stg (n : Nat) : Prop where
theorem stg_next (k k' : Nat) (h : Stg k) : Stg k' := ⟨⟩
theorem new_cell (W : World) (cs : Array Value) (t : TypeId) (i : Nat) (v : Value) (h : cs[i]? = some v) : (W.alloc (.cells cs t)).cell? ⟨W.heap.size, i, none⟩ = some v := by
 rw [blk_cell (blk_new W _) i, h]
theorem below_unalloc {W W' : World} {o : Obj} (h : Below (W.alloc o).heap.size (W.alloc o) W') : Below W.heap.size W W' :=
 (Below.alloc (Below.refl _ _) (Nat.le_refl _) o).trans (h.mono (by simp))
theorem alloc_size {W W' : World} {o : Obj} (h : Below (W.alloc o).heap.size (W.alloc o) W') : W.heap.size + 1 ≤ W'.heap.size := by
 have := h.size
 rwa [World.size_alloc] at this
theorem Aside0.own {b : Nat} {w w' : World} {v : Value} {xs : List Int} (h : Aside0 (OwnI b w v xs)) (hb : Below w.heap.size w w') : Aside0 (OwnI b w' v xs) := ⟨OwnI.below h.out hb⟩
theorem Aside0.belowC {w w1 w' : World} (h : Aside0 (Below w.heap.size w w1)) (hb : Below w1.heap.size w1 w') : Aside0 (Below w.heap.size w w') := ⟨h.out.trans (hb.mono h.out.size)⟩
theorem cell_ahead {W : World} {a : Addr} {v : Value} (h : W.cell? a = some v) (o : Obj) : (W.alloc o).cell? a = some v := pw_cell_below (Below.alloc (Below.refl _ _) (Nat.le_refl _) o) h
theorem cell_grown {W W' : World} {v u : Value} {a : Addr} {lo hi : Nat} (hg : W.grownBy W' v.ownBlock) (hr : ∀ k, v.ownBlock = some k → lo ≤ k ∧ k < hi) (hn : a.block < lo ∨ hi ≤ a.block) (hc : W.cell? a = some u) : W'.cell? a = some u := by
 rw [World.cell?_of_block (hg.block a.block (World.block_lt_of_cell? _ _ hc) (fun e => by have := hr _ e.symm; omega))]
 exact hc
theorem own_grown {W W' : World} {v u : Value} {b lo hi lo' hi' : Nat} {xs : List Int} (hg : W.grownBy W' v.ownBlock) (hr : ∀ k, v.ownBlock = some k → lo ≤ k ∧ k < hi) (hr' : ∀ k, u.ownBlock = some k → lo' ≤ k ∧ k < hi') (hn : hi' ≤ lo ∨ hi ≤ lo') (ho : OwnI b W u xs) : OwnI b W' u xs :=
 ho.grown hg (fun k hk e => by have h1 := hr _ e.symm; have h2 := hr' _ hk; omega)
theorem wrap_small {n : Nat} (h : n < 9223372036854775808) : IntKind.i64.wrap (n : Int) = n := IntWalk.i64_in _ (by omega)
theorem ofInt_nat {a : Nat} (h : a < 9223372036854775808) : (BitVec.ofInt 64 (a : Int)).toNat = a := by
 rw [BitVec.ofInt_natCast, BitVec.toNat_ofNat]; exact Nat.mod_eq_of_lt (by omega)
theorem and_i64 (a b : Nat) (ha : a < 9223372036854775808) (hb : b < 9223372036854775808) : bits .and .i64 (a : Int) (b : Int) = ((a &&& b : Nat) : Int) := by
 have hx : a &&& b < 2 ^ 63 := Nat.and_lt_two_pow _ (by omega)
 show IntKind.i64.wrap ((BitVec.ofInt 64 (a : Int) &&& BitVec.ofInt 64 (b : Int)).toNat : Int) = _
 rw [BitVec.toNat_and, ofInt_nat ha, ofInt_nat hb, wrap_small (by omega)]
theorem andNot_i64 (a b : Nat) (ha : a < 9223372036854775808) (hb : b < 9223372036854775808) : bits .andNot .i64 (a : Int) (b : Int) = ((a ^^^ (a &&& b) : Nat) : Int) := by
 have hx : a &&& b < 2 ^ 63 := Nat.and_lt_two_pow _ (by omega)
 have hy : a ^^^ (a &&& b) < 2 ^ 63 := Nat.xor_lt_two_pow (by omega) hx
 have e : (BitVec.ofInt 64 (a : Int) &&& ~~~ BitVec.ofInt 64 (b : Int)) = (BitVec.ofInt 64 (a : Int) ^^^ (BitVec.ofInt 64 (a : Int) &&& BitVec.ofInt 64 (b : Int))) := by
  apply BitVec.eq_of_getElem_eq
  intro i hi
  simp only [BitVec.getElem_and, BitVec.getElem_not, BitVec.getElem_xor]
  cases (BitVec.ofInt 64 (a : Int))[i] <;> cases (BitVec.ofInt 64 (b : Int))[i] <;> rfl
 show IntKind.i64.wrap ((BitVec.ofInt 64 (a : Int) &&& ~~~ BitVec.ofInt 64 (b : Int)).toNat : Int) = _
 rw [e, BitVec.toNat_xor, BitVec.toNat_and, ofInt_nat ha, ofInt_nat hb, wrap_small (by omega)]
/-- a digit in base 2 -/
theorem bit_of (f k : Nat) (hf : f < 9223372036854775808) : bits .and .i64 ((f : Int) / 2 ^ k) 1 = if f.testBit k then 1 else 0 := by
 have e : ((f : Int) / 2 ^ k) = ((f / 2 ^ k : Nat) : Int) := by simp
 have hd : f / 2 ^ k ≤ f := Nat.div_le_self _ _
 rw [e, show (1 : Int) = ((1 : Nat) : Int) from rfl, and_i64 _ _ (by omega) (by omega), Nat.and_one_is_mod, Nat.testBit_eq_decide_div_mod_eq]
 have : f / 2 ^ k % 2 = 0 ∨ f / 2 ^ k % 2 = 1 := by omega
 rcases this with h | h <;> simp [h]
theorem pow_wrap : ∀ v, v < 7 → wrap64 ((2 : Int) ^ v) = ((2 ^ v : Nat) : Int) := by
 intro v hv
 rcases (by omega : v = 0 ∨ v = 1 ∨ v = 2 ∨ v = 3 ∨ v = 4 ∨ v = 5 ∨ v = 6) with rfl | rfl | rfl | rfl | rfl | rfl | rfl <;> (unfold wrap64; decide)
theorem pow_wrap' (v : Nat) (h : v < 7) : IntKind.i64.wrap ((2 : Int) ^ v) = ((2 ^ v : Nat) : Int) := by
 have hb : 2 ^ v ≤ 64 := by
  rcases (by omega : v = 0 ∨ v = 1 ∨ v = 2 ∨ v = 3 ∨ v = 4 ∨ v = 5 ∨ v = 6) with rfl | rfl | rfl | rfl | rfl | rfl | rfl <;> decide
 rw [show ((2 : Int) ^ v) = ((2 ^ v : Nat) : Int) by simp]
 exact wrap_small (by omega)
theorem pow_bd (v : Nat) (h : v ≤ 5) : 2 ^ v ≤ 32 := by
 rcases (by omega : v = 0 ∨ v = 1 ∨ v = 2 ∨ v = 3 ∨ v = 4 ∨ v = 5) with rfl | rfl | rfl | rfl | rfl | rfl <;> decide
end Go.Proofs.Ytomofijniefelaa.H
