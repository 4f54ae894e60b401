/- A region of open order whose last operations come one behind the other. The way of a hidden set, of the program. The code of a complex. QuestionNumber and IsEvasive of the program and of the reference. EvadersOf of the program. -/
import Derived.Carry
import Derived.Test.YtkggchklmpmgpaaGreatKFnTrees1
import Derived.Test.YtkggchklmpmgpaaGreatKFnTrees2
import Derived.Test.YtkggchklmpmgpaaGreatKFnTrees3
import Derived.Test.YtkggchklmpmgpaaGreatKFnTrees4
import Derived.Test.YtkggchklmpmgpaaGreatKFnTrees5
import Derived.Test.YtkggchklmpmgpaaGreatKFnTrees6
import Derived.Test.YtkggchklmpmgpaaGreatKFnTrees7

namespace Go.Proofs.YtkggchklmpmgpaaGreat.H
open Go.RowKit Go.Proofs.YtkggchklmpmgpaaGreatW.PrintWords Go.Proofs.YtkggchklmpmgpaaGreatW.PrintLast
set_option linter.unusedVariables false
set_option linter.unusedSimpArgs false
/-- the operations one behind the other -/
def tailList (P : Program) (Q : Exit → Act → World → Prop) : List Oper → Act → World → Prop
 | [], a, w => Q .normal a w
 | o :: r, a, w => opGives P o a.eval w (fun v w' => tailList P Q r (a.put o.dst v) w') ∨ ∃ w', (execOp a.eval o).run P w = .ok .skip w' ∧ tailList P Q r (a.put o.dst undef) w'
def tailOk (l : List Oper) (B : List Nat) (n k : Nat) : Bool :=
 decide (k < l.length) && (l.take k).all (fun o => o.dst.isSome) && l.all (fun o => o.guard.isNone) && decide (dsOf (l.take k)).Nodup && (dsOf (l.take k)).all (fun d => decide (d < n)) &&
 waitsOk (rtab .any l.toArray).2 B && baseOk (rtab .any l.toArray).2 (List.range l.length) &&
 (List.range l.length).all (fun i => decide (i < k) || (List.range i).all fun j => (B.getD i 0).testBit j) &&
 (List.range k).all (fun i => (List.range l.length).all fun j => decide (j < i) || !(B.getD i 0).testBit j)
theorem opGives_mono {P : Program} {o : Oper} {A : Act} {w : World} {R : Value → World → Prop} {K : Act → World → Prop} (h : opGives P o A.eval w R) (hR : ∀ v w', R v w' → K (A.put o.dst v) w') : opGives P o A.eval w fun v w' => K (A.put o.dst v) w' := by
 unfold opGives at h ⊢
 split
 ·next h1 => rw [h1] at h; exact hR _ _ h
 ·next f args w' h1 =>
  rw [h1] at h
  exact Calls.mono h fun e w'' ⟨v, e1, e2⟩ => ⟨v, e1, hR _ _ e2⟩
 ·next h1 h2 =>
  split at h
  ·next v w' h3 => exact (h1 _ _ h3).elim
  ·next f args w' h3 => exact (h2 _ _ _ h3).elim
  ·exact h
theorem wp_region_tail {P : Program} {id : Nat} {Q : Exit → Act → World → Prop} {a : Act} {w : World} {l : List Oper} (k : Nat) (V : Nat → Value → World → Prop) (B : List Nat) (hm : P.follows .mixedOrders = true) (hok : tailOk l B a.tmps.size k = true)
  (hV : ∀ i v w1 w2, Below w1.heap.size w1 w2 → V i v w1 → V i v w2)
  (hs : phiSteps P (l.take k) B V a w 0 (l.take k))
  (hend : ∀ s w1, Below w.heap.size w w1 → (∀ i, i < k → V i (s i) w1) → tailList P Q (l.drop k) (putAll (dsOf (l.take k)) 0 s a) w1) : (Code.region id l.toArray true).wp P Q a w := by
 simp only [tailOk, Bool.and_eq_true] at hok
 obtain ⟨⟨⟨⟨⟨⟨⟨⟨hk, h1⟩, h0⟩, h2⟩, h3⟩, h4⟩, h5⟩, hBt⟩, hBd⟩ := hok
 have hk : k < l.length := of_decide_eq_true hk
 have hnd : (dsOf (l.take k)).Nodup := of_decide_eq_true h2
 have hBt : ∀ i j, i < l.length → k ≤ i → j < i → (B.getD i 0).testBit j = true := by
  intro i j hi hki hj
  have := List.all_eq_true.1 hBt i (List.mem_range.2 hi)
  rw [decide_eq_false (by omega), Bool.false_or] at this
  exact List.all_eq_true.1 this j (List.mem_range.2 hj)
 have hBd : ∀ i j, i < k → j < l.length → (B.getD i 0).testBit j = true → j < i := by
  intro i j hi hj hij
  have := List.all_eq_true.1 (List.all_eq_true.1 hBd i (List.mem_range.2 hi)) j (List.mem_range.2 hj)
  rw [hij, Bool.not_true, Bool.or_false] at this
  exact of_decide_eq_true this
 have hTl : (rtab .any l.toArray).2.length = l.length := by rw [rtab_length]; simp
 have hdl : ∀ i, i < k → (l.take k)[i]? = l[i]? := fun i hi => by rw [List.getElem?_take_of_lt hi]
 have hlt : (l.take k).length = k := by rw [List.length_take]; omega
 have hds : ∀ (i : Nat) (o : Oper), i < k → l[i]? = some o → o.dst = some ((dsOf (l.take k))[i]?.getD 0) ∧ (dsOf (l.take k))[i]? = some (o.dst.getD 0) := by
  intro i o hi ho
  have ho' : (l.take k)[i]? = some o := (hdl i hi).trans ho
  have e : (dsOf (l.take k))[i]? = some (o.dst.getD 0) := by unfold dsOf; rw [List.getElem?_map, ho']; rfl
  refine ⟨?_, e⟩
  have := List.all_eq_true.1 h1 o (List.mem_of_getElem? ho')
  rw [e]
  cases hd : o.dst with
  | none => rw [hd] at this; cases this
  | some d => rfl
 have hrange : ∀ j, j < l.length → (List.range l.length).contains j = true := fun j hj => by simpa using hj
 refine wp_region_last_drew (S := fun _ => True) (ds := []) hm trivial (fun _ => ?_)
 refine inv_ (T := rtab .any l.toArray) (B := B) (List.range l.length) (fun b a' w' => (b k = false → ∃ s, a' = putAll (dsOf (l.take k)) 0 s a ∧ Below w.heap.size w w' ∧ ∀ i, i < k → b i = true → V i (s i) w') ∧ (∀ n, k < n → n ≤ l.length → (∀ j, j < n → b j = true) → (∀ j, n ≤ j → j < l.length → b j = false) → tailList P Q (l.drop n) a' w')) rfl h4 h5 ?_ ?_ ?_ ?_
 ·rw [hTl, Bool.and_eq_true, beq_iff_eq, beq_iff_eq]
  refine ⟨?_, by simp⟩
  apply List.ext_getElem
  ·simp [lof]
  ·intro i hi1 hi2
   have hi : i < l.length := by simpa [lof] using hi1
   simp [lof, hi]
 ·refine ⟨fun _ => ⟨fun k' => (a.tmps[(dsOf (l.take k))[k']?.getD 0]?).getD undef, ?_, (Below.refl _ _).drew, fun _ _ h => by cases h⟩, fun n hn _ hj _ => by have := hj 0 (by omega); cases this⟩
  refine (putAll_self _ _ _ _ (fun j d hj => ?_)).symm
  have hd := List.all_eq_true.1 h3 d (List.mem_of_getElem? hj)
  have hd' : d < a.tmps.size := of_decide_eq_true hd
  simp [hj, hd']
 ·intro i hi b a' w' ⟨hA, hT⟩ hbi hon hoff
  have hil : i < l.length := List.mem_range.1 hi
  have ho : l[i]? = some l[i] := List.getElem?_eq_getElem hil
  refine ⟨l[i], by simp, fun K hK => ?_⟩
  have hK' := Shut.out hK
  have hg : l[i].guard = none := by
   have := List.all_eq_true.1 h0 l[i] (List.mem_of_getElem? ho)
   cases hq : l[i].guard with
   | none => rfl
   | some g => rw [hq] at this; cases this
  rw [if_pos (by simp [Region.wanted, hg])]
  have hon' : ∀ j, j < l.length → (B.getD i 0).testBit j = true → b j = true := fun j hj hb => hon j (by rw [hrange j hj, hb]; rfl)
  have hoff' : ∀ d, d < l.length → (B.getD d 0).testBit i = true → b d = false := fun d hd hb => hoff d (by rw [hrange d hd, hb]; rfl)
  by_cases hik : i < k
  ·have hbk : b k = false := hoff' k hk (hBt k i hk (Nat.le_refl _) hik)
   obtain ⟨s, rfl, hbw, hvs⟩ := hA hbk
   have hst := phiSteps_at (l.take k) 0 hs i _ ((hdl i hik).trans ho)
   rw [Nat.zero_add] at hst
   refine opGives_wp (hst s w' hbw (fun j hj => ?_) _ (fun v w2 hb2 hv => ?_))
   ·have hj1 := (Bool.and_eq_true _ _ ▸ hj : _ ∧ _)
    have hjk : j < k := by have := hj1.1; rw [hlt] at this; simpa using this
    exact hvs j hjk (hon' j (by omega) hj1.2)
   ·rw [(hds i _ hik ho).1, (hds i _ hik ho).2, Option.getD_some, putAll_put _ _ _ _ _ _ _ hnd (Nat.zero_le _) (by rw [Nat.sub_zero]; exact (hds i _ hik ho).2)]
    refine hK' _ _ ⟨fun _ => ⟨upd s i v, rfl, hbw.trans (hb2.mono hbw.size), fun j hj hbj => ?_⟩, fun n hn hnl hj _ => ?_⟩
    ·by_cases hji : j = i
     ·subst hji; rw [show upd s j v j = v by simp [upd]]; exact hv
     ·rw [up_ne hji] at hbj; rw [show upd s i v j = s j by simp [upd, hji]]
      exact hV _ _ _ _ hb2 (hvs j hj hbj)
    ·have := hj k hn
     rw [up_ne (by omega), hbk] at this
     cases this
  ·have hall : ∀ j, j < i → b j = true := fun j hj => hon' j (by omega) (hBt i j hil (by omega) hj)
   have hnone : ∀ j, i ≤ j → j < l.length → b j = false := by
    intro j hj hjl
    by_cases hji : j = i
    ·subst hji; exact hbi
    ·exact hoff' j hjl (hBt j i hjl (by omega) (by omega))
   have htl : tailList P Q (l.drop i) a' w' := by
    by_cases hki : i = k
    ·subst hki
     obtain ⟨s, rfl, hbw, hvs⟩ := hA hbi
     exact hend s w' hbw (fun j hj => hvs j hj (hall j hj))
    ·exact hT i (by omega) (by omega) hall hnone
   rw [List.drop_eq_getElem_cons hil] at htl
   have hnext : ∀ a2 w2, tailList P Q (l.drop (i + 1)) a2 w2 → K a2 w2 := by
    intro a2 w2 hq
    refine hK' _ _ ⟨fun h => ?_, fun n hn hnl hj hj2 => ?_⟩
    ·by_cases hki : i = k
     ·subst hki; rw [up_self] at h; cases h
     ·rw [up_ne (by omega)] at h
      have := hall k (by omega)
      rw [h] at this; cases this
    ·have hni : n = i + 1 := by
      by_cases h6 : n ≤ i
      ·have := hj2 i h6 hil
       rw [up_self] at this; cases this
      ·by_cases h7 : i + 1 < n
       ·have := hj (i + 1) h7
        rw [up_ne (by omega), hnone (i + 1) (by omega) (by omega)] at this
        cases this
       ·omega
     subst hni
     exact hq
   rcases htl with htl | ⟨w2, h1, h2⟩
   ·refine opGives_wp (opGives_mono htl (fun v w2 hq => hnext _ _ hq))
   ·unfold Oper.wp
    rw [h1]
    exact hnext _ _ h2
 ·intro b a' w' hall ⟨hA, hT⟩
  have := hT l.length hk (Nat.le_refl _) (fun j hj => hall j (hrange j hj)) (fun j h1 h2 => by omega)
  rw [List.drop_length] at this
  exact this
theorem set_grown2 (w : World) (b i : Nat) (v : Value) : w.grownBy (w.setCell ⟨b, i, none⟩ v) (some b) :=
 ⟨rfl, rfl, rfl, by simp [World.setCell], fun k _ hne => Below.heap_setCell _ _ _ _ (fun e => hne (by rw [e]))⟩
/-- needed as far as it is known ahead of i + 1 questions; -1 if it is not -/
def ndV (n : Nat) (xs t : List Int) (h : Nat) : Nat → Int
 | 0 => -1
 | i + 1 => if 0 ≤ ndV n xs t h i then ndV n xs t h i else if toldAt n xs t h i then (i : Int) else -1
theorem nd_cases (n : Nat) (xs t : List Int) (h : Nat) : ∀ i, (ndV n xs t h i = -1 ∧ ∀ j, j < i → toldAt n xs t h j = false) ∨ ∃ k : Nat, k < i ∧ ndV n xs t h i = (k : Int) ∧ toldAt n xs t h k = true ∧ ∀ j, j < k → toldAt n xs t h j = false
 | 0 => .inl ⟨rfl, fun j hj => absurd hj (Nat.not_lt_zero _)⟩
 | i + 1 => by
  unfold ndV
  rcases nd_cases n xs t h i with ⟨h1, h2⟩ | ⟨k, h1, h2, h3, h4⟩
  ·rw [h1, if_neg (by decide)]
   cases ht : toldAt n xs t h i with
   | true => exact .inr ⟨i, by omega, by rw [if_pos rfl], ht, h2⟩
   | false =>
    refine .inl ⟨by rw [if_neg (by decide)], fun j hj => ?_⟩
    rcases Nat.lt_succ_iff_lt_or_eq.1 hj with h | rfl
    ·exact h2 j h
    ·exact ht
  ·rw [h2, if_pos (by omega)]
   exact .inr ⟨k, by omega, rfl, h3, h4⟩
theorem nd_end {n : Nat} {xs t : List Int} {h : Nat} (ht : toldAt n xs t h n = true) : ndV n xs t h (n + 1) = (neededV n xs t h : Int) := by
 unfold neededV
 rcases nd_cases n xs t h (n + 1) with ⟨h1, h2⟩ | ⟨k, h1, h2, h3, h4⟩
 ·rw [h2 n (by omega)] at ht; cases ht
 ·rw [h2]
  by_cases hk : k < n
  ·rw [firstTold_hit hk h4 h3]
  ·obtain rfl : k = n := by omega
   rw [firstTold_none h4]
theorem nd_bd (n : Nat) (xs t : List Int) (h i : Nat) : -1 ≤ ndV n xs t h i ∧ ndV n xs t h i ≤ i := by
 rcases nd_cases n xs t h i with ⟨h1, -⟩ | ⟨k, h1, h2, -⟩ <;> omega
theorem nd_old {n : Nat} {xs t : List Int} {h i : Nat} (h0 : ¬ ndV n xs t h i < 0) : ndV n xs t h (i + 1) = ndV n xs t h i := by
 show (if _ then _ else _) = _; rw [if_pos (by omega)]
theorem nd_new {n : Nat} {xs t : List Int} {h i : Nat} (h0 : ndV n xs t h i < 0) (h1 : toldAt n xs t h i = true) : ndV n xs t h (i + 1) = i := by
 show (if _ then _ else _) = _; rw [if_neg (by omega), if_pos h1]
theorem nd_no {n : Nat} {xs t : List Int} {h i : Nat} (h0 : ndV n xs t h i < 0) (h1 : toldAt n xs t h i = false) : ndV n xs t h (i + 1) = ndV n xs t h i := by
 show (if _ then _ else _) = _
 rw [if_neg (by omega), h1, if_neg (by decide)]
 have := nd_bd n xs t h i
 omega
theorem asked_lt {n : Nat} {t : List Int} (hn : n ≤ 6) (ht : treeOk n t = true) (h i : Nat) (hi : i ≤ n) : yess t h i ||| noes t h i < 64 ∧ yess t h i < 64 := by
 have := (way_pl ht h i hi).1.lt hn
 exact ⟨or_lt64 this.1 this.2, this.1⟩
theorem asked_next (t : List Int) (h i : Nat) : yess t h (i + 1) ||| noes t h (i + 1) = (yess t h i ||| noes t h i) ||| 2 ^ qN t (plc t h i) := by
 cases hb : h.testBit (qN t (plc t h i)) with
 | true => rw [yess_yes hb, noes_yes hb, or_p]
 | false => rw [yess_no hb, noes_no hb, or_q]
theorem toldB_at {n : Nat} {xs t : List Int} (ht : treeOk n t = true) (h i : Nat) (hi : i ≤ n) : toldB n xs (yess t h i ||| noes t h i) (yess t h i) = toldAt n xs t h i := toldB_toldV (way_pl ht h i hi).1
theorem plc_in {n : Nat} (hn : n ≤ 6) (t : List Int) (h i : Nat) (hi : i < n) : 1 ≤ plc t h i ∧ plc t h i < 2 ^ n ∧ plc t h i < 64 := by
 have hb := plc_bd t h i
 have h2 : 2 ^ (i + 1) ≤ 2 ^ n := Nat.pow_le_pow_right (by omega) (by omega)
 have h0 : 1 ≤ 2 ^ i := Nat.one_le_two_pow
 have := (pw6 hn).2
 omega
set_option maxRecDepth 100000 in
set_option maxHeartbeats 8000000 in
theorem wayI (n : Nat) (ku : Value) (xs : List Int) (hcx : Cx n xs) (v : Value) (t : List Int) (h : Nat) (hh : h < 64) (w : World) (hk : ReadI w ku xs) (hv : ReadI w v t) (ht : treeOk n t = true) :
  Calls Tryz.prog 209 #[cx n ku, v, .int .i64 (h : Nat)] w fun e w' => ∃ u, e = .returned (.tuple #[u, .int .i64 (neededV n xs t h : Nat)]) ∧ OwnI w.heap.size w' u (wayL t h n) ∧ Below w.heap.size w w' := by
 have hn := hcx.hi
 obtain ⟨wb, hwb⟩ : ∃ wb, wb = w.alloc (.cells #[.int .i64 n, ku] 26) := ⟨_, rfl⟩
 obtain ⟨w2, hw2⟩ : ∃ w2, w2 = wb.alloc (.cells #[.int .i64 0, .int .i64 0] 148) := ⟨_, rfl⟩
 have hsb : wb.heap.size = w.heap.size + 1 := by rw [hwb]; simp
 have hBb : Below w.heap.size w wb := by rw [hwb]; exact Below.alloc (Below.refl _ _) (Nat.le_refl _) _
 have hB1 : Below wb.heap.size wb w2 := by rw [hw2]; exact Below.alloc (Below.refl _ _) (Nat.le_refl _) _
 have hB : Below w.heap.size w w2 := hBb.trans (hB1.mono hBb.size)
 have hz2 : w2.heap.size = w.heap.size + 2 := by rw [hw2, hwb]; simp
 have c0 : w2.cell? ⟨w.heap.size, 0, none⟩ = some (.int .i64 n) := pw_cell_below hB1 (by rw [hwb]; simp)
 have c1 : w2.cell? ⟨w.heap.size, 1, none⟩ = some ku := pw_cell_below hB1 (by rw [hwb]; simp)
 have HS0 : Aside0 (w2.heap[w.heap.size + 1]? = some (.cells #[.int .i64 (0 : Nat), .int .i64 (0 : Nat)] 148)) := ⟨by rw [hw2, ← hsb]; exact blk_new _ _⟩
 have HB := Aside0.mk hB
 have HK := Aside0.mk hk
 have HV := Aside0.mk hv
 have HT := Aside0.mk ht
 have hmx : Tryz.prog.follows .mixedOrders = true := by kernel_rfl
 have hn1 := hcx.lo
 obtain ⟨A1, d1, rfl, -⟩ := id hk
 obtain ⟨A2, d2, rfl, -⟩ := id hv
 have htl : t.length = 2 ^ n - 1 := tree_len ht
 have HTL := Aside0.mk htl
 have HLT : Aside0 (t.length ≤ 63) := ⟨by have := (pw6 hn).2; omega⟩
 have HZ2 := Aside0.mk hz2
 subst hwb
 clear hk hv hsb hBb hB1 hB htl hz2 ht
 go_enter Tryz.func209, Tryz.ntmps209
 go_wp2
 rw [← hw2]
 clear hw2
 go_loopw [8, 10, 11] (fun s8 s10 s11 wr => ∃ iv : Nat, iv ≤ n ∧ s10 = .int .i64 (ndV n xs t h iv) ∧ s11 = .int .i64 (plc t h iv : Nat) ∧ Aside0 (OwnI (w.heap.size + 2) wr s8 (wayL t h iv)) ∧ Aside0 (wr.heap[w.heap.size + 1]? = some (.cells #[.int .i64 ((yess t h iv ||| noes t h iv : Nat) : Int), .int .i64 ((yess t h iv : Nat) : Int)] 148)) ∧ Aside0 (Below (w.heap.size + 1) w2 wr)) (fun _ _ s11 _ => 200 - (intOf s11).toNat)
 case atStart => exact ⟨0, Nat.zero_le _, rfl, rfl, ⟨OwnI.nil _ _⟩, ⟨by rw [show yess t h 0 ||| noes t h 0 = 0 from Nat.or_self 0]; exact HS0.out⟩, ⟨Below.refl _ _⟩⟩
 case round =>
  obtain ⟨iv, hi, rfl, rfl, HO, HSr, HBr⟩ := hrel
  have c0 : wr.cell? ⟨w.heap.size, 0, none⟩ = some (.int .i64 n) := by rw [HBr.out.cell (p := ⟨w.heap.size, 0, none⟩) (by simp)]; exact c0
  have c1 : wr.cell? ⟨w.heap.size, 1, none⟩ = some (.slice A1 xs.length d1) := by rw [HBr.out.cell (p := ⟨w.heap.size, 1, none⟩) (by simp)]; exact c1
  have s0 : wr.cell? ⟨w.heap.size + 1, 0, none⟩ = some (.int .i64 ((yess t h iv ||| noes t h iv : Nat) : Int)) := blk_cell HSr.out 0
  have s1 : wr.cell? ⟨w.heap.size + 1, 1, none⟩ = some (.int .i64 ((yess t h iv : Nat) : Int)) := blk_cell HSr.out 1
  have HBw := Aside0.mk (HB.out.trans (HBr.out.mono (Nat.le_succ _)))
  have hal := asked_lt hn HT.out h iv hi
  have hnd := nd_bd n xs t h iv
  have HTO := Aside0.mk (fun (W : World) hr => isTold n (.slice A1 xs.length d1) xs (yess t h iv ||| noes t h iv) (yess t h iv) hal.1 hal.2 W hr hcx)
  rw [toldB_at HT.out h iv hi] at HTO
  have HOLD := Aside0.mk (fun h0 => nd_old (n := n) (xs := xs) (t := t) (h := h) (i := iv) h0)
  have HNEW := Aside0.mk (fun h0 h1 => nd_new (n := n) (xs := xs) (t := t) (h := h) (i := iv) h0 h1)
  have HNO := Aside0.mk (fun h0 h1 => nd_no (n := n) (xs := xs) (t := t) (h := h) (i := iv) h0 h1)
  have hlw := wayL_len t h iv
  have HNX := Aside0.mk (asked_next t h iv)
  obtain ⟨A8, d8, e8, -⟩ := HO.out.read
  rw [hlw] at e8
  subst e8
  have HEN : Aside0 (iv = n → ndV n xs t h (iv + 1) = (neededV n xs t h : Int)) := ⟨fun e => by rw [e]; exact nd_end (toldAt_end hn HT.out h)⟩
  have HTB : Aside0 (iv = n → toldAt n xs t h iv = true) := ⟨fun e => by rw [e]; exact toldAt_end hn HT.out h⟩
  obtain ⟨ND, hND⟩ : ∃ ND, ND = ndV n xs t h iv := ⟨_, rfl⟩
  rw [← hND] at hnd HOLD HNEW HNO ⊢
  obtain ⟨TA, hTA⟩ : ∃ TA, TA = toldAt n xs t h iv := ⟨_, rfl⟩
  rw [← hTA] at HTO HNEW HNO HTB
  obtain ⟨a, haa⟩ : ∃ a, a = yess t h iv ||| noes t h iv := ⟨_, rfl⟩
  rw [← haa] at HSr s0 hal HTO HNX
  obtain ⟨y, hyy⟩ : ∃ y, y = yess t h iv := ⟨_, rfl⟩
  rw [← hyy] at HSr s1 hal HTO
  have HY := Aside0.mk hyy
  have hpl : iv < n → 1 ≤ plc t h iv ∧ plc t h iv < 2 ^ n ∧ plc t h iv < 64 := plc_in hn t h iv
  have hp1 : plc t h iv < 200 := by have h1 := (plc_bd t h iv).2; have h2 : 2 ^ (iv + 1) ≤ 2 ^ 7 := Nat.pow_le_pow_right (by omega) (by omega); have : (2 : Nat) ^ 7 = 128 := rfl; omega
  have HPL := Aside0.mk hpl
  clear hND hTA haa hyy hlw hpl
  have hcs : (¬ ND < 0 ∧ decide (ND < 0) = false) ∨ (ND < 0 ∧ decide (ND < 0) = true ∧ TA = true) ∨ (ND < 0 ∧ decide (ND < 0) = true ∧ TA = false) := by
   by_cases h0 : ND < 0
   ·cases TA
    ·exact .inr (.inr ⟨h0, decide_eq_true h0, rfl⟩)
    ·exact .inr (.inl ⟨h0, decide_eq_true h0, rfl⟩)
   ·exact .inl ⟨h0, decide_eq_false h0⟩
  have hst : ∃ ND1 : Int, Aside0 (ndV n xs t h (iv + 1) = ND1) ∧ ((¬ ND < 0 ∧ decide (ND < 0) = false ∧ ND1 = ND) ∨ (ND < 0 ∧ decide (ND < 0) = true ∧ TA = true ∧ ND1 = iv) ∨ (ND < 0 ∧ decide (ND < 0) = true ∧ TA = false ∧ ND1 = ND)) := by
   rcases hcs with ⟨h0, h1⟩ | ⟨h0, h1, h2⟩ | ⟨h0, h1, h2⟩
   ·exact ⟨ND, ⟨HOLD.out h0⟩, .inl ⟨h0, h1, rfl⟩⟩
   ·exact ⟨iv, ⟨HNEW.out h0 h2⟩, .inr (.inl ⟨h0, h1, h2, rfl⟩)⟩
   ·exact ⟨ND, ⟨HNO.out h0 h2⟩, .inr (.inr ⟨h0, h1, h2, rfl⟩)⟩
  obtain ⟨ND1, HND, hst⟩ := hst
  clear hcs HOLD HNEW HNO
  rcases hst with ⟨h0, h1, rfl⟩ | ⟨h0, h1, rfl, rfl⟩ | ⟨h0, h1, rfl, rfl⟩
  all_goals
   go_wp2_with (first | (go_at_call 334; refine (HTO.out _ (HK.out.below HBw.out)).mono ?_; rintro e w3 ⟨rfl, hb⟩; replace c0 := pw_cell_below hb c0; replace c1 := pw_cell_below hb c1; replace HO := Aside0.own HO hb; replace HSr := Aside0.mk (blk_below HSr.out hb); replace HBr := Aside0.mk (HBr.out.trans (hb.mono (by have := HBr.out.size; have := HZ2.out; omega))); replace HBw := Aside0.mk (HBw.out.trans (hb.mono HBw.out.size)); clear hb s0 s1))
   refine wp_region_g Bl (fun w => (Below.refl _ w).drew) (fun _ _ _ => Bl.trans) (fun i => match i with | 0 => fun v _ => v = .slice A8 iv d8 | 1 => fun v _ => v = .int .i64 (iv : Int) | 2 => fun v _ => v = .pointer (some ⟨w.heap.size, 0, none⟩) | 3 => fun v _ => v = .int .i64 (n : Int) | 4 => fun v _ => v = .bool ((iv : Int) == (n : Int)) | _ => fun _ _ => True)
    [0, 1, 0, 4, 15] hmx (by kernel_rfl) ?st ?steps ?rest
   case st =>
    intro i v w1_ w2_ hb
    match i with
    | 0 | 1 | 2 | 3 | 4 => exact id
    | n + 5 => exact id
   case steps =>
    refine ⟨?_, ?_, ?_, ?_, ?_, trivial⟩
    ·intro s w_ hb hd hq R hR
     generalize hA : putAll _ 0 s _ = A
     clear hq
     have hR' := hR (.slice A8 iv d8) _ (Below.refl _ _) rfl
     clear hR hd
     refine opGives_value ?_ hR'
     subst hA
     simp only [dsOf, List.map_cons, List.map_nil, Option.getD_some, putAll, Act.put, List.setIfInBounds_toArray, List.set_cons_zero, List.set_cons_succ]
     go_simp
    ·intro s w_ hb hd hq R hR
     generalize hA : putAll _ 0 s _ = A
     have e0 : s 0 = _ := hd 0 (by kernel_rfl)
     clear hq
     refine opGives_call (f := 312) (args := #[.slice A8 iv d8]) ?_ ?_
     ·subst hA
      clear hR hd
      simp only [dsOf, List.map_cons, List.map_nil, Option.getD_some, putAll, Act.put, List.setIfInBounds_toArray, List.set_cons_zero, List.set_cons_succ]
      go_simp
     clear hA A hd
     refine (length_any A8 iv d8 w_).mono ?_
     rintro e w3_ ⟨rfl, hb3⟩
     exact ⟨_, rfl, hR _ _ hb3 rfl⟩
    ·intro s w_ hb hd hq R hR
     generalize hA : putAll _ 0 s _ = A
     clear hq
     have hR' := hR (.pointer (some ⟨w.heap.size, 0, none⟩)) _ (Below.refl _ _) rfl
     clear hR hd
     refine opGives_value ?_ hR'
     subst hA
     simp only [dsOf, List.map_cons, List.map_nil, Option.getD_some, putAll, Act.put, List.setIfInBounds_toArray, List.set_cons_zero, List.set_cons_succ]
     go_simp
    ·intro s w_ hb hd hq R hR
     generalize hA : putAll _ 0 s _ = A
     have e2 : s 2 = _ := hd 2 (by kernel_rfl)
     clear hq
     have c0 := pw_cell_below hb c0
     have hR' := hR (.int .i64 (n : Int)) _ (Below.refl _ _) rfl
     clear hR hd
     refine opGives_value ?_ hR'
     subst hA
     simp only [dsOf, List.map_cons, List.map_nil, Option.getD_some, putAll, Act.put, List.setIfInBounds_toArray, List.set_cons_zero, List.set_cons_succ]
     go_simp
    ·intro s w_ hb hd hq R hR
     generalize hA : putAll _ 0 s _ = A
     have e1 : s 1 = _ := hd 1 (by kernel_rfl)
     have e3 : s 3 = _ := hd 3 (by kernel_rfl)
     clear hq
     have hR' := hR (.bool ((iv : Int) == (n : Int))) _ (Below.refl _ _) rfl
     clear hR hd
     refine opGives_value ?_ hR'
     subst hA
     simp only [dsOf, List.map_cons, List.map_nil, Option.getD_some, putAll, Act.put, List.setIfInBounds_toArray, List.set_cons_zero, List.set_cons_succ]
     go_simp
   case rest =>
    intro s7 w7 hb hv
    have e4_ : s7 4 = _ := hv 4 (by decide)
    simp only [dsOf, List.map_cons, List.map_nil, Option.getD_some, putAll, Act.put, List.setIfInBounds_toArray, List.set_cons_zero, List.set_cons_succ]
    rw [e4_]
    clear hv e4_
    have hz3 : w.heap.size + 2 ≤ w7.heap.size := by have := HBr.out.size; have := HZ2.out; have := hb.size; omega
    replace c0 := pw_cell_below hb c0
    replace c1 := pw_cell_below hb c1
    replace HO := Aside0.own HO hb
    replace HSr := Aside0.mk (blk_below HSr.out hb)
    replace HBw := Aside0.mk (HBw.out.trans (hb.mono HBw.out.size))
    replace HBr := Aside0.mk (HBr.out.trans (hb.mono (by have := HBr.out.size; have := HZ2.out; omega)))
    clear hb
    by_cases hlast : iv = n
    ·have heq : ((iv : Int) == (n : Int)) = true := by rw [hlast]; exact beq_self_eq_true _
     have HEE := Aside0.mk hlast
     first | (exfalso; have := HTB.out hlast; cases this; done) | (clear hlast; go_wp2; go_ret2; exact ⟨_, by rw [← HEN.out HEE.out, HND.out]; rfl, by rw [show wayL t h n = wayL t h iv from by rw [HEE.out]]; exact HO.out.lower (Nat.le_add_right w.heap.size 2), HBw.out⟩)
    ·have heq : ((iv : Int) == (n : Int)) = false := by rw [beq_eq_false_iff_ne]; omega
     have hlt : iv < n := by omega
     have hpl := HPL.out hlt
     have hqi := tree_in HT.out (p := plc t h iv) hpl.1 hpl.2.1
     have HYES := Aside0.mk (fun hb => And.intro (plc_yes (t := t) (h := h) (i := iv) hb) (yess_yes (t := t) (h := h) (i := iv) hb))
     have HNOT := Aside0.mk (fun hb => And.intro (plc_no (t := t) (h := h) (i := iv) hb) (yess_no (t := t) (h := h) (i := iv) hb))
     have HWS := Aside0.mk (wayL_succ t h iv)
     obtain ⟨P, hPP⟩ : ∃ P, P = plc t h iv := ⟨_, rfl⟩
     rw [← hPP] at hpl hqi HYES HNOT HWS HNX hp1 ⊢
     obtain ⟨q, hqq⟩ : ∃ q, q = qN t P := ⟨_, rfl⟩
     rw [← hqq] at hqi HYES HNOT HNX
     obtain ⟨_, _, hq1, hq2⟩ := hqi
     have hP3 : ((P : Int) - 1).toNat = P - 1 := by omega
     have hP1 : (0 : Int) ≤ (P : Int) - 1 := by omega
     have hPt : P - 1 < t.length := by have := HTL.out; omega
     have hP2 : (P : Int) - 1 < (t.length : Int) := by omega
     obtain ⟨A3, c3, e3, -, hr3⟩ := HV.out.below HBw.out
     cases e3
     obtain ⟨ad, y0, rfl, hcell, hY0⟩ := ReadI.get hr3 hPt
     have hyq : y0 = (q : Int) := by rw [← hq1]; exact hY0.out.symm
     subst hyq
     have hsh' := pow_wrap' q (by omega)
     have hV := pow_lt64 (v := q) (by omega)
     have hbit := bit_of h q (lt_big hh)
     have hqn : q < n := hq2
     obtain ⟨V, hVV⟩ : ∃ V, V = 2 ^ q := ⟨_, rfl⟩
     rw [← hVV] at hsh' hV HNX HYES
     have ho0 := or_i64 a V (lt_big hal.1) (lt_big hV)
     have ho1 := or_i64 y V (lt_big hal.2) (lt_big hV)
     obtain ⟨a1, ha1⟩ : ∃ a1, a1 = a ||| V := ⟨_, rfl⟩
     obtain ⟨y1, hy1⟩ : ∃ y1, y1 = y ||| V := ⟨_, rfl⟩
     rw [← ha1] at ho0 HNX
     rw [← hy1] at ho1
     have HY1 := Aside0.mk hy1
     have HSH := Aside0.mk hsh'
     have HO0 := Aside0.mk ho0
     have HO1 := Aside0.mk ho1
     have HQ1 := Aside0.mk hq1
     have HPP := Aside0.mk hPP
     clear hPP hqq hY0 hr3 hVV ha1 hy1 hsh' ho0 ho1 hlast hq1 hq2
     go_wp2_with (first | (at_builtin; refine app_own (w0 := w7) (w.heap.size + 2) rfl (.tmp 37) (.tmp 39) rfl _ (wayL t h iv) (q : Int) rfl rfl HO.out (Below.refl _ _) hz3 (by rw [wayL_len]; omega) ?_; intro v1 w8 ho8 hb8 hg8 hat8; have HO8 := Aside0.mk ho8; have HB8 := Aside0.mk hb8; have hz8 : w.heap.size + 2 ≤ w8.heap.size := (by have := hb8.size; omega); have HS8 := Aside0.mk ((hb8.block (w.heap.size + 1) (by omega)).trans HSr.out); have HBr8 := Aside0.mk (HBr.out.trans (hb8.mono (by omega))); clear ho8 hb8 hg8 hat8))
     refine wp_region_tail 6 (fun i => match i with | 0 => fun v _ => v = .pointer (some ⟨w.heap.size + 1, 0, none⟩) | 1 => fun v _ => v = .int .i64 (a : Int) | 2 => fun v _ => v = .int .i64 (q : Int) | 3 => fun v _ => v = .int .i64 (V : Int) | 4 => fun v _ => v = .int .i64 (a1 : Int) | 5 => fun v _ => v = .pointer (some ⟨w.heap.size + 1, 0, none⟩) | _ => fun _ _ => True)
      [0, 1, 0, 4, 15, 31, 63] hmx (by kernel_rfl) ?st ?steps ?rest
     case st =>
      intro i v w1_ w2_ hb
      match i with
      | 0 | 1 | 2 | 3 | 4 | 5 => exact id
      | n + 6 => exact id
     case steps =>
      refine ⟨?_, ?_, ?_, ?_, ?_, ?_, trivial⟩
      ·intro s w_ hb hd R hR
       generalize hA : putAll _ 0 s _ = A
       have hR' := hR (.pointer (some ⟨w.heap.size + 1, 0, none⟩)) _ (Below.refl _ _) rfl
       clear hR hd
       refine opGives_value ?_ hR'
       subst hA
       simp only [dsOf, List.take, List.map_cons, List.map_nil, Option.getD_some, putAll, Act.put, List.setIfInBounds_toArray, List.set_cons_zero, List.set_cons_succ]
       go_simp
      ·intro s w_ hb hd R hR
       generalize hA : putAll _ 0 s _ = A
       have e0 : s 0 = _ := hd 0 (by kernel_rfl)
       have cc : w_.cell? ⟨w.heap.size + 1, 0, none⟩ = some (.int .i64 (a : Int)) := blk_cell (blk_below HS8.out hb) 0
       have hR' := hR (.int .i64 (a : Int)) _ (Below.refl _ _) rfl
       clear hR hd
       refine opGives_value ?_ hR'
       subst hA
       simp only [dsOf, List.take, List.map_cons, List.map_nil, Option.getD_some, putAll, Act.put, List.setIfInBounds_toArray, List.set_cons_zero, List.set_cons_succ]
       go_simp
      ·intro s w_ hb hd R hR
       generalize hA : putAll _ 0 s _ = A
       have hR' := hR (.int .i64 (q : Int)) _ (Below.refl _ _) rfl
       clear hR hd
       refine opGives_value ?_ hR'
       subst hA
       simp only [dsOf, List.take, List.map_cons, List.map_nil, Option.getD_some, putAll, Act.put, List.setIfInBounds_toArray, List.set_cons_zero, List.set_cons_succ]
       go_simp
      ·intro s w_ hb hd R hR
       generalize hA : putAll _ 0 s _ = A
       have e2 : s 2 = _ := hd 2 (by kernel_rfl)
       have hsh := HSH.out
       have hR' := hR (.int .i64 (V : Int)) _ (Below.refl _ _) rfl
       clear hR hd
       refine opGives_value ?_ hR'
       subst hA
       simp only [dsOf, List.take, List.map_cons, List.map_nil, Option.getD_some, putAll, Act.put, List.setIfInBounds_toArray, List.set_cons_zero, List.set_cons_succ]
       go_simp
      ·intro s w_ hb hd R hR
       generalize hA : putAll _ 0 s _ = A
       have e1 : s 1 = _ := hd 1 (by kernel_rfl)
       have e3 : s 3 = _ := hd 3 (by kernel_rfl)
       have ho := HO0.out
       have hR' := hR (.int .i64 (a1 : Int)) _ (Below.refl _ _) rfl
       clear hR hd
       refine opGives_value ?_ hR'
       subst hA
       simp only [dsOf, List.take, List.map_cons, List.map_nil, Option.getD_some, putAll, Act.put, List.setIfInBounds_toArray, List.set_cons_zero, List.set_cons_succ]
       go_simp
      ·intro s w_ hb hd R hR
       generalize hA : putAll _ 0 s _ = A
       have hR' := hR (.pointer (some ⟨w.heap.size + 1, 0, none⟩)) _ (Below.refl _ _) rfl
       clear hR hd
       refine opGives_value ?_ hR'
       subst hA
       simp only [dsOf, List.take, List.map_cons, List.map_nil, Option.getD_some, putAll, Act.put, List.setIfInBounds_toArray, List.set_cons_zero, List.set_cons_succ]
       go_simp
     case rest =>
      intro s9 w9 hb hv
      have e4_ : s9 4 = _ := hv 4 (by decide)
      have e5_ : s9 5 = _ := hv 5 (by decide)
      clear hv
      simp only [dsOf, List.take, List.map_cons, List.map_nil, Option.getD_some, putAll, Act.put, List.setIfInBounds_toArray, List.set_cons_zero, List.set_cons_succ]
      have HSb := Aside0.mk (blk_below HS8.out hb)
      have cc : w9.cell? ⟨w.heap.size + 1, 0, none⟩ = some (.int .i64 (a : Int)) := blk_cell HSb.out 0
      have ff : w9.frozen? ⟨w.heap.size + 1, 0, none⟩ = false := blk_frozen HSb.out 0
      obtain ⟨xw9, hxw9⟩ : ∃ x, x = w9.setCell ⟨w.heap.size + 1, 0, none⟩ (.int .i64 (a1 : Int)) := ⟨_, rfl⟩
      refine .inr ⟨xw9, (by rw [hxw9]; go_simp), ?_⟩
      simp only [List.drop, Act.put, List.setIfInBounds_toArray, List.set_cons_zero, List.set_cons_succ]
      unfold tailList
      have HS0n : Aside0 (xw9.heap[w.heap.size + 1]? = some (.cells #[.int .i64 (a1 : Nat), .int .i64 (y : Nat)] 148)) := ⟨by rw [hxw9]; exact blk_put HSb.out 0 _ rfl⟩
      have hgs : w9.grownBy xw9 (some (w.heap.size + 1)) := by rw [hxw9]; exact set_grown2 _ _ _ _
      clear cc ff e4_ e5_ hxw9 HSb
      have HOx := Aside0.mk ((HO8.out.below hb).grown hgs (fun k hk e => by have := (HO8.out.below hb).base k hk; have h2 := Option.some.inj e; omega))
      have HBx := Aside0.mk ((HBr8.out.trans (hb.mono (by omega))).trans (below_grown hgs (Nat.le_refl _) (by have := hb.size; omega)))
      have hzx : w.heap.size + 2 ≤ xw9.heap.size := by have := hb.size; have := hgs.size; omega
      clear hb hgs
      cases hbt : h.testBit q with
      | false =>
       obtain ⟨hn1', hn2⟩ := HNOT.out hbt
       rw [hbt, if_neg (by decide)] at hbit
       have HN1 := Aside0.mk hn1'
       have HN2 := Aside0.mk hn2
       clear hbt hn1' hn2
       go_wp2
       go_roundw
       case rel => exact ⟨iv + 1, by omega, by rw [HND.out], by rw [HN1.out]; go_num, by rw [HWS.out, HQ1.out]; exact HOx, by rw [HNX.out, HN2.out, ← HY.out]; exact HS0n, HBx⟩
       case measure => have := HPP.out; simp [intOf]; omega
      | true =>
       obtain ⟨hn1', hn2⟩ := HYES.out hbt
       rw [hbt, if_pos rfl] at hbit
       have HN1 := Aside0.mk hn1'
       have HN2 := Aside0.mk hn2
       clear hbt hn1' hn2
       go_wp2
       refine wp_region_tail 6 (fun i => match i with | 0 => fun v _ => v = .pointer (some ⟨w.heap.size + 1, 1, none⟩) | 1 => fun v _ => v = .int .i64 (y : Int) | 2 => fun v _ => v = .int .i64 (q : Int) | 3 => fun v _ => v = .int .i64 (V : Int) | 4 => fun v _ => v = .int .i64 (y1 : Int) | 5 => fun v _ => v = .pointer (some ⟨w.heap.size + 1, 1, none⟩) | _ => fun _ _ => True)
        [0, 1, 0, 4, 15, 31, 63] hmx (by kernel_rfl) ?st ?steps ?rest
       case st =>
        intro i v w1_ w2_ hb
        match i with
        | 0 | 1 | 2 | 3 | 4 | 5 => exact id
        | n + 6 => exact id
       case steps =>
        refine ⟨?_, ?_, ?_, ?_, ?_, ?_, trivial⟩
        ·intro s w_ hb hd R hR
         generalize hA : putAll _ 0 s _ = A
         have hR' := hR (.pointer (some ⟨w.heap.size + 1, 1, none⟩)) _ (Below.refl _ _) rfl
         clear hR hd
         refine opGives_value ?_ hR'
         subst hA
         simp only [dsOf, List.take, List.map_cons, List.map_nil, Option.getD_some, putAll, Act.put, List.setIfInBounds_toArray, List.set_cons_zero, List.set_cons_succ]
         go_simp
        ·intro s w_ hb hd R hR
         generalize hA : putAll _ 0 s _ = A
         have e0 : s 0 = _ := hd 0 (by kernel_rfl)
         have cc : w_.cell? ⟨w.heap.size + 1, 1, none⟩ = some (.int .i64 (y : Int)) := blk_cell (blk_below HS0n.out hb) 1
         have hR' := hR (.int .i64 (y : Int)) _ (Below.refl _ _) rfl
         clear hR hd
         refine opGives_value ?_ hR'
         subst hA
         simp only [dsOf, List.take, List.map_cons, List.map_nil, Option.getD_some, putAll, Act.put, List.setIfInBounds_toArray, List.set_cons_zero, List.set_cons_succ]
         go_simp
        ·intro s w_ hb hd R hR
         generalize hA : putAll _ 0 s _ = A
         have hR' := hR (.int .i64 (q : Int)) _ (Below.refl _ _) rfl
         clear hR hd
         refine opGives_value ?_ hR'
         subst hA
         simp only [dsOf, List.take, List.map_cons, List.map_nil, Option.getD_some, putAll, Act.put, List.setIfInBounds_toArray, List.set_cons_zero, List.set_cons_succ]
         go_simp
        ·intro s w_ hb hd R hR
         generalize hA : putAll _ 0 s _ = A
         have e2 : s 2 = _ := hd 2 (by kernel_rfl)
         have hsh := HSH.out
         have hR' := hR (.int .i64 (V : Int)) _ (Below.refl _ _) rfl
         clear hR hd
         refine opGives_value ?_ hR'
         subst hA
         simp only [dsOf, List.take, List.map_cons, List.map_nil, Option.getD_some, putAll, Act.put, List.setIfInBounds_toArray, List.set_cons_zero, List.set_cons_succ]
         go_simp
        ·intro s w_ hb hd R hR
         generalize hA : putAll _ 0 s _ = A
         have e1 : s 1 = _ := hd 1 (by kernel_rfl)
         have e3 : s 3 = _ := hd 3 (by kernel_rfl)
         have ho := HO1.out
         have hR' := hR (.int .i64 (y1 : Int)) _ (Below.refl _ _) rfl
         clear hR hd
         refine opGives_value ?_ hR'
         subst hA
         simp only [dsOf, List.take, List.map_cons, List.map_nil, Option.getD_some, putAll, Act.put, List.setIfInBounds_toArray, List.set_cons_zero, List.set_cons_succ]
         go_simp
        ·intro s w_ hb hd R hR
         generalize hA : putAll _ 0 s _ = A
         have hR' := hR (.pointer (some ⟨w.heap.size + 1, 1, none⟩)) _ (Below.refl _ _) rfl
         clear hR hd
         refine opGives_value ?_ hR'
         subst hA
         simp only [dsOf, List.take, List.map_cons, List.map_nil, Option.getD_some, putAll, Act.put, List.setIfInBounds_toArray, List.set_cons_zero, List.set_cons_succ]
         go_simp
       case rest =>
        intro s10 w10 hb hv
        have e4_ : s10 4 = _ := hv 4 (by decide)
        have e5_ : s10 5 = _ := hv 5 (by decide)
        clear hv
        simp only [dsOf, List.take, List.map_cons, List.map_nil, Option.getD_some, putAll, Act.put, List.setIfInBounds_toArray, List.set_cons_zero, List.set_cons_succ]
        have HSb := Aside0.mk (blk_below HS0n.out hb)
        have cc : w10.cell? ⟨w.heap.size + 1, 1, none⟩ = some (.int .i64 (y : Int)) := blk_cell HSb.out 1
        have ff : w10.frozen? ⟨w.heap.size + 1, 1, none⟩ = false := blk_frozen HSb.out 1
        obtain ⟨xw10, hxw10⟩ : ∃ x, x = w10.setCell ⟨w.heap.size + 1, 1, none⟩ (.int .i64 (y1 : Int)) := ⟨_, rfl⟩
        refine .inr ⟨xw10, (by rw [hxw10]; go_simp), ?_⟩
        simp only [List.drop, Act.put, List.setIfInBounds_toArray, List.set_cons_zero, List.set_cons_succ]
        unfold tailList
        have HS1n : Aside0 (xw10.heap[w.heap.size + 1]? = some (.cells #[.int .i64 (a1 : Nat), .int .i64 (y1 : Nat)] 148)) := ⟨by rw [hxw10]; exact blk_put HSb.out 1 _ rfl⟩
        have hgs : w10.grownBy xw10 (some (w.heap.size + 1)) := by rw [hxw10]; exact set_grown2 _ _ _ _
        clear cc ff e4_ e5_ hxw10 HSb
        have HOy := Aside0.mk ((HOx.out.below hb).grown hgs (fun k hk e => by have := (HOx.out.below hb).base k hk; have h2 := Option.some.inj e; omega))
        have HBy := Aside0.mk ((HBx.out.trans (hb.mono (by omega))).trans (below_grown hgs (Nat.le_refl _) (by have := hb.size; omega)))
        clear hb hgs
        go_wp2
        go_roundw
        case rel => exact ⟨iv + 1, by omega, by rw [HND.out], by rw [HN1.out]; go_num, by rw [HWS.out, HQ1.out]; exact HOy, by rw [HNX.out, HN2.out, ← HY.out, ← HY1.out]; exact HS1n, HBy⟩
        case measure => have := HPP.out; simp [intOf]; omega
/-- a function value of nothing that answers b -/
def ThunkB (w : World) (fv : Value) (b : Bool) : Prop :=
 ∃ g first caps, fv = .func (.func g) first caps ∧ Enters g ∧ ∀ w1, Below w.heap.size w w1 → Calls Tryz.prog g (first ++ #[] ++ caps) w1 fun e w2 => e = .returned (.bool b) ∧ Below w1.heap.size w1 w2
theorem ThunkB.below {w w' : World} {fv : Value} {b : Bool} (h : ThunkB w fv b) (hb : Below w.heap.size w w') : ThunkB w' fv b := by
 obtain ⟨g, first, caps, rfl, hent, hp⟩ := h
 exact ⟨g, first, caps, rfl, hent, fun w1 h1 => hp w1 (hb.trans (h1.mono hb.size))⟩
theorem always (w : World) : Calls Tryz.prog 135 #[] w fun e w' => e = .returned (.bool true) ∧ Below w.heap.size w w' := by
 go_enter Tryz.func135, Tryz.ntmps135
 go_wp2
 go_ret
 exact ⟨rfl, Below.refl _ _⟩
theorem alwaysB (w : World) : ThunkB w (.func (.func 135) #[] #[]) true :=
 ⟨_, _, _, rfl, Enters.mk' Tryz.func135 rfl rfl, fun w1 _ => always w1⟩
set_option maxHeartbeats 2000000 in
theorem complexCode2 (a : Int) (ku : Value) (xs : List Int) (fv : Value) (r : Bool) (w : World) (hk : ReadI w ku xs) (hf : cxOk a xs = true → ThunkB w fv r) (hfv : ∃ g first caps, fv = .func (.func g) first caps) :
  Calls Tryz.prog 188 #[cx a ku, fv] w fun e w' => e = .returned (.int .i64 (if cxOk a xs then (if r then 0 else 2) else 1)) ∧ Below w.heap.size w w' := by
 obtain ⟨w1, hw1⟩ : ∃ w1, w1 = w.alloc (.cells #[.int .i64 a, ku] 26) := ⟨_, rfl⟩
 have hB : Below w.heap.size w w1 := by rw [hw1]; exact Below.alloc (Below.refl _ _) (Nat.le_refl _) _
 have c0 : w1.cell? ⟨w.heap.size, 0, none⟩ = some (.int .i64 a) := by rw [hw1]; simp
 have c1 : w1.cell? ⟨w.heap.size, 1, none⟩ = some ku := by rw [hw1]; simp
 have HK := Aside0.mk (hk.below hB)
 have HB := Aside0.mk hB
 obtain ⟨g, first, caps, rfl⟩ := hfv
 have HF := Aside0.mk (fun h => (hf h).below hB)
 obtain ⟨A1, d1, rfl, -⟩ := id hk
 clear hk hf hB
 cases h1 : cxOk a xs with
 | false =>
  go_enter Tryz.func188, Tryz.ntmps188
  go_wp2_with (first | (rw [← hw1]; clear hw1; go_at_call 17; refine (isComplex _ _ xs _ HK.out).mono ?_; rintro e w2 ⟨rfl, hb⟩; rw [h1]))
  go_ret
  exact ⟨rfl, HB.out.trans (hb.mono HB.out.size)⟩
 | true =>
  obtain ⟨g', first', caps', e3, hent, hp⟩ := HF.out h1
  cases e3
  have HP := Aside0.mk hp
  clear hp HF
  unfold Enters at hent
  cases r with
  | false =>
   go_enter Tryz.func188, Tryz.ntmps188
   go_wp2_with (first | (rw [← hw1]; clear hw1; go_at_call 17; refine (isComplex _ _ xs _ HK.out).mono ?_; rintro e w2 ⟨rfl, hb⟩; rw [h1]; have HB2 := Aside0.mk hb; clear hb) | (refine (HP.out _ HB2.out).mono ?_; rintro e w3 ⟨rfl, hb⟩))
   go_ret
   exact ⟨rfl, HB.out.trans ((HB2.out.trans (hb.mono HB2.out.size)).mono HB.out.size)⟩
  | true =>
   go_enter Tryz.func188, Tryz.ntmps188
   go_wp2_with (first | (rw [← hw1]; clear hw1; go_at_call 17; refine (isComplex _ _ xs _ HK.out).mono ?_; rintro e w2 ⟨rfl, hb⟩; rw [h1]; have HB2 := Aside0.mk hb; clear hb) | (refine (HP.out _ HB2.out).mono ?_; rintro e w3 ⟨rfl, hb⟩))
   go_ret
   exact ⟨rfl, HB.out.trans ((HB2.out.trans (hb.mono HB2.out.size)).mono HB.out.size)⟩
theorem pl_zero (n : Nat) : Pl n 0 0 := ⟨Nat.two_pow_pos n, Nat.two_pow_pos n, rfl⟩
theorem lefts_lt {n p q : Nat} (hn : n ≤ 6) : lefts n p q < 7 := by have := frees_len (p ||| q) n; unfold lefts; omega
theorem cxOk_nat {a : Int} {xs : List Int} (h : cxOk a xs = true) : ∃ n : Nat, a = n ∧ Cx n xs := by
 obtain ⟨n, h1, h2, -⟩ := cxOk_cx h
 exact ⟨n, h1, h2⟩
/-- the evaders below k -/
def evTo (n : Nat) (xs t : List Int) (k : Nat) : List Int := (List.range k).filterMap fun h => if neededV n xs t h = n then some (h : Int) else none
theorem evTo_hit {n : Nat} {xs t : List Int} {k : Nat} (h : neededV n xs t k = n) : evTo n xs t (k + 1) = evTo n xs t k ++ [(k : Int)] := by
 unfold evTo; rw [List.range_succ, List.filterMap_append]; simp [h]
theorem evTo_miss {n : Nat} {xs t : List Int} {k : Nat} (h : ¬ neededV n xs t k = n) : evTo n xs t (k + 1) = evTo n xs t k := by
 unfold evTo; rw [List.range_succ, List.filterMap_append]; simp [h]
theorem evTo_len (n : Nat) (xs t : List Int) (k : Nat) : (evTo n xs t k).length ≤ k := by
 unfold evTo; exact Nat.le_trans (List.length_filterMap_le _ _) (by simp)
/-- what EvadersOf answers -/
def ansEvadersOf (a : Int) (xs t : List Int) : List Int × Int := if cxOk a xs then (if treeOk a.toNat t then (evTo a.toNat xs t (2 ^ a.toNat), 0) else ([], 2)) else ([], 1)
set_option maxHeartbeats 1000000 in
theorem evadersOf1 (w : World) (bk bt : Nat) (n : Nat) (hn : 1 ≤ n ∧ n ≤ 6) (v : Value) (t : List Int) (hv : ReadI w v t) (h0 : w.cell? ⟨bk, 0, none⟩ = some (.int .i64 n)) (h1 : w.cell? ⟨bt, 0, none⟩ = some v) :
  ThunkB w (.func (.func 221) #[] #[.pointer (some ⟨bk, 0, none⟩), .pointer (some ⟨bt, 0, none⟩)]) (treeOk n t) := by
 refine ⟨_, _, _, rfl, Enters.mk' Tryz.func221 rfl rfl, fun w1 hb => ?_⟩
 have c0 := pw_cell_below hb h0
 have c1 := pw_cell_below hb h1
 have HV := Aside0.mk (hv.below hb)
 obtain ⟨A2, d2, rfl, -⟩ := id hv
 clear hb h0 h1 hv
 show Calls _ _ #[_, _] _ _
 go_enter Tryz.func221, Tryz.ntmps221
 go_wp2_with (first | (go_at_call 208; refine (isTree _ t n hn _ HV.out).mono ?_; rintro e w4 ⟨rfl, hb4⟩))
 go_ret
 exact ⟨rfl, hb4⟩
set_option maxRecDepth 100000 in
set_option maxHeartbeats 4000000 in
theorem implEvadersOf (a : Int) (ku : Value) (xs : List Int) (v : Value) (t : List Int) (w : World) (hk : ReadI w ku xs) (hv : ReadI w v t) :
  Calls Tryz.prog 63 #[cx a ku, v] w fun e w' => ∃ u, e = .returned (.tuple #[u, .int .i64 (ansEvadersOf a xs t).2]) ∧ OwnI w.heap.size w' u (ansEvadersOf a xs t).1 ∧ Below w.heap.size w w' := by
 obtain ⟨wb, hwb⟩ : ∃ wb, wb = w.alloc (.cells #[.int .i64 a, ku] 26) := ⟨_, rfl⟩
 obtain ⟨w1, hw1⟩ : ∃ w1, w1 = wb.alloc (.cells #[v] 24) := ⟨_, rfl⟩
 have hsb : wb.heap.size = w.heap.size + 1 := by rw [hwb]; simp
 have hBb : Below w.heap.size w wb := by rw [hwb]; exact Below.alloc (Below.refl _ _) (Nat.le_refl _) _
 have hB1 : Below wb.heap.size wb w1 := by rw [hw1]; exact Below.alloc (Below.refl _ _) (Nat.le_refl _) _
 have hB : Below w.heap.size w w1 := hBb.trans (hB1.mono hBb.size)
 have c0 : w1.cell? ⟨w.heap.size, 0, none⟩ = some (.int .i64 a) := pw_cell_below hB1 (by rw [hwb]; simp)
 have c1 : w1.cell? ⟨w.heap.size, 1, none⟩ = some ku := pw_cell_below hB1 (by rw [hwb]; simp)
 have ct : w1.cell? ⟨w.heap.size + 1, 0, none⟩ = some v := by rw [hw1, ← hsb]; exact new_cell _ _ _ 0 _ rfl
 have HB := Aside0.mk hB
 have HK := Aside0.mk (hk.below hB)
 have HV := Aside0.mk (hv.below hB)
 have HM := Aside0.mk (complexCode2 a ku xs (.func (.func 221) #[] #[.pointer (some ⟨w.heap.size, 0, none⟩), .pointer (some ⟨w.heap.size + 1, 0, none⟩)]) (treeOk a.toNat t) w1 HK.out (fun h => by
  obtain ⟨n, rfl, hc⟩ := cxOk_nat h
  exact evadersOf1 w1 _ _ n ⟨hc.lo, hc.hi⟩ v t HV.out c0 ct) ⟨_, _, _, rfl⟩)
 obtain ⟨A1, d1, rfl, -⟩ := id hk
 obtain ⟨A2, d2, rfl, -⟩ := id hv
 subst hwb
 clear hk hv hsb hBb hB1 hB
 cases hx : cxOk a xs with
 | false =>
  have HA : Aside0 (ansEvadersOf a xs t = ([], 1)) := ⟨by unfold ansEvadersOf; rw [hx]; rfl⟩
  rw [hx] at HM
  clear hx
  go_enter Tryz.func63, Tryz.ntmps63
  go_wp2_with (first | (go_at_call 188; rw [← hw1]; clear hw1; refine HM.out.mono ?_; rintro e w2 ⟨rfl, hb⟩; have HB2 := Aside0.mk hb; clear hb))
  go_ret2
  exact ⟨_, by rw [HA.out]; rfl, by rw [HA.out]; exact OwnI.nil _ _, HB.out.trans (HB2.out.mono HB.out.size)⟩
 | true =>
  obtain ⟨n, rfl, hc⟩ := cxOk_nat hx
  rw [hx] at HM
  cases hto : treeOk n t with
  | false =>
   have HA : Aside0 (ansEvadersOf n xs t = ([], 2)) := ⟨by unfold ansEvadersOf; rw [hx]; show (if treeOk n t = true then _ else _) = _; rw [hto]; rfl⟩
   rw [show treeOk (n : Int).toNat t = false from hto] at HM
   clear hx hto hc
   go_enter Tryz.func63, Tryz.ntmps63
   go_wp2_with (first | (go_at_call 188; rw [← hw1]; clear hw1; refine HM.out.mono ?_; rintro e w2 ⟨rfl, hb⟩; have HB2 := Aside0.mk hb; clear hb))
   go_ret2
   exact ⟨_, by rw [HA.out]; rfl, by rw [HA.out]; exact OwnI.nil _ _, HB.out.trans (HB2.out.mono HB.out.size)⟩
  | true =>
   have HA : Aside0 (ansEvadersOf n xs t = (evTo n xs t (2 ^ n), 0)) := ⟨by unfold ansEvadersOf; rw [hx]; show (if treeOk n t = true then _ else _) = _; rw [hto]; rfl⟩
   rw [show treeOk (n : Int).toNat t = true from hto] at HM
   have HC := Aside0.mk hc
   have HTO := Aside0.mk hto
   have hb64 := pw6 hc.hi
   have hn := hc.hi
   obtain ⟨N, hN⟩ : ∃ N : Nat, N = 2 ^ n := ⟨_, rfl⟩
   have HFU : Aside0 (∀ (u : Value) (W : World), Calls Tryz.prog 153 #[cx n u] W fun e w' => e = .returned (.int .i64 ((N : Int) - 1)) ∧ Below W.heap.size W w') := ⟨fun u W => by rw [hN]; exact full n hn _ W⟩
   rw [← hN] at HA hb64
   clear hx hto hc hN
   go_enter Tryz.func63, Tryz.ntmps63
   go_wp2_with (first | (go_at_call 188; rw [← hw1]; clear hw1; refine HM.out.mono ?_; rintro e w2 ⟨rfl, hb⟩; have HB2 := Aside0.mk hb; replace c0 := pw_cell_below hb c0; replace c1 := pw_cell_below hb c1; replace ct := pw_cell_below hb ct; clear hb) | (go_at_call 153; refine (HFU.out _ _).mono ?_; rintro e w3 ⟨rfl, hb⟩; have HB3 := Aside0.mk (HB2.out.trans (hb.mono HB2.out.size)); replace c0 := pw_cell_below hb c0; replace c1 := pw_cell_below hb c1; replace ct := pw_cell_below hb ct; clear hb))
   go_loopw [7, 20] (fun s7 s20 wr => ∃ iv : Nat, s20 = .int .i64 iv ∧ iv ≤ N ∧ Aside0 (OwnI w3.heap.size wr s7 (evTo n xs t iv)) ∧ Aside0 (Below w3.heap.size w3 wr)) (fun _ s20 _ => N - (intOf s20).toNat)
   case atStart => exact ⟨0, rfl, Nat.zero_le _, ⟨OwnI.nil _ _⟩, ⟨Below.refl _ _⟩⟩
   case round =>
    obtain ⟨iv, rfl, hi, HO, HBr⟩ := hrel
    have c0 := pw_cell_below HBr.out c0
    have c1 := pw_cell_below HBr.out c1
    have ct := pw_cell_below HBr.out ct
    have HBw := Aside0.mk (HB3.out.trans (HBr.out.mono HB3.out.size))
    obtain ⟨A8, d8, rfl, -⟩ := id HO.out.read
    by_cases hlt : iv < N
    ·have HWY := Aside0.mk (fun (W : World) hk hv => wayI n (.slice A1 xs.length d1) xs HC.out (.slice A2 t.length d2) t iv (by omega) W hk hv HTO.out)
     have HH := Aside0.mk (fun h => evTo_hit (n := n) (xs := xs) (t := t) (k := iv) h)
     have HM2 := Aside0.mk (fun h => evTo_miss (n := n) (xs := xs) (t := t) (k := iv) h)
     have hwl := wayL_len t iv n
     have HWL := Aside0.mk hwl
     have hnl : neededV n xs t iv ≤ n := firstTold_le _ _ _ _ _
     obtain ⟨nd, hnd⟩ : ∃ nd, nd = neededV n xs t iv := ⟨_, rfl⟩
     rw [← hnd] at HWY HH HM2 hnl
     clear hnd hwl
     by_cases hq : nd = n
     ·have HK2 := Aside0.mk (HH.out hq)
      have hqb : ((nd : Int) == (n : Int)) = true := by rw [hq]; exact beq_self_eq_true _
      clear hq
      go_wp2_with (first | (go_at_call 209; refine (HWY.out _ (HK.out.below HBw.out) (HV.out.below HBw.out)).mono ?_; rintro e w5 ⟨u5, rfl, ho, hb⟩; obtain ⟨A5, d5, rfl, -⟩ := ho.read; rw [HWL.out]; have HO5 := Aside0.mk (HO.out.below hb); have HB5 := Aside0.mk (HBr.out.trans (hb.mono HBr.out.size)); clear ho hb) | (at_builtin; refine app_own (w0 := w3) w3.heap.size rfl (.tmp 34) (.tmp 36) rfl _ (evTo n xs t iv) (iv : Int) rfl rfl HO5.out HB5.out HB5.out.size (by have := evTo_len n xs t iv; omega) ?_; intro v1 w6 ho hb hg hat; have HO6 := Aside0.mk ho; have HB6 := Aside0.mk hb; clear ho hb hg hat))
      go_roundw
      case rel => exact ⟨iv + 1, by go_num, by omega, by rw [HK2.out]; exact HO6, HB6⟩
      case measure => simp [intOf]; omega
     ·have HK2 := Aside0.mk (HM2.out hq)
      have hqb : ((nd : Int) == (n : Int)) = false := by rw [beq_eq_false_iff_ne]; omega
      clear hq
      go_wp2_with (first | (go_at_call 209; refine (HWY.out _ (HK.out.below HBw.out) (HV.out.below HBw.out)).mono ?_; rintro e w5 ⟨u5, rfl, ho, hb⟩; obtain ⟨A5, d5, rfl, -⟩ := ho.read; rw [HWL.out]; have HO5 := Aside0.mk (HO.out.below hb); have HB5 := Aside0.mk (HBr.out.trans (hb.mono HBr.out.size)); clear ho hb))
      go_roundw
      case rel => exact ⟨iv + 1, by go_num, by omega, by rw [HK2.out]; exact HO5, HB5⟩
      case measure => simp [intOf]; omega
    ·have e : iv = N := by omega
     have HE := Aside0.mk e
     have HZ := Aside0.mk HB3.out.size
     clear e
     go_wp2
     go_ret2
     refine ⟨_, by rw [HA.out]; rfl, ?_, HB.out.trans (HBw.out.mono HB.out.size)⟩
     rw [HA.out]
     show OwnI _ _ _ (evTo n xs t N)
     rw [← HE.out]
     exact HO.out.lower (by have := HB.out.size; have := HZ.out; omega)
end Go.Proofs.YtkggchklmpmgpaaGreat.H
