/- A region of open order with stores anywhere among its operations: what is known is told by what has been done; assignments count as operations. Sources of numbers: l01From, l01Next, l01Pick. Sources of numbers: l01Pick, l01From; texts of bytes. Sets that make a complex: plain word. ImageComplex of the reference. -/
import Derived.Test.YtomofijniefelaaGreatKFnFlows1
import Derived.Test.YtomofijniefelaaGreatKFnFlows2
import Derived.Test.YtomofijniefelaaGreatKFnFlows3
import Derived.Test.YtomofijniefelaaGreatKFnFlows4
import Derived.Test.YtomofijniefelaaGreatKFnFlows5
import Derived.Test.YtomofijniefelaaGreatKFnFlows6
import Derived.Test.YtomofijniefelaaGreatKFnFlows7
import Derived.Test.YtomofijniefelaaGreatKFnFlows8
import Derived.Test.YtomofijniefelaaGreatKFnFlows9
import Derived.Test.YtomofijniefelaaGreatKFnFlows10
import Derived.Test.YtomofijniefelaaGreatKFnFlows11
import Derived.Test.YtomofijniefelaaGreatKFnFlows12
import Derived.Test.YtomofijniefelaaGreatKFnFlows13
import Derived.Test.YtomofijniefelaaGreatKFnFlows14
import Derived.Test.YtomofijniefelaaGreatKFnFlows15

namespace Go.Proofs.YtomofijniefelaaGreat.H
open Go.RowKit Go.Proofs.YtomofijniefelaaGreatW.PrintWords Go.Proofs.YtomofijniefelaaGreatW.PrintLast
set_option linter.unusedVariables false
set_option linter.unusedSimpArgs false
/-- the slots; a store has one beyond the frame -/
def dsN (N : Nat) (l : List Oper) : List Tmp := l.zipIdx.map fun x => x.1.dst.getD (N + x.2)
def sOk (N : Nat) (qt : Nat → Bool) (l : List Oper) (B : List Nat) (n : Nat) : Bool :=
 l.zipIdx.all (fun x => x.1.dst.isSome || !qt x.2) && decide (n ≤ N) && l.all (fun o => o.guard.isNone) && decide (dsN N l).Nodup && l.all (fun o => match o.dst with | none => true | some d => decide (d < n)) && waitsOk (rtab .any l.toArray).2 B && baseOk (rtab .any l.toArray).2 (List.range l.length)
theorem put_far {a : Act} {d : Tmp} {v : Value} (h : a.tmps.size ≤ d) : a.put (some d) v = a := by
 show ({ tmps := a.tmps.setIfInBounds d v, defers := a.defers } : Act) = a
 have e : a.tmps.setIfInBounds d v = a.tmps := by
  rw [Array.setIfInBounds_def, dif_neg (by omega)]
 rw [e]
theorem putAll_selfN : ∀ (ds : List Tmp) (k : Nat) (s : Nat → Value) (a : Act), (∀ j d, ds[j]? = some d → a.tmps[d]? = some (s (k + j)) ∨ a.tmps.size ≤ d) → putAll ds k s a = a
 | [], _, _, _, _ => rfl
 | d :: r, k, s, a, h => by
  unfold putAll
  have h0 := h 0 d rfl
  have e : a.put (some d) (s k) = a := by
   rcases h0 with h0 | h0
   ·have h1 := putAll_self [d] k s a (fun j d' hj => by
     cases j with
     | zero => cases hj; exact h0
     | succ j => cases hj)
    exact h1
   ·exact put_far h0
  rw [e]
  exact putAll_selfN r (k + 1) s a (fun j d' hj => by
   have := h (j + 1) d' hj
   rwa [show k + (j + 1) = k + 1 + j by omega] at this)
/-- each step -/
def sSteps (N : Nat) (qt : Nat → Bool) (V : Nat → Value → Prop) (I : (Nat → Bool) → (Nat → Value) → World → Prop) (P : Program) (l : List Oper) (B : List Nat) (a : Act) : Nat → List Oper → Prop
 | _, [] => True
 | i, o :: r => (∀ s b w1, I b s w1 → b i = false → (∀ j, (decide (j < l.length) && (B.getD i 0).testBit j) = true → b j = true ∧ (qt j = true → V j (s j))) →
   (∀ j, (decide (j < l.length) && (B.getD j 0).testBit i) = true → s j = (a.tmps[(dsN N l)[j]?.getD 0]?).getD undef) →
   match o.dst with
   | none => ∃ w', (execOp (putAll (dsN N l) 0 s a).eval o).run P w1 = .ok .skip w' ∧ I (markU b i) s w'
   | some _ => ∀ R : Value → World → Prop, (qt i = true → ∀ v, V i v → R v w1) → (qt i = false → ∀ v w', I (markU b i) (upd s i v) w' → R v w') → opGives P o (putAll (dsN N l) 0 s a).eval w1 R) ∧ sSteps N qt V I P l B a (i + 1) r
theorem sSteps_at {N : Nat} {qt : Nat → Bool} {V : Nat → Value → Prop} {I : (Nat → Bool) → (Nat → Value) → World → Prop} {P : Program} {l : List Oper} {B : List Nat} {a : Act} : ∀ (r : List Oper) (k : Nat), sSteps N qt V I P l B a k r → ∀ i o, r[i]? = some o →
  ∀ s b w1, I b s w1 → b (k + i) = false → (∀ j, (decide (j < l.length) && (B.getD (k + i) 0).testBit j) = true → b j = true ∧ (qt j = true → V j (s j))) →
   (∀ j, (decide (j < l.length) && (B.getD j 0).testBit (k + i)) = true → s j = (a.tmps[(dsN N l)[j]?.getD 0]?).getD undef) →
   match o.dst with
   | none => ∃ w', (execOp (putAll (dsN N l) 0 s a).eval o).run P w1 = .ok .skip w' ∧ I (markU b (k + i)) s w'
   | some _ => ∀ R : Value → World → Prop, (qt (k + i) = true → ∀ v, V (k + i) v → R v w1) → (qt (k + i) = false → ∀ v w', I (markU b (k + i)) (upd s (k + i) v) w' → R v w') → opGives P o (putAll (dsN N l) 0 s a).eval w1 R
 | [], _, _, _, _, h => by cases h
 | x :: r, k, h, 0, o, ho => by cases ho; exact h.1
 | x :: r, k, h, i + 1, o, ho => by
  have := sSteps_at r (k + 1) h.2 i o ho
  rwa [show k + 1 + i = k + (i + 1) by omega] at this
theorem wp_region_s {P : Program} {id : Nat} {Q : Exit → Act → World → Prop} {a : Act} {w : World} {l : List Oper} (N : Nat) (qt : Nat → Bool) (V : Nat → Value → Prop) (I : (Nat → Bool) → (Nat → Value) → World → Prop) (B : List Nat) (hm : P.follows .mixedOrders = true) (hok : sOk N qt l B a.tmps.size = true)
  (h0 : ∀ b s, (∀ i, b i = false) → I b s w.drew)
  (hI : ∀ i b s v w1, qt i = true → I b s w1 → I (markU b i) (upd s i v) w1)
  (hs : sSteps N qt V I P l B a 0 l)
  (hend : ∀ s b w1, I b s w1 → (∀ i, i < l.length → b i = true) → (∀ i o, l[i]? = some o → o.dst ≠ none → qt i = true → V i (s i)) → Q .normal (putAll (dsN N l) 0 s a) w1) : (Code.region id l.toArray true).wp P Q a w := by
 simp only [sOk, Bool.and_eq_true] at hok
 obtain ⟨⟨⟨⟨⟨⟨hqs, hN⟩, hg⟩, h2⟩, h3⟩, h4⟩, h5⟩ := hok
 have hN : a.tmps.size ≤ N := of_decide_eq_true hN
 have hnd : (dsN N l).Nodup := of_decide_eq_true h2
 have hTl : (rtab .any l.toArray).2.length = l.length := by rw [rtab_length]; simp
 have hds : ∀ (i : Nat) (o : Oper), l[i]? = some o → (dsN N l)[i]? = some (o.dst.getD (N + i)) := by
  intro i o ho
  unfold dsN
  rw [List.getElem?_map, List.getElem?_zipIdx, ho]
  simp
 have hrange : ∀ j, j < l.length → (List.range l.length).contains j = true := fun j hj => by simpa using hj
 refine wp_region_last_drew (S := fun _ => True) (ds := []) hm trivial (fun _ => ?_)
 refine inv_ (T := rtab .any l.toArray) (B := B) (List.range l.length) (fun b a' w' => ∃ s, a' = putAll (dsN N l) 0 s a ∧ I b s w' ∧ (∀ i o, l[i]? = some o → o.dst ≠ none → b i = true → qt i = true → V i (s i)) ∧ ∀ i, i < l.length → b i = false → s i = (a.tmps[(dsN N l)[i]?.getD 0]?).getD undef) rfl h4 h5 ?_ ?_ ?_ ?_
 ·rw [hTl, Bool.and_eq_true, beq_iff_eq, beq_iff_eq]
  refine ⟨?_, by simp⟩
  apply List.ext_getElem
  ·simp [lof]
  ·intro i hi1 hi2
   have hi : i < l.length := by simpa [lof] using hi1
   simp [lof, hi]
 ·refine ⟨fun k => (a.tmps[(dsN N l)[k]?.getD 0]?).getD undef, ?_, h0 _ _ (fun _ => rfl), (fun _ _ _ _ h => by cases h), fun _ _ _ => rfl⟩
  refine (putAll_selfN _ _ _ _ (fun j d hj => ?_)).symm
  by_cases hd : d < a.tmps.size
  ·exact .inl (by simp [hj, hd])
  ·exact .inr (by omega)
 ·intro i hi b a' w' ⟨s, ha, hIb, hv, hq0⟩ hbi hon hoff
  subst ha
  have hil : i < l.length := List.mem_range.1 hi
  have ho : l[i]? = some l[i] := List.getElem?_eq_getElem hil
  refine ⟨l[i], by simp, fun K hK => ?_⟩
  have hK' := Shut.out hK
  have hgi : l[i].guard = none := by
   have := List.all_eq_true.1 hg l[i] (List.mem_of_getElem? ho)
   cases hq : l[i].guard with
   | none => rfl
   | some g => rw [hq] at this; cases this
  rw [if_pos (by simp [Region.wanted, hgi])]
  have hup : up b i = markU b i := by
   funext j
   by_cases hji : j = i
   ·subst hji; rw [up_self, markU_self]
   ·rw [up_ne hji, markU_ne b hji]
  have hst := sSteps_at l 0 hs i _ ho s b w' hIb (by rw [Nat.zero_add]; exact hbi) (fun j hj => by
   rw [Nat.zero_add] at hj
   have h6 := Bool.and_eq_true _ _ ▸ hj
   have h7 : j < l.length := of_decide_eq_true h6.1
   have h8 : b j = true := hon j (by rw [hrange j h7]; exact h6.2)
   refine ⟨h8, fun hqj => ?_⟩
   refine hv j l[j] (List.getElem?_eq_getElem h7) (fun hn => ?_) h8 hqj
   have h9 := List.all_eq_true.1 hqs (l[j], j) (by rw [List.mem_zipIdx_iff_getElem?]; exact List.getElem?_eq_getElem h7)
   simp only [hn, hqj, Option.isSome_none, Bool.not_true, Bool.or_false] at h9
   cases h9) (fun j hj => by
   rw [Nat.zero_add] at hj
   have h6 := Bool.and_eq_true _ _ ▸ hj
   have h7 : j < l.length := of_decide_eq_true h6.1
   exact hq0 j h7 (hoff j (by rw [hrange j h7]; exact h6.2)))
  cases hdi : l[i].dst with
  | none =>
   rw [hdi] at hst
   rw [Nat.zero_add] at hst
   obtain ⟨w2, hr, hI2⟩ := hst
   unfold Oper.wp
   rw [hr]
   show K ((putAll (dsN N l) 0 s a).put l[i].dst undef) w2
   rw [hdi]
   refine hK' _ _ ⟨s, rfl, by rw [hup]; exact hI2, fun j o hj hne hbj hqj => ?_, fun j hj hbj => ?_⟩
   ·by_cases hji : j = i
    ·subst hji; rw [ho] at hj; cases hj; exact absurd hdi hne
    ·rw [up_ne hji] at hbj; exact hv j o hj hne hbj hqj
   ·have hji : j ≠ i := by
     rintro rfl
     rw [up_self] at hbj
     cases hbj
    rw [up_ne hji] at hbj
    exact hq0 j hj hbj
  | some d =>
   have hgo : ∀ v w2, I (markU b i) (upd s i v) w2 → (qt i = true → V i v) → K ((putAll (dsN N l) 0 s a).put l[i].dst v) w2 := by
    intro v w2 hI2 hV2
    refine hK' _ _ ⟨upd s i v, ?_, by rw [hup]; exact hI2, fun j o hj hne hbj hqj => ?_, fun j hj hbj => ?_⟩
    ·rw [hdi]
     exact putAll_put _ _ _ _ _ _ _ hnd (Nat.zero_le _) (by rw [Nat.sub_zero, hds i _ ho, hdi]; rfl)
    ·by_cases hji : j = i
     ·subst hji
      rw [upd_self]
      exact hV2 hqj
     ·rw [upd_ne s v hji]
      rw [up_ne hji] at hbj
      exact hv j o hj hne hbj hqj
    ·have hji : j ≠ i := by
      rintro rfl
      rw [up_self] at hbj
      cases hbj
     rw [upd_ne s v hji]
     rw [up_ne hji] at hbj
     exact hq0 j hj hbj
   rw [hdi] at hst
   rw [Nat.zero_add] at hst
   exact opGives_wp (hst (fun v w2 => K ((putAll (dsN N l) 0 s a).put l[i].dst v) w2) (fun hqi v hvi => hgo v w' (hI i b s v w' hqi hIb) (fun _ => hvi)) (fun hqi v w2 hI2 => hgo v w2 hI2 (fun h => by rw [hqi] at h; cases h)))
 ·intro b a' w' hall hz
  obtain ⟨s, ha, hIb, hv, -⟩ := hz
  subst ha
  exact hend s b w' hIb (fun i hi => hall i (hrange i hi)) (fun i o hi hne => hv i o hi hne (hall i (hrange i (List.getElem?_eq_some_iff.1 hi).1)))
/-- block bs is a source of numbers -/
def Src (bs : Nat) (w : World) : Prop :=
 ∃ (A : Option Addr) (n c at_ : Nat) (h : Nat), w.heap[bs]? = some (.cells #[.slice A n c, .int .i64 at_, .int .u64 h] 206) ∧ at_ ≤ n ∧ n ≤ 4096 ∧ h < 18446744073709551616 ∧
  (0 < n → ∃ ad : Addr, A = some ad ∧ ad.block < bs ∧ ∀ i, i < n → ∃ y : Nat, y < 256 ∧ w.cell? (ad.add i) = some (.int .u8 y))
theorem Src.below {bs : Nat} {w w' : World} (h : Src bs w) (hb : Below w.heap.size w w') : Src bs w' := by
 obtain ⟨A, n, c, at_, hh, h1, h2, h3, h4, h5⟩ := h
 refine ⟨A, n, c, at_, hh, by rw [hb.block bs (blk_lt h1)]; exact h1, h2, h3, h4, fun hn => ?_⟩
 obtain ⟨ad, e, hne, hc⟩ := h5 hn
 exact ⟨ad, e, hne, fun i hi => by obtain ⟨y, hy, hcy⟩ := hc i hi; exact ⟨y, hy, pw_cell_below hb hcy⟩⟩
theorem Src.lt {bs : Nat} {w : World} (h : Src bs w) : bs < w.heap.size := by
 obtain ⟨A, n, c, at_, hh, h1, -⟩ := h
 exact blk_lt h1
/-- what lies above the source does not count -/
theorem Src.up {bs B : Nat} {w w' : World} (h : Src bs w) (hb : Below B w w') (hB : bs < B) : Src bs w' := by
 obtain ⟨A, n, c, at_, hh, h1, h2, h3, h4, h5⟩ := h
 refine ⟨A, n, c, at_, hh, by rw [hb.block bs hB]; exact h1, h2, h3, h4, fun hn => ?_⟩
 obtain ⟨ad, e, hne, hc⟩ := h5 hn
 refine ⟨ad, e, hne, fun i hi => ?_⟩
 obtain ⟨y, hy, hcy⟩ := hc i hi
 refine ⟨y, hy, ?_⟩
 have hbl : (ad.add i).block = ad.block := by unfold Addr.add; split <;> rfl
 rw [World.cell?_of_block (w := w) (hb.block _ (by rw [hbl]; omega))]; exact hcy
/-- a draw turns the source alone -/
def Dw (bs : Nat) (w w' : World) : Prop := w.grownBy w' (some bs) ∧ Src bs w'
theorem wrapUn {n : Nat} (h : n < 18446744073709551616) : IntKind.u64.wrap (n : Int) = n := by
 show ((n : Int) % 18446744073709551616) = n
 omega
theorem ofIntU {a : Nat} (h : a < 18446744073709551616) : (BitVec.ofInt 64 (a : Int)).toNat = a := by
 rw [BitVec.ofInt_natCast, BitVec.toNat_ofNat]; exact Nat.mod_eq_of_lt h
theorem and_u64 (a b : Nat) (ha : a < 18446744073709551616) (hb : b < 18446744073709551616) : bits .and .u64 (a : Int) (b : Int) = ((a &&& b : Nat) : Int) := by
 have hx : a &&& b < 2 ^ 64 := Nat.and_lt_two_pow _ hb
 show IntKind.u64.wrap ((BitVec.ofInt 64 (a : Int) &&& BitVec.ofInt 64 (b : Int)).toNat : Int) = _
 rw [BitVec.toNat_and, ofIntU ha, ofIntU hb, wrapUn (by omega)]
theorem wrapU_nat (x : Int) : ∃ m : Nat, IntKind.u64.wrap x = (m : Int) ∧ m < 18446744073709551616 := by
 refine ⟨(IntKind.u64.wrap x).toNat, ?_, ?_⟩
 ·have : 0 ≤ IntKind.u64.wrap x := by rw [IntKind.wrap_u64]; omega
  omega
 ·have : IntKind.u64.wrap x < 18446744073709551616 := by rw [IntKind.wrap_u64]; omega
  omega
set_option maxRecDepth 100000 in
set_option maxHeartbeats 2000000 in
theorem next (bs : Nat) (n : Int) (w : World) (hn : n ≤ 1000000) (hs : Src bs w) :
  Calls Tryz.prog 146 #[.pointer (some ⟨bs, 0, none⟩), .int .i64 n] w fun e w' => ∃ r : Int, e = .returned (.int .i64 r) ∧ (n < 1 → r = 0) ∧ (1 ≤ n → 0 ≤ r ∧ r < n) ∧ Dw bs w w' := by
 have HS := Aside0.mk hs
 obtain ⟨A, nn, c, at_, hh, h1, h2, h3, h4, h5⟩ := hs
 by_cases hn1 : n < 1
 ·go_enter Tryz.func146, Tryz.ntmps146
  go_wp2
  go_ret
  exact ⟨0, rfl, fun _ => rfl, fun h => by omega, grown_below (Below.refl _ _) _, HS.out⟩
 ·have H1 := Aside0.mk h1
  have c0 : w.cell? ⟨bs, 0, none⟩ = some (.slice A nn c) := blk_cell h1 0
  have c1 : w.cell? ⟨bs, 1, none⟩ = some (.int .i64 at_) := blk_cell h1 1
  have c2 : w.cell? ⟨bs, 2, none⟩ = some (.int .u64 hh) := blk_cell h1 2
  have f2 : w.frozen? ⟨bs, 2, none⟩ = false := blk_frozen h1 2
  obtain ⟨g, hg, hg2⟩ := wrapU_nat (IntKind.u64.wrap ((hh : Int) * 6364136223846793005) + 1442695040888963407)
  obtain ⟨z, hz⟩ : ∃ z : Nat, z = (g / 8589934592) &&& 16777215 := ⟨_, rfl⟩
  have hz2 : z ≤ 16777215 := by rw [hz]; exact Nat.and_le_right
  have hx : bits .and .u64 ((g : Int) / 8589934592) 16777215 = (z : Int) := by
   rw [show ((g : Int) / 8589934592) = ((g / 8589934592 : Nat) : Int) by omega, show (16777215 : Int) = ((16777215 : Nat) : Int) from rfl, and_u64 _ _ (by omega) (by omega), hz]
  clear hz
  obtain ⟨W1, hW1⟩ : ∃ W1, W1 = w.setCell ⟨bs, 2, none⟩ (.int .u64 (g : Int)) := ⟨_, rfl⟩
  have k1 : W1.heap[bs]? = some (.cells #[.slice A nn c, .int .i64 at_, .int .u64 (g : Int)] 206) := by rw [hW1]; exact blk_put H1.out 2 _ rfl
  have g1 : w.grownBy W1 (some bs) := by rw [hW1]; exact set_grown' _ _ _ _
  have K1 := Aside0.mk k1
  have G1 := Aside0.mk g1
  have d0 : W1.cell? ⟨bs, 0, none⟩ = some (.slice A nn c) := blk_cell k1 0
  have d1 : W1.cell? ⟨bs, 1, none⟩ = some (.int .i64 at_) := blk_cell k1 1
  have x0 : ∀ x : Ext W1, x.1.cell? ⟨bs, 0, none⟩ = some (.slice A nn c) := fun x => Ext.cell d0 x
  have x1 : ∀ x : Ext W1, x.1.cell? ⟨bs, 1, none⟩ = some (.int .i64 at_) := fun x => Ext.cell d1 x
  have HD := Aside0.mk (fun (hn : 0 < nn) => by
   obtain ⟨ad, e, hne, hc⟩ := h5 hn
   exact (⟨ad, e, hne, hc⟩ : ∃ ad : Addr, A = some ad ∧ ad.block < bs ∧ ∀ i, i < nn → ∃ y : Nat, y < 256 ∧ w.cell? (ad.add i) = some (.int .u8 y)))
  have hn0 : ¬ (n = 0) := by omega
  have HT := Aside0.mk (fun (x : Nat) (hxx : x ≤ 16777470) => (show 0 ≤ Int.tmod (x : Int) n ∧ Int.tmod (x : Int) n < n ∧ -9223372036854775808 ≤ Int.tmod (x : Int) n ∧ Int.tmod (x : Int) n ≤ 9223372036854775807 from by
   have h1 := Int.tmod_nonneg n (show (0 : Int) ≤ (x : Int) by omega)
   have h2 := Int.tmod_lt_of_pos (x : Int) (show (0 : Int) < n by omega)
   omega))
  have hmx : Tryz.prog.follows .mixedOrders = true := by kernel_rfl
  have hn1' : (1 : Int) ≤ n := by omega
  clear h1 k1 g1 h5 d0 d1
  by_cases hat : at_ < nn
  ·have hatI : (at_ : Int) < (nn : Int) := by omega
   obtain ⟨ad, rfl, hne, hby⟩ := HD.out (by omega)
   obtain ⟨y, hy, hyc⟩ := hby at_ hat
   have HBY := Aside0.mk (fun i hi => by
    obtain ⟨y, h1, h2⟩ := hby i hi
    exact (⟨y, h1, h2⟩ : ∃ y : Nat, y < 256 ∧ w.cell? (ad.add i) = some (.int .u8 y)))
   have HNE := Aside0.mk hne
   have hblk : ∀ i, (ad.add i).block = ad.block := fun i => by unfold Addr.add; split <;> rfl
   have HBLK := Aside0.mk hblk
   have hyc1 := grown_cell G1.out hyc (by rw [hblk]; exact Nat.ne_of_lt hne)
   have x2 : ∀ x : Ext W1, x.1.cell? (ad.add at_) = some (.int .u8 y) := fun x => Ext.cell hyc1 x
   clear hby hne hblk hyc1 hyc
   go_enter Tryz.func146, Tryz.ntmps146
   go_wp2
   rw [← hW1]
   clear hW1
   refine wp_region_ext (by kernel_rfl) (by kernel_rfl) ?_
   repeat (go_big_quiet_step (fail))
   refine wpQuiet_nil ?_
   rintro _ ⟨v, rfl⟩
   obtain ⟨W2, hW2⟩ : ∃ W2, W2 = v.1 := ⟨_, rfl⟩
   have HB2 : Aside0 (Below W1.heap.size W1 W2) := ⟨by rw [hW2]; exact v.2⟩
   have e0 := x0 ⟨W2, HB2.out⟩
   have e1 := x1 ⟨W2, HB2.out⟩
   have e2 := x2 ⟨W2, HB2.out⟩
   rw [← hW2]
   clear hW2 x0 x1 x2
   have x0 : ∀ x : Ext W2, x.1.cell? ⟨bs, 0, none⟩ = some (.slice (some ad) nn c) := fun x => Ext.cell e0 x
   have x1 : ∀ x : Ext W2, x.1.cell? ⟨bs, 1, none⟩ = some (.int .i64 at_) := fun x => Ext.cell e1 x
   have x2 : ∀ x : Ext W2, x.1.cell? (ad.add at_) = some (.int .u8 y) := fun x => Ext.cell e2 x
   clear e0 e1 e2
   go_wp2
   refine wp_region_ext (by kernel_rfl) (by kernel_rfl) ?_
   repeat (go_big_quiet_step (fail))
   refine wpQuiet_nil ?_
   rintro _ ⟨v3, rfl⟩
   obtain ⟨W3, hW3⟩ : ∃ W3, W3 = v3.1 := ⟨_, rfl⟩
   have HB3 : Aside0 (Below W1.heap.size W1 W3) := ⟨by rw [hW3]; exact HB2.out.trans (v3.2.mono HB2.out.size)⟩
   rw [← hW3]
   clear hW3 x0 x1 x2
   have k3 : W3.heap[bs]? = some (.cells #[.slice (some ad) nn c, .int .i64 at_, .int .u64 (g : Int)] 206) := by rw [HB3.out.block bs (blk_lt K1.out)]; exact K1.out
   have K3 := Aside0.mk k3
   have e1 : W3.cell? ⟨bs, 1, none⟩ = some (.int .i64 at_) := blk_cell k3 1
   have f1 : W3.frozen? ⟨bs, 1, none⟩ = false := blk_frozen k3 1
   have HTT := Aside0.mk (HT.out (z + y) (by omega))
   have hzy : wrap64 ((z : Int) + (y : Int)) = (z : Int) + (y : Int) := by unfold wrap64; omega
   have hTw : wrap64 (Int.tmod ((z : Int) + (y : Int)) n) = Int.tmod ((z : Int) + (y : Int)) n := by
    have h1 := HTT.out
    rw [Int.natCast_add] at h1
    unfold wrap64; omega
   have haw : wrap64 ((at_ : Int) + 1) = (at_ : Int) + 1 := by unfold wrap64; omega
   have H234 := Aside0.mk (⟨h2, h3, hg2, hat⟩ : at_ ≤ nn ∧ nn ≤ 4096 ∧ g < 18446744073709551616 ∧ at_ < nn)
   clear k3 h2 h3 h4 hg2 hz2 hy hn hat HT c0 c1 c2 f2 hg hx
   go_wp2
   go_ret
   have hgr : w.grownBy (W3.setCell ⟨bs, 1, none⟩ (.int .i64 ((at_ : Int) + 1))) (some bs) := grown_trans G1.out (grown_trans (grown_below HB3.out _) (set_grown' _ _ _ _))
   have h1 := HTT.out
   rw [Int.natCast_add] at h1
   obtain ⟨i1, i2, i3, i4⟩ := H234.out
   refine ⟨_, rfl, fun h => by omega, fun _ => ⟨Int.emod_nonneg _ hn0, Int.emod_lt_of_pos _ (by omega)⟩, hgr, ⟨some ad, nn, c, at_ + 1, g, ?_, by omega, i2, i3, fun _ => ⟨ad, rfl, HNE.out, fun i hi => ?_⟩⟩⟩
   ·rw [Int.natCast_add]; exact blk_put K3.out 1 _ rfl
   ·obtain ⟨y', h5, h6⟩ := HBY.out i hi
    exact ⟨y', h5, grown_cell hgr h6 (by rw [HBLK.out]; exact Nat.ne_of_lt HNE.out)⟩
  ·have hatI : ¬ (at_ : Int) < (nn : Int) := by omega
   have HTT := Aside0.mk (HT.out z (by omega))
   have hTw : wrap64 (Int.tmod (z : Int) n) = Int.tmod (z : Int) n := by
    have h1 := HTT.out
    unfold wrap64; omega
   go_enter Tryz.func146, Tryz.ntmps146
   go_wp2
   rw [← hW1]
   clear hW1
   refine wp_region_ext (by kernel_rfl) (by kernel_rfl) ?_
   repeat (go_big_quiet_step (fail))
   refine wpQuiet_nil ?_
   rintro _ ⟨v, rfl⟩
   obtain ⟨W2, hW2⟩ : ∃ W2, W2 = v.1 := ⟨_, rfl⟩
   have HB2 : Aside0 (Below W1.heap.size W1 W2) := ⟨by rw [hW2]; exact v.2⟩
   rw [← hW2]
   have H234 := Aside0.mk (⟨h2, h3, hg2⟩ : at_ ≤ nn ∧ nn ≤ 4096 ∧ g < 18446744073709551616)
   clear hW2 x0 x1 h2 h3 h4 hg2 hz2 hn hat HT c0 c1 c2 f2 hg hx
   go_wp2
   go_ret
   have hgr : w.grownBy W2 (some bs) := grown_trans G1.out (grown_below HB2.out _)
   have h1 := HTT.out
   obtain ⟨i1, i2, i3⟩ := H234.out
   refine ⟨_, rfl, fun h => by omega, fun _ => ⟨Int.emod_nonneg _ hn0, Int.emod_lt_of_pos _ (by omega)⟩, hgr, ⟨A, nn, c, at_, g, ?_, i1, i2, i3, fun h0 => ?_⟩⟩
   ·rw [HB2.out.block bs (blk_lt K1.out)]; exact K1.out
   ·obtain ⟨ad, e, hne, hby⟩ := HD.out h0
    refine ⟨ad, e, hne, fun i hi => ?_⟩
    obtain ⟨y', h5, h6⟩ := hby i hi
    exact ⟨y', h5, grown_cell hgr h6 (by rw [show (ad.add i).block = ad.block by unfold Addr.add; split <;> rfl]; exact Nat.ne_of_lt hne)⟩
theorem OwnI.rdk {bs b : Nat} {w : World} {v : Value} {xs : List Int} (h : OwnI b w v xs) (hb : bs < b) : RdK bs w v xs :=
 fun w' hg => (h.grown hg (fun k hk e => by have := h.base k hk; have := Option.some.inj e; omega)).read
theorem lit_own (W : World) (b : Nat) (xs : List Int) (hb : b ≤ W.heap.size) (hl : xs.length ≤ 1000) : OwnI b (W.alloc (.cells (xs.map (Value.int .i64)).toArray 2)) (.slice (some ⟨W.heap.size, 0, none⟩) xs.length xs.length) xs := by
 have h := own_lit W b 2 .i64 xs hb (Nat.le_trans hl (by decide))
 exact OwnI.of_row (b := b) h (Nat.le_refl _)
theorem Dw.refl {bs : Nat} {w : World} (h : Src bs w) : Dw bs w w := ⟨grown_below (Below.refl _ _) _, h⟩
theorem Dw.trans {bs : Nat} {a b c : World} (h : Dw bs a b) (k : Dw bs b c) : Dw bs a c := ⟨grown_trans h.1 k.1, k.2⟩
theorem Dw.of_below {bs : Nat} {w w' : World} (h : Src bs w) (hb : Below w.heap.size w w') : Dw bs w w' := ⟨grown_below hb _, h.below hb⟩
theorem Dw.then_below {bs : Nat} {a b c : World} (h : Dw bs a b) (hb : Below b.heap.size b c) : Dw bs a c := h.trans (Dw.of_below h.2 hb)
theorem Dw.size {bs : Nat} {a b : World} (h : Dw bs a b) : a.heap.size ≤ b.heap.size := h.1.size
set_option maxRecDepth 100000 in
set_option maxHeartbeats 2000000 in
theorem pick (bs : Nat) (v : Value) (l : List Int) (w : World) (hs : Src bs w) (hv : RdK bs w v l) (h1 : 1 ≤ l.length) (h2 : l.length ≤ 1000) :
  Calls Tryz.prog 255 #[.pointer (some ⟨bs, 0, none⟩), v] w fun e w' => ∃ r : Int, e = .returned (.int .i64 r) ∧ r ∈ l ∧ Dw bs w w' := by
 have HS := Aside0.mk hs
 have HV := Aside0.mk hv
 obtain ⟨A1, d1, rfl, -⟩ := id hv.read
 clear hs hv
 go_enter Tryz.func255, Tryz.ntmps255
 go_wp2_with (first | (go_at_call 146; refine (next bs (l.length : Int) _ (by omega) HS.out).mono ?_; rintro e w2 ⟨r, rfl, -, hr, hd⟩; have hr := hr (by omega); have HD := Aside0.mk hd; obtain ⟨k, rfl⟩ : ∃ k : Nat, r = k := ⟨r.toNat, by omega⟩; have hk : k < l.length := (by omega); obtain ⟨A2, d2, e2, -, hrd⟩ := (HV.out.go hd.1).read; cases e2; obtain ⟨ad, y, rfl, hcell, HY⟩ := ReadI.get hrd hk; have HM := Aside0.mk (mem_at hk HY.out); clear hd hrd))
 go_ret
 exact ⟨y, rfl, HM.out, HD.out⟩
/-- a slice of bytes that can be read -/
def ReadY (w : World) (v : Value) (n : Nat) : Prop := ∃ (A : Option Addr) (c : Nat), v = .slice A n c ∧ (0 < n → ∃ ad : Addr, A = some ad ∧ ∀ i, i < n → ∃ y : Nat, y < 256 ∧ w.cell? (ad.add i) = some (.int .u8 y))
theorem ReadY.below {w w' : World} {v : Value} {n : Nat} (h : ReadY w v n) (hb : Below w.heap.size w w') : ReadY w' v n := by
 obtain ⟨A, c, e, h1⟩ := h
 refine ⟨A, c, e, fun hn => ?_⟩
 obtain ⟨ad, ea, h2⟩ := h1 hn
 exact ⟨ad, ea, fun i hi => by obtain ⟨y, hy, hc⟩ := h2 i hi; exact ⟨y, hy, pw_cell_below hb hc⟩⟩
theorem cell_lt {w : World} {a : Addr} {v : Value} (hc : w.cell? a = some v) : a.block < w.heap.size := by
 rcases Nat.lt_or_ge a.block w.heap.size with h' | h'
 ·exact h'
 ·simp [World.cell?, Array.getElem?_eq_none h'] at hc
theorem add_block (ad : Addr) (i : Nat) : (ad.add i).block = ad.block := by unfold Addr.add; split <;> rfl
set_option maxRecDepth 100000 in
set_option maxHeartbeats 2000000 in
theorem srcFrom (v : Value) (n : Nat) (hn : n ≤ 4096) (w : World) (hv : ReadY w v n) :
  Calls Tryz.prog 117 #[v] w fun e w' => e = .returned (.pointer (some ⟨w.heap.size, 0, none⟩)) ∧ Src w.heap.size w' ∧ Below w.heap.size w w' := by
 have HV := Aside0.mk hv
 obtain ⟨A, c, rfl, h1⟩ := hv
 have H1 := Aside0.mk h1
 obtain ⟨h0, hh0, hh0'⟩ := wrapU_nat (13481 + (n : Int))
 have hnu : IntKind.u64.wrap (n : Int) = (n : Int) := wrapUn (by omega)
 obtain ⟨w1, hw1⟩ : ∃ w1, w1 = w.alloc (.cells #[.slice A n c, .int .i64 0, .int .u64 (h0 : Int)] 206) := ⟨_, rfl⟩
 have hk1 : w1.heap[w.heap.size]? = some (.cells #[.slice A n c, .int .i64 0, .int .u64 (h0 : Int)] 206) := by rw [hw1]; exact heap_alloc_new w _
 have HK1 := Aside0.mk hk1
 have HB1 : Aside0 (Below w.heap.size w w1) := ⟨by rw [hw1]; exact Below.alloc (Below.refl _ _) (Nat.le_refl _) _⟩
 have hmx : Tryz.prog.follows .mixedOrders = true := by kernel_rfl
 have HHL := Aside0.mk hh0'
 clear h1 hk1 hh0'
 go_enter Tryz.func117, Tryz.ntmps117
 go_wp2
 rw [← hw1]
 clear hw1
 go_loopw [4] (fun s4 wr => ∃ k hh : Nat, s4 = .int .i64 k ∧ k ≤ n ∧ hh < 18446744073709551616 ∧ Aside0 (wr.heap[w.heap.size]? = some (.cells #[.slice A n c, .int .i64 0, .int .u64 (hh : Int)] 206)) ∧ Aside0 (Below w.heap.size w wr)) (fun s4 _ => n - (intOf s4).toNat)
 case atStart => exact ⟨0, h0, rfl, Nat.zero_le _, HHL.out, HK1, HB1⟩
 case round =>
  obtain ⟨k, hh, rfl, hk, hhl, HKr, HBr⟩ := hrel
  have d2 : wr.cell? ⟨w.heap.size, 2, none⟩ = some (.int .u64 (hh : Int)) := blk_cell HKr.out 2
  by_cases hlt : k < n
  ·have hltI : (k : Int) < (n : Int) := by omega
   have hlt4 : (k : Int) < 4096 := by omega
   obtain ⟨ad, rfl, hby⟩ := H1.out (by omega)
   obtain ⟨y, hy, hyc0⟩ := hby k hlt
   have hyc := pw_cell_below HBr.out hyc0
   have hyu : IntKind.u64.wrap (y : Int) = (y : Int) := wrapUn (by omega)
   obtain ⟨h9, hh9, hh9'⟩ := wrapU_nat (IntKind.u64.wrap (IntKind.u64.wrap ((hh : Int) * 1099511628211) + (y : Int)) + 173)
   have HH9 := Aside0.mk (⟨hh9, hh9'⟩ : _ ∧ h9 < 18446744073709551616)
   clear hby hyc0 hh9 hh9'
   go_wp2
   refine wp_region_tail 15 (fun i => match i with | 0 => fun v _ => v = .pointer (some ⟨w.heap.size, 0, none⟩) | 1 => fun v _ => v = .pointer (some ⟨w.heap.size, 0, none⟩) | 2 => fun v _ => v = .pointer (some ⟨w.heap.size, 0, none⟩) | 3 => fun v _ => v = .pointer (some ⟨w.heap.size, 2, none⟩) | 4 => fun v _ => v = .int .u64 (hh : Int) | 5 => fun v _ => v = .int .u64 (IntKind.u64.wrap ((hh : Int) * 1099511628211)) | 6 => fun v _ => v = .slice (some ad) n c | 7 => fun v _ => v = .int .i64 (k : Int) | 8 => fun v _ => v = .pointer (some (ad.add k)) | 9 => fun v _ => v = .int .u8 (y : Int) | 10 => fun v _ => v = .int .u64 (y : Int) | 11 => fun v _ => v = .int .u64 (IntKind.u64.wrap (IntKind.u64.wrap ((hh : Int) * 1099511628211) + (y : Int))) | 12 => fun v _ => v = .int .u64 (IntKind.u64.wrap (IntKind.u64.wrap (IntKind.u64.wrap ((hh : Int) * 1099511628211) + (y : Int)) + 173)) | 13 => fun v _ => v = .pointer (some ⟨w.heap.size, 0, none⟩) | 14 => fun v _ => v = .pointer (some ⟨w.heap.size, 2, none⟩) | _ => fun _ _ => True)
    [0, 0, 2, 6, 14, 30, 0, 0, 192, 448, 960, 2046, 4094, 8191, 16383, 32767] hmx (by kernel_rfl) ?st ?steps ?rest
   case st =>
    intro i v w1_ w2_ hb
    match i with
    | 0 | 1 | 2 | 3 | 4 | 5 | 6 | 7 | 8 | 9 | 10 | 11 | 12 | 13 | 14 => exact id
    | n + 15 => exact id
   case steps =>
    refine ⟨?_, ?_, ?_, ?_, ?_, ?_, ?_, ?_, ?_, ?_, ?_, ?_, ?_, ?_, ?_, trivial⟩
    ·intro s w_ hb hd R hR
     generalize hA : putAll _ 0 s _ = A
     have hR' := hR (.pointer (some ⟨w.heap.size, 0, none⟩)) _ (Below.refl _ _) rfl
     clear hR hd
     refine opGives_value ?_ hR'
     subst hA
     simp only [dsOf, List.take, List.map_cons, List.map_nil, Option.getD_some, putAll, Act.put, List.setIfInBounds_toArray, List.set_cons_zero, List.set_cons_succ]
     go_simp
    ·intro s w_ hb hd R hR
     generalize hA : putAll _ 0 s _ = A
     have hR' := hR (.pointer (some ⟨w.heap.size, 0, none⟩)) _ (Below.refl _ _) rfl
     clear hR hd
     refine opGives_value ?_ hR'
     subst hA
     simp only [dsOf, List.take, List.map_cons, List.map_nil, Option.getD_some, putAll, Act.put, List.setIfInBounds_toArray, List.set_cons_zero, List.set_cons_succ]
     go_simp
    ·intro s w_ hb hd R hR
     generalize hA : putAll _ 0 s _ = A
     have e1 : s 1 = _ := hd 1 (by kernel_rfl)
     have hR' := hR (.pointer (some ⟨w.heap.size, 0, none⟩)) _ (Below.refl _ _) rfl
     clear hR hd
     refine opGives_value ?_ hR'
     subst hA
     simp only [dsOf, List.take, List.map_cons, List.map_nil, Option.getD_some, putAll, Act.put, List.setIfInBounds_toArray, List.set_cons_zero, List.set_cons_succ]
     go_simp
    ·intro s w_ hb hd R hR
     generalize hA : putAll _ 0 s _ = A
     have e2 : s 2 = _ := hd 2 (by kernel_rfl)
     have hR' := hR (.pointer (some ⟨w.heap.size, 2, none⟩)) _ (Below.refl _ _) rfl
     clear hR hd
     refine opGives_value ?_ hR'
     subst hA
     simp only [dsOf, List.take, List.map_cons, List.map_nil, Option.getD_some, putAll, Act.put, List.setIfInBounds_toArray, List.set_cons_zero, List.set_cons_succ]
     go_simp
    ·intro s w_ hb hd R hR
     generalize hA : putAll _ 0 s _ = A
     have e3 : s 3 = _ := hd 3 (by kernel_rfl)
     have hh2 := pw_cell_below hb d2
     have hR' := hR (.int .u64 (hh : Int)) _ (Below.refl _ _) rfl
     clear hR hd
     refine opGives_value ?_ hR'
     subst hA
     simp only [dsOf, List.take, List.map_cons, List.map_nil, Option.getD_some, putAll, Act.put, List.setIfInBounds_toArray, List.set_cons_zero, List.set_cons_succ]
     go_simp
    ·intro s w_ hb hd R hR
     generalize hA : putAll _ 0 s _ = A
     have e4 : s 4 = _ := hd 4 (by kernel_rfl)
     have hR' := hR (.int .u64 (IntKind.u64.wrap ((hh : Int) * 1099511628211))) _ (Below.refl _ _) rfl
     clear hR hd
     refine opGives_value ?_ hR'
     subst hA
     simp only [dsOf, List.take, List.map_cons, List.map_nil, Option.getD_some, putAll, Act.put, List.setIfInBounds_toArray, List.set_cons_zero, List.set_cons_succ]
     go_simp
    ·intro s w_ hb hd R hR
     generalize hA : putAll _ 0 s _ = A
     have hR' := hR (.slice (some ad) n c) _ (Below.refl _ _) rfl
     clear hR hd
     refine opGives_value ?_ hR'
     subst hA
     simp only [dsOf, List.take, List.map_cons, List.map_nil, Option.getD_some, putAll, Act.put, List.setIfInBounds_toArray, List.set_cons_zero, List.set_cons_succ]
     go_simp
    ·intro s w_ hb hd R hR
     generalize hA : putAll _ 0 s _ = A
     have hR' := hR (.int .i64 (k : Int)) _ (Below.refl _ _) rfl
     clear hR hd
     refine opGives_value ?_ hR'
     subst hA
     simp only [dsOf, List.take, List.map_cons, List.map_nil, Option.getD_some, putAll, Act.put, List.setIfInBounds_toArray, List.set_cons_zero, List.set_cons_succ]
     go_simp
    ·intro s w_ hb hd R hR
     generalize hA : putAll _ 0 s _ = A
     have e6 : s 6 = _ := hd 6 (by kernel_rfl)
     have e7 : s 7 = _ := hd 7 (by kernel_rfl)
     have hR' := hR (.pointer (some (ad.add k))) _ (Below.refl _ _) rfl
     clear hR hd
     refine opGives_value ?_ hR'
     subst hA
     simp only [dsOf, List.take, List.map_cons, List.map_nil, Option.getD_some, putAll, Act.put, List.setIfInBounds_toArray, List.set_cons_zero, List.set_cons_succ]
     go_simp
    ·intro s w_ hb hd R hR
     generalize hA : putAll _ 0 s _ = A
     have e8 : s 8 = _ := hd 8 (by kernel_rfl)
     have hyc := pw_cell_below hb hyc
     have hR' := hR (.int .u8 (y : Int)) _ (Below.refl _ _) rfl
     clear hR hd
     refine opGives_value ?_ hR'
     subst hA
     simp only [dsOf, List.take, List.map_cons, List.map_nil, Option.getD_some, putAll, Act.put, List.setIfInBounds_toArray, List.set_cons_zero, List.set_cons_succ]
     go_simp
    ·intro s w_ hb hd R hR
     generalize hA : putAll _ 0 s _ = A
     have e9 : s 9 = _ := hd 9 (by kernel_rfl)
     have hR' := hR (.int .u64 (y : Int)) _ (Below.refl _ _) rfl
     clear hR hd
     refine opGives_value ?_ hR'
     subst hA
     simp only [dsOf, List.take, List.map_cons, List.map_nil, Option.getD_some, putAll, Act.put, List.setIfInBounds_toArray, List.set_cons_zero, List.set_cons_succ]
     go_simp
    ·intro s w_ hb hd R hR
     generalize hA : putAll _ 0 s _ = A
     have e5 : s 5 = _ := hd 5 (by kernel_rfl)
     have e10 : s 10 = _ := hd 10 (by kernel_rfl)
     have hR' := hR (.int .u64 (IntKind.u64.wrap (IntKind.u64.wrap ((hh : Int) * 1099511628211) + (y : Int)))) _ (Below.refl _ _) rfl
     clear hR hd
     refine opGives_value ?_ hR'
     subst hA
     simp only [dsOf, List.take, List.map_cons, List.map_nil, Option.getD_some, putAll, Act.put, List.setIfInBounds_toArray, List.set_cons_zero, List.set_cons_succ]
     go_simp
    ·intro s w_ hb hd R hR
     generalize hA : putAll _ 0 s _ = A
     have e11 : s 11 = _ := hd 11 (by kernel_rfl)
     have hR' := hR (.int .u64 (IntKind.u64.wrap (IntKind.u64.wrap (IntKind.u64.wrap ((hh : Int) * 1099511628211) + (y : Int)) + 173))) _ (Below.refl _ _) rfl
     clear hR hd
     refine opGives_value ?_ hR'
     subst hA
     simp only [dsOf, List.take, List.map_cons, List.map_nil, Option.getD_some, putAll, Act.put, List.setIfInBounds_toArray, List.set_cons_zero, List.set_cons_succ]
     go_simp
    ·intro s w_ hb hd R hR
     generalize hA : putAll _ 0 s _ = A
     have e0 : s 0 = _ := hd 0 (by kernel_rfl)
     have hR' := hR (.pointer (some ⟨w.heap.size, 0, none⟩)) _ (Below.refl _ _) rfl
     clear hR hd
     refine opGives_value ?_ hR'
     subst hA
     simp only [dsOf, List.take, List.map_cons, List.map_nil, Option.getD_some, putAll, Act.put, List.setIfInBounds_toArray, List.set_cons_zero, List.set_cons_succ]
     go_simp
    ·intro s w_ hb hd R hR
     generalize hA : putAll _ 0 s _ = A
     have e13 : s 13 = _ := hd 13 (by kernel_rfl)
     have hR' := hR (.pointer (some ⟨w.heap.size, 2, none⟩)) _ (Below.refl _ _) rfl
     clear hR hd
     refine opGives_value ?_ hR'
     subst hA
     simp only [dsOf, List.take, List.map_cons, List.map_nil, Option.getD_some, putAll, Act.put, List.setIfInBounds_toArray, List.set_cons_zero, List.set_cons_succ]
     go_simp
   case rest =>
    intro s9 w9 hb hv
    have e12_ : s9 12 = _ := hv 12 (by decide)
    have e14_ : s9 14 = _ := hv 14 (by decide)
    clear hv
    simp only [dsOf, List.take, List.map_cons, List.map_nil, Option.getD_some, putAll, Act.put, List.setIfInBounds_toArray, List.set_cons_zero, List.set_cons_succ]
    rw [e12_, e14_]
    have hk9 : w9.heap[w.heap.size]? = some (.cells #[.slice (some ad) n c, .int .i64 0, .int .u64 (hh : Int)] 206) := by rw [hb.block w.heap.size (blk_lt HKr.out)]; exact HKr.out
    have HK9 := Aside0.mk hk9
    have q2 : w9.cell? ⟨w.heap.size, 2, none⟩ = some (.int .u64 (hh : Int)) := blk_cell hk9 2
    have f2 : w9.frozen? ⟨w.heap.size, 2, none⟩ = false := blk_frozen hk9 2
    have HB9 := Aside0.mk (HBr.out.trans (hb.mono HBr.out.size))
    clear hk9 hb e12_ e14_
    rw [HH9.out.1]
    refine .inr ⟨w9.setCell ⟨w.heap.size, 2, none⟩ (.int .u64 (h9 : Int)), (by go_simp), ?_⟩
    simp only [List.drop, Act.put, List.setIfInBounds_toArray, List.set_cons_zero, List.set_cons_succ]
    unfold tailList
    go_wp2
    go_roundw
    case rel => exact ⟨k + 1, h9, by go_num, by omega, HH9.out.2, ⟨blk_put HK9.out 2 _ rfl⟩, ⟨HB9.out.setCell (Nat.le_refl _) _⟩⟩
    case measure => simp [intOf]; omega
  ·have hltI : ¬ (k : Int) < (n : Int) := by omega
   have HHL2 := Aside0.mk hhl
   go_wp2
   go_ret
   refine ⟨rfl, ⟨A, n, c, 0, hh, HKr.out, Nat.zero_le _, hn, HHL2.out, fun h0 => ?_⟩, HBr.out⟩
   obtain ⟨ad, e, hby⟩ := H1.out h0
   refine ⟨ad, e, ?_, fun i hi => ?_⟩
   ·obtain ⟨y, -, hc⟩ := hby 0 h0
    have := cell_lt hc
    rw [add_block] at this
    exact this
   ·obtain ⟨y, hy, hc⟩ := hby i hi
    exact ⟨y, hy, pw_cell_below HBr.out hc⟩
/-- it lies in one of these -/
def madeAt (ss : List Int) (g : Int) : Bool := ss.any fun s => decide (g.toNat &&& s.toNat = g.toNat)
theorem made_hit {ss : List Int} {t : Nat} {k z : Nat} (ht : t < ss.length) (hz : ss.getD t 0 = z) (h : k &&& z = k) : madeAt ss k = true := by
 unfold madeAt
 rw [List.any_eq_true]
 exact ⟨z, mem_at ht hz, by simp [h]⟩
theorem made_miss {ss : List Int} {k : Nat} (h : ∀ t, t < ss.length → ∀ z : Nat, ss.getD t 0 = z → k &&& z ≠ k) (hn : ∀ s ∈ ss, ∃ z : Nat, s = z ∧ z < 64) : madeAt ss k = false := by
 unfold madeAt
 rw [List.any_eq_false]
 intro s hs
 obtain ⟨z, rfl, -⟩ := hn s hs
 obtain ⟨t, ht, e⟩ := List.getElem_of_mem hs
 have := h t ht z (by rw [List.getD_eq_getElem?_getD, List.getElem?_eq_getElem ht]; simpa using e)
 simpa using this
set_option maxRecDepth 100000 in
set_option maxHeartbeats 2000000 in
theorem specMade (n : Nat) (hn : n ≤ 6) (v : Value) (ss : List Int) (w : World) (hv : ReadI w v ss) (hss : ∀ s ∈ ss, ∃ z : Nat, s = z ∧ z < 64) :
  Calls Tryz.prog 127 #[.int .i64 n, v] w fun e w' => ∃ u, e = .returned (.agg #[.int .i64 n, u]) ∧ OwnI w.heap.size w' u (thL (madeAt ss) (2 ^ n)) ∧ Below w.heap.size w w' := by
 have hb64 : 1 ≤ 2 ^ n ∧ 2 ^ n ≤ 64 := by
  rcases (by omega : n = 0 ∨ n = 1 ∨ n = 2 ∨ n = 3 ∨ n = 4 ∨ n = 5 ∨ n = 6) with rfl | rfl | rfl | rfl | rfl | rfl | rfl <;> decide
 obtain ⟨N, hN⟩ : ∃ N : Nat, N = 2 ^ n := ⟨_, rfl⟩
 have HALL : Aside0 (∀ W : World, Calls Tryz.prog 268 #[.int .i64 n] W fun e w' => e = .returned (.int .i64 ((N : Int) - 1)) ∧ Below W.heap.size W w') := ⟨fun W => by rw [hN]; exact specAll n hn W⟩
 rw [← hN] at hb64 ⊢
 clear hN
 have hlen := hv.len
 obtain ⟨A1, d1, rfl, hcc, hr⟩ := hv
 have HR := Aside0.mk hr
 have HSS := Aside0.mk hss
 obtain ⟨wb, hwb⟩ : ∃ wb, wb = (w.alloc (.cells #[.int .i64 0, .slice none 0 0] 26)).alloc (.cells #[] 2) := ⟨_, rfl⟩
 obtain ⟨w0, hw0⟩ : ∃ w0, w0 = wb.alloc (.cells #[.int .i64 n, .slice (some ⟨w.heap.size + 1, 0, none⟩) 0 0] 26) := ⟨_, rfl⟩
 have hsb : wb.heap.size = w.heap.size + 1 + 1 := by rw [hwb]; simp
 have hbb : Below w.heap.size w wb := by rw [hwb]; exact ((Below.refl _ w).alloc (Nat.le_refl _) _).alloc (by simp) _
 have hb0 : Below wb.heap.size wb w0 := by rw [hw0]; exact Below.alloc (Below.refl _ _) (Nat.le_refl _) _
 have hB0 : Below w.heap.size w w0 := hbb.trans (hb0.mono hbb.size)
 have hk1 : w0.heap[w.heap.size]? = some (.cells #[.int .i64 0, .slice none 0 0] 26) := by rw [hw0]; refine blk_alloc ?_ _; rw [hwb]; exact blk_alloc (blk_new w _) _
 have hk2 : w0.heap[w.heap.size + 1 + 1]? = some (.cells #[.int .i64 n, .slice (some ⟨w.heap.size + 1, 0, none⟩) 0 0] 26) := by rw [hw0, ← hsb]; exact blk_new _ _
 have ho0 : OwnI (w.heap.size + 1) w0 (.slice (some ⟨w.heap.size + 1, 0, none⟩) 0 0) [] := by
  have h1 := (OwnI.empty (b := w.heap.size + 1) (w.alloc (.cells #[.int .i64 0, .slice none 0 0] 26)) (by simp))
  rw [← hwb] at h1
  rw [World.size_alloc] at h1
  exact h1.below hb0
 have HB0 := Aside0.mk hB0
 have HK1 := Aside0.mk hk1
 have HK2 := Aside0.mk hk2
 have HO0 := Aside0.mk ho0
 clear hB0 hk1 hk2 ho0 hb0 hbb hsb hcc hr hss
 subst hwb
 go_enter Tryz.func127, Tryz.ntmps127
 go_wp2
 rw [← hw0]
 clear hw0
 go_loopw [6] (fun s wr => ∃ k : Nat, s = .int .i64 k ∧ 1 ≤ k ∧ k ≤ N ∧ (∃ v, Aside0 (wr.heap[w.heap.size + 1 + 1]? = some (Obj.cells #[.int .i64 n, v] 26)) ∧ Aside0 (OwnI (w.heap.size + 1) wr v (thL (madeAt ss) k)) ∧ Aside0 (∀ j, v.ownBlock = some j → j ≠ w.heap.size + 1 + 1)) ∧ Aside0 (wr.heap[w.heap.size]? = some (Obj.cells #[.int .i64 0, .slice none 0 0] 26)) ∧ Aside0 (Below w.heap.size w wr)) (fun s _ => N - (intOf s).toNat)
 case atStart =>
  refine ⟨1, rfl, by omega, hb64.1, ⟨_, HK2, ⟨by rw [thL_one]; exact HO0.out⟩, ⟨fun j hj e => ?_⟩⟩, HK1, HB0⟩
  have : w.heap.size + 1 = j := by simpa [Value.ownBlock] using hj
  omega
 case round =>
  obtain ⟨k, rfl, hk1, hkN, ⟨v, HKb, HO, HNE⟩, HKa, HB⟩ := hrel
  obtain ⟨Av, cv, rfl, -⟩ := HO.out.read
  by_cases hlt : k < N
  ·have hle : (k : Int) ≤ (N : Int) - 1 := by omega
   have hll := thL_len (madeAt ss) k
   go_wp2_with (first | (go_at_call 268; refine (HALL.out _).mono ?_; rintro e w5 ⟨rfl, hb⟩; have HKb5 := Aside0.mk (blk_below HKb.out hb); have HKa5 := Aside0.mk (blk_below HKa.out hb); have HO5 := Aside0.mk (OwnI.below HO.out hb); have HB5 := Aside0.mk (HB.out.trans (hb.mono HB.out.size)); clear hb HKb HKa HO HB))
   go_loopw [7] (fun s wr => ∃ j : Nat, s = .int .i64 j ∧ j ≤ ss.length ∧ Aside0 (∀ t, t < j → ∀ z : Nat, ss.getD t 0 = z → k &&& z ≠ k) ∧ wr = w5) (fun s _ => ss.length - (intOf s).toNat)
   case atStart => exact ⟨0, rfl, Nat.zero_le _, ⟨fun t h => absurd h (Nat.not_lt_zero _)⟩, rfl⟩
   case round =>
    obtain ⟨j, rfl, hj, HJ, rfl⟩ := hrel
    obtain ⟨w6, hw6⟩ : ∃ w6, w6 = wr := ⟨_, rfl⟩
    subst hw6
    by_cases hlt2 : j < ss.length
    ·obtain ⟨ad, y, rfl, hcell, HY⟩ := ReadI.get (Kd.C_below HR.out HB5.out) hlt2
     obtain ⟨z, rfl, hz⟩ := HSS.out y (mem_at hlt2 HY.out)
     have hand := and_i64 k z (by omega) (by omega)
     cases hh : (((k &&& z : Nat) : Int) == (k : Int)) with
     | true =>
      have HH := Aside0.mk (thL_hit hk1 (made_hit hlt2 HY.out (by have := beq_iff_eq.1 hh; omega)))
      have c51 := blk_cell HKb5.out 1
      go_wp2_with (first | (at_builtin; refine app_own (w0 := w6) (w.heap.size + 1) rfl (.tmp 32) (.tmp 34) rfl _ (thL (madeAt ss) k) k rfl rfl HO5.out (Below.refl _ _) (by have := blk_lt HKb5.out; omega) ?hl ?_; (case hl => omega); intro v1 w7 ho hb2 hg hat; have hne : some (w.heap.size + 1 + 1) ≠ (Value.slice Av (thL (madeAt ss) k).length cv).ownBlock := (fun e => HNE.out _ e.symm rfl); have hne2 : some w.heap.size ≠ (Value.slice Av (thL (madeAt ss) k).length cv).ownBlock := (fun e => by have := HO5.out.base _ e.symm; omega); have HKb6 := Aside0.mk ((hg.block _ (blk_lt HKb5.out) hne).trans HKb5.out); have HKa6 := Aside0.mk ((hg.block _ (blk_lt HKa5.out) hne2).trans HKa5.out); have HO6 := Aside0.mk ho; have HB6 := Aside0.mk (HB5.out.trans (hb2.mono (by omega))); have HNE6 : Aside0 (∀ i, v1.ownBlock = some i → i ≠ w.heap.size + 1 + 1) := ⟨(fun i hi => by rcases hat with hat | ⟨b, hb, hlb⟩; (rw [hat] at hi; exact HNE.out i hi); (rw [hb] at hi; have := blk_lt HKb5.out; cases hi; omega))⟩; have c61 := blk_cell HKb6.out 1; have f61 := blk_frozen HKb6.out 1; obtain ⟨A6, d6, rfl, -⟩ := ho.read; clear ho hb2 hg hat hne hne2))
      go_roundw
      case rel =>
       have h6 := HO6.out
       have h7 := HNE6.out
       rw [List.length_append, List.length_singleton] at h6 h7
       refine ⟨k + 1, by go_num, by omega, by omega, ⟨_, ⟨blk_put HKb6.out 1 _ rfl⟩, ⟨?_⟩, ⟨h7⟩⟩, ⟨blk_far HKa6.out (by simp <;> omega) _⟩, ⟨HB6.out.setCell (by simp; omega) _⟩⟩
       rw [HH.out]
       exact h6.grown (set_grown' _ (w.heap.size + 1 + 1) _ _) (fun i hi e => by have := h7 i hi; cases e; omega)
      case measure => simp [intOf]; omega
     | false =>
      have hh' : k &&& z ≠ k := fun e => by rw [e] at hh; simp at hh
      go_wp2
      go_roundw
      case rel =>
       refine ⟨j + 1, by go_num, by omega, ⟨fun t ht z' hz' => ?_⟩, trivial⟩
       rcases Nat.lt_succ_iff_lt_or_eq.1 ht with h2 | rfl
       ·exact HJ.out t h2 z' hz'
       ·have e := HY.out.symm.trans hz'
        have : z = z' := by omega
        rw [← this]; exact hh'
      case measure => simp [intOf]; omega
    ·have HH := Aside0.mk (thL_miss (made_miss (k := k) (fun t ht => HJ.out t (by omega)) HSS.out))
     go_wp2
     go_roundw
     case rel => exact ⟨k + 1, by go_num, by omega, by omega, ⟨_, HKb5, ⟨by rw [HH.out]; exact HO5.out⟩, HNE⟩, HKa5, HB5⟩
     case measure => simp [intOf]; omega
  ·have e : k = N := by omega
   have HE := Aside0.mk e
   have hle : ¬ (k : Int) ≤ (N : Int) - 1 := by omega
   clear e
   go_wp2_with (first | (go_at_call 268; refine (HALL.out _).mono ?_; rintro e w5 ⟨rfl, hb⟩; have HKb5 := Aside0.mk (blk_below HKb.out hb); have HKa5 := Aside0.mk (blk_below HKa.out hb); have HO5 := Aside0.mk (OwnI.below HO.out hb); have HB5 := Aside0.mk (HB.out.trans (hb.mono HB.out.size)); have c10 : w5.cell? ⟨w.heap.size + 1 + 1, 0, none⟩ = some (.int .i64 n) := blk_cell HKb5.out 0; have c11 : w5.cell? ⟨w.heap.size + 1 + 1, 1, none⟩ = some (.slice Av (thL (madeAt ss) k).length cv) := blk_cell HKb5.out 1; have c00 : w5.cell? ⟨w.heap.size, 0, none⟩ = some (.int .i64 0) := blk_cell HKa5.out 0; have c01 : w5.cell? ⟨w.heap.size, 1, none⟩ = some (.slice none 0 0) := blk_cell HKa5.out 1; have f00 : w5.frozen? ⟨w.heap.size, 0, none⟩ = false := blk_frozen HKa5.out 0; have f01 : w5.frozen? ⟨w.heap.size, 1, none⟩ = false := blk_frozen HKa5.out 1; clear hb HKb HKa HO HB))
   refine bodyPost_ret (results_cell_row rfl _ _ w.heap.size 26 #[.int .i64 n, .slice Av (thL (madeAt ss) k).length cv] (0, 0) _ rfl (by refine blk_put (cs := #[.int .i64 n, .slice none 0 0]) ?_ 1 _ rfl; refine blk_put (cs := #[.int .i64 0, .slice none 0 0]) ?_ 0 _ rfl; exact HKa5.out) Tryz.underlying26 rfl (by kernel_rfl)) rfl ?_
   refine ⟨_, rfl, ?_, (HB5.out.setCell (by simp) _).setCell (by simp) _⟩
   have ho := HO5.out
   have hbs := ho.base
   have ho := ho.lower (b' := w.heap.size) (by omega)
   rw [← HE.out]
   exact (ho.grown (set_grown' _ w.heap.size _ _) (fun j hj e => by have := hbs _ hj; cases e; omega)).grown (set_grown' _ w.heap.size _ _) (fun j hj e => by have := hbs _ hj; cases e; omega)
end Go.Proofs.YtomofijniefelaaGreat.H
