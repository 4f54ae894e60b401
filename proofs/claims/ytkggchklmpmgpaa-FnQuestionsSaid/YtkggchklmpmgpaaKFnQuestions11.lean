/- Names of complexes: l01Named. Isomorphisms, one behind the other: walks through lists. Orders: the plain words of them. Isomorphisms, one behind the other: what is used so far, and the walk's steps. slices.Equal; length. append(v, p) as one operation of a region of open order. slices.Clone. Isomorphisms of the program: its own function. Rows of lists: what is said of them; append at them; a copy; the place of a number. Parts of a row of numbers; append of a row as one operation. Orders drawn: l01DrawOrder. -/
import Derived.Deep.AppendLies
import Derived.WalkSpells
import Derived.Maps.AppendAt
import Derived.Test.YtkggchklmpmgpaaKFnQuestions1
import Derived.Test.YtkggchklmpmgpaaKFnQuestions2
import Derived.Test.YtkggchklmpmgpaaKFnQuestions3
import Derived.Test.YtkggchklmpmgpaaKFnQuestions4
import Derived.Test.YtkggchklmpmgpaaKFnQuestions5
import Derived.Test.YtkggchklmpmgpaaKFnQuestions6
import Derived.Test.YtkggchklmpmgpaaKFnQuestions7
import Derived.Test.YtkggchklmpmgpaaKFnQuestions8
import Derived.Test.YtkggchklmpmgpaaKFnQuestions9
import Derived.Test.YtkggchklmpmgpaaKFnQuestions10

namespace Go.Proofs.Ytkggchklmpmgpaa.H
open Go.RowKit Go.Proofs.YtkggchklmpmgpaaW.PrintWords Go.Proofs.YtkggchklmpmgpaaW.PrintLast Go.Proofs.YtkggchklmpmgpaaW.PrintMore
set_option linter.unusedVariables false
set_option linter.unusedSimpArgs false

set_option maxRecDepth 100000 in
set_option maxHeartbeats 4000000 in
theorem named (j : Nat) (s : ByteArray) (hj : namesL[j]? = some s) (w : World) :
    Calls Try.prog 160 #[.string s] w fun e w' => ∃ u v, e = .returned (.tuple #[u, v]) ∧ (∃ (n : Nat) (z : Value) (xs : List Int), u = .agg #[.int .i64 n, z] ∧ OwnI w.heap.size w' z xs ∧ Gc n xs) ∧ Below w.heap.size w w' := by
  have hj11 : j < 11 := (List.getElem?_eq_some_iff.1 hj).1
  obtain ⟨w1, hw1⟩ : ∃ w1, w1 = w.alloc C0 := ⟨_, rfl⟩
  have hb1 : Below w.heap.size w w1 := by rw [hw1]; exact Below.alloc (Below.refl _ _) (Nat.le_refl _) _
  have hz1 : w1.heap.size = w.heap.size + 1 := by rw [hw1]; simp
  have hk1 : w1.heap[w.heap.size]? = some C0 := by rw [hw1]; exact blk_new w _
  have HB1 := Aside0.mk hb1
  have HK1 := Aside0.mk hk1
  have HZ1 := Aside0.mk hz1
  have HJ := Aside0.mk hj
  clear hb1 hz1 hk1 hj
  go_enter Try.func160, Try.ntmps160
  go_wp2_with (first | (go_at_call 159; rw [← hw1]; clear hw1; refine (names w1).mono ?_; rintro e w2 ⟨rfl, hr, hb⟩; have HR2 := Aside0.mk hr; have HB2 := Aside0.mk hb; clear hr hb) | (go_at_call 190; refine (known w2).mono ?_; rintro e w3 ⟨rfl, hr, hb⟩; have HR3 := Aside0.mk hr; have HRN : Aside0 (RowT w3 w1.heap.size namesL) := ⟨by have h0 := HR2.out; unfold RowT at h0 ⊢; rw [hb.block _ (blk_lt h0)]; exact h0⟩; have HB3 := Aside0.mk (HB2.out.trans (hb.mono HB2.out.size)); clear hr hb))
  go_loopw [6] (fun s6 wr => ∃ i : Nat, s6 = .int .i64 i ∧ i ≤ j ∧ wr = w3) (fun s6 _ => j - (intOf s6).toNat)
  case atStart => exact ⟨0, rfl, Nat.zero_le _, rfl⟩
  case round =>
    obtain ⟨i, rfl, hi, rfl⟩ := hrel
    obtain ⟨w30, hw30⟩ : ∃ w30, w30 = wr := ⟨_, rfl⟩
    subst hw30
    have hi11 : i < 11 := by omega
    have hiI : (i : Int) < 11 := by omega
    obtain ⟨t, ht⟩ : ∃ t, namesL[i]? = some t := ⟨_, List.getElem?_eq_getElem (show i < namesL.length from hi11)⟩
    have hcn := HRN.out.cell ht
    cases hq : (t.toList == s.toList) with
    | true =>
      obtain ⟨kk, d, hkk, hs1, hs2, hd, hd1, hd2⟩ := known_ok i hi11
      have hck := HR3.out.cell hkk
      have hlt0 : 0 < kk.size := by omega
      have h0I : (0 : Int) < (kk.size : Int) := by omega
      have h2I : (2 : Int) ≤ (kk.size : Int) := by omega
      obtain ⟨n, hn1, hn6, hbn⟩ : ∃ n : Nat, 1 ≤ n ∧ n ≤ 6 ∧ d.toNat = n + 48 := ⟨d.toNat - 48, by omega, by omega, by omega⟩
      have hby : (((kk[0]'hlt0).toNat : Nat) : Int) = (n : Int) + 48 := by
        have h9 : kk[0]'hlt0 = d := by
          have := getElem?_pos kk 0 hlt0
          rw [this] at hd; exact Option.some.inj hd
        rw [h9, hbn]; simp
      have hba : Below w30.heap.size w30 (w30.alloc (.cells #[] 2)) := Below.alloc (Below.refl _ _) (Nat.le_refl _) _
      have hckA := pw_cell_below hba hck
      have HBA := Aside0.mk (HB1.out.trans ((HB3.out.trans (hba.mono HB3.out.size)).mono HB1.out.size))
      have HOA := Aside0.mk (OwnI.empty (b := w30.heap.size) w30 (Nat.le_refl _))
      have HZQ := Aside0.mk ((HB1.out.trans (HB3.out.mono HB1.out.size)).size)
      have hzr : w.heap.size < w30.heap.size := by have h1 := HB3.out.size; have h2 := HZ1.out; omega
      have hkA : (w30.alloc (.cells #[] 2)).heap[w.heap.size]? = some C0 := by
        rw [hba.block _ hzr, HB3.out.block _ (by have h2 := HZ1.out; omega)]; exact HK1.out
      have HKA := Aside0.mk hkA
      have HZA : Aside0 (w.heap.size < w30.heap.size ∧ w30.heap.size ≤ (w30.alloc (.cells #[] 2)).heap.size ∧ (w30.alloc (.cells #[] 2)).heap.size = w30.heap.size + 1) := ⟨hzr, hba.size, by simp⟩
      have HSP := Aside0.mk (fun W => split (kk.extract 2 kk.size) (by rw [ByteArray.size_extract]; omega) 44 W)
      clear hd hd1 hd2 hbn hi hj11 hba hkA hzr
      go_wp2_with (first | (go_at_call 191; refine (HSP.out _).mono ?_; rintro e w5 ⟨u5, rfl, ⟨m, ho, hm⟩, hb⟩; obtain ⟨A5, c5, rfl, hT5⟩ := ho.form; have HT5 := Aside0.mk hT5; have HO5 := Aside0.mk (OwnI.below HOA.out hb); have HB5 := Aside0.mk (HBA.out.trans (hb.mono HBA.out.size)); have HK5 : Aside0 (w5.heap[w.heap.size]? = some C0) := ⟨by rw [hb.block _ (blk_lt HKA.out)]; exact HKA.out⟩; have HZ5 := Aside0.mk hb.size; clear ho hb hT5))
      go_loopw [8, 10] (fun s8 s10 wx => ∃ (q : Nat) (ss : List Int), s10 = .int .i64 q ∧ q ≤ m ∧ Aside0 (ss.length = q) ∧ Aside0 (∀ s ∈ ss, ∃ z : Nat, s = z ∧ z < 64) ∧ Aside0 (OwnI w30.heap.size wx s8 ss) ∧ Aside0 (Below w30.heap.size w5 wx) ∧ Aside0 (Mid (w30.heap.size + 1) w5.heap.size w5 wx) ∧ Aside0 (∀ k, s8.ownBlock = some k → k = w30.heap.size ∨ w5.heap.size ≤ k)) (fun _ s10 _ => m - (intOf s10).toNat)
      case atStart => exact ⟨0, [], rfl, Nat.zero_le _, ⟨rfl⟩, ⟨fun s h => by cases h⟩, HO5, ⟨Below.refl _ _⟩, ⟨Mid.refl _ _ _⟩, ⟨fun k hk => .inl (by simpa [Value.ownBlock] using hk.symm)⟩⟩
      case round =>
        obtain ⟨q, ss, rfl, hqm, HL, HSS, HOx, HBx, HMx, HWx⟩ := hrel
        obtain ⟨A8, c8, e8, -⟩ := id HOx.out.read
        rw [HL.out] at e8
        subst e8
        by_cases hlt : q < m
        · have hltI : (q : Int) < (m : Int) := by omega
          obtain ⟨ad, p, rfl, ⟨hpb1, hpb2⟩, hpc, hps⟩ := HT5.out q hlt
          have hpc := (HMx.out.cell (p := ad.add q) (by rw [add_block]; have := HZA.out.2.2; omega) (by rw [add_block]; exact hpb2)).trans hpc
          clear hpb1 hpb2
          have HPS := Aside0.mk hps
          clear hps
          go_wp2_with (first | (go_at_call 192; refine (setOfText p HPS.out n hn1 hn6 _).mono ?_; rintro e w7 ⟨z, ok, rfl, hz, hb⟩; have HO7 := Aside0.mk (OwnI.below HOx.out hb); have HB7 := Aside0.mk (HBx.out.trans (hb.mono (Nat.le_trans (Nat.le_trans HZA.out.2.1 HZ5.out) HBx.out.size))); have HM7 := Aside0.mk (HMx.out.trans (Mid.of_below (hb.mono HBx.out.size))); have HZ7 := Aside0.mk (Nat.le_trans HBx.out.size hb.size); have hzz := hz; clear hb) | (at_builtin; refine app_own (w0 := w5) w30.heap.size rfl (.tmp 56) (.tmp 58) rfl _ ss (z : Int) rfl rfl HO7.out HB7.out (Nat.le_trans HZA.out.2.1 (Nat.le_trans HZ5.out HB7.out.size)) (by rw [HL.out]; omega) ?_; intro v1 w9 ho hb hg hat; have HO9 := Aside0.mk ho; have HB9 := Aside0.mk hb; have HM9 : Aside0 (Mid (w30.heap.size + 1) w5.heap.size w5 w9) := ⟨HM7.out.trans (fun k h1 h2 => hg.block k (Nat.lt_of_lt_of_le h2 (Nat.le_trans HZ7.out (Nat.le_refl _))) (fun e => by have := HWx.out k e.symm; omega))⟩; have HW9 : Aside0 (∀ k, v1.ownBlock = some k → k = w30.heap.size ∨ w5.heap.size ≤ k) := ⟨(fun k hk => by rcases hat with hat | ⟨b, hb', hlb⟩; (rw [hat] at hk; exact HWx.out k hk); (rw [hb'] at hk; cases hk; exact .inr (Nat.le_trans HZ7.out hlb)))⟩; clear ho hb hg hat))
          go_roundw
          case rel => exact ⟨q + 1, ss ++ [(z : Int)], by go_num, by omega, ⟨by rw [List.length_append, List.length_singleton, HL.out]⟩, ⟨fun s hs => by
            rcases List.mem_append.1 hs with h | h
            · exact HSS.out s h
            · rw [List.mem_singleton] at h; exact ⟨z, h, hzz⟩⟩, HO9, HB9, HM9, HW9⟩
          case measure => simp [intOf]; omega
        · have hltI : ¬ (q : Int) < (m : Int) := by omega
          have hkx : wr.heap[w.heap.size]? = some C0 := by rw [HBx.out.block _ HZA.out.1]; exact HK5.out
          have HKX := Aside0.mk hkx
          clear hkx
          go_wp2_with (first | (go_at_call 193; go_must (refine (specMade n hn6 _ ss _ (by have h := HOx.out.read; exact h) HSS.out).mono ?_; rintro e w6 ⟨u, rfl, ho, hb⟩; have hk6 : w6.heap[w.heap.size]? = some C0 := (by rw [hb.block _ (blk_lt HKX.out)]; exact HKX.out); have HK6 := Aside0.mk hk6; have HO6 := Aside0.mk ho; have HB6 := Aside0.mk (HBx.out.trans (hb.mono (Nat.le_trans (Nat.le_trans HZA.out.2.1 HZ5.out) HBx.out.size))); have HZ6 := Aside0.mk (Nat.le_trans (Nat.le_trans HZA.out.2.1 HZ5.out) HBx.out.size); obtain ⟨A6, c6, rfl, -⟩ := id ho.read; have c00 : w6.cell? ⟨w.heap.size, 0, none⟩ = some (.int .i64 0) := blk_cell hk6 0; have c01 : w6.cell? ⟨w.heap.size, 1, none⟩ = some (.slice none 0 0) := blk_cell hk6 1; have f00 : w6.frozen? ⟨w.heap.size, 0, none⟩ = false := blk_frozen hk6 0; have f01 : w6.frozen? ⟨w.heap.size, 1, none⟩ = false := blk_frozen hk6 1; clear ho hb hk6)))
          refine bodyPost_ret (results_ct rfl _ _ w.heap.size 28 #[.int .i64 n, .slice A6 (thL (madeAt ss) (2 ^ n)).length c6] (0, 0) _ rfl (by refine blk_put (cs := #[.int .i64 n, .slice none 0 0]) ?_ 1 _ rfl; refine blk_put (cs := #[.int .i64 0, .slice none 0 0]) ?_ 0 _ rfl; exact HK6.out) Try.underlying28 rfl (by kernel_rfl)) rfl ?_
          have hbb : Below w.heap.size w6 ((w6.setCell ⟨w.heap.size, 0, none⟩ (Value.int IntKind.i64 n)).setCell ⟨w.heap.size, 1, none⟩ (Value.slice A6 (thL (madeAt ss) (2 ^ n)).length c6)) := ((Below.refl _ _).setCell (by simp) _).setCell (by simp) _
          have hq1 := HZA.out.1
          have hw6 : Below w.heap.size w w6 := HB5.out.trans (HB6.out.mono (Nat.le_of_lt hq1))
          refine ⟨_, _, rfl, ⟨n, _, thL (madeAt ss) (2 ^ n), rfl, ?_, made_gc hn1 hn6 (madeAt ss)⟩, hw6.trans hbb⟩
          have hz6 := HZ6.out
          have ho := HO6.out
          have hbse := ho.base
          have ho := ho.lower (b' := w.heap.size) (by omega)
          exact (ho.grown (set_grown' _ w.heap.size _ _) (fun j hj e => by have := hbse _ hj; cases e; omega)).grown (set_grown' _ w.heap.size _ _) (fun j hj e => by have := hbse _ hj; cases e; omega)
    | false =>
      have hij : i < j := by
        rcases Nat.lt_or_ge i j with h | h
        · exact h
        · have : i = j := by omega
          subst this
          rw [HJ.out] at ht
          rw [Option.some.inj ht, beq_self_eq_true] at hq
          cases hq
      go_wp2
      go_roundw
      case rel => exact ⟨i + 1, by go_num, by omega, trivial⟩
      case measure => simp [intOf]; omega
end Go.Proofs.Ytkggchklmpmgpaa.H

namespace Go.Proofs.Ytkggchklmpmgpaa.H
open Go.RowKit Go.Proofs.YtkggchklmpmgpaaW.PrintWords Go.Proofs.YtkggchklmpmgpaaW.PrintLast Go.Proofs.YtkggchklmpmgpaaW.PrintMore
set_option linter.unusedVariables false
set_option linter.unusedSimpArgs false

end Go.Proofs.Ytkggchklmpmgpaa.H

namespace Go.Proofs.Ytkggchklmpmgpaa.H
open Go.RowKit Go.Proofs.YtkggchklmpmgpaaW.PrintWords Go.Proofs.YtkggchklmpmgpaaW.PrintLast Go.Proofs.YtkggchklmpmgpaaW.PrintMore
set_option linter.unusedVariables false
set_option linter.unusedSimpArgs false

end Go.Proofs.Ytkggchklmpmgpaa.H

namespace Go.Proofs.Ytkggchklmpmgpaa.H
open Go.RowKit Go.Proofs.YtkggchklmpmgpaaW.PrintWords Go.Proofs.YtkggchklmpmgpaaW.PrintLast Go.Proofs.YtkggchklmpmgpaaW.PrintMore
set_option linter.unusedVariables false
set_option linter.unusedSimpArgs false

/-- a list that may become an order of n -/
def Pre (n : Nat) (l : List Int) : Prop := l.Nodup ∧ ∀ x ∈ l, 0 ≤ x ∧ x < (n : Int)
theorem Pre.nil (n : Nat) : Pre n [] := ⟨List.nodup_nil, fun _ h => by cases h⟩
end Go.Proofs.Ytkggchklmpmgpaa.H

namespace Go.Proofs.Ytkggchklmpmgpaa.H
open Go.RowKit Go.Proofs.YtkggchklmpmgpaaW.PrintWords Go.Proofs.YtkggchklmpmgpaaW.PrintLast Go.Proofs.YtkggchklmpmgpaaW.PrintMore
set_option linter.unusedVariables false
set_option linter.unusedSimpArgs false

end Go.Proofs.Ytkggchklmpmgpaa.H

namespace Go.Proofs.Ytkggchklmpmgpaa.H
open Go.RowKit Go.Proofs.YtkggchklmpmgpaaW.PrintWords Go.Proofs.YtkggchklmpmgpaaW.PrintLast Go.Proofs.YtkggchklmpmgpaaW.PrintMore
set_option linter.unusedVariables false
set_option linter.unusedSimpArgs false

/-- into the kit's own word -/
theorem OwnI.row {b : Nat} {w : World} {v : Value} {xs : List Int} (h : OwnI b w v xs) : w.ownsRow b 2 1 v xs.length (xs.map (Value.int .i64)) := by
  obtain ⟨-, inner, ho, hl, hr⟩ := h
  have e : inner = xs.map (Value.int .i64) := by
    refine List.ext_getElem? (fun j => ?_)
    by_cases hj : j < xs.length
    · have h3 : List.take 1 (List.drop (j * 1) inner) = [Value.int .i64 xs[j]] := hr j xs[j] (List.getElem?_eq_getElem hj)
      rw [Nat.mul_one] at h3
      have h2 : (List.take 1 (List.drop j inner))[0]? = some (Value.int .i64 xs[j]) := by rw [h3]; rfl
      rw [List.getElem?_take_of_lt (by decide), List.getElem?_drop] at h2
      rw [Nat.add_zero] at h2
      rw [h2, List.getElem?_map, List.getElem?_eq_getElem hj]; rfl
    · have hl' : inner.length = xs.length * 1 := hl
      rw [List.getElem?_eq_none (by rw [hl']; omega), List.getElem?_eq_none (by rw [List.length_map]; omega)]
  rw [← e]
  exact ho

set_option maxRecDepth 100000 in
theorem append_gives {o : Oper} {ev : Operand → Value} {W : World} (base : Nat) (s x : Operand) (ho : o.op = .call { callee := .builtin .append, args := #[s, x], argTypes := #[22, 22] })
    (v : Value) (xs : List Int) (p : Int) (b c : Nat) (hs : ev s = v) (hx : ev x = .slice (some ⟨b, 0, none⟩) 1 c) (hc : W.cell? ⟨b, 0, none⟩ = some (.int .i64 p))
    (HO : OwnI base W v xs) (hbase : base ≤ W.heap.size) (hl : xs.length < 17592186044416) {R : Value → World → Prop}
    (h : ∀ v1 w1, OwnI base w1 v1 (xs ++ [p]) → W.grownBy w1 v.ownBlock → (v1.ownBlock = v.ownBlock ∨ v1.ownBlock = some W.heap.size) → R v1 w1) : opGives Try.prog o ev W R := by
  obtain ⟨i64, hi, hii⟩ : ∃ i, Try.prog.info? 2 = some i ∧ (i.zero, i.size, i.bytes) = (some (Value.int .i64 0), 1, 8) := by
    have h64 := info64
    cases hi : Try.prog.info? 2 with
    | none => rw [hi] at h64; cases h64
    | some i => rw [hi] at h64; exact ⟨i, rfl, Option.some.inj h64⟩
  have hi0 : i64.zero = some (Value.int .i64 0) := (Prod.mk.inj hii).1
  have hi1 : i64.size = 1 := (Prod.mk.inj (Prod.mk.inj hii).2).1
  have hi2 : i64.bytes = 8 := (Prod.mk.inj (Prod.mk.inj hii).2).2
  obtain ⟨v', w', hr, h2, h3, -, h5⟩ := run_append_own_at (P := Try.prog) W base 22 o.type 2 _ (.int .i64 0) 1 8 Try.underlying22 hi hi0 hi1 hi2 rfl (by decide) v xs.length (xs.map (Value.int .i64)) HO.row ⟨b, 0, none⟩ 1 c [.int .i64 p] rfl
    (fun j u hj => by
      cases j with
      | zero => cases hj; exact hc
      | succ j => cases hj) (fun u hu => by rw [List.mem_singleton] at hu; subst hu; rfl) (by simp only [maxLen]; omega) (by omega) hbase
  refine opGives_value (w' := w') (v := v') ?_ (h v' w' (OwnI.of_row (b := base) (by rw [List.length_append, List.map_append]; exact h2) (Nat.le_refl _)) h3 h5)
  unfold execOp
  simp only [ho, resolve, invoke, builtin, Sem.run_bind, Sem.run_pure, Result.andThen_ok, List.map_toArray, List.map_cons, List.map_nil, hs, hx, hr]
end Go.Proofs.Ytkggchklmpmgpaa.H

namespace Go.Proofs.Ytkggchklmpmgpaa.H
open Go.RowKit Go.Proofs.YtkggchklmpmgpaaW.PrintWords Go.Proofs.YtkggchklmpmgpaaW.PrintLast Go.Proofs.YtkggchklmpmgpaaW.PrintMore
set_option linter.unusedVariables false
set_option linter.unusedSimpArgs false

end Go.Proofs.Ytkggchklmpmgpaa.H

namespace Go.Proofs.Ytkggchklmpmgpaa.H
open Go.RowKit Go.Proofs.YtkggchklmpmgpaaW.PrintWords Go.Proofs.YtkggchklmpmgpaaW.PrintLast Go.Proofs.YtkggchklmpmgpaaW.PrintMore
set_option linter.unusedVariables false
set_option linter.unusedSimpArgs false

/-- a copy is made, one number is put behind it, and a call has it -/
structure RI (c d a f : Nat) (l : List Int) (x : Int) (w0 : World) (D : Value → World → Prop) (b : Nat → Bool) (s : Nat → Value) (w : World) : Prop where
  ne : c ≠ d ∧ c ≠ a ∧ c ≠ f ∧ d ≠ a ∧ d ≠ f ∧ a ≠ f
  ha : b a = true → b c = true ∧ b d = true
  hf : b f = true → b a = true
  hB : b f = false → Below w0.heap.size w0 w
  hC : b c = true → b a = false → OwnI w0.heap.size w (s c) l
  hS : b d = true → b a = false → ∃ k, s d = .slice (some ⟨k, 0, none⟩) 1 1 ∧ w.cell? ⟨k, 0, none⟩ = some (.int .i64 x)
  hA : b a = true → b f = false → OwnI w0.heap.size w (s a) (l ++ [x])
  hD : b f = true → D (s f) w
section
variable {c d a f : Nat} {l : List Int} {x : Int} {w0 w : World} {D : Value → World → Prop} {b : Nat → Bool} {s : Nat → Value}
theorem RI.start (hne : c ≠ d ∧ c ≠ a ∧ c ≠ f ∧ d ≠ a ∧ d ≠ f ∧ a ≠ f) (hb : ∀ i, b i = false) : RI c d a f l x w0 D b s w0.drew := by
  have hn : ∀ i, ¬ b i = true := fun i h => by rw [hb i] at h; cases h
  exact ⟨hne, fun h => absurd h (hn _), fun h => absurd h (hn _), fun _ => (Below.refl _ _).drew, fun h => absurd h (hn _), fun h => absurd h (hn _), fun h => absurd h (hn _), fun h => absurd h (hn _)⟩
theorem RI.cell (h : RI c d a f l x w0 D b s w) {p : Addr} {z : Value} (hD : D (s f) w → w.cell? p = some z) (h0 : w0.cell? p = some z) : w.cell? p = some z := by
  cases hf : b f with
  | false => exact pw_cell_below (h.hB hf) h0
  | true => exact hD (h.hD hf)
theorem RI.noc (h : RI c d a f l x w0 D b s w) (hc : b c = false) : b a = false := by
  cases h1 : b a with
  | false => rfl
  | true => have := (h.ha h1).1; rw [hc] at this; cases this
theorem RI.nod (h : RI c d a f l x w0 D b s w) (hc : b d = false) : b a = false := by
  cases h1 : b a with
  | false => rfl
  | true => have := (h.ha h1).2; rw [hc] at this; cases this
theorem RI.noa (h : RI c d a f l x w0 D b s w) (hc : b a = false) : b f = false := by
  cases h1 : b f with
  | false => rfl
  | true => have := h.hf h1; rw [hc] at this; cases this
theorem RI.quiet (h : RI c d a f l x w0 D b s w) {i : Nat} (h1 : i ≠ c) (h2 : i ≠ d) (h3 : i ≠ a) (h4 : i ≠ f) (v : Value) : RI c d a f l x w0 D (markU b i) (upd s i v) w := by
  have m : ∀ j, j ≠ i → markU b i j = b j := fun j hj => markU_ne b hj
  have p : ∀ j, j ≠ i → upd s i v j = s j := fun j hj => upd_ne s v hj
  refine ⟨h.ne, ?_, ?_, ?_, ?_, ?_, ?_, ?_⟩
  · rw [m a (Ne.symm h3), m c (Ne.symm h1), m d (Ne.symm h2)]; exact h.ha
  · rw [m a (Ne.symm h3), m f (Ne.symm h4)]; exact h.hf
  · rw [m f (Ne.symm h4)]; exact h.hB
  · rw [m a (Ne.symm h3), m c (Ne.symm h1), p c (Ne.symm h1)]; exact h.hC
  · rw [m a (Ne.symm h3), m d (Ne.symm h2), p d (Ne.symm h2)]; exact h.hS
  · rw [m a (Ne.symm h3), m f (Ne.symm h4), p a (Ne.symm h3)]; exact h.hA
  · rw [m f (Ne.symm h4), p f (Ne.symm h4)]; exact h.hD
theorem RI.clone (h : RI c d a f l x w0 D b s w) (hc : b c = false) {w' : World} {u : Value} (hb : Below w.heap.size w w') (ho : OwnI w0.heap.size w' u l) : RI c d a f l x w0 D (markU b c) (upd s c u) w' := by
  have ha := h.noc hc
  have hf := h.noa ha
  have m : ∀ j, j ≠ c → markU b c j = b j := fun j hj => markU_ne b hj
  have p : ∀ j, j ≠ c → upd s c u j = s j := fun j hj => upd_ne s u hj
  refine ⟨h.ne, ?_, ?_, ?_, ?_, ?_, ?_, ?_⟩
  · rw [m a (Ne.symm h.ne.2.1), ha]; intro e; cases e
  · rw [m f (Ne.symm h.ne.2.2.1), hf]; intro e; cases e
  · exact fun _ => (h.hB hf).trans (hb.mono (h.hB hf).size)
  · intro _ _; rw [upd_self]; exact ho
  · intro h1 _
    rw [m d (Ne.symm h.ne.1)] at h1
    rw [p d (Ne.symm h.ne.1)]
    obtain ⟨k, e, hk⟩ := h.hS h1 ha
    exact ⟨k, e, pw_cell_below hb hk⟩
  · rw [m a (Ne.symm h.ne.2.1), ha]; intro e; cases e
  · rw [m f (Ne.symm h.ne.2.2.1), hf]; intro e; cases e
theorem RI.build (h : RI c d a f l x w0 D b s w) (hd : b d = false) : RI c d a f l x w0 D (markU b d) (upd s d (.slice (some ⟨w.heap.size, 0, none⟩) 1 1)) (w.alloc (.cells #[.int .i64 x] 2)) := by
  have ha := h.nod hd
  have hf := h.noa ha
  have hb : Below w.heap.size w (w.alloc (.cells #[.int .i64 x] 2)) := Below.alloc (Below.refl _ _) (Nat.le_refl _) _
  have m : ∀ j, j ≠ d → markU b d j = b j := fun j hj => markU_ne b hj
  have p : ∀ j, j ≠ d → upd s d (.slice (some ⟨w.heap.size, 0, none⟩) 1 1) j = s j := fun j hj => upd_ne s _ hj
  refine ⟨h.ne, ?_, ?_, ?_, ?_, ?_, ?_, ?_⟩
  · rw [m a (Ne.symm h.ne.2.2.2.1), ha]; intro e; cases e
  · rw [m f (Ne.symm h.ne.2.2.2.2.1), hf]; intro e; cases e
  · exact fun _ => (h.hB hf).trans (hb.mono (h.hB hf).size)
  · intro h1 _
    rw [m c h.ne.1] at h1
    rw [p c h.ne.1]
    exact (h.hC h1 ha).below hb
  · intro _ _
    rw [upd_self]
    exact ⟨_, rfl, by simp⟩
  · rw [m a (Ne.symm h.ne.2.2.2.1), ha]; intro e; cases e
  · rw [m f (Ne.symm h.ne.2.2.2.2.1), hf]; intro e; cases e
theorem RI.app (h : RI c d a f l x w0 D b s w) (hc : b c = true) (hd : b d = true) (ha : b a = false) {w' : World} {u : Value} (ho : OwnI w0.heap.size w' u (l ++ [x])) (hg : w.grownBy w' (s c).ownBlock) : RI c d a f l x w0 D (markU b a) (upd s a u) w' := by
  have hf := h.noa ha
  have m : ∀ j, j ≠ a → markU b a j = b j := fun j hj => markU_ne b hj
  have hC := h.hC hc ha
  refine ⟨h.ne, ?_, ?_, ?_, ?_, ?_, ?_, ?_⟩
  · intro _; rw [m c h.ne.2.1, m d h.ne.2.2.2.1]; exact ⟨hc, hd⟩
  · rw [m f (Ne.symm h.ne.2.2.2.2.2), hf]; intro e; cases e
  · exact fun _ => (h.hB hf).grown hg (h.hB hf).size (fun j hj => OwnI.base hC j hj)
  · rw [markU_self]; intro _ e; cases e
  · rw [markU_self]; intro _ e; cases e
  · intro _ _; rw [upd_self]; exact ho
  · rw [m f (Ne.symm h.ne.2.2.2.2.2), hf]; intro e; cases e
theorem RI.call (h : RI c d a f l x w0 D b s w) (ha : b a = true) (hf : b f = false) {w' : World} {u : Value} (hD : D u w') : RI c d a f l x w0 D (markU b f) (upd s f u) w' := by
  have m : ∀ j, j ≠ f → markU b f j = b j := fun j hj => markU_ne b hj
  refine ⟨h.ne, ?_, ?_, ?_, ?_, ?_, ?_, ?_⟩
  · intro _; rw [m c h.ne.2.2.1, m d h.ne.2.2.2.2.1]; exact h.ha ha
  · intro _; rw [m a h.ne.2.2.2.2.2]; exact ha
  · rw [markU_self]; intro e; cases e
  · rw [m a h.ne.2.2.2.2.2, ha]; intro _ e; cases e
  · rw [m a h.ne.2.2.2.2.2, ha]; intro _ e; cases e
  · rw [markU_self]; intro _ e; cases e
  · intro _; rw [upd_self]; exact hD
end

end Go.Proofs.Ytkggchklmpmgpaa.H

namespace Go.Proofs.Ytkggchklmpmgpaa.H
open Go.RowKit Go.Proofs.YtkggchklmpmgpaaW.PrintWords Go.Proofs.YtkggchklmpmgpaaW.PrintLast Go.Proofs.YtkggchklmpmgpaaW.PrintMore
set_option linter.unusedVariables false
set_option linter.unusedSimpArgs false

/-- a row of lists of the call's own, each list in memory of its own -/
def OwnR (b : Nat) (w : World) (v : Value) (ls : List (List Int)) : Prop :=
  ∃ (g cap : Nat) (ws : List Value), v = .slice (some ⟨g, 0, none⟩) ls.length cap ∧ b ≤ g ∧ g < w.heap.size ∧ w.ownsRow b 22 1 v ls.length ws ∧ (∀ (j : Nat) (x : List Int), ls[j]? = some x → ∃ u, ws[j]? = some u ∧ OwnI b w u x ∧ ∀ k, u.ownBlock = some k → k ≠ g) ∧ ∀ u ∈ ws, u.oneCell' = true
theorem OwnR.below {b : Nat} {w w' : World} {v : Value} {ls : List (List Int)} (h : OwnR b w v ls) (hb : Below w.heap.size w w') : OwnR b w' v ls := by
  obtain ⟨g, cap, ws, rfl, h1, h2, h3, h4, h5⟩ := h
  exact ⟨g, cap, ws, rfl, h1, Nat.lt_of_lt_of_le h2 hb.size, own_move h3 (fun k hk => hb.block k (own_lt h3 k hk)), fun j x hx => by
    obtain ⟨u, e, ho, hn⟩ := h4 j x hx
    exact ⟨u, e, ho.below hb, hn⟩, h5⟩
theorem OwnR.lower {b b' : Nat} {w : World} {v : Value} {ls : List (List Int)} (h : OwnR b w v ls) (hb : b' ≤ b) : OwnR b' w v ls := by
  obtain ⟨g, cap, ws, rfl, h1, h2, h3, h4, h5⟩ := h
  exact ⟨g, cap, ws, rfl, Nat.le_trans hb h1, h2, own_weaken h3 hb, fun j x hx => by
    obtain ⟨u, e, ho, hn⟩ := h4 j x hx
    exact ⟨u, e, ho.lower hb, hn⟩, h5⟩
theorem OwnR.empty {b : Nat} (w : World) (hb : b ≤ w.heap.size) : OwnR b (w.alloc (.cells #[] 22)) (.slice (some ⟨w.heap.size, 0, none⟩) 0 0) [] :=
  ⟨w.heap.size, 0, [], rfl, hb, by simp, ⟨rfl, .inr ⟨w.heap.size, 0, #[], rfl, hb, heap_alloc_new w _, Nat.le_refl _, by decide, rfl, rfl⟩⟩, fun j x h => by simp at h, fun u h => by cases h⟩
theorem OwnR.get {b : Nat} {w : World} {v : Value} {ls : List (List Int)} (h : OwnR b w v ls) {j : Nat} {x : List Int} (hj : ls[j]? = some x) : ∃ g cap u, v = .slice (some ⟨g, 0, none⟩) ls.length cap ∧ w.cell? ⟨g, j, none⟩ = some u ∧ OwnI b w u x := by
  obtain ⟨g, cap, ws, rfl, h1, h2, h3, h4, h5⟩ := h
  obtain ⟨u, e, ho, -⟩ := h4 j x hj
  have hc := World.ownsRow.cells h3 (g := g) rfl j u e
  rw [add_plain] at hc
  exact ⟨g, cap, u, rfl, hc, ho⟩
set_option maxRecDepth 100000 in
set_option maxHeartbeats 1000000 in
theorem specOwn2 (v : Value) (xs : List Int) (w : World) (hv : ReadI w v xs) (hl : xs.length ≤ 1000000) :
    Calls Try.prog 83 #[v] w fun e w' => ∃ u, e = .returned u ∧ OwnI w.heap.size w' u xs ∧ Below w.heap.size w w' := by
  obtain ⟨A, c, rfl, hc, hr⟩ := id hv
  obtain ⟨w1, hw1⟩ : ∃ w1, w1 = w.alloc (.cells #[] 2) := ⟨_, rfl⟩
  have hB : Below w.heap.size w w1 := by rw [hw1]; exact Below.alloc (Below.refl _ _) (Nat.le_refl _) _
  have hs1 : w.heap.size ≤ w1.heap.size := hB.size
  have HO := Aside0.mk (show OwnI w.heap.size w1 (.slice (some ⟨w.heap.size, 0, none⟩) 0 0) [] by rw [hw1]; exact OwnI.empty w (Nat.le_refl _))
  have HB := Aside0.mk hB
  have HR := Aside0.mk (Kd.C_below hr hB)
  clear hr hv hB
  go_enter Try.func83, Try.ntmps83
  go_wp2_with (first | ((with_reducible refine gate_builtin (b := .append) (xs := #[.tmp 3, .tmp 4]) rfl ?_); rw [← hw1]; clear hw1; refine Kd.R_append_row (Value.int .i64) (0 : Int) (w0 := w) w.heap.size rfl (.tmp 3) (.tmp 4) 22 2 (.int .i64 0) 8 rfl Try.underlying22 info64 rfl (by decide) _ [] xs A xs.length c (fun _ => True) rfl rfl (fun _ _ => trivial) HO.out HR.out HB.out hs1 (by simp; omega) ?_; intro v1 w2 ho hb hg hat; have HO2 := Aside0.mk ho; have HB2 := Aside0.mk hb; clear ho hb hg hat))
  go_ret
  exact ⟨_, rfl, HO2.out, HB2.out⟩

end Go.Proofs.Ytkggchklmpmgpaa.H

namespace Go.Proofs.Ytkggchklmpmgpaa.H
open Go.RowKit Go.Proofs.YtkggchklmpmgpaaW.PrintWords Go.Proofs.YtkggchklmpmgpaaW.PrintLast Go.Proofs.YtkggchklmpmgpaaW.PrintMore
set_option linter.unusedVariables false
set_option linter.unusedSimpArgs false

/-- xs[k:] -/
theorem ReadI.from_ {w : World} {A : Option Addr} {n c : Nat} {xs : List Int} (h : ReadI w (.slice A n c) xs) {k : Nat} (hk : k ≤ xs.length) :
    ∃ A' c', (∀ W : World, (Instr.slice 22 (.slice A n c) (some (.int .i64 (k : Int))) none none).run Try.prog W = .ok (.slice A' (xs.length - k) c') W) ∧ ReadI w (.slice A' (xs.length - k) c') (xs.drop k) ∧ (A ≠ none → A' ≠ none) := by
  obtain ⟨A0, c0, e, hc, hr⟩ := h
  cases e
  obtain ⟨i, hi, hs⟩ := Option.map_eq_some_iff.1 (show (Try.prog.info? 2).map (·.size) = some 1 by kernel_rfl)
  have h2 : (k : Int) ≤ (xs.length : Int) := by omega
  have hrun : ∀ W : World, (Instr.slice 22 (.slice A xs.length c) (some (.int .i64 (k : Int))) none none).run Try.prog W = .ok (.slice (if c = k then A else A.map (·.add k)) (xs.length - k) (c - k)) W := fun W => by
    have h3 : ¬ xs.length < k := by omega
    by_cases hck : c = k
    · simp [Instr.slice, Instr.sliceBounds, Instr.sliceBound, asIntOf, run_underlying Try.underlying22, sizeOf, typeInfo, hi, hs, go_sem, h2, h3, hck]
    · simp [Instr.slice, Instr.sliceBounds, Instr.sliceBound, asIntOf, run_underlying Try.underlying22, sizeOf, typeInfo, hi, hs, go_sem, h2, h3, hck]
  have hne : A ≠ none → (if c = k then A else A.map (·.add k)) ≠ none := fun hA => by
    split
    · exact hA
    · cases A with
      | none => exact absurd rfl hA
      | some a => simp
  refine ⟨_, _, hrun, ⟨_, _, by rw [List.length_drop], by rw [List.length_drop]; omega, Kd.C_of_reads (d := (0 : Int)) (h1 := fun _ => rfl) ⟨rfl, by rw [List.length_drop]; have := hr.2.1; omega, fun hp => ?_⟩⟩, hne⟩
  rw [List.length_drop] at hp
  obtain ⟨ad, e, -⟩ := ReadI.at_ hr (i := k) (by omega)
  refine ⟨ad.add k, by rw [if_neg (by omega), e]; rfl, fun j hj => ?_⟩
  rw [List.length_drop] at hj
  obtain ⟨ad', e', hcell⟩ := ReadI.at_ hr (i := k + j) (by omega)
  rw [e] at e'
  cases e'
  have ha : (ad.add k).add j = ad.add (k + j) := Go.Proofs.YtkggchklmpmgpaaW.PrintWords.add_add ad k j
  rw [ha, hcell]
  simp [List.getD_eq_getElem?_getD]
/-- xs[:k] -/
theorem ReadI.to_ {w : World} {A : Option Addr} {n c : Nat} {xs : List Int} (h : ReadI w (.slice A n c) xs) {k : Nat} (hk : k ≤ xs.length) :
    (∀ W : World, (Instr.slice 22 (.slice A n c) none (some (.int .i64 (k : Int))) none).run Try.prog W = .ok (.slice A k c) W) ∧ ReadI w (.slice A k c) (xs.take k) := by
  obtain ⟨A0, c0, e, hc, hr⟩ := h
  cases e
  obtain ⟨i, hi, hs⟩ := Option.map_eq_some_iff.1 (show (Try.prog.info? 2).map (·.size) = some 1 by kernel_rfl)
  have h2 : (k : Int) ≤ (c : Int) := by omega
  have hl : (xs.take k).length = k := by rw [List.length_take]; omega
  refine ⟨fun W => ?_, ⟨A, c, by rw [hl], by rw [hl]; omega, Kd.C_of_reads (d := (0 : Int)) (h1 := fun _ => rfl) ⟨rfl, by rw [hl]; have := hr.2.1; omega, fun hp => ?_⟩⟩⟩
  · have h3 : ¬ c < k := by omega
    by_cases hc0 : c = 0
    · obtain rfl : k = 0 := by omega
      simp [Instr.slice, Instr.sliceBounds, Instr.sliceBound, asIntOf, run_underlying Try.underlying22, sizeOf, typeInfo, hi, hs, go_sem, h2, h3, hc0]
    · simp [Instr.slice, Instr.sliceBounds, Instr.sliceBound, asIntOf, run_underlying Try.underlying22, sizeOf, typeInfo, hi, hs, go_sem, h2, h3, hc0]
  · rw [hl] at hp ⊢
    obtain ⟨ad, e, -⟩ := ReadI.at_ hr (i := 0) (by omega)
    refine ⟨ad, e, fun j hj => ?_⟩
    obtain ⟨ad', e', hcell⟩ := ReadI.at_ hr (i := j) (by omega)
    rw [e] at e'
    cases e'
    rw [hcell]
    simp [List.getD_eq_getElem?_getD, List.getElem?_take, hj]
/-- a slice expression, its run told -/
theorem slice_exec {P : Program} {o : Oper} {ev : Operand → Value} {W : World} {t e : TypeId} {s : Operand} {lo hi : Option Operand} {u : Value} (ht : P.underlying t = some (.slice e)) (ho : o.op = .slice t s lo hi none) (hr : (Instr.slice t (ev s) (lo.map ev) (hi.map ev) none).run P W = .ok u W) : (execOp ev o).run P W = .ok (.value u) W := by
  have hel : P.elem t = e := by simp [Program.elem, ht]
  have h1 := run_sliceAt_slice (P := P) (w := W) t (ev s) (lo.map ev) (hi.map ev) none (by rw [hel]; exact ht)
  simp [execOp, ho, h1, hr]
section
variable {P : Program} {ops : Array Oper} {rest : List Oper} {o : Oper} {a : Act} {Q : Exit → Act → World → Prop}
end
set_option maxRecDepth 100000 in
/-- append(v, ys...) as one operation -/
theorem appendRow_gives {o : Oper} {ev : Operand → Value} {W : World} (base : Nat) (s x : Operand) (ho : o.op = .call { callee := .builtin .append, args := #[s, x], argTypes := #[22, 22] })
    (v : Value) (xs ys : List Int) (ad : Addr) (n c : Nat) (hs : ev s = v) (hx : ev x = .slice (some ad) n c) (hn : n = ys.length) (hr : ReadI W (.slice (some ad) n c) ys)
    (HO : OwnI base W v xs) (hbase : base ≤ W.heap.size) (hl : xs.length + ys.length < 1000000) {R : Value → World → Prop}
    (h : ∀ v1 w1, OwnI base w1 v1 (xs ++ ys) → W.grownBy w1 v.ownBlock → R v1 w1) : opGives Try.prog o ev W R := by
  obtain ⟨i64, hi, hii⟩ := Option.map_eq_some_iff.1 info64
  simp only [Prod.mk.injEq] at hii
  obtain ⟨hi0, hi1, hi2⟩ := hii
  obtain ⟨A0, c0, e0, -, hr⟩ := hr
  cases e0
  have hO := Kd.own_of_R HO
  obtain ⟨v', w', hrun, h2, h3, -⟩ := run_append_own_at (P := Try.prog) W base 22 o.type 2 _ (.int .i64 0) 1 8 Try.underlying22 hi hi0 hi1 hi2 rfl (by decide) v xs.length (xs.map (Value.int .i64)) hO ad ys.length c (ys.map (Value.int .i64)) (by rw [List.length_map, Nat.mul_one])
    (fun j u hj => by
      rw [List.getElem?_map] at hj
      obtain ⟨y, hy, rfl⟩ := Option.map_eq_some_iff.1 hj
      have hjl := (List.getElem?_eq_some_iff.1 hy).1
      obtain ⟨ad', e', hcell⟩ := ReadI.at_ hr hjl
      cases e'
      rw [hcell, List.getD_eq_getElem?_getD, hy]; rfl) (fun u hu => by
      obtain ⟨y, -, rfl⟩ := List.mem_map.1 hu
      rfl) (by simp only [maxLen]; omega) (by omega) hbase
  refine opGives_value (w' := w') (v := v') ?_ (h v' w' (OwnI.of_row (b := base) (by rw [List.length_append, List.map_append]; exact h2) (Nat.le_refl _)) h3)
  unfold execOp
  simp only [ho, resolve, invoke, builtin, Sem.run_bind, Sem.run_pure, Result.andThen_ok, List.map_toArray, List.map_cons, List.map_nil, hs, hx, hn, hrun]

end Go.Proofs.Ytkggchklmpmgpaa.H

namespace Go.Proofs.Ytkggchklmpmgpaa.H
open Go.RowKit Go.Proofs.YtkggchklmpmgpaaW.PrintWords Go.Proofs.YtkggchklmpmgpaaW.PrintLast Go.Proofs.YtkggchklmpmgpaaW.PrintMore
set_option linter.unusedVariables false
set_option linter.unusedSimpArgs false

/-- a copy, one number behind it, a row behind that -/
def SJ (l : List Int) (x : Int) (w0 : World) (D : Value → World → Prop) (b : Nat → Bool) (s : Nat → Value) (w : World) : Prop := RI 3 5 6 10 l x w0 D b s w ∧ (b 11 = true → b 10 = true ∧ s 11 = s 10)
section
variable {l : List Int} {x : Int} {w0 w : World} {D : Value → World → Prop} {b : Nat → Bool} {s : Nat → Value}
theorem SJ.start (hb : ∀ i, b i = false) : SJ l x w0 D b s w0.drew := ⟨RI.start (by decide) hb, fun h => by rw [hb] at h; cases h⟩
theorem SJ.no11 (h : SJ l x w0 D b s w) (hb : b 3 = false ∨ b 5 = false ∨ b 6 = false ∨ b 10 = false) : b 11 = false := by
  cases h1 : b 11 with
  | false => rfl
  | true =>
    have h2 := (h.2 h1).1
    have h3 := h.1.hf h2
    have h4 := h.1.ha h3
    rcases hb with hb | hb | hb | hb
    · rw [h4.1] at hb; cases hb
    · rw [h4.2] at hb; cases hb
    · rw [h3] at hb; cases hb
    · rw [h2] at hb; cases hb
theorem SJ.step {i : Nat} {v : Value} {w' : World} (h : SJ l x w0 D b s w) (h1 : 11 ≠ i) (h11 : b 11 = false) (hr : RI 3 5 6 10 l x w0 D (markU b i) (upd s i v) w') : SJ l x w0 D (markU b i) (upd s i v) w' :=
  ⟨hr, fun e => by rw [markU_ne b h1, h11] at e; cases e⟩
theorem SJ.quiet (h : SJ l x w0 D b s w) {i : Nat} (h1 : ¬i = 3) (h2 : ¬i = 5) (h3 : ¬i = 6) (h4 : ¬i = 10) (h5 : ¬i = 11) (v : Value) : SJ l x w0 D (markU b i) (upd s i v) w :=
  ⟨h.1.quiet h1 h2 h3 h4 v, by rw [markU_ne b (Ne.symm h5), markU_ne b (Ne.symm h4), upd_ne s v (Ne.symm h5), upd_ne s v (Ne.symm h4)]; exact h.2⟩
theorem SJ.last (h : SJ l x w0 D b s w) (h10 : b 10 = true) (h11 : b 11 = false) : SJ l x w0 D (markU b 11) (upd s 11 (s 10)) w :=
  ⟨h.1.quiet (by decide) (by decide) (by decide) (by decide) _, fun _ => ⟨by rw [markU_ne b (by decide)]; exact h10, by rw [upd_self, upd_ne s _ (by decide)]⟩⟩
end
theorem OwnI.form0 {b : Nat} {w : World} {v : Value} {xs : List Int} (h : OwnI b w v xs) : ∃ (A : Option Addr) (c : Nat), v = .slice A xs.length c ∧ (A = none → c = 0) := by
  obtain ⟨A, c, e, -⟩ := h.read
  refine ⟨A, c, e, fun hA => ?_⟩
  rcases (Kd.own_of_R h).2 with ⟨e2, -⟩ | ⟨g, cap, cur, e2, -⟩
  · rw [e2] at e; injection e with _ _ e3; exact e3.symm
  · rw [e2] at e; injection e with e1; rw [hA] at e1; cases e1
set_option maxRecDepth 100000 in
/-- append(v, ys...) as one operation, ys nil or not -/
theorem appendAny_gives {o : Oper} {ev : Operand → Value} {W : World} (base : Nat) (s x : Operand) (ho : o.op = .call { callee := .builtin .append, args := #[s, x], argTypes := #[22, 22] })
    (v : Value) (xs ys : List Int) (A : Option Addr) (n c : Nat) (hs : ev s = v) (hx : ev x = .slice A n c) (hn : n = ys.length) (hr : ReadI W (.slice A n c) ys ∧ (A = none → c = 0))
    (HO : OwnI base W v xs) (hbase : base ≤ W.heap.size) (hl : xs.length + ys.length < 1000000) {R : Value → World → Prop}
    (h : ∀ v1 w1, OwnI base w1 v1 (xs ++ ys) → W.grownBy w1 v.ownBlock → R v1 w1) : opGives Try.prog o ev W R := by
  cases A with
  | some ad => exact appendRow_gives base s x ho v xs ys ad n c hs hx hn hr.1 HO hbase hl h
  | none =>
    obtain rfl := hr.2 rfl
    obtain ⟨A0, c0, e0, hc0, -⟩ := hr.1
    cases e0
    have hy : ys = [] := List.eq_nil_of_length_eq_zero (by omega)
    subst hy
    obtain ⟨i64, hi, hii⟩ := Option.map_eq_some_iff.1 info64
    have hrun := run_append_owned_none (P := Try.prog) (w := W) base 22 o.type 2 i64 1 Try.underlying22 hi v xs.length _ (Kd.own_of_R HO)
    refine opGives_value (w' := W) (v := v) ?_ (h v W (by rw [List.append_nil]; exact HO) ⟨rfl, rfl, rfl, Nat.le_refl _, fun _ _ _ => rfl⟩)
    unfold execOp
    simp only [ho, resolve, invoke, builtin, Sem.run_bind, Sem.run_pure, Result.andThen_ok, List.map_toArray, List.map_cons, List.map_nil, hs, hx, List.length_nil, hrun]

set_option maxRecDepth 100000 in
set_option maxHeartbeats 4000000 in
theorem drawOrder (bs n : Nat) (hn : n ≤ 6) (w : World) (hs : Src bs w) :
    Calls Try.prog 162 #[.pointer (some ⟨bs, 0, none⟩), .int .i64 n] w fun e w' => ∃ u, e = .returned u ∧ (∃ p : List Int, OwnI w.heap.size w' u p ∧ p.length = n ∧ ∀ x ∈ p, 0 ≤ x ∧ x ≤ 5) ∧ Dw bs w w' := by
  have HBS := Aside0.mk hs.lt
  obtain ⟨w1, hw1⟩ : ∃ w1, w1 = w.alloc (.cells #[] 2) := ⟨_, rfl⟩
  have hb1 : Below w.heap.size w w1 := by rw [hw1]; exact Below.alloc (Below.refl _ _) (Nat.le_refl _) _
  have HO1 : Aside0 (OwnI w.heap.size w1 (.slice (some ⟨w.heap.size, 0, none⟩) 0 0) []) := ⟨by rw [hw1]; exact OwnI.empty w (Nat.le_refl _)⟩
  have HD1 := Aside0.mk (Dw.of_below hs hb1)
  have hmx : Try.prog.follows .mixedOrders = true := by kernel_rfl
  clear hs hb1
  go_enter Try.func162, Try.ntmps162
  go_wp2
  rw [← hw1]
  clear hw1
  go_loopw [5, 6] (fun s5 s6 wr => ∃ (iv : Nat) (ss : List Int), s6 = .int .i64 iv ∧ iv ≤ n ∧ (∃ (A5 : Option Addr) (c5 : Nat), s5 = .slice A5 ss.length c5 ∧ (A5 = none → c5 = 0)) ∧ Aside0 (ss.length = iv) ∧ Aside0 (∀ x ∈ ss, 0 ≤ x ∧ x ≤ 5) ∧ Aside0 (OwnI w.heap.size wr s5 ss) ∧ Aside0 (Dw bs w wr)) (fun _ s6 _ => n - (intOf s6).toNat)
  case atStart => exact ⟨0, [], rfl, Nat.zero_le _, ⟨_, _, rfl, fun e => by cases e⟩, ⟨rfl⟩, ⟨fun x h => by cases h⟩, HO1, HD1⟩
  case round =>
    obtain ⟨iv, ss, rfl, hi, ⟨A5, c5, rfl, hA5⟩, HL, HSS, HO, HDr⟩ := hrel
    by_cases hlt : iv < n
    · have hltI : (iv : Int) < (n : Int) := by omega
      have hw1' : IntKind.i64.wrap ((iv : Int) + 1) = (iv : Int) + 1 := IntWalk.i64_in _ (by omega)
      go_wp2_with (first | (go_at_call 74; go_must (refine (next bs ((iv : Int) + 1) wr (by omega) HDr.out.2).mono ?_; rintro e w2 ⟨r, rfl, -, hr, hd⟩; have hr := hr (by omega); obtain ⟨k, rfl⟩ : ∃ k : Nat, r = k := ⟨r.toNat, by omega⟩; have HK : Aside0 (k ≤ ss.length) := ⟨by rw [HL.out]; omega⟩; have HD2 := Aside0.mk (HDr.out.trans hd); have HO2 := Aside0.mk (HO.out.grown hd.1 (fun kk hk e => by have := HO.out.base kk hk; have := Option.some.inj e; have := HBS.out; omega)); clear hd)))
      obtain ⟨Af, cf, hsf, hrf, hnf⟩ := ReadI.from_ HO2.out.read HK.out
      have hS2 := Aside0.mk hsf
      have HS2 := Aside0.mk hsf
      have HS1 := Aside0.mk ((ReadI.to_ HO2.out.read HK.out).1)
      have HTK := Aside0.mk (fun W (h : Below w2.heap.size w2 W) => (ReadI.to_ (HO2.out.read.below h) HK.out).2)
      have hcf0 : Af = none → cf = 0 := fun hAf => by
        by_cases hA : A5 = none
        · have h5 := hA5 hA
          obtain ⟨A0, c0, e0, hc0, -⟩ := HO2.out.read
          cases e0
          have hk0 : k = 0 := by have := HK.out; omega
          have hl0 : ss.length = 0 := by omega
          have h1 := hsf w2
          rw [hl0, hA, h5, hk0] at h1
          have h2 : (Instr.slice 22 (.slice none 0 0) (some (.int .i64 ((0 : Nat) : Int))) none none).run Try.prog w2 = .ok (.slice none 0 0) w2 := by
            obtain ⟨i, hi, hs⟩ := Option.map_eq_some_iff.1 (show (Try.prog.info? 2).map (·.size) = some 1 by kernel_rfl)
            simp [Instr.slice, Instr.sliceBounds, Instr.sliceBound, asIntOf, run_underlying Try.underlying22, sizeOf, typeInfo, hi, hs, go_sem]
          rw [h2] at h1
          injection h1 with h3
          injection h3 with _ _ h4
          exact h4.symm
        · exact absurd hAf (hnf hA)
      have HDR : Aside0 (∀ W, Below w2.heap.size w2 W → ReadI W (.slice Af (ss.length - k) cf) (ss.drop k) ∧ (Af = none → cf = 0)) := ⟨fun W hb => ⟨hrf.below hb, hcf0⟩⟩
      have HSL : Aside0 (ss.length ≤ 6) := ⟨by rw [HL.out]; omega⟩
      have HTL : Aside0 ((ss.take k).length ≤ 6) := ⟨by rw [List.length_take]; have := HSL.out; omega⟩
      clear hsf hrf hnf hS2 hcf0
      go_wp2
      refine wp_region_u (fun i => !(i == 3) && !(i == 5) && !(i == 6) && !(i == 10) && !(i == 11)) (fun i => match i with | 0 => fun v => v = .slice A5 ss.length c5 | 1 => fun v => v = .int .i64 (k : Int) | 2 => fun v => v = .slice A5 k c5 | 4 => fun v => v = .int .i64 (iv : Int) | 7 => fun v => v = .slice A5 ss.length c5 | 8 => fun v => v = .int .i64 (k : Int) | 9 => fun v => v = .slice Af (ss.length - k) cf | _ => fun _ => True)
        (SJ (ss.take k) (iv : Int) w2 (fun z W => OwnI w2.heap.size W z (ss.take k ++ [(iv : Int)] ++ ss.drop k) ∧ Below w2.heap.size w2 W)) [0, 0, 3, 7, 0, 16, 63, 0, 0, 384, 1023, 2047] hmx (by kernel_rfl) ?start ?stay ?steps ?rest
      case start =>
        intro b_ s hb
        exact SJ.start hb
      case stay =>
        intro i_ b_ s v_ w1_ hq hI
        have h4 : (((¬i_ = 3 ∧ ¬i_ = 5) ∧ ¬i_ = 6) ∧ ¬i_ = 10) ∧ ¬i_ = 11 := by simpa using hq
        exact hI.quiet h4.1.1.1.1 h4.1.1.1.2 h4.1.1.2 h4.1.2 h4.2 v_
      case steps =>
        refine ⟨?_, ?_, ?_, ?_, ?_, ?_, ?_, ?_, ?_, ?_, ?_, ?_, trivial⟩
        · intro s b_ w_ hI hbi hd hq R hR hN
          generalize hA : putAll _ 0 s _ = A
          have q11 : s 11 = .slice A5 ss.length c5 := hq 11 (by kernel_rfl)
          clear hq
          refine stepG_on rfl ?_
          have hR' := hR rfl (.slice A5 ss.length c5) rfl
          clear hR hN hd
          refine opGives_value ?_ hR'
          subst hA
          simp only [dsOf, List.map_cons, List.map_nil, Option.getD_some, putAll, Act.put, List.setIfInBounds_toArray, List.set_cons_zero, List.set_cons_succ]
          go_simp
        · intro s b_ w_ hI hbi hd hq R hR hN
          generalize hA : putAll _ 0 s _ = A
          clear hq
          refine stepG_on rfl ?_
          have hR' := hR rfl (.int .i64 (k : Int)) rfl
          clear hR hN hd
          refine opGives_value ?_ hR'
          subst hA
          simp only [dsOf, List.map_cons, List.map_nil, Option.getD_some, putAll, Act.put, List.setIfInBounds_toArray, List.set_cons_zero, List.set_cons_succ]
          go_simp
        · intro s b_ w_ hI hbi hd hq R hR hN
          generalize hA : putAll _ 0 s _ = A
          clear hq
          refine stepG_on rfl ?_
          have e0 : s 0 = _ := (hd 0 (by kernel_rfl)).2 rfl
          have e1 : s 1 = _ := (hd 1 (by kernel_rfl)).2 rfl
          have hR' := hR rfl (.slice A5 k c5) rfl
          clear hR hN hd
          refine opGives_value (slice_exec Try.underlying22 rfl ?_) hR'
          subst hA
          simp only [dsOf, List.map_cons, List.map_nil, Option.getD_some, putAll, Act.put, List.setIfInBounds_toArray, List.set_cons_zero, List.set_cons_succ]
          show (Instr.slice 22 (s 0) none (some (s 1)) none).run Try.prog w_ = _
          rw [e0, e1]
          exact HS1.out w_
        · intro s b_ w_ hI hbi hd hq R hR hN
          generalize hA : putAll _ 0 s _ = A
          clear hq
          refine stepG_on rfl ?_
          have e2 : s 2 = _ := (hd 2 (by kernel_rfl)).2 rfl
          clear hR
          refine opGives_call (f := 83) (args := #[.slice A5 k c5]) ?_ ?_
          · subst hA
            clear hN hd
            simp only [dsOf, List.map_cons, List.map_nil, Option.getD_some, putAll, Act.put, List.setIfInBounds_toArray, List.set_cons_zero, List.set_cons_succ]
            go_simp
          clear hA A hd
          have hBw := hI.1.hB (hI.1.noa (hI.1.noc hbi))
          refine (specOwn2 _ (ss.take k) w_ (HTK.out w_ hBw) (Nat.le_trans HTL.out (by decide))).mono ?_
          rintro e w3_ ⟨u3, rfl, ho, hb3⟩
          exact ⟨_, rfl, hN rfl _ _ (hI.step (by decide) (hI.no11 (.inl hbi)) (hI.1.clone hbi hb3 (ho.lower hBw.size)))⟩
        · intro s b_ w_ hI hbi hd hq R hR hN
          generalize hA : putAll _ 0 s _ = A
          clear hq
          refine stepG_on rfl ?_
          have hR' := hR rfl (.int .i64 (iv : Int)) rfl
          clear hR hN hd
          refine opGives_value ?_ hR'
          subst hA
          simp only [dsOf, List.map_cons, List.map_nil, Option.getD_some, putAll, Act.put, List.setIfInBounds_toArray, List.set_cons_zero, List.set_cons_succ]
          go_simp
        · intro s b_ w_ hI hbi hd hq R hR hN
          generalize hA : putAll _ 0 s _ = A
          clear hq
          refine stepG_on rfl ?_
          have e4 : s 4 = _ := (hd 4 (by kernel_rfl)).2 rfl
          clear hR
          have hN' := hN rfl (.slice (some ⟨w_.heap.size, 0, none⟩) 1 1) (w_.alloc (.cells #[.int .i64 (iv : Int)] 2)) (hI.step (by decide) (hI.no11 (.inr (.inl hbi))) (hI.1.build hbi))
          clear hN hd
          refine opGives_value ?_ hN'
          subst hA
          simp only [dsOf, List.map_cons, List.map_nil, Option.getD_some, putAll, Act.put, List.setIfInBounds_toArray, List.set_cons_zero, List.set_cons_succ]
          go_simp
        · intro s b_ w_ hI hbi hd hq R hR hN
          generalize hA : putAll _ 0 s _ = A
          clear hq
          refine stepG_on rfl ?_
          have b3 : b_ 3 = true := (hd 3 (by kernel_rfl)).1
          have b5 : b_ 5 = true := (hd 5 (by kernel_rfl)).1
          clear hR
          have hOC := hI.1.hC b3 hbi
          obtain ⟨kb, ekb, hkb⟩ := hI.1.hS b5 hbi
          have hBw := hI.1.hB (hI.1.noa hbi)
          obtain ⟨Ac, cc, eC, -⟩ := hOC.read
          refine append_gives w2.heap.size (.tmp 21) (.tmp 23) rfl (.slice Ac (ss.take k).length cc) (ss.take k) (iv : Int) kb 1 ?_ ?_ hkb (by rw [← eC]; exact hOC) hBw.size (by have := HTL.out; omega) ?_
          · subst hA
            clear hN hd
            simp only [dsOf, List.map_cons, List.map_nil, Option.getD_some, putAll, Act.put, List.setIfInBounds_toArray, List.set_cons_zero, List.set_cons_succ]
            exact eC
          · subst hA
            clear hN hd
            simp only [dsOf, List.map_cons, List.map_nil, Option.getD_some, putAll, Act.put, List.setIfInBounds_toArray, List.set_cons_zero, List.set_cons_succ]
            exact ekb
          intro v1 wn1 ho1 hg1 hat1
          exact hN rfl _ _ (hI.step (by decide) (hI.no11 (.inr (.inr (.inl hbi)))) (hI.1.app b3 b5 hbi ho1 (by rw [eC]; exact hg1)))
        · intro s b_ w_ hI hbi hd hq R hR hN
          generalize hA : putAll _ 0 s _ = A
          have q11 : s 11 = .slice A5 ss.length c5 := hq 11 (by kernel_rfl)
          clear hq
          refine stepG_on rfl ?_
          have hR' := hR rfl (.slice A5 ss.length c5) rfl
          clear hR hN hd
          refine opGives_value ?_ hR'
          subst hA
          simp only [dsOf, List.map_cons, List.map_nil, Option.getD_some, putAll, Act.put, List.setIfInBounds_toArray, List.set_cons_zero, List.set_cons_succ]
          go_simp
        · intro s b_ w_ hI hbi hd hq R hR hN
          generalize hA : putAll _ 0 s _ = A
          clear hq
          refine stepG_on rfl ?_
          have hR' := hR rfl (.int .i64 (k : Int)) rfl
          clear hR hN hd
          refine opGives_value ?_ hR'
          subst hA
          simp only [dsOf, List.map_cons, List.map_nil, Option.getD_some, putAll, Act.put, List.setIfInBounds_toArray, List.set_cons_zero, List.set_cons_succ]
          go_simp
        · intro s b_ w_ hI hbi hd hq R hR hN
          generalize hA : putAll _ 0 s _ = A
          clear hq
          refine stepG_on rfl ?_
          have e7 : s 7 = _ := (hd 7 (by kernel_rfl)).2 rfl
          have e8 : s 8 = _ := (hd 8 (by kernel_rfl)).2 rfl
          have hR' := hR rfl (.slice Af (ss.length - k) cf) rfl
          clear hR hN hd
          refine opGives_value (slice_exec Try.underlying22 rfl ?_) hR'
          subst hA
          simp only [dsOf, List.map_cons, List.map_nil, Option.getD_some, putAll, Act.put, List.setIfInBounds_toArray, List.set_cons_zero, List.set_cons_succ]
          show (Instr.slice 22 (s 7) (some (s 8)) none none).run Try.prog w_ = _
          rw [e7, e8]
          exact HS2.out w_
        · intro s b_ w_ hI hbi hd hq R hR hN
          generalize hA : putAll _ 0 s _ = A
          clear hq
          refine stepG_on rfl ?_
          have b6 : b_ 6 = true := (hd 6 (by kernel_rfl)).1
          have e9 : s 9 = _ := (hd 9 (by kernel_rfl)).2 rfl
          clear hR
          have hOA := hI.1.hA b6 hbi
          have hBw := hI.1.hB hbi
          obtain ⟨Aa, ca, eA, -⟩ := hOA.read
          refine appendAny_gives w2.heap.size (.tmp 24) (.tmp 27) rfl (.slice Aa (ss.take k ++ [(iv : Int)]).length ca) (ss.take k ++ [(iv : Int)]) (ss.drop k) Af (ss.length - k) cf ?_ ?_ (by rw [List.length_drop]) (HDR.out w_ hBw) (by rw [← eA]; exact hOA) hBw.size (by have h1 := HTL.out; have h2 := HSL.out; rw [List.length_append, List.length_drop]; simp only [List.length_singleton]; omega) ?_
          · subst hA
            clear hN hd
            simp only [dsOf, List.map_cons, List.map_nil, Option.getD_some, putAll, Act.put, List.setIfInBounds_toArray, List.set_cons_zero, List.set_cons_succ]
            exact eA
          · subst hA
            clear hN hd
            simp only [dsOf, List.map_cons, List.map_nil, Option.getD_some, putAll, Act.put, List.setIfInBounds_toArray, List.set_cons_zero, List.set_cons_succ]
            exact e9
          intro v1 wn1 ho1 hg1
          exact hN rfl _ _ (hI.step (by decide) (hI.no11 (.inr (.inr (.inr hbi)))) (hI.1.call b6 hbi ⟨ho1, hBw.grown hg1 hBw.size (fun j hj => by rw [← eA] at hj; exact hOA.base j hj)⟩))
        · intro s b_ w_ hI hbi hd hq R hR hN
          generalize hA : putAll _ 0 s _ = A
          clear hq
          refine stepG_on rfl ?_
          have b10 : b_ 10 = true := (hd 10 (by kernel_rfl)).1
          clear hR
          have hN' := hN rfl (s 10) w_ (hI.last b10 hbi)
          clear hN hd
          refine opGives_value ?_ hN'
          subst hA
          simp only [dsOf, List.map_cons, List.map_nil, Option.getD_some, putAll, Act.put, List.setIfInBounds_toArray, List.set_cons_zero, List.set_cons_succ]
          rfl
      case rest =>
        intro s9 b_ w9 hI hb hv
        simp only [dsOf, List.map_cons, List.map_nil, Option.getD_some, putAll, Act.put, List.setIfInBounds_toArray, List.set_cons_zero, List.set_cons_succ]
        clear hv 
        obtain ⟨hD1, hD2⟩ := hI.1.hD (hb 10 (by decide))
        have e11_ := (hI.2 (hb 11 (by decide))).2
        have HO9 := Aside0.mk hD1
        have HB9 := Aside0.mk hD2
        rw [e11_]
        obtain ⟨z9, hz9⟩ : ∃ z9, z9 = s9 10 := ⟨_, rfl⟩
        rw [← hz9] at HO9 ⊢
        clear hI hb hD1 hD2 e11_ hz9
        go_wp2
        go_roundw
        case rel => exact ⟨iv + 1, ss.take k ++ [(iv : Int)] ++ ss.drop k, by go_num, by omega, HO9.out.form0, ⟨by rw [List.length_append, List.length_append, List.length_take, List.length_drop, List.length_singleton]; have := HK.out; have := HL.out; omega⟩, ⟨fun x hx => by
          rcases List.mem_append.1 hx with hx | hx
          · rcases List.mem_append.1 hx with hx | hx
            · exact HSS.out x (List.mem_of_mem_take hx)
            · rw [List.mem_singleton] at hx; omega
          · exact HSS.out x (List.mem_of_mem_drop hx)⟩, ⟨HO9.out.lower HD2.out.size⟩, ⟨HD2.out.then_below HB9.out⟩⟩
        case measure => simp [intOf]; omega
    · have e : iv = n := by omega
      have HE := Aside0.mk e
      clear e
      have hltI : ¬ (iv : Int) < (n : Int) := by omega
      go_wp2
      go_ret
      exact ⟨_, rfl, ⟨ss, HO.out, by rw [HL.out, HE.out], HSS.out⟩, HDr.out⟩
end Go.Proofs.Ytkggchklmpmgpaa.H
