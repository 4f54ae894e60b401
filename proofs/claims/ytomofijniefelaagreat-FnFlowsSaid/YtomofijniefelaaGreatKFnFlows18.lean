/- Orders drawn: l01DrawOrder. A region of open order: heads as in wp_region_u, the last operations one behind the other. A region of open order: heads under any relation G between worlds, the last operations one behind the other. The image of a face, by the program and by the reference. Complexes drawn: l01Renamed, l01Draw. -/
import Derived.Test.YtomofijniefelaaGreatKFnFlows1
import Derived.Test.YtomofijniefelaaGreatKFnFlows2
import Derived.Test.YtomofijniefelaaGreatKFnFlows3
import Derived.Test.YtomofijniefelaaGreatKFnFlows4
import Derived.Test.YtomofijniefelaaGreatKFnFlows5
import Derived.Test.YtomofijniefelaaGreatKFnFlows6
import Derived.Test.YtomofijniefelaaGreatKFnFlows7
import Derived.Test.YtomofijniefelaaGreatKFnFlows8
import Derived.Test.YtomofijniefelaaGreatKFnFlows9
import Derived.Test.YtomofijniefelaaGreatKFnFlows10
import Derived.Test.YtomofijniefelaaGreatKFnFlows11
import Derived.Test.YtomofijniefelaaGreatKFnFlows12
import Derived.Test.YtomofijniefelaaGreatKFnFlows13
import Derived.Test.YtomofijniefelaaGreatKFnFlows14
import Derived.Test.YtomofijniefelaaGreatKFnFlows15
import Derived.Test.YtomofijniefelaaGreatKFnFlows16
import Derived.Test.YtomofijniefelaaGreatKFnFlows17

namespace Go.Proofs.YtomofijniefelaaGreat.H
open Go.RowKit Go.Proofs.YtomofijniefelaaGreatW.PrintWords Go.Proofs.YtomofijniefelaaGreatW.PrintLast
set_option linter.unusedVariables false
set_option linter.unusedSimpArgs false
/-- a copy, one number behind it, a row behind that -/
def SJ (l : List Int) (x : Int) (w0 : World) (D : Value → World → Prop) (b : Nat → Bool) (s : Nat → Value) (w : World) : Prop := RI 3 5 6 10 l x w0 D b s w ∧ (b 11 = true → b 10 = true ∧ s 11 = s 10)
section
variable {l : List Int} {x : Int} {w0 w : World} {D : Value → World → Prop} {b : Nat → Bool} {s : Nat → Value}
theorem SJ.start (hb : ∀ i, b i = false) : SJ l x w0 D b s w0.drew := ⟨RI.start (by decide) hb, fun h => by rw [hb] at h; cases h⟩
theorem SJ.no11 (h : SJ l x w0 D b s w) (hb : b 3 = false ∨ b 5 = false ∨ b 6 = false ∨ b 10 = false) : b 11 = false := by
 cases h1 : b 11 with
 | false => rfl
 | true =>
  have h2 := (h.2 h1).1
  have h3 := h.1.hf h2
  have h4 := h.1.ha h3
  rcases hb with hb | hb | hb | hb
  ·rw [h4.1] at hb; cases hb
  ·rw [h4.2] at hb; cases hb
  ·rw [h3] at hb; cases hb
  ·rw [h2] at hb; cases hb
theorem SJ.step {i : Nat} {v : Value} {w' : World} (h : SJ l x w0 D b s w) (h1 : 11 ≠ i) (h11 : b 11 = false) (hr : RI 3 5 6 10 l x w0 D (markU b i) (upd s i v) w') : SJ l x w0 D (markU b i) (upd s i v) w' :=
 ⟨hr, fun e => by rw [markU_ne b h1, h11] at e; cases e⟩
theorem SJ.quiet (h : SJ l x w0 D b s w) {i : Nat} (h1 : ¬i = 3) (h2 : ¬i = 5) (h3 : ¬i = 6) (h4 : ¬i = 10) (h5 : ¬i = 11) (v : Value) : SJ l x w0 D (markU b i) (upd s i v) w :=
 ⟨h.1.quiet h1 h2 h3 h4 v, by rw [markU_ne b (Ne.symm h5), markU_ne b (Ne.symm h4), upd_ne s v (Ne.symm h5), upd_ne s v (Ne.symm h4)]; exact h.2⟩
theorem SJ.last (h : SJ l x w0 D b s w) (h10 : b 10 = true) (h11 : b 11 = false) : SJ l x w0 D (markU b 11) (upd s 11 (s 10)) w :=
 ⟨h.1.quiet (by decide) (by decide) (by decide) (by decide) _, fun _ => ⟨by rw [markU_ne b (by decide)]; exact h10, by rw [upd_self, upd_ne s _ (by decide)]⟩⟩
end
theorem OwnI.form0 {b : Nat} {w : World} {v : Value} {xs : List Int} (h : OwnI b w v xs) : ∃ (A : Option Addr) (c : Nat), v = .slice A xs.length c ∧ (A = none → c = 0) := by
 obtain ⟨A, c, e, -⟩ := h.read
 refine ⟨A, c, e, fun hA => ?_⟩
 rcases (Kd.own_of_R h).2 with ⟨e2, -⟩ | ⟨g, cap, cur, e2, -⟩
 ·rw [e2] at e; injection e with _ _ e3; exact e3.symm
 ·rw [e2] at e; injection e with e1; rw [hA] at e1; cases e1
set_option maxRecDepth 100000 in
/-- append(v, ys...) as one operation, ys nil or not -/
theorem appendAny_gives {o : Oper} {ev : Operand → Value} {W : World} (base : Nat) (s x : Operand) (ho : o.op = .call { callee := .builtin .append, args := #[s, x], argTypes := #[24, 24] })
  (v : Value) (xs ys : List Int) (A : Option Addr) (n c : Nat) (hs : ev s = v) (hx : ev x = .slice A n c) (hn : n = ys.length) (hr : ReadI W (.slice A n c) ys ∧ (A = none → c = 0))
  (HO : OwnI base W v xs) (hbase : base ≤ W.heap.size) (hl : xs.length + ys.length < 1000000) {R : Value → World → Prop}
  (h : ∀ v1 w1, OwnI base w1 v1 (xs ++ ys) → W.grownBy w1 v.ownBlock → R v1 w1) : opGives Tryz.prog o ev W R := by
 cases A with
 | some ad => exact appendRow_gives base s x ho v xs ys ad n c hs hx hn hr.1 HO hbase hl h
 | none =>
  obtain rfl := hr.2 rfl
  obtain ⟨A0, c0, e0, hc0, -⟩ := hr.1
  cases e0
  have hy : ys = [] := List.eq_nil_of_length_eq_zero (by omega)
  subst hy
  obtain ⟨i64, hi, hii⟩ := Option.map_eq_some_iff.1 info64
  have hrun := run_append_owned_none (P := Tryz.prog) (w := W) base 24 o.type 2 i64 1 Tryz.underlying24 hi v xs.length _ (Kd.own_of_R HO)
  refine opGives_value (w' := W) (v := v) ?_ (h v W (by rw [List.append_nil]; exact HO) ⟨rfl, rfl, rfl, Nat.le_refl _, fun _ _ _ => rfl⟩)
  unfold execOp
  simp only [ho, resolve, invoke, builtin, Sem.run_bind, Sem.run_pure, Result.andThen_ok, List.map_toArray, List.map_cons, List.map_nil, hs, hx, List.length_nil, hrun]
set_option maxRecDepth 100000 in
set_option maxHeartbeats 4000000 in
theorem drawOrder (bs n : Nat) (hn : n ≤ 6) (w : World) (hs : Src bs w) :
  Calls Tryz.prog 159 #[.pointer (some ⟨bs, 0, none⟩), .int .i64 n] w fun e w' => ∃ u, e = .returned u ∧ (∃ p : List Int, OwnI w.heap.size w' u p ∧ p.length = n ∧ ∀ x ∈ p, 0 ≤ x ∧ x ≤ 5) ∧ Dw bs w w' := by
 have HBS := Aside0.mk hs.lt
 obtain ⟨w1, hw1⟩ : ∃ w1, w1 = w.alloc (.cells #[] 2) := ⟨_, rfl⟩
 have hb1 : Below w.heap.size w w1 := by rw [hw1]; exact Below.alloc (Below.refl _ _) (Nat.le_refl _) _
 have HO1 : Aside0 (OwnI w.heap.size w1 (.slice (some ⟨w.heap.size, 0, none⟩) 0 0) []) := ⟨by rw [hw1]; exact OwnI.empty w (Nat.le_refl _)⟩
 have HD1 := Aside0.mk (Dw.of_below hs hb1)
 have hmx : Tryz.prog.follows .mixedOrders = true := by kernel_rfl
 clear hs hb1
 go_enter Tryz.func159, Tryz.ntmps159
 go_wp2
 rw [← hw1]
 clear hw1
 go_loopw [5, 6] (fun s5 s6 wr => ∃ (iv : Nat) (ss : List Int), s6 = .int .i64 iv ∧ iv ≤ n ∧ (∃ (A5 : Option Addr) (c5 : Nat), s5 = .slice A5 ss.length c5 ∧ (A5 = none → c5 = 0)) ∧ Aside0 (ss.length = iv) ∧ Aside0 (∀ x ∈ ss, 0 ≤ x ∧ x ≤ 5) ∧ Aside0 (OwnI w.heap.size wr s5 ss) ∧ Aside0 (Dw bs w wr)) (fun _ s6 _ => n - (intOf s6).toNat)
 case atStart => exact ⟨0, [], rfl, Nat.zero_le _, ⟨_, _, rfl, fun e => by cases e⟩, ⟨rfl⟩, ⟨fun x h => by cases h⟩, HO1, HD1⟩
 case round =>
  obtain ⟨iv, ss, rfl, hi, ⟨A5, c5, rfl, hA5⟩, HL, HSS, HO, HDr⟩ := hrel
  by_cases hlt : iv < n
  ·have hltI : (iv : Int) < (n : Int) := by omega
   have hw1' : IntKind.i64.wrap ((iv : Int) + 1) = (iv : Int) + 1 := IntWalk.i64_in _ (by omega)
   go_wp2_with (first | (go_at_call 146; go_must (refine (next bs ((iv : Int) + 1) wr (by omega) HDr.out.2).mono ?_; rintro e w2 ⟨r, rfl, -, hr, hd⟩; have hr := hr (by omega); obtain ⟨k, rfl⟩ : ∃ k : Nat, r = k := ⟨r.toNat, by omega⟩; have HK : Aside0 (k ≤ ss.length) := ⟨by rw [HL.out]; omega⟩; have HD2 := Aside0.mk (HDr.out.trans hd); have HO2 := Aside0.mk (HO.out.grown hd.1 (fun kk hk e => by have := HO.out.base kk hk; have := Option.some.inj e; have := HBS.out; omega)); clear hd)))
   obtain ⟨Af, cf, hsf, hrf, hnf⟩ := ReadI.from_ HO2.out.read HK.out
   have hS2 := Aside0.mk hsf
   have HS2 := Aside0.mk hsf
   have HS1 := Aside0.mk ((ReadI.to_ HO2.out.read HK.out).1)
   have HTK := Aside0.mk (fun W (h : Below w2.heap.size w2 W) => (ReadI.to_ (HO2.out.read.below h) HK.out).2)
   have hcf0 : Af = none → cf = 0 := fun hAf => by
    by_cases hA : A5 = none
    ·have h5 := hA5 hA
     obtain ⟨A0, c0, e0, hc0, -⟩ := HO2.out.read
     cases e0
     have hk0 : k = 0 := by have := HK.out; omega
     have hl0 : ss.length = 0 := by omega
     have h1 := hsf w2
     rw [hl0, hA, h5, hk0] at h1
     have h2 : (Instr.slice 24 (.slice none 0 0) (some (.int .i64 ((0 : Nat) : Int))) none none).run Tryz.prog w2 = .ok (.slice none 0 0) w2 := by
      obtain ⟨i, hi, hs⟩ := Option.map_eq_some_iff.1 (show (Tryz.prog.info? 2).map (·.size) = some 1 by kernel_rfl)
      simp [Instr.slice, Instr.sliceBounds, Instr.sliceBound, asIntOf, run_underlying Tryz.underlying24, sizeOf, typeInfo, hi, hs, go_sem]
     rw [h2] at h1
     injection h1 with h3
     injection h3 with _ _ h4
     exact h4.symm
    ·exact absurd hAf (hnf hA)
   have HDR : Aside0 (∀ W, Below w2.heap.size w2 W → ReadI W (.slice Af (ss.length - k) cf) (ss.drop k) ∧ (Af = none → cf = 0)) := ⟨fun W hb => ⟨hrf.below hb, hcf0⟩⟩
   have HSL : Aside0 (ss.length ≤ 6) := ⟨by rw [HL.out]; omega⟩
   have HTL : Aside0 ((ss.take k).length ≤ 6) := ⟨by rw [List.length_take]; have := HSL.out; omega⟩
   clear hsf hrf hnf hS2 hcf0
   go_wp2
   refine wp_region_u (fun i => !(i == 3) && !(i == 5) && !(i == 6) && !(i == 10) && !(i == 11)) (fun i => match i with | 0 => fun v => v = .slice A5 ss.length c5 | 1 => fun v => v = .int .i64 (k : Int) | 2 => fun v => v = .slice A5 k c5 | 4 => fun v => v = .int .i64 (iv : Int) | 7 => fun v => v = .slice A5 ss.length c5 | 8 => fun v => v = .int .i64 (k : Int) | 9 => fun v => v = .slice Af (ss.length - k) cf | _ => fun _ => True)
    (SJ (ss.take k) (iv : Int) w2 (fun z W => OwnI w2.heap.size W z (ss.take k ++ [(iv : Int)] ++ ss.drop k) ∧ Below w2.heap.size w2 W)) [0, 0, 3, 7, 0, 16, 63, 0, 0, 384, 1023, 2047] hmx (by kernel_rfl) ?start ?stay ?steps ?rest
   case start =>
    intro b_ s hb
    exact SJ.start hb
   case stay =>
    intro i_ b_ s v_ w1_ hq hI
    have h4 : (((¬i_ = 3 ∧ ¬i_ = 5) ∧ ¬i_ = 6) ∧ ¬i_ = 10) ∧ ¬i_ = 11 := by simpa using hq
    exact hI.quiet h4.1.1.1.1 h4.1.1.1.2 h4.1.1.2 h4.1.2 h4.2 v_
   case steps =>
    refine ⟨?_, ?_, ?_, ?_, ?_, ?_, ?_, ?_, ?_, ?_, ?_, ?_, trivial⟩
    ·intro s b_ w_ hI hbi hd hq R hR hN
     generalize hA : putAll _ 0 s _ = A
     have q11 : s 11 = .slice A5 ss.length c5 := hq 11 (by kernel_rfl)
     clear hq
     refine stepG_on rfl ?_
     have hR' := hR rfl (.slice A5 ss.length c5) rfl
     clear hR hN hd
     refine opGives_value ?_ hR'
     subst hA
     simp only [dsOf, List.map_cons, List.map_nil, Option.getD_some, putAll, Act.put, List.setIfInBounds_toArray, List.set_cons_zero, List.set_cons_succ]
     go_simp
    ·intro s b_ w_ hI hbi hd hq R hR hN
     generalize hA : putAll _ 0 s _ = A
     clear hq
     refine stepG_on rfl ?_
     have hR' := hR rfl (.int .i64 (k : Int)) rfl
     clear hR hN hd
     refine opGives_value ?_ hR'
     subst hA
     simp only [dsOf, List.map_cons, List.map_nil, Option.getD_some, putAll, Act.put, List.setIfInBounds_toArray, List.set_cons_zero, List.set_cons_succ]
     go_simp
    ·intro s b_ w_ hI hbi hd hq R hR hN
     generalize hA : putAll _ 0 s _ = A
     clear hq
     refine stepG_on rfl ?_
     have e0 : s 0 = _ := (hd 0 (by kernel_rfl)).2 rfl
     have e1 : s 1 = _ := (hd 1 (by kernel_rfl)).2 rfl
     have hR' := hR rfl (.slice A5 k c5) rfl
     clear hR hN hd
     refine opGives_value (slice_exec Tryz.underlying24 rfl ?_) hR'
     subst hA
     simp only [dsOf, List.map_cons, List.map_nil, Option.getD_some, putAll, Act.put, List.setIfInBounds_toArray, List.set_cons_zero, List.set_cons_succ]
     show (Instr.slice 24 (s 0) none (some (s 1)) none).run Tryz.prog w_ = _
     rw [e0, e1]
     exact HS1.out w_
    ·intro s b_ w_ hI hbi hd hq R hR hN
     generalize hA : putAll _ 0 s _ = A
     clear hq
     refine stepG_on rfl ?_
     have e2 : s 2 = _ := (hd 2 (by kernel_rfl)).2 rfl
     clear hR
     refine opGives_call (f := 153) (args := #[.slice A5 k c5]) ?_ ?_
     ·subst hA
      clear hN hd
      simp only [dsOf, List.map_cons, List.map_nil, Option.getD_some, putAll, Act.put, List.setIfInBounds_toArray, List.set_cons_zero, List.set_cons_succ]
      go_simp
     clear hA A hd
     have hBw := hI.1.hB (hI.1.noa (hI.1.noc hbi))
     refine (specOwn2 _ (ss.take k) w_ (HTK.out w_ hBw) (Nat.le_trans HTL.out (by decide))).mono ?_
     rintro e w3_ ⟨u3, rfl, ho, hb3⟩
     exact ⟨_, rfl, hN rfl _ _ (hI.step (by decide) (hI.no11 (.inl hbi)) (hI.1.clone hbi hb3 (ho.lower hBw.size)))⟩
    ·intro s b_ w_ hI hbi hd hq R hR hN
     generalize hA : putAll _ 0 s _ = A
     clear hq
     refine stepG_on rfl ?_
     have hR' := hR rfl (.int .i64 (iv : Int)) rfl
     clear hR hN hd
     refine opGives_value ?_ hR'
     subst hA
     simp only [dsOf, List.map_cons, List.map_nil, Option.getD_some, putAll, Act.put, List.setIfInBounds_toArray, List.set_cons_zero, List.set_cons_succ]
     go_simp
    ·intro s b_ w_ hI hbi hd hq R hR hN
     generalize hA : putAll _ 0 s _ = A
     clear hq
     refine stepG_on rfl ?_
     have e4 : s 4 = _ := (hd 4 (by kernel_rfl)).2 rfl
     clear hR
     have hN' := hN rfl (.slice (some ⟨w_.heap.size, 0, none⟩) 1 1) (w_.alloc (.cells #[.int .i64 (iv : Int)] 2)) (hI.step (by decide) (hI.no11 (.inr (.inl hbi))) (hI.1.build hbi))
     clear hN hd
     refine opGives_value ?_ hN'
     subst hA
     simp only [dsOf, List.map_cons, List.map_nil, Option.getD_some, putAll, Act.put, List.setIfInBounds_toArray, List.set_cons_zero, List.set_cons_succ]
     go_simp
    ·intro s b_ w_ hI hbi hd hq R hR hN
     generalize hA : putAll _ 0 s _ = A
     clear hq
     refine stepG_on rfl ?_
     have b3 : b_ 3 = true := (hd 3 (by kernel_rfl)).1
     have b5 : b_ 5 = true := (hd 5 (by kernel_rfl)).1
     clear hR
     have hOC := hI.1.hC b3 hbi
     obtain ⟨kb, ekb, hkb⟩ := hI.1.hS b5 hbi
     have hBw := hI.1.hB (hI.1.noa hbi)
     obtain ⟨Ac, cc, eC, -⟩ := hOC.read
     refine append_gives w2.heap.size (.tmp 21) (.tmp 23) rfl (.slice Ac (ss.take k).length cc) (ss.take k) (iv : Int) kb 1 ?_ ?_ hkb (by rw [← eC]; exact hOC) hBw.size (by have := HTL.out; omega) ?_
     ·subst hA
      clear hN hd
      simp only [dsOf, List.map_cons, List.map_nil, Option.getD_some, putAll, Act.put, List.setIfInBounds_toArray, List.set_cons_zero, List.set_cons_succ]
      exact eC
     ·subst hA
      clear hN hd
      simp only [dsOf, List.map_cons, List.map_nil, Option.getD_some, putAll, Act.put, List.setIfInBounds_toArray, List.set_cons_zero, List.set_cons_succ]
      exact ekb
     intro v1 wn1 ho1 hg1 hat1
     exact hN rfl _ _ (hI.step (by decide) (hI.no11 (.inr (.inr (.inl hbi)))) (hI.1.app b3 b5 hbi ho1 (by rw [eC]; exact hg1)))
    ·intro s b_ w_ hI hbi hd hq R hR hN
     generalize hA : putAll _ 0 s _ = A
     have q11 : s 11 = .slice A5 ss.length c5 := hq 11 (by kernel_rfl)
     clear hq
     refine stepG_on rfl ?_
     have hR' := hR rfl (.slice A5 ss.length c5) rfl
     clear hR hN hd
     refine opGives_value ?_ hR'
     subst hA
     simp only [dsOf, List.map_cons, List.map_nil, Option.getD_some, putAll, Act.put, List.setIfInBounds_toArray, List.set_cons_zero, List.set_cons_succ]
     go_simp
    ·intro s b_ w_ hI hbi hd hq R hR hN
     generalize hA : putAll _ 0 s _ = A
     clear hq
     refine stepG_on rfl ?_
     have hR' := hR rfl (.int .i64 (k : Int)) rfl
     clear hR hN hd
     refine opGives_value ?_ hR'
     subst hA
     simp only [dsOf, List.map_cons, List.map_nil, Option.getD_some, putAll, Act.put, List.setIfInBounds_toArray, List.set_cons_zero, List.set_cons_succ]
     go_simp
    ·intro s b_ w_ hI hbi hd hq R hR hN
     generalize hA : putAll _ 0 s _ = A
     clear hq
     refine stepG_on rfl ?_
     have e7 : s 7 = _ := (hd 7 (by kernel_rfl)).2 rfl
     have e8 : s 8 = _ := (hd 8 (by kernel_rfl)).2 rfl
     have hR' := hR rfl (.slice Af (ss.length - k) cf) rfl
     clear hR hN hd
     refine opGives_value (slice_exec Tryz.underlying24 rfl ?_) hR'
     subst hA
     simp only [dsOf, List.map_cons, List.map_nil, Option.getD_some, putAll, Act.put, List.setIfInBounds_toArray, List.set_cons_zero, List.set_cons_succ]
     show (Instr.slice 24 (s 7) (some (s 8)) none none).run Tryz.prog w_ = _
     rw [e7, e8]
     exact HS2.out w_
    ·intro s b_ w_ hI hbi hd hq R hR hN
     generalize hA : putAll _ 0 s _ = A
     clear hq
     refine stepG_on rfl ?_
     have b6 : b_ 6 = true := (hd 6 (by kernel_rfl)).1
     have e9 : s 9 = _ := (hd 9 (by kernel_rfl)).2 rfl
     clear hR
     have hOA := hI.1.hA b6 hbi
     have hBw := hI.1.hB hbi
     obtain ⟨Aa, ca, eA, -⟩ := hOA.read
     refine appendAny_gives w2.heap.size (.tmp 24) (.tmp 27) rfl (.slice Aa (ss.take k ++ [(iv : Int)]).length ca) (ss.take k ++ [(iv : Int)]) (ss.drop k) Af (ss.length - k) cf ?_ ?_ (by rw [List.length_drop]) (HDR.out w_ hBw) (by rw [← eA]; exact hOA) hBw.size (by have h1 := HTL.out; have h2 := HSL.out; rw [List.length_append, List.length_drop]; simp only [List.length_singleton]; omega) ?_
     ·subst hA
      clear hN hd
      simp only [dsOf, List.map_cons, List.map_nil, Option.getD_some, putAll, Act.put, List.setIfInBounds_toArray, List.set_cons_zero, List.set_cons_succ]
      exact eA
     ·subst hA
      clear hN hd
      simp only [dsOf, List.map_cons, List.map_nil, Option.getD_some, putAll, Act.put, List.setIfInBounds_toArray, List.set_cons_zero, List.set_cons_succ]
      exact e9
     intro v1 wn1 ho1 hg1
     exact hN rfl _ _ (hI.step (by decide) (hI.no11 (.inr (.inr (.inr hbi)))) (hI.1.call b6 hbi ⟨ho1, hBw.grown hg1 hBw.size (fun j hj => by rw [← eA] at hj; exact hOA.base j hj)⟩))
    ·intro s b_ w_ hI hbi hd hq R hR hN
     generalize hA : putAll _ 0 s _ = A
     clear hq
     refine stepG_on rfl ?_
     have b10 : b_ 10 = true := (hd 10 (by kernel_rfl)).1
     clear hR
     have hN' := hN rfl (s 10) w_ (hI.last b10 hbi)
     clear hN hd
     refine opGives_value ?_ hN'
     subst hA
     simp only [dsOf, List.map_cons, List.map_nil, Option.getD_some, putAll, Act.put, List.setIfInBounds_toArray, List.set_cons_zero, List.set_cons_succ]
     rfl
   case rest =>
    intro s9 b_ w9 hI hb hv
    simp only [dsOf, List.map_cons, List.map_nil, Option.getD_some, putAll, Act.put, List.setIfInBounds_toArray, List.set_cons_zero, List.set_cons_succ]
    clear hv 
    obtain ⟨hD1, hD2⟩ := hI.1.hD (hb 10 (by decide))
    have e11_ := (hI.2 (hb 11 (by decide))).2
    have HO9 := Aside0.mk hD1
    have HB9 := Aside0.mk hD2
    rw [e11_]
    obtain ⟨z9, hz9⟩ : ∃ z9, z9 = s9 10 := ⟨_, rfl⟩
    rw [← hz9] at HO9 ⊢
    clear hI hb hD1 hD2 e11_ hz9
    go_wp2
    go_roundw
    case rel => exact ⟨iv + 1, ss.take k ++ [(iv : Int)] ++ ss.drop k, by go_num, by omega, HO9.out.form0, ⟨by rw [List.length_append, List.length_append, List.length_take, List.length_drop, List.length_singleton]; have := HK.out; have := HL.out; omega⟩, ⟨fun x hx => by
     rcases List.mem_append.1 hx with hx | hx
     ·rcases List.mem_append.1 hx with hx | hx
      ·exact HSS.out x (List.mem_of_mem_take hx)
      ·rw [List.mem_singleton] at hx; omega
     ·exact HSS.out x (List.mem_of_mem_drop hx)⟩, ⟨HO9.out.lower HD2.out.size⟩, ⟨HD2.out.then_below HB9.out⟩⟩
    case measure => simp [intOf]; omega
  ·have e : iv = n := by omega
   have HE := Aside0.mk e
   clear e
   have hltI : ¬ (iv : Int) < (n : Int) := by omega
   go_wp2
   go_ret
   exact ⟨_, rfl, ⟨ss, HO.out, by rw [HL.out, HE.out], HSS.out⟩, HDr.out⟩
theorem wp_region_v {P : Program} {id : Nat} {Q : Exit → Act → World → Prop} {a : Act} {w : World} {l : List Oper} (k : Nat) (qt : Nat → Bool) (V : Nat → Value → Prop) (I : (Nat → Bool) → (Nat → Value) → World → Prop) (B : List Nat) (hm : P.follows .mixedOrders = true) (hok : tailOk l B a.tmps.size k = true)
  (hI0 : ∀ b s, (∀ i, b i = false) → I b s w.drew)
  (hI : ∀ i b s v w1, qt i = true → I b s w1 → I (markU b i) (upd s i v) w1)
  (hs : uSteps qt V I P (l.take k) B a 0 (l.take k))
  (hend : ∀ s b w1, I b s w1 → (∀ i, i < k → b i = true) → (∀ i, i < k → qt i = true → V i (s i)) → tailList P Q (l.drop k) (putAll (dsOf (l.take k)) 0 s a) w1) : (Code.region id l.toArray true).wp P Q a w := by
 simp only [tailOk, Bool.and_eq_true] at hok
 obtain ⟨⟨⟨⟨⟨⟨⟨⟨hk, h1⟩, h0⟩, h2⟩, h3⟩, h4⟩, h5⟩, hBt⟩, hBd⟩ := hok
 have hk : k < l.length := of_decide_eq_true hk
 have hnd : (dsOf (l.take k)).Nodup := of_decide_eq_true h2
 have hBt : ∀ i j, i < l.length → k ≤ i → j < i → (B.getD i 0).testBit j = true := by
  intro i j hi hki hj
  have := List.all_eq_true.1 hBt i (List.mem_range.2 hi)
  rw [decide_eq_false (by omega), Bool.false_or] at this
  exact List.all_eq_true.1 this j (List.mem_range.2 hj)
 have hBd : ∀ i j, i < k → j < l.length → (B.getD i 0).testBit j = true → j < i := by
  intro i j hi hj hij
  have := List.all_eq_true.1 (List.all_eq_true.1 hBd i (List.mem_range.2 hi)) j (List.mem_range.2 hj)
  rw [hij, Bool.not_true, Bool.or_false] at this
  exact of_decide_eq_true this
 have hTl : (rtab .any l.toArray).2.length = l.length := by rw [rtab_length]; simp
 have hdl : ∀ i, i < k → (l.take k)[i]? = l[i]? := fun i hi => by rw [List.getElem?_take_of_lt hi]
 have hlt : (l.take k).length = k := by rw [List.length_take]; omega
 have hds : ∀ (i : Nat) (o : Oper), i < k → l[i]? = some o → o.dst = some ((dsOf (l.take k))[i]?.getD 0) ∧ (dsOf (l.take k))[i]? = some (o.dst.getD 0) := by
  intro i o hi ho
  have ho' : (l.take k)[i]? = some o := (hdl i hi).trans ho
  have e : (dsOf (l.take k))[i]? = some (o.dst.getD 0) := by unfold dsOf; rw [List.getElem?_map, ho']; rfl
  refine ⟨?_, e⟩
  have := List.all_eq_true.1 h1 o (List.mem_of_getElem? ho')
  rw [e]
  cases hd : o.dst with
  | none => rw [hd] at this; cases this
  | some d => rfl
 have hrange : ∀ j, j < l.length → (List.range l.length).contains j = true := fun j hj => by simpa using hj
 refine wp_region_last_drew (S := fun _ => True) (ds := []) hm trivial (fun _ => ?_)
 refine inv_ (T := rtab .any l.toArray) (B := B) (List.range l.length) (fun b a' w' => (b k = false → ∃ s, a' = putAll (dsOf (l.take k)) 0 s a ∧ I b s w' ∧ (∀ i, i < k → b i = true → qt i = true → V i (s i)) ∧ ∀ i, i < k → b i = false → s i = (a.tmps[(dsOf (l.take k))[i]?.getD 0]?).getD undef) ∧ (∀ n, k < n → n ≤ l.length → (∀ j, j < n → b j = true) → (∀ j, n ≤ j → j < l.length → b j = false) → tailList P Q (l.drop n) a' w')) rfl h4 h5 ?_ ?_ ?_ ?_
 ·rw [hTl, Bool.and_eq_true, beq_iff_eq, beq_iff_eq]
  refine ⟨?_, by simp⟩
  apply List.ext_getElem
  ·simp [lof]
  ·intro i hi1 hi2
   have hi : i < l.length := by simpa [lof] using hi1
   simp [lof, hi]
 ·refine ⟨fun _ => ⟨fun k' => (a.tmps[(dsOf (l.take k))[k']?.getD 0]?).getD undef, ?_, hI0 _ _ (fun _ => rfl), (fun _ _ h => by cases h), fun _ _ _ => rfl⟩, fun n hn _ hj _ => by have := hj 0 (by omega); cases this⟩
  refine (putAll_self _ _ _ _ (fun j d hj => ?_)).symm
  have hd := List.all_eq_true.1 h3 d (List.mem_of_getElem? hj)
  have hd' : d < a.tmps.size := of_decide_eq_true hd
  simp [hj, hd']
 ·intro i hi b a' w' ⟨hA, hT⟩ hbi hon hoff
  have hil : i < l.length := List.mem_range.1 hi
  have ho : l[i]? = some l[i] := List.getElem?_eq_getElem hil
  refine ⟨l[i], by simp, fun K hK => ?_⟩
  have hK' := Shut.out hK
  have hg : l[i].guard = none := by
   have := List.all_eq_true.1 h0 l[i] (List.mem_of_getElem? ho)
   cases hq : l[i].guard with
   | none => rfl
   | some g => rw [hq] at this; cases this
  rw [if_pos (by simp [Region.wanted, hg])]
  have hon' : ∀ j, j < l.length → (B.getD i 0).testBit j = true → b j = true := fun j hj hb => hon j (by rw [hrange j hj, hb]; rfl)
  have hoff' : ∀ d, d < l.length → (B.getD d 0).testBit i = true → b d = false := fun d hd hb => hoff d (by rw [hrange d hd, hb]; rfl)
  by_cases hik : i < k
  ·have hbk : b k = false := hoff' k hk (hBt k i hk (Nat.le_refl _) hik)
   obtain ⟨s, rfl, hIb, hvs, hq0⟩ := hA hbk
   have hup : up b i = markU b i := by
    funext j
    by_cases hji : j = i
    ·subst hji; rw [up_self, markU_self]
    ·rw [up_ne hji, markU_ne b hji]
   have hfin : ∀ v w2, I (markU b i) (upd s i v) w2 → (qt i = true → V i v) → K ((putAll (dsOf (l.take k)) 0 s a).put l[i].dst v) w2 := by
    intro v w2 hI2 hV2
    rw [(hds i _ hik ho).1, (hds i _ hik ho).2, Option.getD_some, putAll_put _ _ _ _ _ _ _ hnd (Nat.zero_le _) (by rw [Nat.sub_zero]; exact (hds i _ hik ho).2)]
    refine hK' _ _ ⟨fun _ => ⟨upd s i v, rfl, by rw [hup]; exact hI2, fun j hj hbj hqj => ?_, fun j hj hbj => ?_⟩, fun n hn hnl hj _ => ?_⟩
    ·by_cases hji : j = i
     ·subst hji; rw [upd_self]; exact hV2 hqj
     ·rw [upd_ne s v hji]; rw [up_ne hji] at hbj
      exact hvs j hj hbj hqj
    ·have hji : j ≠ i := by
      rintro rfl
      rw [up_self] at hbj
      cases hbj
     rw [upd_ne s v hji]; rw [up_ne hji] at hbj
     exact hq0 j hj hbj
    ·have := hj k hn
     rw [up_ne (by omega), hbk] at this
     cases this
   have hst := uSteps_at (l.take k) 0 hs i _ ((hdl i hik).trans ho) s b w' hIb (by rw [Nat.zero_add]; exact hbi) (fun j hj => by
    rw [Nat.zero_add] at hj
    have h6 := Bool.and_eq_true _ _ ▸ hj
    have h7 : j < k := by have := of_decide_eq_true h6.1; rw [hlt] at this; exact this
    have h8 : b j = true := hon' j (by omega) h6.2
    exact ⟨h8, hvs j h7 h8⟩) (fun j hj => by
    rw [Nat.zero_add] at hj
    have h6 := Bool.and_eq_true _ _ ▸ hj
    have h7 : j < k := by have := of_decide_eq_true h6.1; rw [hlt] at this; exact this
    exact hq0 j h7 (hoff' j (by omega) h6.2)) (fun v w2 => K ((putAll (dsOf (l.take k)) 0 s a).put l[i].dst v) w2) (fun hqi v hvi => by
    rw [Nat.zero_add] at hqi hvi
    exact hfin v w' (hI i b s v w' hqi hIb) (fun _ => hvi)) (fun hqi v w2 hI2 => by
    rw [Nat.zero_add] at hqi hI2
    exact hfin v w2 hI2 (fun h => by rw [hqi] at h; cases h))
   unfold stepG at hst
   rw [if_pos (by simp [Region.wanted, hg])] at hst
   exact opGives_wp hst
  ·have hall : ∀ j, j < i → b j = true := fun j hj => hon' j (by omega) (hBt i j hil (by omega) hj)
   have hnone : ∀ j, i ≤ j → j < l.length → b j = false := by
    intro j hj hjl
    by_cases hji : j = i
    ·subst hji; exact hbi
    ·exact hoff' j hjl (hBt j i hjl (by omega) (by omega))
   have htl : tailList P Q (l.drop i) a' w' := by
    by_cases hki : i = k
    ·subst hki
     obtain ⟨s, rfl, hIb, hvs, -⟩ := hA hbi
     exact hend s b w' hIb (fun j hj => hall j hj) (fun j hj => hvs j hj (hall j hj))
    ·exact hT i (by omega) (by omega) hall hnone
   rw [List.drop_eq_getElem_cons hil] at htl
   have hnext : ∀ a2 w2, tailList P Q (l.drop (i + 1)) a2 w2 → K a2 w2 := by
    intro a2 w2 hq
    refine hK' _ _ ⟨fun h => ?_, fun n hn hnl hj hj2 => ?_⟩
    ·by_cases hki : i = k
     ·subst hki; rw [up_self] at h; cases h
     ·rw [up_ne (by omega)] at h
      have := hall k (by omega)
      rw [h] at this; cases this
    ·have hni : n = i + 1 := by
      by_cases h6 : n ≤ i
      ·have := hj2 i h6 hil
       rw [up_self] at this; cases this
      ·by_cases h7 : i + 1 < n
       ·have := hj (i + 1) h7
        rw [up_ne (by omega), hnone (i + 1) (by omega) (by omega)] at this
        cases this
       ·omega
     subst hni
     exact hq
   rcases htl with htl | ⟨w2, h1, h2⟩
   ·refine opGives_wp (opGives_mono htl (fun v w2 hq => hnext _ _ hq))
   ·unfold Oper.wp
    rw [h1]
    exact hnext _ _ h2
 ·intro b a' w' hall ⟨hA, hT⟩
  have := hT l.length hk (Nat.le_refl _) (fun j hj => hall j (hrange j hj)) (fun j h1 h2 => by omega)
  rw [List.drop_length] at this
  exact this
/-- heads under G -/
def IG (G : World → World → Prop) (k : Nat) (V : Nat → Value → World → Prop) (w : World) (b : Nat → Bool) (s : Nat → Value) (w1 : World) : Prop := G w w1 ∧ ∀ i, i < k → b i = true → V i (s i) w1
theorem g_to_u {G : World → World → Prop} (hGt : ∀ w1 w2 w3, G w1 w2 → G w2 w3 → G w1 w3) {P : Program} {l : List Oper} {B : List Nat} {V : Nat → Value → World → Prop} {a : Act} {w : World} (hV : ∀ i v w1 w2, G w1 w2 → V i v w1 → V i v w2) : ∀ (r : List Oper) (i : Nat), (∀ o ∈ r, o.guard = none) → gSteps G P l B V a w i r →
  uSteps (fun _ => false) (fun _ _ => True) (IG G l.length V w) P l B a i r
 | [], _, _, _ => trivial
 | o :: r, i, hg, h => by
  refine ⟨fun s b w1 hI hbi hd hq R _ hN => ?_, g_to_u hGt hV r (i + 1) (fun o ho => hg o (List.mem_cons_of_mem _ ho)) h.2⟩
  refine stepG_on (by simp [Region.wanted, hg o List.mem_cons_self]) ?_
  refine h.1 s w1 hI.1 (fun j hj => ?_) hq R (fun v w' hG hv => hN rfl v w' ⟨hGt _ _ _ hI.1 hG, fun j hj hbj => ?_⟩)
  ·have h6 := Bool.and_eq_true _ _ ▸ hj
   have h7 : j < l.length := by simpa using h6.1
   exact hI.2 j h7 (hd j (by rw [h6.2, Bool.and_true]; exact decide_eq_true h7)).1
  ·by_cases hji : j = i
   ·subst hji; rw [upd_self]; exact hv
   ·rw [upd_ne s v hji]; rw [markU_ne b hji] at hbj
    exact hV _ _ _ _ hG (hI.2 j hj hbj)
theorem wp_region_gv (G : World → World → Prop) (hGr : ∀ w, G w w.drew) (hGt : ∀ w1 w2 w3, G w1 w2 → G w2 w3 → G w1 w3) {P : Program} {id : Nat} {Q : Exit → Act → World → Prop} {a : Act} {w : World} {l : List Oper} (k : Nat) (V : Nat → Value → World → Prop) (B : List Nat) (hm : P.follows .mixedOrders = true) (hok : tailOk l B a.tmps.size k = true)
  (hV : ∀ i v w1 w2, G w1 w2 → V i v w1 → V i v w2)
  (hs : gSteps G P (l.take k) B V a w 0 (l.take k))
  (hend : ∀ s w1, G w w1 → (∀ i, i < k → V i (s i) w1) → tailList P Q (l.drop k) (putAll (dsOf (l.take k)) 0 s a) w1) : (Code.region id l.toArray true).wp P Q a w := by
 have hok' := hok
 simp only [tailOk, Bool.and_eq_true] at hok'
 obtain ⟨⟨⟨⟨⟨⟨⟨⟨hk, -⟩, h0⟩, -⟩, -⟩, -⟩, -⟩, -⟩, -⟩ := hok'
 have hk : k < l.length := of_decide_eq_true hk
 have hlt : (l.take k).length = k := by rw [List.length_take]; omega
 refine wp_region_v k (fun _ => false) (fun _ _ => True) (IG G (l.take k).length V w) B hm hok (fun b s hb => ⟨hGr w, fun i _ h => by rw [hb] at h; cases h⟩) (fun i b s v w1 h => by cases h) (g_to_u hGt hV _ _ (fun o ho => ?_) hs) (fun s b w1 hI hall _ => hend s w1 hI.1 (fun i hi => hI.2 i (by rw [hlt]; exact hi) (hall i hi)))
 have := List.all_eq_true.1 h0 o (List.mem_of_mem_take ho)
 cases hq : o.guard with
 | none => rfl
 | some g => rw [hq] at this; cases this
/-- the image of the part of a face on the first k vertices -/
def imgTo (f : Nat) (p : List Int) (k : Nat) : Nat := (List.range k).foldl (fun o v => if f.testBit v then o ||| 2 ^ (p.getD v 0).toNat else o) 0
/-- the image of a face -/
def img (f : Nat) (p : List Int) : Nat := imgTo f p p.length
theorem imgTo_succ (f : Nat) (p : List Int) (k : Nat) : imgTo f p (k + 1) = if f.testBit k then imgTo f p k ||| 2 ^ (p.getD k 0).toNat else imgTo f p k := by
 unfold imgTo
 rw [List.range_succ, List.foldl_append]
 rfl
theorem getD_bd {p : List Int} (hp : ∀ x ∈ p, 0 ≤ x ∧ x ≤ 5) (k : Nat) : (p.getD k 0).toNat ≤ 5 := by
 by_cases h : k < p.length
 ·have := hp _ (mem_at (i := k) h rfl); omega
 ·have : p.getD k 0 = 0 := by simp [List.getD_eq_getElem?_getD, Nat.not_lt.1 h]
  rw [this]; decide
theorem or_lt {a e : Nat} (ha : a < 64) (he : e ≤ 5) : a ||| 2 ^ e < 64 :=
 Nat.or_lt_two_pow (n := 6) ha (by have := pow_bd e he; omega)
theorem imgTo_lt {f : Nat} {p : List Int} (hp : ∀ x ∈ p, 0 ≤ x ∧ x ≤ 5) (k : Nat) : imgTo f p k < 64 := by
 induction k with
 | zero => exact (by decide : (0 : Nat) < 64)
 | succ k ih =>
  rw [imgTo_succ]
  split
  ·exact or_lt ih (getD_bd hp _)
  ·exact ih
set_option maxHeartbeats 1000000 in
theorem specMoved (f : Nat) (hf : f ≤ 63) (v : Value) (p : List Int) (w : World) (hr : ReadI w v p) (hn : p.length ≤ 6) (hp : ∀ x ∈ p, 0 ≤ x ∧ x ≤ 5) :
  Calls Tryz.prog 126 #[.int .i64 f, v] w fun e w' => e = .returned (.int .i64 (img f p : Nat)) ∧ Below w.heap.size w w' := by
 have HL := Aside0.mk (fun k => imgTo_lt (f := f) hp k)
 have HP := Aside0.mk hp
 obtain ⟨A, c, rfl, hc, hr⟩ := hr
 have HR := Aside0.mk hr
 clear hr hp
 go_enter Tryz.func126, Tryz.ntmps126
 go_wp2
 go_loopw [5, 6] (fun o i wr => ∃ k : Nat, i = .int .i64 k ∧ k ≤ p.length ∧ o = .int .i64 (imgTo f p k : Nat) ∧ Below w.heap.size w wr) (fun _ i _ => p.length - (intOf i).toNat)
 case atStart => exact ⟨0, rfl, Nat.zero_le _, rfl, Below.refl _ _⟩
 case round =>
  obtain ⟨k, rfl, hk, rfl, hb⟩ := hrel
  by_cases hlt : k < p.length
  ·obtain ⟨ad, y, rfl, hcell, HY⟩ := ReadI.get (Kd.C_below HR.out hb) hlt
   have hy := HP.out _ (mem_at hlt HY.out)
   obtain ⟨e, rfl⟩ : ∃ e : Nat, y = e := ⟨y.toNat, by omega⟩
   have HS := Aside0.mk (imgTo_succ f p k)
   have hbit := bit_of f k (by omega)
   obtain ⟨o, ho⟩ : ∃ o, o = imgTo f p k := ⟨_, rfl⟩
   have hol := HL.out k
   rw [← ho] at hol ⊢
   have HO := Aside0.mk ho
   have HB2 := Aside0.mk hb
   clear ho hb
   cases ht : f.testBit k with
   | true =>
    rw [ht, if_pos rfl] at hbit
    have HT := Aside0.mk ht
    clear ht
    have hsh := pow_wrap e (by omega)
    have hpb := pow_bd e (by omega)
    have hor := or_i64 o (2 ^ e) (by omega) (by omega)
    obtain ⟨z, hz⟩ : ∃ z, z = o ||| 2 ^ e := ⟨_, rfl⟩
    rw [← hz] at hor
    obtain ⟨pp, hpp⟩ : ∃ pp : Nat, pp = 2 ^ e := ⟨_, rfl⟩
    rw [← hpp] at hsh hpb hor hz
    have HZ := Aside0.mk hz
    have HPP := Aside0.mk hpp
    clear hz hpp
    go_wp2
    go_roundw
    case rel =>
     refine ⟨k + 1, by go_num, by omega, ?_, HB2.out⟩
     rw [HS.out, HT.out, if_pos rfl, ← HO.out, HY.out, Int.toNat_natCast, ← HPP.out, ← HZ.out]
    case measure => simp [intOf]; omega
   | false =>
    rw [ht, if_neg (by decide)] at hbit
    have HT := Aside0.mk ht
    clear ht
    go_wp2
    go_roundw
    case rel =>
     refine ⟨k + 1, by go_num, by omega, ?_, HB2.out⟩
     rw [HS.out, HT.out, if_neg (by decide), ← HO.out]
    case measure => simp [intOf]; omega
  ·have e : k = p.length := by omega
   have HE := Aside0.mk e
   clear e
   go_wp2
   go_ret
   exact ⟨by rw [HE.out]; rfl, hb⟩
theorem OwnI.gm {bs b : Nat} {w w' : World} {v : Value} {xs : List Int} (h : OwnI b w v xs) (hg : w.grownBy w' (some bs)) (hb : bs < b) : OwnI b w' v xs :=
 h.grown hg (fun k hk e => by have := h.base k hk; have := Option.some.inj e; omega)
set_option maxRecDepth 100000 in
set_option maxHeartbeats 4000000 in
theorem renamed (n : Nat) (ku : Value) (xs : List Int) (v : Value) (p : List Int) (w : World) (hk : ReadI w ku xs) (hg : Gc n xs) (hv : ReadI w v p) (hpl : p.length ≤ 6) (hp : ∀ x ∈ p, 0 ≤ x ∧ x ≤ 5) :
  Calls Tryz.prog 183 #[.agg #[.int .i64 n, ku], v] w fun e w' => ∃ u, e = .returned (.agg #[.int .i64 n, u]) ∧ (∃ ys, OwnI w.heap.size w' u ys ∧ Gc n ys) ∧ Below w.heap.size w w' := by
 obtain ⟨w1, hw1⟩ : ∃ w1, w1 = (w.alloc (.cells #[.int .i64 n, ku] 26)).alloc C0 := ⟨_, rfl⟩
 have hB1 : Below w.heap.size w w1 := by rw [hw1]; exact ((Below.refl _ w).alloc (Nat.le_refl _) _).alloc (by simp) _
 have hs1 : w1.heap.size = w.heap.size + 1 + 1 := by rw [hw1]; simp
 have c0 : w1.cell? ⟨w.heap.size, 0, none⟩ = some (.int .i64 n) := by rw [hw1]; simp
 have c1 : w1.cell? ⟨w.heap.size, 1, none⟩ = some ku := by rw [hw1]; simp
 have hk1 : w1.heap[w.heap.size + 1]? = some C0 := by
  have := blk_new (w.alloc (.cells #[.int .i64 n, ku] 26)) C0
  rw [World.size_alloc, ← hw1] at this; exact this
 obtain ⟨w2, hw2⟩ : ∃ w2, w2 = w1.alloc (.cells #[] 2) := ⟨_, rfl⟩
 have hB2 : Below w1.heap.size w1 w2 := by rw [hw2]; exact Below.alloc (Below.refl _ _) (Nat.le_refl _) _
 have HO2 : Aside0 (OwnI w1.heap.size w2 (.slice (some ⟨w1.heap.size, 0, none⟩) 0 0) []) := ⟨by rw [hw2]; exact OwnI.empty w1 (Nat.le_refl _)⟩
 rw [hs1] at HO2
 have HB2 := Aside0.mk (hB1.trans (hB2.mono hB1.size))
 have HK := Aside0.mk hk
 have HV := Aside0.mk hv
 have HK2 : Aside0 (w2.heap[w.heap.size + 1]? = some C0) := ⟨by rw [hB2.block _ (blk_lt hk1)]; exact hk1⟩
 have HC0 := Aside0.mk (pw_cell_below hB2 c0)
 have HC1 := Aside0.mk (pw_cell_below hB2 c1)
 have HS2 : Aside0 (w.heap.size + 1 + 1 ≤ w2.heap.size) := ⟨by have := hB2.size; omega⟩
 have HG := Aside0.mk hg
 obtain ⟨A1, d1, rfl, -⟩ := id hk
 obtain ⟨A2, d2, rfl, -⟩ := id hv
 have hxl := hg.2.2.2
 subst hw1
 clear hk hv hB1 hB2 hk1 c0 c1 hg hs1
 go_enter Tryz.func183, Tryz.ntmps183
 go_wp2
 rw [← hw2]
 clear hw2
 go_loopw [5, 6] (fun s5 s6 wr => ∃ (iv : Nat) (ss : List Int), s6 = .int .i64 iv ∧ iv ≤ xs.length ∧ Aside0 (ss.length = iv) ∧ Aside0 (∀ s ∈ ss, ∃ z : Nat, s = z ∧ z < 64) ∧ Aside0 (OwnI (w.heap.size + 1 + 1) wr s5 ss) ∧ Aside0 (Below (w.heap.size + 1 + 1) w2 wr)) (fun _ s6 _ => xs.length - (intOf s6).toNat)
 case atStart => exact ⟨0, [], rfl, Nat.zero_le _, ⟨rfl⟩, ⟨fun s h => by cases h⟩, HO2, ⟨Below.refl _ _⟩⟩
 case round =>
  obtain ⟨iv, ss, rfl, hi, HL, HSS, HO, HBr⟩ := hrel
  obtain ⟨A5, c5, e5, -⟩ := id HO.out.read
  rw [HL.out] at e5
  subst e5
  have lift : ∀ {x y : World}, Below (w.heap.size + 1 + 1) x y → Below w.heap.size x y := fun h => h.mono (by omega)
  have HBw := Aside0.mk (HB2.out.trans (lift HBr.out))
  have hkr : wr.heap[w.heap.size + 1]? = some C0 := by rw [HBr.out.block _ (by omega)]; exact HK2.out
  have hb0 : wr.heap[w.heap.size]? = w2.heap[w.heap.size]? := HBr.out.block _ (by omega)
  have c0 : wr.cell? ⟨w.heap.size, 0, none⟩ = some (.int .i64 n) := by rw [World.cell?_of_block (w := w2) hb0]; exact HC0.out
  have c1 : wr.cell? ⟨w.heap.size, 1, none⟩ = some (.slice A1 xs.length d1) := by rw [World.cell?_of_block (w := w2) hb0]; exact HC1.out
  have HKR := Aside0.mk hkr
  have hz2 := HS2.out
  have hzr := HBr.out.size
  by_cases hlt : iv < xs.length
  ·obtain ⟨A_, c_, e_, -, hcc⟩ := HK.out.below HBw.out
   cases e_
   obtain ⟨ad, y, rfl, hcell, HY⟩ := ReadI.get hcc hlt
   have hyb := HG.out.2.2.1 y (mem_at hlt HY.out)
   have h64 := pwn HG.out.2.1
   obtain ⟨f, rfl⟩ : ∃ f : Nat, y = f := ⟨y.toNat, by omega⟩
   have hf63 : f ≤ 63 := by omega
   have hltI : (iv : Int) < (xs.length : Int) := by omega
   have hlen : xs.length ≤ 64 := hxl
   have HMV := Aside0.mk (fun W (hb : Below w.heap.size w W) => specMoved f hf63 _ p W (HV.out.below hb) hpl hp)
   have HIM : Aside0 (img f p < 64) := ⟨imgTo_lt hp _⟩
   obtain ⟨m, hm⟩ : ∃ m, m = img f p := ⟨_, rfl⟩
   rw [← hm] at HMV HIM
   have HSL : Aside0 (ss.length ≤ 64) := ⟨by rw [HL.out]; omega⟩
   clear hcc hyb h64 hm
   go_wp2_with (first | (go_at_call 126; refine (HMV.out _ HBw.out).mono ?_; rintro e w5 ⟨rfl, hb⟩; have HO5 := Aside0.mk (OwnI.below HO.out hb); have HB5 := Aside0.mk (HBr.out.trans (hb.mono (Nat.le_trans hz2 hzr))); have hz5 := hb.size; clear hb) | (at_builtin; refine app_own (w0 := w2) (w.heap.size + 1 + 1) rfl (.tmp 15) (.tmp 23) rfl _ ss (m : Int) rfl rfl HO5.out HB5.out (by omega) (by have := HSL.out; omega) ?_; intro v1 w9 ho hb hg hat; have HO9 := Aside0.mk ho; have HB9 := Aside0.mk hb; clear ho hb hg hat))
   go_roundw
   case rel => exact ⟨iv + 1, ss ++ [(m : Int)], by go_num, by omega, ⟨by rw [List.length_append, List.length_singleton, HL.out]⟩, ⟨fun s hs => by
    rcases List.mem_append.1 hs with h | h
    ·exact HSS.out s h
    ·rw [List.mem_singleton] at h; exact ⟨m, h, HIM.out⟩⟩, HO9, HB9⟩
   case measure => simp [intOf]; omega
  ·have hltI : ¬ (iv : Int) < (xs.length : Int) := by omega
   have HN6 := Aside0.mk HG.out.2.1
   go_wp2_with (first | (go_at_call 127; go_must (refine (specMade n HN6.out _ ss _ (by have h := HO.out.read; exact h) HSS.out).mono ?_; rintro e w6 ⟨u, rfl, ho, hb⟩; have hk6 : w6.heap[w.heap.size + 1]? = some C0 := (by rw [hb.block _ (blk_lt HKR.out)]; exact HKR.out); have HK6 := Aside0.mk hk6; have HO6 := Aside0.mk ho; have HB6 := Aside0.mk (HBw.out.trans (hb.mono HBw.out.size)); obtain ⟨A6, c6, rfl, -⟩ := id ho.read; have c00 : w6.cell? ⟨w.heap.size + 1, 0, none⟩ = some (.int .i64 0) := blk_cell hk6 0; have c01 : w6.cell? ⟨w.heap.size + 1, 1, none⟩ = some (.slice none 0 0) := blk_cell hk6 1; have f00 : w6.frozen? ⟨w.heap.size + 1, 0, none⟩ = false := blk_frozen hk6 0; have f01 : w6.frozen? ⟨w.heap.size + 1, 1, none⟩ = false := blk_frozen hk6 1; clear ho hb hk6)))
   refine bodyPost_ret (results_cell_row rfl _ _ (w.heap.size + 1) 26 #[.int .i64 n, .slice A6 (thL (madeAt ss) (2 ^ n)).length c6] (0, 0) _ rfl (by refine blk_put (cs := #[.int .i64 n, .slice none 0 0]) ?_ 1 _ rfl; refine blk_put (cs := #[.int .i64 0, .slice none 0 0]) ?_ 0 _ rfl; exact HK6.out) Tryz.underlying26 rfl (by kernel_rfl)) rfl ?_
   have hbb : Below w.heap.size w6 ((w6.setCell ⟨w.heap.size + 1, 0, none⟩ (Value.int IntKind.i64 n)).setCell ⟨w.heap.size + 1, 1, none⟩ (Value.slice A6 (thL (madeAt ss) (2 ^ n)).length c6)) := ((Below.refl _ _).setCell (by simp) _).setCell (by simp) _
   refine ⟨_, rfl, ⟨thL (madeAt ss) (2 ^ n), ?_, made_gc HG.out.1 HN6.out (madeAt ss)⟩, HB6.out.trans hbb⟩
   have ho := HO6.out
   have hbse := ho.base
   have ho := ho.lower (b' := w.heap.size) (by omega)
   exact (ho.grown (set_grown' _ (w.heap.size + 1) _ _) (fun j hj e => by have := hbse _ hj; cases e; omega)).grown (set_grown' _ (w.heap.size + 1) _ _) (fun j hj e => by have := hbse _ hj; cases e; omega)
set_option maxRecDepth 100000 in
set_option maxHeartbeats 4000000 in
theorem draw (bs : Nat) (w : World) (hs : Src bs w) :
  Calls Tryz.prog 158 #[.pointer (some ⟨bs, 0, none⟩)] w fun e w' => ∃ v, e = .returned v ∧ (∃ (n : Nat) (u : Value) (xs : List Int), v = .agg #[.int .i64 n, u] ∧ OwnI w.heap.size w' u xs ∧ Gc n xs) ∧ Dw bs w w' := by
 have HBS := Aside0.mk hs.lt
 obtain ⟨w1, hw1⟩ : ∃ w1, w1 = w.alloc C0 := ⟨_, rfl⟩
 have hb1 : Below w.heap.size w w1 := by rw [hw1]; exact Below.alloc (Below.refl _ _) (Nat.le_refl _) _
 have HZ1 : Aside0 (w1.heap.size = w.heap.size + 1) := ⟨by rw [hw1]; simp⟩
 have HK1 : Aside0 (w1.heap[w.heap.size]? = some C0) := ⟨by rw [hw1]; exact blk_new w _⟩
 have HD1 := Aside0.mk (Dw.of_below hs hb1)
 have hmx : Tryz.prog.follows .mixedOrders = true := by kernel_rfl
 clear hs hb1
 have HNX := Aside0.mk (next bs 3 w1 (by decide) HD1.out.2)
 go_enter Tryz.func158, Tryz.ntmps158
 go_wp2_with (first | (go_at_call 146; rw [← hw1]; clear hw1; refine HNX.out.mono ?_; rintro e w2 ⟨r, rfl, -, -, hd⟩; have HD2 := Aside0.mk hd; clear hd) | (go_at_call 277; refine (names w2).mono ?_; rintro e w5 ⟨rfl, hrow, hb⟩; have HR5 := Aside0.mk hrow; have HD5 := Aside0.mk (HD2.out.then_below hb); clear hrow hb) | (go_at_call 146; go_must (refine (next bs 11 w5 (by decide) HD5.out.2).mono ?_; rintro e w6 ⟨r2, rfl, -, hr, hd⟩; have hr := hr (by decide); obtain ⟨k, rfl⟩ : ∃ k : Nat, r2 = k := ⟨r2.toNat, by omega⟩; have hk11 : k < 11 := (by omega); have hkI : (k : Int) < 11 := (by omega); obtain ⟨nm, hnm⟩ : ∃ nm, namesL[k]? = some nm := ⟨_, List.getElem?_eq_getElem (show k < namesL.length from hk11)⟩; have hr6 : RowT w6 w2.heap.size namesL := (by have h0 := HR5.out; unfold RowT at h0 ⊢; rw [hd.1.block _ (blk_lt h0) (fun e => by have := Option.some.inj e; have h1 := HD2.out.2.lt; omega)]; exact h0); have hcn := hr6.cell hnm; have HNM := Aside0.mk hnm; have HD6 := Aside0.mk (HD5.out.trans hd); clear hd hr6 hnm)) | (go_at_call 147; go_must (refine (named k nm HNM.out _).mono ?_; rintro e w3 ⟨_, v3, rfl, ⟨n, z, xs, rfl, ho, hg⟩, hb⟩; obtain ⟨Az, cz, rfl, -⟩ := id ho.read; have HD3 := Aside0.mk (HD6.out.then_below hb); have HO3 := Aside0.mk (ho.lower (HD6.out.size)); have HG := Aside0.mk hg; clear ho hg hb)) | (go_at_call 255; go_must (obtain ⟨w7, hw7⟩ : ∃ w7, w7 = w2.alloc (.cells #[.int .i64 1, .int .i64 2, .int .i64 3, .int .i64 4, .int .i64 4, .int .i64 5, .int .i64 5, .int .i64 6, .int .i64 6] 2) := ⟨_, rfl⟩; rw [← hw7]; have hb7 : Below w2.heap.size w2 w7 := (by rw [hw7]; exact Below.alloc (Below.refl _ _) (Nat.le_refl _) _); have hl7 : RdK bs w7 (.slice (some ⟨w2.heap.size, 0, none⟩) 9 9) [1, 2, 3, 4, 4, 5, 5, 6, 6] := (by rw [hw7]; exact (lit_own w2 w2.heap.size [1, 2, 3, 4, 4, 5, 5, 6, 6] (Nat.le_refl _) (by decide)).rdk HD2.out.2.lt); have HD7 := Aside0.mk (HD2.out.then_below hb7); clear hw7; refine (pick bs _ [1, 2, 3, 4, 4, 5, 5, 6, 6] w7 HD7.out.2 hl7 (by decide) (by decide)).mono ?_; rintro e w8 ⟨sz, rfl, hm, hd⟩; have HD8 := Aside0.mk (HD7.out.trans hd); have hsz : 1 ≤ sz ∧ sz ≤ 6 := (by simp at hm; omega); obtain ⟨n8, rfl⟩ : ∃ n : Nat, sz = n := ⟨sz.toNat, by omega⟩; clear hm hd hb7 hl7)) | (go_at_call 205; go_must (refine (drawOf bs n8 (by omega) (by omega) w8 HD8.out.2).mono ?_; rintro e w9 ⟨u9, ys, rfl, ho, hg, hd⟩; have HD9 := Aside0.mk (HD8.out.trans hd); have hk9 : w9.heap[w.heap.size]? = some C0 := (by rw [(HD8.out.trans hd).1.block _ (by have h1 := HZ1.out; omega) (fun e => by have := Option.some.inj e; have := HBS.out; omega)]; exact HK1.out); have HK9 := Aside0.mk hk9; have HO9 := Aside0.mk (ho.lower HD8.out.size); have HG9 := Aside0.mk hg; obtain ⟨A9, c9, rfl, -⟩ := id ho.read; have c00 : w9.cell? ⟨w.heap.size, 0, none⟩ = some (.int .i64 0) := blk_cell hk9 0; have c01 : w9.cell? ⟨w.heap.size, 1, none⟩ = some (.slice none 0 0) := blk_cell hk9 1; have f00 : w9.frozen? ⟨w.heap.size, 0, none⟩ = false := blk_frozen hk9 0; have f01 : w9.frozen? ⟨w.heap.size, 1, none⟩ = false := blk_frozen hk9 1; clear ho hg hd hk9)))
 ·obtain ⟨w4, hw4⟩ : ∃ w4, w4 = w3.alloc (.cells #[.int .i64 (n : Int), .slice Az xs.length cz] 26) := ⟨_, rfl⟩
  have hb4 : Below w3.heap.size w3 w4 := by rw [hw4]; exact Below.alloc (Below.refl _ _) (Nat.le_refl _) _
  have hz4 : w4.heap.size = w3.heap.size + 1 := by rw [hw4]; simp
  have hk4 : w4.heap[w3.heap.size]? = some (.cells #[.int .i64 (n : Int), .slice Az xs.length cz] 26) := by rw [hw4]; exact heap_alloc_new w3 _
  have kc0 : w4.cell? ⟨w3.heap.size, 0, none⟩ = some (.int .i64 (n : Int)) := blk_cell hk4 0
  have kc1 : w4.cell? ⟨w3.heap.size, 1, none⟩ = some (.slice Az xs.length cz) := blk_cell hk4 1
  rw [← hw4]
  clear hw4 hk4
  have HD4 := Aside0.mk (HD3.out.then_below hb4)
  have HS4 := Aside0.mk HD4.out.2
  have HBS4 := Aside0.mk HD4.out.2.lt
  have HBS3 : Aside0 (bs < w1.heap.size) := ⟨HD1.out.2.lt⟩
  have HZ := Aside0.mk (HO3.out.below hb4)
  have hkb : w3.heap.size ≠ bs := Nat.ne_of_gt HD3.out.2.lt
  have HZZ := Aside0.mk (Nat.le_trans HD3.out.size (show w3.heap.size ≤ w4.heap.size by omega))
  clear hb4 hz4
  go_wp2
  refine wp_region_gv (Gm bs (Src bs)) (fun w => ⟨grown_drew w _, fun h => h.below (Below.refl _ _).drew⟩) (fun _ _ _ => Gm.trans) 6 (fun i => match i with | 0 => fun v _ => v = .agg #[.int .i64 (n : Int), .slice Az xs.length cz] | 1 => fun v _ => v = .pointer (some ⟨bs, 0, none⟩) | 2 => fun v _ => v = .pointer (some ⟨w3.heap.size, 0, none⟩) | 3 => fun v _ => v = .int .i64 (n : Int) | 4 => fun v W => ∃ p, OwnI w4.heap.size W v p ∧ p.length = n ∧ ∀ x ∈ p, 0 ≤ x ∧ x ≤ 5 | 5 => fun v W => ∃ u ys, v = .agg #[.int .i64 (n : Int), u] ∧ OwnI w4.heap.size W u ys ∧ Gc n ys | _ => fun _ _ => True)
   [0, 0, 0, 4, 14, 31, 63] hmx (by kernel_rfl) ?st ?steps ?rest
  case st =>
   intro i v w1_ w2_ hb
   match i with
   | 0 | 1 | 2 | 3 => exact id
   | 4 => exact fun ⟨p, ho, h1, h2⟩ => ⟨p, ho.gm hb.1 HBS4.out, h1, h2⟩
   | 5 => exact fun ⟨u, ys, e, ho, hg⟩ => ⟨u, ys, e, ho.gm hb.1 HBS4.out, hg⟩
   | n + 6 => exact id
  case steps =>
   refine ⟨?_, ?_, ?_, ?_, ?_, ?_, trivial⟩
   ·intro s w_ hb hd hq R hR
    generalize hA : putAll _ 0 s _ = A
    clear hq
    have kc0 := grown_cell hb.1 kc0 hkb
    have kc1 := grown_cell hb.1 kc1 hkb
    have hR' := hR (.agg #[.int .i64 (n : Int), .slice Az xs.length cz]) _ (Gm.refl _ _ _) rfl
    clear hR hd
    refine opGives_value ?_ hR'
    subst hA
    simp only [dsOf, List.take, List.map_cons, List.map_nil, Option.getD_some, putAll, Act.put, List.setIfInBounds_toArray, List.set_cons_zero, List.set_cons_succ]
    go_simp
   ·intro s w_ hb hd hq R hR
    generalize hA : putAll _ 0 s _ = A
    clear hq
    have hR' := hR (.pointer (some ⟨bs, 0, none⟩)) _ (Gm.refl _ _ _) rfl
    clear hR hd
    refine opGives_value ?_ hR'
    subst hA
    simp only [dsOf, List.take, List.map_cons, List.map_nil, Option.getD_some, putAll, Act.put, List.setIfInBounds_toArray, List.set_cons_zero, List.set_cons_succ]
    go_simp
   ·intro s w_ hb hd hq R hR
    generalize hA : putAll _ 0 s _ = A
    clear hq
    have hR' := hR (.pointer (some ⟨w3.heap.size, 0, none⟩)) _ (Gm.refl _ _ _) rfl
    clear hR hd
    refine opGives_value ?_ hR'
    subst hA
    simp only [dsOf, List.take, List.map_cons, List.map_nil, Option.getD_some, putAll, Act.put, List.setIfInBounds_toArray, List.set_cons_zero, List.set_cons_succ]
    go_simp
   ·intro s w_ hb hd hq R hR
    generalize hA : putAll _ 0 s _ = A
    have e2 : s 2 = _ := hd 2 (by kernel_rfl)
    clear hq
    have kc0 := grown_cell hb.1 kc0 hkb
    have hR' := hR (.int .i64 (n : Int)) _ (Gm.refl _ _ _) rfl
    clear hR hd
    refine opGives_value ?_ hR'
    subst hA
    simp only [dsOf, List.take, List.map_cons, List.map_nil, Option.getD_some, putAll, Act.put, List.setIfInBounds_toArray, List.set_cons_zero, List.set_cons_succ]
    go_simp
   ·intro s w_ hb hd hq R hR
    generalize hA : putAll _ 0 s _ = A
    have e1 : s 1 = _ := hd 1 (by kernel_rfl)
    have e3 : s 3 = _ := hd 3 (by kernel_rfl)
    clear hq
    refine opGives_call (f := 159) (args := #[.pointer (some ⟨bs, 0, none⟩), .int .i64 (n : Int)]) ?_ ?_
    ·subst hA
     clear hR hd
     simp only [dsOf, List.take, List.map_cons, List.map_nil, Option.getD_some, putAll, Act.put, List.setIfInBounds_toArray, List.set_cons_zero, List.set_cons_succ]
     go_simp
    clear hA A hd
    refine (drawOrder bs n HG.out.2.1 w_ (hb.2 HS4.out)).mono ?_
    rintro e w3_ ⟨u3, rfl, ⟨p, ho, hl, hp⟩, hd⟩
    exact ⟨_, rfl, hR _ _ ⟨hd.1, fun _ => hd.2⟩ ⟨p, ho.lower hb.1.size, hl, hp⟩⟩
   ·intro s w_ hb hd hq R hR
    generalize hA : putAll _ 0 s _ = A
    have e0 : s 0 = _ := hd 0 (by kernel_rfl)
    obtain ⟨p4, o4, l4, h4⟩ : ∃ p, OwnI w4.heap.size w_ (s 4) p ∧ p.length = n ∧ ∀ x ∈ p, 0 ≤ x ∧ x ≤ 5 := hd 4 (by kernel_rfl)
    obtain ⟨A4, c4, e4, -⟩ := id o4.read
    rw [e4] at o4
    clear hq
    refine opGives_call (f := 183) (args := #[.agg #[.int .i64 (n : Int), .slice Az xs.length cz], .slice A4 p4.length c4]) ?_ ?_
    ·subst hA
     clear hR hd
     simp only [dsOf, List.take, List.map_cons, List.map_nil, Option.getD_some, putAll, Act.put, List.setIfInBounds_toArray, List.set_cons_zero, List.set_cons_succ]
     go_simp
    clear hA A hd
    refine (renamed n _ xs _ p4 w_ (HZ.out.gm hb.1 HBS3.out).read HG.out o4.read (by rw [l4]; exact HG.out.2.1) h4).mono ?_
    rintro e w3_ ⟨u3, rfl, ⟨ys, ho, hg⟩, hb3⟩
    exact ⟨_, rfl, hR _ _ ⟨grown_below hb3 _, fun h => h.below hb3⟩ ⟨u3, ys, rfl, ho.lower hb.1.size, hg⟩⟩
  case rest =>
   intro s9 w9 hb hv
   obtain ⟨u5, ys, e5_, o5, g5⟩ : ∃ u ys, s9 5 = .agg #[.int .i64 (n : Int), u] ∧ OwnI w4.heap.size w9 u ys ∧ Gc n ys := hv 5 (by decide)
   clear hv
   simp only [dsOf, List.take, List.map_cons, List.map_nil, Option.getD_some, putAll, Act.put, List.setIfInBounds_toArray, List.set_cons_zero, List.set_cons_succ]
   have hd9 : Dw bs w1 w9 := HD4.out.trans ⟨hb.1, hb.2 HS4.out⟩
   have hk9 : w9.heap[w.heap.size]? = some C0 := by rw [hd9.1.block _ (by have h1 := HZ1.out; omega) (fun e => by have := Option.some.inj e; have := HBS.out; omega)]; exact HK1.out
   have HK9 := Aside0.mk hk9
   have HD9 := Aside0.mk hd9
   have HO9 := Aside0.mk (o5.lower HZZ.out)
   have HG9 := Aside0.mk g5
   obtain ⟨A9, c9, rfl, -⟩ := id o5.read
   have c00 : w9.cell? ⟨w.heap.size, 0, none⟩ = some (.int .i64 0) := blk_cell hk9 0
   have c01 : w9.cell? ⟨w.heap.size, 1, none⟩ = some (.slice none 0 0) := blk_cell hk9 1
   have f00 : w9.frozen? ⟨w.heap.size, 0, none⟩ = false := blk_frozen hk9 0
   have f01 : w9.frozen? ⟨w.heap.size, 1, none⟩ = false := blk_frozen hk9 1
   rw [e5_]
   clear hb hd9 hk9 o5 g5 e5_
   refine .inr ⟨(w9.setCell ⟨w.heap.size, 0, none⟩ (.int .i64 (n : Int))).setCell ⟨w.heap.size, 1, none⟩ (.slice A9 ys.length c9), (by go_simp), ?_⟩
   simp only [List.drop, Act.put, List.setIfInBounds_toArray, List.set_cons_zero, List.set_cons_succ]
   unfold tailList
   go_wp2
   refine bodyPost_ret (results_cell_row rfl _ _ w.heap.size 26 #[.int .i64 (n : Nat), .slice A9 ys.length c9] (0, 0) _ rfl (by refine blk_put (cs := #[.int .i64 (n : Nat), .slice none 0 0]) ?_ 1 _ rfl; refine blk_put (cs := #[.int .i64 0, .slice none 0 0]) ?_ 0 _ rfl; exact HK9.out) Tryz.underlying26 rfl (by kernel_rfl)) rfl ?_
   have hbb : Below w.heap.size w9 ((w9.setCell ⟨w.heap.size, 0, none⟩ (Value.int IntKind.i64 (n : Nat))).setCell ⟨w.heap.size, 1, none⟩ (Value.slice A9 ys.length c9)) := ((Below.refl _ _).setCell (by simp) _).setCell (by simp) _
   have hz := HZ1.out
   refine ⟨_, rfl, ⟨n, _, ys, rfl, ?_, HG9.out⟩, (HD1.out.trans HD9.out).top hbb (Nat.le_refl _) HBS.out⟩
   have ho := HO9.out
   have hbse := ho.base
   have ho := ho.lower (b' := w.heap.size) (by omega)
   exact (ho.grown (set_grown' _ w.heap.size _ _) (fun j hj e => by have := hbse _ hj; cases e; omega)).grown (set_grown' _ w.heap.size _ _) (fun j hj e => by have := hbse _ hj; cases e; omega)
 ·refine bodyPost_ret (results_cell_row rfl _ _ w.heap.size 26 #[.int .i64 (n8 : Nat), .slice A9 ys.length c9] (0, 0) _ rfl (by refine blk_put (cs := #[.int .i64 (n8 : Nat), .slice none 0 0]) ?_ 1 _ rfl; refine blk_put (cs := #[.int .i64 0, .slice none 0 0]) ?_ 0 _ rfl; exact HK9.out) Tryz.underlying26 rfl (by kernel_rfl)) rfl ?_
  have hbb : Below w.heap.size w9 ((w9.setCell ⟨w.heap.size, 0, none⟩ (Value.int IntKind.i64 (n8 : Nat))).setCell ⟨w.heap.size, 1, none⟩ (Value.slice A9 ys.length c9)) := ((Below.refl _ _).setCell (by simp) _).setCell (by simp) _
  have hz := HZ1.out
  refine ⟨_, rfl, ⟨n8, _, ys, rfl, ?_, HG9.out⟩, (HD1.out.trans HD9.out).top hbb (Nat.le_refl _) HBS.out⟩
  have ho := HO9.out
  have hbse := ho.base
  have ho := ho.lower (b' := w.heap.size) (by omega)
  exact (ho.grown (set_grown' _ w.heap.size _ _) (fun j hj e => by have := hbse _ hj; cases e; omega)).grown (set_grown' _ w.heap.size _ _) (fun j hj e => by have := hbse _ hj; cases e; omega)
end Go.Proofs.YtomofijniefelaaGreat.H
