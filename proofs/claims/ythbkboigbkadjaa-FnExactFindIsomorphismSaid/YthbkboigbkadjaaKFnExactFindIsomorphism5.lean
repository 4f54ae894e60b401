/- Isomorphisms of the program: its own function. Rows of lists: what is said of them; append at them; a copy; the place of a number. -/
import Derived.Deep.AppendLies
import Derived.Maps.AppendAt
import Derived.Test.YthbkboigbkadjaaKFnExactFindIsomorphism1
import Derived.Test.YthbkboigbkadjaaKFnExactFindIsomorphism2
import Derived.Test.YthbkboigbkadjaaKFnExactFindIsomorphism3
import Derived.Test.YthbkboigbkadjaaKFnExactFindIsomorphism4

namespace Go.Proofs.Ythbkboigbkadjaa.H
open Go.RowKit Go.Proofs.YthbkboigbkadjaaW.PrintWords Go.Proofs.YthbkboigbkadjaaW.PrintLast Go.Proofs.YthbkboigbkadjaaW.PrintMore
set_option linter.unusedVariables false
set_option linter.unusedSimpArgs false

/-- a copy is made, one number is put behind it, and a call has it -/
structure RI (c d a f : Nat) (l : List Int) (x : Int) (w0 : World) (D : Value → World → Prop) (b : Nat → Bool) (s : Nat → Value) (w : World) : Prop where
  ne : c ≠ d ∧ c ≠ a ∧ c ≠ f ∧ d ≠ a ∧ d ≠ f ∧ a ≠ f
  ha : b a = true → b c = true ∧ b d = true
  hf : b f = true → b a = true
  hB : b f = false → Below w0.heap.size w0 w
  hC : b c = true → b a = false → OwnI w0.heap.size w (s c) l
  hS : b d = true → b a = false → ∃ k, s d = .slice (some ⟨k, 0, none⟩) 1 1 ∧ w.cell? ⟨k, 0, none⟩ = some (.int .i64 x)
  hA : b a = true → b f = false → OwnI w0.heap.size w (s a) (l ++ [x])
  hD : b f = true → D (s f) w
section
variable {c d a f : Nat} {l : List Int} {x : Int} {w0 w : World} {D : Value → World → Prop} {b : Nat → Bool} {s : Nat → Value}
theorem RI.start (hne : c ≠ d ∧ c ≠ a ∧ c ≠ f ∧ d ≠ a ∧ d ≠ f ∧ a ≠ f) (hb : ∀ i, b i = false) : RI c d a f l x w0 D b s w0.drew := by
  have hn : ∀ i, ¬ b i = true := fun i h => by rw [hb i] at h; cases h
  exact ⟨hne, fun h => absurd h (hn _), fun h => absurd h (hn _), fun _ => (Below.refl _ _).drew, fun h => absurd h (hn _), fun h => absurd h (hn _), fun h => absurd h (hn _), fun h => absurd h (hn _)⟩
theorem RI.cell (h : RI c d a f l x w0 D b s w) {p : Addr} {z : Value} (hD : D (s f) w → w.cell? p = some z) (h0 : w0.cell? p = some z) : w.cell? p = some z := by
  cases hf : b f with
  | false => exact pw_cell_below (h.hB hf) h0
  | true => exact hD (h.hD hf)
theorem RI.noc (h : RI c d a f l x w0 D b s w) (hc : b c = false) : b a = false := by
  cases h1 : b a with
  | false => rfl
  | true => have := (h.ha h1).1; rw [hc] at this; cases this
theorem RI.nod (h : RI c d a f l x w0 D b s w) (hc : b d = false) : b a = false := by
  cases h1 : b a with
  | false => rfl
  | true => have := (h.ha h1).2; rw [hc] at this; cases this
theorem RI.noa (h : RI c d a f l x w0 D b s w) (hc : b a = false) : b f = false := by
  cases h1 : b f with
  | false => rfl
  | true => have := h.hf h1; rw [hc] at this; cases this
theorem RI.quiet (h : RI c d a f l x w0 D b s w) {i : Nat} (h1 : i ≠ c) (h2 : i ≠ d) (h3 : i ≠ a) (h4 : i ≠ f) (v : Value) : RI c d a f l x w0 D (markU b i) (upd s i v) w := by
  have m : ∀ j, j ≠ i → markU b i j = b j := fun j hj => markU_ne b hj
  have p : ∀ j, j ≠ i → upd s i v j = s j := fun j hj => upd_ne s v hj
  refine ⟨h.ne, ?_, ?_, ?_, ?_, ?_, ?_, ?_⟩
  · rw [m a (Ne.symm h3), m c (Ne.symm h1), m d (Ne.symm h2)]; exact h.ha
  · rw [m a (Ne.symm h3), m f (Ne.symm h4)]; exact h.hf
  · rw [m f (Ne.symm h4)]; exact h.hB
  · rw [m a (Ne.symm h3), m c (Ne.symm h1), p c (Ne.symm h1)]; exact h.hC
  · rw [m a (Ne.symm h3), m d (Ne.symm h2), p d (Ne.symm h2)]; exact h.hS
  · rw [m a (Ne.symm h3), m f (Ne.symm h4), p a (Ne.symm h3)]; exact h.hA
  · rw [m f (Ne.symm h4), p f (Ne.symm h4)]; exact h.hD
theorem RI.clone (h : RI c d a f l x w0 D b s w) (hc : b c = false) {w' : World} {u : Value} (hb : Below w.heap.size w w') (ho : OwnI w0.heap.size w' u l) : RI c d a f l x w0 D (markU b c) (upd s c u) w' := by
  have ha := h.noc hc
  have hf := h.noa ha
  have m : ∀ j, j ≠ c → markU b c j = b j := fun j hj => markU_ne b hj
  have p : ∀ j, j ≠ c → upd s c u j = s j := fun j hj => upd_ne s u hj
  refine ⟨h.ne, ?_, ?_, ?_, ?_, ?_, ?_, ?_⟩
  · rw [m a (Ne.symm h.ne.2.1), ha]; intro e; cases e
  · rw [m f (Ne.symm h.ne.2.2.1), hf]; intro e; cases e
  · exact fun _ => (h.hB hf).trans (hb.mono (h.hB hf).size)
  · intro _ _; rw [upd_self]; exact ho
  · intro h1 _
    rw [m d (Ne.symm h.ne.1)] at h1
    rw [p d (Ne.symm h.ne.1)]
    obtain ⟨k, e, hk⟩ := h.hS h1 ha
    exact ⟨k, e, pw_cell_below hb hk⟩
  · rw [m a (Ne.symm h.ne.2.1), ha]; intro e; cases e
  · rw [m f (Ne.symm h.ne.2.2.1), hf]; intro e; cases e
theorem RI.build (h : RI c d a f l x w0 D b s w) (hd : b d = false) : RI c d a f l x w0 D (markU b d) (upd s d (.slice (some ⟨w.heap.size, 0, none⟩) 1 1)) (w.alloc (.cells #[.int .i64 x] 2)) := by
  have ha := h.nod hd
  have hf := h.noa ha
  have hb : Below w.heap.size w (w.alloc (.cells #[.int .i64 x] 2)) := Below.alloc (Below.refl _ _) (Nat.le_refl _) _
  have m : ∀ j, j ≠ d → markU b d j = b j := fun j hj => markU_ne b hj
  have p : ∀ j, j ≠ d → upd s d (.slice (some ⟨w.heap.size, 0, none⟩) 1 1) j = s j := fun j hj => upd_ne s _ hj
  refine ⟨h.ne, ?_, ?_, ?_, ?_, ?_, ?_, ?_⟩
  · rw [m a (Ne.symm h.ne.2.2.2.1), ha]; intro e; cases e
  · rw [m f (Ne.symm h.ne.2.2.2.2.1), hf]; intro e; cases e
  · exact fun _ => (h.hB hf).trans (hb.mono (h.hB hf).size)
  · intro h1 _
    rw [m c h.ne.1] at h1
    rw [p c h.ne.1]
    exact (h.hC h1 ha).below hb
  · intro _ _
    rw [upd_self]
    exact ⟨_, rfl, by simp⟩
  · rw [m a (Ne.symm h.ne.2.2.2.1), ha]; intro e; cases e
  · rw [m f (Ne.symm h.ne.2.2.2.2.1), hf]; intro e; cases e
theorem RI.app (h : RI c d a f l x w0 D b s w) (hc : b c = true) (hd : b d = true) (ha : b a = false) {w' : World} {u : Value} (ho : OwnI w0.heap.size w' u (l ++ [x])) (hg : w.grownBy w' (s c).ownBlock) : RI c d a f l x w0 D (markU b a) (upd s a u) w' := by
  have hf := h.noa ha
  have m : ∀ j, j ≠ a → markU b a j = b j := fun j hj => markU_ne b hj
  have hC := h.hC hc ha
  refine ⟨h.ne, ?_, ?_, ?_, ?_, ?_, ?_, ?_⟩
  · intro _; rw [m c h.ne.2.1, m d h.ne.2.2.2.1]; exact ⟨hc, hd⟩
  · rw [m f (Ne.symm h.ne.2.2.2.2.2), hf]; intro e; cases e
  · exact fun _ => (h.hB hf).grown hg (h.hB hf).size (fun j hj => OwnI.base hC j hj)
  · rw [markU_self]; intro _ e; cases e
  · rw [markU_self]; intro _ e; cases e
  · intro _ _; rw [upd_self]; exact ho
  · rw [m f (Ne.symm h.ne.2.2.2.2.2), hf]; intro e; cases e
theorem RI.call (h : RI c d a f l x w0 D b s w) (ha : b a = true) (hf : b f = false) {w' : World} {u : Value} (hD : D u w') : RI c d a f l x w0 D (markU b f) (upd s f u) w' := by
  have m : ∀ j, j ≠ f → markU b f j = b j := fun j hj => markU_ne b hj
  refine ⟨h.ne, ?_, ?_, ?_, ?_, ?_, ?_, ?_⟩
  · intro _; rw [m c h.ne.2.2.1, m d h.ne.2.2.2.2.1]; exact h.ha ha
  · intro _; rw [m a h.ne.2.2.2.2.2]; exact ha
  · rw [markU_self]; intro e; cases e
  · rw [m a h.ne.2.2.2.2.2, ha]; intro _ e; cases e
  · rw [m a h.ne.2.2.2.2.2, ha]; intro _ e; cases e
  · rw [markU_self]; intro _ e; cases e
  · intro _; rw [upd_self]; exact hD
end

set_option maxRecDepth 100000 in
set_option maxHeartbeats 8000000 in
theorem isoStep {σ : Type} (B : Nat) (St : σ → World → Prop) (stp : σ → List Int → Bool × σ) (bo bk bl bd bg n k : Nat) (ok : List Int → Bool) (hSt : ∀ s w w', St s w → Below w.heap.size w w' → St s w')
    (hbk : bk ≠ bo) (hbl : bl ≠ bo) (hbd : bd ≠ bo) (hbg : bg ≠ bo) (hbo : bo < B) (hn : n ≤ 6)
    (v : Value) (l : List Int) (s : σ) (w : World) (hl : l.length < n) (hp : Pre n l) (hv : OwnI B w v l) (hs : St s w) (hBw : B ≤ w.heap.size)
    (k0 : w.cell? ⟨bk, 0, none⟩ = some (.int .i64 n)) (g0 : w.cell? ⟨bg, 0, none⟩ = some (.func (.func 108) #[] #[.pointer (some ⟨bk, 0, none⟩), .pointer (some ⟨bl, 0, none⟩), .pointer (some ⟨bd, 0, none⟩), .pointer (some ⟨bg, 0, none⟩)]))
    (ih : ∀ (iv : Nat) v' s' w', iv < n → ¬ (iv : Int) ∈ l → w.grownBy w' (some bo) → OwnI B w' v' (l ++ [(iv : Int)]) → St s' w' →
      Calls Try.prog 108 #[v', .int .i64 (seenTo (l ++ [(iv : Int)]) : Nat), .pointer (some ⟨bk, 0, none⟩), .pointer (some ⟨bl, 0, none⟩), .pointer (some ⟨bd, 0, none⟩), .pointer (some ⟨bg, 0, none⟩)] w' fun e w2 => e = .returned (.bool (walkD ok stp (exts n k (l ++ [(iv : Int)])) s').1) ∧ St (walkD ok stp (exts n k (l ++ [(iv : Int)])) s').2 w2 ∧ w'.grownBy w2 (some bo)) :
    Calls Try.prog 108 #[v, .int .i64 (seenTo l : Nat), .pointer (some ⟨bk, 0, none⟩), .pointer (some ⟨bl, 0, none⟩), .pointer (some ⟨bd, 0, none⟩), .pointer (some ⟨bg, 0, none⟩)] w fun e w' => e = .returned (.bool (walkD ok stp (exts n (k + 1) l) s).1) ∧ St (walkD ok stp (exts n (k + 1) l) s).2 w' ∧ w.grownBy w' (some bo) := by
  have hu64 := seen_lt hn hp
  have HSB := Aside0.mk (seen_bit hp)
  have HSN := Aside0.mk (fun iv : Nat => seenTo_app l (iv : Int))
  obtain ⟨u, hu⟩ : ∃ u, u = seenTo l := ⟨_, rfl⟩
  rw [← hu] at hu64 HSB HSN ⊢
  have hne : ((l.length : Int) == (n : Int)) = false := by rw [beq_eq_false_iff_ne]; omega
  have HV := Aside0.mk hv
  have HIH0 := Aside0.mk ih
  have HST := Aside0.mk hSt
  have HS0 := Aside0.mk hs
  have HK0 := Aside0.mk k0
  have HG0 := Aside0.mk g0
  have HBW0 := Aside0.mk hBw
  have HL6 : Aside0 (l.length ≤ 1000000) := ⟨by omega⟩
  have hlen : l.length ≤ 6 := by omega
  have HX0 : ∀ x : Ext w, x.1.cell? ⟨bk, 0, none⟩ = some (.int .i64 n) := fun x => Ext.cell k0 x
  have HL := Aside0.mk (fun W (h : Below w.heap.size w W) => lengthI v l W (hv.read.below h))
  have HLX : Aside0 (∀ x : Ext w, Calls Try.prog 109 #[v] x.1 fun e w' => e = .returned (.int .i64 (l.length : Nat)) ∧ Below x.1.heap.size x.1 w') := ⟨fun x => HL.out x.1 x.2⟩
  have HVG := Aside0.mk (fun W (h : w.grownBy W (some bo)) => hv.grown h (fun kk hk e => by have := OwnI.base hv kk hk; injection e; omega))
  obtain ⟨A1, d1, rfl, -⟩ := id hv.read
  have hmx : Try.prog.follows .mixedOrders = true := by kernel_rfl
  clear hv ih hSt hs k0 g0 hBw hu hp
  go_enter Try.func108, Try.ntmps108
  go_wp2
  refine wp_region_ext (by kernel_rfl) (by kernel_rfl) ?_
  repeat (go_big_quiet_step (first | (go_at_call 109; with_reducible exact Calls.ext_of (HLX.out _))))
  refine wpQuiet_nil ?_
  rintro _ ⟨x, rfl⟩
  have HBX := Aside0.mk x.2
  obtain ⟨wx, hwx⟩ : ∃ wx, wx = x.1 := ⟨_, rfl⟩
  rw [← hwx] at HBX ⊢
  clear hwx HX0 HLX
  have k0 := pw_cell_below HBX.out HK0.out
  have HGX := Aside0.mk (grown_below HBX.out (some bo))
  have HSX := Aside0.mk (HST.out s w wx HS0.out HBX.out)
  go_wp2
  go_loopw [35] (fun s35 wr => ∃ iv : Nat, s35 = .int .i64 iv ∧ iv ≤ n ∧ Aside0 (w.grownBy wr (some bo)) ∧ Aside0 ((walkD ok stp (expTo n k l iv) s).1 = false) ∧ Aside0 (St (walkD ok stp (expTo n k l iv) s).2 wr)) (fun s35 _ => n - (intOf s35).toNat)
  case atStart => exact ⟨0, rfl, Nat.zero_le _, HGX, ⟨rfl⟩, HSX⟩
  case round =>
    obtain ⟨iv, rfl, hi, HG, HF, HS⟩ := hrel
    by_cases hlt : iv < n
    · have hltI : (iv : Int) < (n : Int) := by omega
      have hbit := bit_of u iv (by omega)
      rw [HSB.out iv] at hbit
      have hiv7 : iv < 7 := by omega
      by_cases hm : (iv : Int) ∈ l
      · have HE : Aside0 (expTo n k l (iv + 1) = expTo n k l iv) := ⟨by rw [expTo_succ, fT_used hm, List.append_nil]⟩
        rw [decide_eq_true hm, if_pos rfl] at hbit
        have HBI := Aside0.mk hbit
        clear hbit hm
        go_wp2
        refine wp_region_gg Bl (fun w => (Below.refl _ w).drew) (fun _ _ _ => Bl.trans) (fun i => match i with | 0 => fun v _ => v = .int .i64 (u : Int) | 1 => fun v _ => v = .int .i64 (iv : Int) | 2 => fun v _ => v = .int .i64 ((u : Int) / 2 ^ iv) | 3 => fun v _ => v = .int .i64 1 | 4 => fun v _ => v = .bool false | 5 => fun v _ => v = .bool false | 6 => fun v _ => v = undef | 7 => fun v _ => v = undef | 8 => fun v _ => v = undef | 9 => fun v _ => v = undef | 10 => fun v _ => v = undef | 11 => fun v _ => v = undef | 12 => fun v _ => v = undef | 13 => fun v _ => v = undef | 14 => fun v _ => v = undef | 15 => fun v _ => v = undef | 16 => fun v _ => v = undef | 17 => fun v _ => v = .bool false | _ => fun _ _ => True)
          [0, 0, 3, 7, 15, 31, 63, 63, 191, 63, 575, 1983, 63, 63, 8255, 28735, 65535, 131071] hmx (by kernel_rfl) ?st ?steps ?rest
        case st =>
          intro i v w1_ w2_ hb
          match i with
          | 0 | 1 | 2 | 3 | 4 | 5 | 6 | 7 | 8 | 9 | 10 | 11 | 12 | 13 | 14 | 15 | 16 | 17 => exact id
          | n + 18 => exact id
        case steps =>
          refine ⟨?_, ?_, ?_, ?_, ?_, ?_, ?_, ?_, ?_, ?_, ?_, ?_, ?_, ?_, ?_, ?_, ?_, ?_, trivial⟩
          · intro s w_ hb hd hq R hR
            generalize hA : putAll _ 0 s _ = A
            clear hq
            refine stepG_on rfl ?_
            have hR' := hR (.int .i64 (u : Int)) _ (Below.refl _ _) rfl
            clear hR hd
            refine opGives_value ?_ hR'
            subst hA
            simp only [dsOf, List.map_cons, List.map_nil, Option.getD_some, putAll, Act.put, List.setIfInBounds_toArray, List.set_cons_zero, List.set_cons_succ]
            go_simp
          · intro s w_ hb hd hq R hR
            generalize hA : putAll _ 0 s _ = A
            clear hq
            refine stepG_on rfl ?_
            have hR' := hR (.int .i64 (iv : Int)) _ (Below.refl _ _) rfl
            clear hR hd
            refine opGives_value ?_ hR'
            subst hA
            simp only [dsOf, List.map_cons, List.map_nil, Option.getD_some, putAll, Act.put, List.setIfInBounds_toArray, List.set_cons_zero, List.set_cons_succ]
            go_simp
          · intro s w_ hb hd hq R hR
            generalize hA : putAll _ 0 s _ = A
            clear hq
            refine stepG_on rfl ?_
            have e0 : s 0 = _ := hd 0 (by kernel_rfl)
            have e1 : s 1 = _ := hd 1 (by kernel_rfl)
            have hR' := hR (.int .i64 ((u : Int) / 2 ^ iv)) _ (Below.refl _ _) rfl
            clear hR hd
            refine opGives_value ?_ hR'
            subst hA
            simp only [dsOf, List.map_cons, List.map_nil, Option.getD_some, putAll, Act.put, List.setIfInBounds_toArray, List.set_cons_zero, List.set_cons_succ]
            go_simp
          · intro s w_ hb hd hq R hR
            generalize hA : putAll _ 0 s _ = A
            clear hq
            refine stepG_on rfl ?_
            have e2 : s 2 = _ := hd 2 (by kernel_rfl)
            have hbit := HBI.out
            have hR' := hR (.int .i64 1) _ (Below.refl _ _) rfl
            clear hR hd
            refine opGives_value ?_ hR'
            subst hA
            simp only [dsOf, List.map_cons, List.map_nil, Option.getD_some, putAll, Act.put, List.setIfInBounds_toArray, List.set_cons_zero, List.set_cons_succ]
            go_simp
          · intro s w_ hb hd hq R hR
            generalize hA : putAll _ 0 s _ = A
            clear hq
            refine stepG_on rfl ?_
            have e3 : s 3 = _ := hd 3 (by kernel_rfl)
            have hR' := hR (.bool false) _ (Below.refl _ _) rfl
            clear hR hd
            refine opGives_value ?_ hR'
            subst hA
            simp only [dsOf, List.map_cons, List.map_nil, Option.getD_some, putAll, Act.put, List.setIfInBounds_toArray, List.set_cons_zero, List.set_cons_succ]
            go_simp
          · intro s w_ hb hd hq R hR
            generalize hA : putAll _ 0 s _ = A
            clear hq
            refine stepG_on rfl ?_
            have e4 : s 4 = _ := hd 4 (by kernel_rfl)
            have hR' := hR (.bool false) _ (Below.refl _ _) rfl
            clear hR hd
            refine opGives_value ?_ hR'
            subst hA
            simp only [dsOf, List.map_cons, List.map_nil, Option.getD_some, putAll, Act.put, List.setIfInBounds_toArray, List.set_cons_zero, List.set_cons_succ]
            go_simp
          · intro s w_ hb hd hq R hR
            generalize hA : putAll _ 0 s _ = A
            have eg : s 5 = _ := hd 5 (by kernel_rfl)
            clear hq
            refine stepG_off ?_ (hR undef _ (Below.refl _ _) rfl)
            clear hR hd
            subst hA
            simp only [dsOf, List.map_cons, List.map_nil, Option.getD_some, putAll, Act.put, List.setIfInBounds_toArray, List.set_cons_zero, List.set_cons_succ]
            simp [Region.wanted, yielded, eg]
          · intro s w_ hb hd hq R hR
            generalize hA : putAll _ 0 s _ = A
            have eg : s 5 = _ := hd 5 (by kernel_rfl)
            clear hq
            refine stepG_off ?_ (hR undef _ (Below.refl _ _) rfl)
            clear hR hd
            subst hA
            simp only [dsOf, List.map_cons, List.map_nil, Option.getD_some, putAll, Act.put, List.setIfInBounds_toArray, List.set_cons_zero, List.set_cons_succ]
            simp [Region.wanted, yielded, eg]
          · intro s w_ hb hd hq R hR
            generalize hA : putAll _ 0 s _ = A
            have eg : s 5 = _ := hd 5 (by kernel_rfl)
            clear hq
            refine stepG_off ?_ (hR undef _ (Below.refl _ _) rfl)
            clear hR hd
            subst hA
            simp only [dsOf, List.map_cons, List.map_nil, Option.getD_some, putAll, Act.put, List.setIfInBounds_toArray, List.set_cons_zero, List.set_cons_succ]
            simp [Region.wanted, yielded, eg]
          · intro s w_ hb hd hq R hR
            generalize hA : putAll _ 0 s _ = A
            have eg : s 5 = _ := hd 5 (by kernel_rfl)
            clear hq
            refine stepG_off ?_ (hR undef _ (Below.refl _ _) rfl)
            clear hR hd
            subst hA
            simp only [dsOf, List.map_cons, List.map_nil, Option.getD_some, putAll, Act.put, List.setIfInBounds_toArray, List.set_cons_zero, List.set_cons_succ]
            simp [Region.wanted, yielded, eg]
          · intro s w_ hb hd hq R hR
            generalize hA : putAll _ 0 s _ = A
            have eg : s 5 = _ := hd 5 (by kernel_rfl)
            clear hq
            refine stepG_off ?_ (hR undef _ (Below.refl _ _) rfl)
            clear hR hd
            subst hA
            simp only [dsOf, List.map_cons, List.map_nil, Option.getD_some, putAll, Act.put, List.setIfInBounds_toArray, List.set_cons_zero, List.set_cons_succ]
            simp [Region.wanted, yielded, eg]
          · intro s w_ hb hd hq R hR
            generalize hA : putAll _ 0 s _ = A
            have eg : s 5 = _ := hd 5 (by kernel_rfl)
            clear hq
            refine stepG_off ?_ (hR undef _ (Below.refl _ _) rfl)
            clear hR hd
            subst hA
            simp only [dsOf, List.map_cons, List.map_nil, Option.getD_some, putAll, Act.put, List.setIfInBounds_toArray, List.set_cons_zero, List.set_cons_succ]
            simp [Region.wanted, yielded, eg]
          · intro s w_ hb hd hq R hR
            generalize hA : putAll _ 0 s _ = A
            have eg : s 5 = _ := hd 5 (by kernel_rfl)
            clear hq
            refine stepG_off ?_ (hR undef _ (Below.refl _ _) rfl)
            clear hR hd
            subst hA
            simp only [dsOf, List.map_cons, List.map_nil, Option.getD_some, putAll, Act.put, List.setIfInBounds_toArray, List.set_cons_zero, List.set_cons_succ]
            simp [Region.wanted, yielded, eg]
          · intro s w_ hb hd hq R hR
            generalize hA : putAll _ 0 s _ = A
            have eg : s 5 = _ := hd 5 (by kernel_rfl)
            clear hq
            refine stepG_off ?_ (hR undef _ (Below.refl _ _) rfl)
            clear hR hd
            subst hA
            simp only [dsOf, List.map_cons, List.map_nil, Option.getD_some, putAll, Act.put, List.setIfInBounds_toArray, List.set_cons_zero, List.set_cons_succ]
            simp [Region.wanted, yielded, eg]
          · intro s w_ hb hd hq R hR
            generalize hA : putAll _ 0 s _ = A
            have eg : s 5 = _ := hd 5 (by kernel_rfl)
            clear hq
            refine stepG_off ?_ (hR undef _ (Below.refl _ _) rfl)
            clear hR hd
            subst hA
            simp only [dsOf, List.map_cons, List.map_nil, Option.getD_some, putAll, Act.put, List.setIfInBounds_toArray, List.set_cons_zero, List.set_cons_succ]
            simp [Region.wanted, yielded, eg]
          · intro s w_ hb hd hq R hR
            generalize hA : putAll _ 0 s _ = A
            have eg : s 5 = _ := hd 5 (by kernel_rfl)
            clear hq
            refine stepG_off ?_ (hR undef _ (Below.refl _ _) rfl)
            clear hR hd
            subst hA
            simp only [dsOf, List.map_cons, List.map_nil, Option.getD_some, putAll, Act.put, List.setIfInBounds_toArray, List.set_cons_zero, List.set_cons_succ]
            simp [Region.wanted, yielded, eg]
          · intro s w_ hb hd hq R hR
            generalize hA : putAll _ 0 s _ = A
            have eg : s 5 = _ := hd 5 (by kernel_rfl)
            clear hq
            refine stepG_off ?_ (hR undef _ (Below.refl _ _) rfl)
            clear hR hd
            subst hA
            simp only [dsOf, List.map_cons, List.map_nil, Option.getD_some, putAll, Act.put, List.setIfInBounds_toArray, List.set_cons_zero, List.set_cons_succ]
            simp [Region.wanted, yielded, eg]
          · intro s w_ hb hd hq R hR
            generalize hA : putAll _ 0 s _ = A
            clear hq
            refine stepG_on rfl ?_
            have e5 : s 5 = _ := hd 5 (by kernel_rfl)
            have e16 : s 16 = _ := hd 16 (by kernel_rfl)
            have hR' := hR (.bool false) _ (Below.refl _ _) rfl
            clear hR hd
            refine opGives_value ?_ hR'
            subst hA
            simp only [dsOf, List.map_cons, List.map_nil, Option.getD_some, putAll, Act.put, List.setIfInBounds_toArray, List.set_cons_zero, List.set_cons_succ]
            go_simp
        case rest =>
          intro s9 w9 hb hv
          have e17_ : s9 17 = _ := hv 17 (by decide)
          simp only [dsOf, List.map_cons, List.map_nil, Option.getD_some, putAll, Act.put, List.setIfInBounds_toArray, List.set_cons_zero, List.set_cons_succ]
          rw [e17_]
          clear hv e17_
          have HGn := Aside0.mk (grown_trans HG.out (grown_below hb _))
          have HSn := Aside0.mk (HST.out _ _ _ HS.out hb)
          clear hb
          go_wp2
          go_roundw
          case rel => exact ⟨iv + 1, by go_num, by omega, HGn, ⟨by rw [HE.out]; exact HF.out⟩, ⟨by rw [HE.out]; exact HSn.out⟩⟩
          case measure => simp [intOf]; omega
      · have hFT := fT_free (n := n) (k := k) hm
        have HNX := Aside0.mk (walk_next (ok := ok) (stp := stp) (n := n) (k := k) (l := l) (i := iv) (s := s) HF.out)
        have HHIT := Aside0.mk (walk_hit (ok := ok) (stp := stp) (n := n) (k := k) (l := l) (i := iv) (s := s) hlt HF.out)
        rw [hFT] at HNX HHIT
        have hsh := pow_wrap' iv hiv7
        have hpp := (pw6 (show iv ≤ 6 by omega)).2
        have HSNi := Aside0.mk (HSN.out iv)
        rw [Int.toNat_natCast] at HSNi
        obtain ⟨P, hP⟩ : ∃ P, P = 2 ^ iv := ⟨_, rfl⟩
        rw [← hP] at hsh hpp HSNi
        have ho1 := or_i64 u P (by omega) (by omega)
        obtain ⟨U1, hU1⟩ : ∃ U1, U1 = u ||| P := ⟨_, rfl⟩
        rw [← hU1] at ho1 HSNi
        have HSH := Aside0.mk hsh
        have HO1 := Aside0.mk ho1
        obtain ⟨s1, hs1⟩ : ∃ s1, s1 = (walkD ok stp (expTo n k l iv) s).2 := ⟨_, rfl⟩
        rw [← hs1] at HS HNX HHIT
        have HIH1 := Aside0.mk (fun v' W (ho : OwnI B W v' (l ++ [(iv : Int)])) (hb : Below wr.heap.size wr W) => HIH0.out iv v' s1 W hlt hm (grown_trans HG.out (grown_below hb _)) ho (HST.out _ _ _ HS.out hb))
        rw [HSNi.out] at HIH1
        obtain ⟨r, hr⟩ : ∃ r, r = (walkD ok stp (exts n k (l ++ [(iv : Int)])) s1).1 := ⟨_, rfl⟩
        obtain ⟨s2, hs2⟩ : ∃ s2, s2 = (walkD ok stp (exts n k (l ++ [(iv : Int)])) s1).2 := ⟨_, rfl⟩
        have HIH := HIH1
        rw [← hr, ← hs2] at HIH HHIT
        have HR1 := Aside0.mk hr
        have HS2 := Aside0.mk hs2
        rw [decide_eq_false hm, if_neg (by decide)] at hbit
        have HBI := Aside0.mk hbit
        have HVW := Aside0.mk (fun W (h : Below wr.heap.size wr W) => (HVG.out wr HG.out).below h)
        have HBW : Aside0 (B ≤ wr.heap.size) := ⟨Nat.le_trans HBW0.out HG.out.size⟩
        clear hbit hm hFT hsh ho1 hP hU1 hs1 hr hs2 HIH1
        go_wp2
        refine wp_region_u (fun i => !(i == 8) && !(i == 10) && !(i == 11) && !(i == 16)) (fun i => match i with | 0 => fun v => v = .int .i64 (u : Int) | 1 => fun v => v = .int .i64 (iv : Int) | 2 => fun v => v = .int .i64 ((u : Int) / 2 ^ iv) | 3 => fun v => v = .int .i64 0 | 4 => fun v => v = .bool true | 5 => fun v => v = .bool true | 6 => fun v => v = .func (.func 108) #[] #[.pointer (some ⟨bk, 0, none⟩), .pointer (some ⟨bl, 0, none⟩), .pointer (some ⟨bd, 0, none⟩), .pointer (some ⟨bg, 0, none⟩)] | 7 => fun v => v = .slice A1 l.length d1 | 9 => fun v => v = .int .i64 (iv : Int) | 12 => fun v => v = .int .i64 (u : Int) | 13 => fun v => v = .int .i64 (iv : Int) | 14 => fun v => v = .int .i64 (P : Int) | 15 => fun v => v = .int .i64 (U1 : Int) | 17 => fun v => v = .bool r | _ => fun _ => True)
          (RI 8 10 11 16 l (iv : Int) wr (fun z W => z = .bool r ∧ St s2 W ∧ wr.grownBy W (some bo))) [0, 0, 3, 7, 15, 31, 63, 63, 191, 63, 575, 1983, 63, 63, 8255, 28735, 65535, 131071] hmx (by kernel_rfl) ?start ?stay ?steps ?rest
        case start =>
          intro b_ s hb
          exact RI.start (by decide) hb
        case stay =>
          intro i b_ s v_ w1_ hq hI
          have h4 : ((¬i = 8 ∧ ¬i = 10) ∧ ¬i = 11) ∧ ¬i = 16 := by simpa using hq
          exact hI.quiet h4.1.1.1 h4.1.1.2 h4.1.2 h4.2 v_
        case steps =>
          refine ⟨?_, ?_, ?_, ?_, ?_, ?_, ?_, ?_, ?_, ?_, ?_, ?_, ?_, ?_, ?_, ?_, ?_, ?_, trivial⟩
          · intro s b_ w_ hI hbi hd hq R hR hN
            generalize hA : putAll _ 0 s _ = A
            clear hq
            refine stepG_on rfl ?_
            have hR' := hR rfl (.int .i64 (u : Int)) rfl
            clear hR hN hd
            refine opGives_value ?_ hR'
            subst hA
            simp only [dsOf, List.map_cons, List.map_nil, Option.getD_some, putAll, Act.put, List.setIfInBounds_toArray, List.set_cons_zero, List.set_cons_succ]
            go_simp
          · intro s b_ w_ hI hbi hd hq R hR hN
            generalize hA : putAll _ 0 s _ = A
            clear hq
            refine stepG_on rfl ?_
            have hR' := hR rfl (.int .i64 (iv : Int)) rfl
            clear hR hN hd
            refine opGives_value ?_ hR'
            subst hA
            simp only [dsOf, List.map_cons, List.map_nil, Option.getD_some, putAll, Act.put, List.setIfInBounds_toArray, List.set_cons_zero, List.set_cons_succ]
            go_simp
          · intro s b_ w_ hI hbi hd hq R hR hN
            generalize hA : putAll _ 0 s _ = A
            clear hq
            refine stepG_on rfl ?_
            have e0 : s 0 = _ := (hd 0 (by kernel_rfl)).2 rfl
            have e1 : s 1 = _ := (hd 1 (by kernel_rfl)).2 rfl
            have hR' := hR rfl (.int .i64 ((u : Int) / 2 ^ iv)) rfl
            clear hR hN hd
            refine opGives_value ?_ hR'
            subst hA
            simp only [dsOf, List.map_cons, List.map_nil, Option.getD_some, putAll, Act.put, List.setIfInBounds_toArray, List.set_cons_zero, List.set_cons_succ]
            go_simp
          · intro s b_ w_ hI hbi hd hq R hR hN
            generalize hA : putAll _ 0 s _ = A
            clear hq
            refine stepG_on rfl ?_
            have e2 : s 2 = _ := (hd 2 (by kernel_rfl)).2 rfl
            have hbit := HBI.out
            have hR' := hR rfl (.int .i64 0) rfl
            clear hR hN hd
            refine opGives_value ?_ hR'
            subst hA
            simp only [dsOf, List.map_cons, List.map_nil, Option.getD_some, putAll, Act.put, List.setIfInBounds_toArray, List.set_cons_zero, List.set_cons_succ]
            go_simp
          · intro s b_ w_ hI hbi hd hq R hR hN
            generalize hA : putAll _ 0 s _ = A
            clear hq
            refine stepG_on rfl ?_
            have e3 : s 3 = _ := (hd 3 (by kernel_rfl)).2 rfl
            have hR' := hR rfl (.bool true) rfl
            clear hR hN hd
            refine opGives_value ?_ hR'
            subst hA
            simp only [dsOf, List.map_cons, List.map_nil, Option.getD_some, putAll, Act.put, List.setIfInBounds_toArray, List.set_cons_zero, List.set_cons_succ]
            go_simp
          · intro s b_ w_ hI hbi hd hq R hR hN
            generalize hA : putAll _ 0 s _ = A
            clear hq
            refine stepG_on rfl ?_
            have e4 : s 4 = _ := (hd 4 (by kernel_rfl)).2 rfl
            have hR' := hR rfl (.bool true) rfl
            clear hR hN hd
            refine opGives_value ?_ hR'
            subst hA
            simp only [dsOf, List.map_cons, List.map_nil, Option.getD_some, putAll, Act.put, List.setIfInBounds_toArray, List.set_cons_zero, List.set_cons_succ]
            go_simp
          · intro s b_ w_ hI hbi hd hq R hR hN
            generalize hA : putAll _ 0 s _ = A
            clear hq
            have eg : s 5 = _ := (hd 5 (by kernel_rfl)).2 rfl
            refine stepG_on ?_ ?_
            · clear hR hN hd hI
              subst hA
              simp only [dsOf, List.map_cons, List.map_nil, Option.getD_some, putAll, Act.put, List.setIfInBounds_toArray, List.set_cons_zero, List.set_cons_succ]
              simp [Region.wanted, yielded, eg]
            clear eg
            have hg0 := hI.cell (fun h => grown_cell h.2.2 (grown_cell HG.out HG0.out hbg) hbg) (grown_cell HG.out HG0.out hbg)
            have hR' := hR rfl (.func (.func 108) #[] #[.pointer (some ⟨bk, 0, none⟩), .pointer (some ⟨bl, 0, none⟩), .pointer (some ⟨bd, 0, none⟩), .pointer (some ⟨bg, 0, none⟩)]) rfl
            clear hR hN hd
            refine opGives_value ?_ hR'
            subst hA
            simp only [dsOf, List.map_cons, List.map_nil, Option.getD_some, putAll, Act.put, List.setIfInBounds_toArray, List.set_cons_zero, List.set_cons_succ]
            go_simp
          · intro s b_ w_ hI hbi hd hq R hR hN
            generalize hA : putAll _ 0 s _ = A
            clear hq
            have eg : s 5 = _ := (hd 5 (by kernel_rfl)).2 rfl
            refine stepG_on ?_ ?_
            · clear hR hN hd hI
              subst hA
              simp only [dsOf, List.map_cons, List.map_nil, Option.getD_some, putAll, Act.put, List.setIfInBounds_toArray, List.set_cons_zero, List.set_cons_succ]
              simp [Region.wanted, yielded, eg]
            clear eg
            have hR' := hR rfl (.slice A1 l.length d1) rfl
            clear hR hN hd
            refine opGives_value ?_ hR'
            subst hA
            simp only [dsOf, List.map_cons, List.map_nil, Option.getD_some, putAll, Act.put, List.setIfInBounds_toArray, List.set_cons_zero, List.set_cons_succ]
            go_simp
          · intro s b_ w_ hI hbi hd hq R hR hN
            generalize hA : putAll _ 0 s _ = A
            clear hq
            have eg : s 5 = _ := (hd 5 (by kernel_rfl)).2 rfl
            refine stepG_on ?_ ?_
            · clear hR hN hd hI
              subst hA
              simp only [dsOf, List.map_cons, List.map_nil, Option.getD_some, putAll, Act.put, List.setIfInBounds_toArray, List.set_cons_zero, List.set_cons_succ]
              simp [Region.wanted, yielded, eg]
            clear eg
            have e7 : s 7 = _ := (hd 7 (by kernel_rfl)).2 rfl
            clear hR
            refine opGives_call (f := 112) (args := #[.slice A1 l.length d1]) ?_ ?_
            · subst hA
              clear hN hd
              simp only [dsOf, List.map_cons, List.map_nil, Option.getD_some, putAll, Act.put, List.setIfInBounds_toArray, List.set_cons_zero, List.set_cons_succ]
              go_simp
            clear hA A hd
            have hBw := hI.hB (hI.noa <| hI.noc hbi)
            refine (cloneI _ l w_ (HVW.out w_ hBw).read HL6.out).mono ?_
            rintro e w3_ ⟨u3, rfl, ho, hb3⟩
            exact ⟨_, rfl, hN rfl _ _ (hI.clone hbi hb3 (ho.lower hBw.size))⟩
          · intro s b_ w_ hI hbi hd hq R hR hN
            generalize hA : putAll _ 0 s _ = A
            clear hq
            have eg : s 5 = _ := (hd 5 (by kernel_rfl)).2 rfl
            refine stepG_on ?_ ?_
            · clear hR hN hd hI
              subst hA
              simp only [dsOf, List.map_cons, List.map_nil, Option.getD_some, putAll, Act.put, List.setIfInBounds_toArray, List.set_cons_zero, List.set_cons_succ]
              simp [Region.wanted, yielded, eg]
            clear eg
            have hR' := hR rfl (.int .i64 (iv : Int)) rfl
            clear hR hN hd
            refine opGives_value ?_ hR'
            subst hA
            simp only [dsOf, List.map_cons, List.map_nil, Option.getD_some, putAll, Act.put, List.setIfInBounds_toArray, List.set_cons_zero, List.set_cons_succ]
            go_simp
          · intro s b_ w_ hI hbi hd hq R hR hN
            generalize hA : putAll _ 0 s _ = A
            clear hq
            have eg : s 5 = _ := (hd 5 (by kernel_rfl)).2 rfl
            refine stepG_on ?_ ?_
            · clear hR hN hd hI
              subst hA
              simp only [dsOf, List.map_cons, List.map_nil, Option.getD_some, putAll, Act.put, List.setIfInBounds_toArray, List.set_cons_zero, List.set_cons_succ]
              simp [Region.wanted, yielded, eg]
            clear eg
            have e9 : s 9 = _ := (hd 9 (by kernel_rfl)).2 rfl
            clear hR
            have hN' := hN rfl (.slice (some ⟨w_.heap.size, 0, none⟩) 1 1) (w_.alloc (.cells #[.int .i64 (iv : Int)] 2)) (hI.build hbi)
            clear hN hd
            refine opGives_value ?_ hN'
            subst hA
            simp only [dsOf, List.map_cons, List.map_nil, Option.getD_some, putAll, Act.put, List.setIfInBounds_toArray, List.set_cons_zero, List.set_cons_succ]
            go_simp
          · intro s b_ w_ hI hbi hd hq R hR hN
            generalize hA : putAll _ 0 s _ = A
            clear hq
            have eg : s 5 = _ := (hd 5 (by kernel_rfl)).2 rfl
            refine stepG_on ?_ ?_
            · clear hR hN hd hI
              subst hA
              simp only [dsOf, List.map_cons, List.map_nil, Option.getD_some, putAll, Act.put, List.setIfInBounds_toArray, List.set_cons_zero, List.set_cons_succ]
              simp [Region.wanted, yielded, eg]
            clear eg
            have b8 : b_ 8 = true := (hd 8 (by kernel_rfl)).1
            have b10 : b_ 10 = true := (hd 10 (by kernel_rfl)).1
            have hOC := hI.hC b8 hbi
            obtain ⟨kb, ekb, hkb⟩ := hI.hS b10 hbi
            clear hR
            have hBw := hI.hB (hI.noa hbi)
            obtain ⟨Ac, cc, eC, -⟩ := hOC.read
            refine append_gives wr.heap.size (.tmp 46) (.tmp 48) rfl (.slice Ac l.length cc) l (iv : Int) kb 1 ?_ ?_ hkb (by rw [← eC]; exact hOC) hBw.size (by have := HL6.out; omega) ?_
            · subst hA
              clear hN hd
              simp only [dsOf, List.map_cons, List.map_nil, Option.getD_some, putAll, Act.put, List.setIfInBounds_toArray, List.set_cons_zero, List.set_cons_succ]
              exact eC
            · subst hA
              clear hN hd
              simp only [dsOf, List.map_cons, List.map_nil, Option.getD_some, putAll, Act.put, List.setIfInBounds_toArray, List.set_cons_zero, List.set_cons_succ]
              exact ekb
            intro v1 w1 ho1 hg1 hat1
            exact hN rfl _ _ (hI.app b8 b10 hbi ho1 (by rw [eC]; exact hg1))
          · intro s b_ w_ hI hbi hd hq R hR hN
            generalize hA : putAll _ 0 s _ = A
            clear hq
            have eg : s 5 = _ := (hd 5 (by kernel_rfl)).2 rfl
            refine stepG_on ?_ ?_
            · clear hR hN hd hI
              subst hA
              simp only [dsOf, List.map_cons, List.map_nil, Option.getD_some, putAll, Act.put, List.setIfInBounds_toArray, List.set_cons_zero, List.set_cons_succ]
              simp [Region.wanted, yielded, eg]
            clear eg
            have hR' := hR rfl (.int .i64 (u : Int)) rfl
            clear hR hN hd
            refine opGives_value ?_ hR'
            subst hA
            simp only [dsOf, List.map_cons, List.map_nil, Option.getD_some, putAll, Act.put, List.setIfInBounds_toArray, List.set_cons_zero, List.set_cons_succ]
            go_simp
          · intro s b_ w_ hI hbi hd hq R hR hN
            generalize hA : putAll _ 0 s _ = A
            clear hq
            have eg : s 5 = _ := (hd 5 (by kernel_rfl)).2 rfl
            refine stepG_on ?_ ?_
            · clear hR hN hd hI
              subst hA
              simp only [dsOf, List.map_cons, List.map_nil, Option.getD_some, putAll, Act.put, List.setIfInBounds_toArray, List.set_cons_zero, List.set_cons_succ]
              simp [Region.wanted, yielded, eg]
            clear eg
            have hR' := hR rfl (.int .i64 (iv : Int)) rfl
            clear hR hN hd
            refine opGives_value ?_ hR'
            subst hA
            simp only [dsOf, List.map_cons, List.map_nil, Option.getD_some, putAll, Act.put, List.setIfInBounds_toArray, List.set_cons_zero, List.set_cons_succ]
            go_simp
          · intro s b_ w_ hI hbi hd hq R hR hN
            generalize hA : putAll _ 0 s _ = A
            clear hq
            have eg : s 5 = _ := (hd 5 (by kernel_rfl)).2 rfl
            refine stepG_on ?_ ?_
            · clear hR hN hd hI
              subst hA
              simp only [dsOf, List.map_cons, List.map_nil, Option.getD_some, putAll, Act.put, List.setIfInBounds_toArray, List.set_cons_zero, List.set_cons_succ]
              simp [Region.wanted, yielded, eg]
            clear eg
            have e13 : s 13 = _ := (hd 13 (by kernel_rfl)).2 rfl
            have hsh := HSH.out
            have hR' := hR rfl (.int .i64 (P : Int)) rfl
            clear hR hN hd
            refine opGives_value ?_ hR'
            subst hA
            simp only [dsOf, List.map_cons, List.map_nil, Option.getD_some, putAll, Act.put, List.setIfInBounds_toArray, List.set_cons_zero, List.set_cons_succ]
            go_simp
          · intro s b_ w_ hI hbi hd hq R hR hN
            generalize hA : putAll _ 0 s _ = A
            clear hq
            have eg : s 5 = _ := (hd 5 (by kernel_rfl)).2 rfl
            refine stepG_on ?_ ?_
            · clear hR hN hd hI
              subst hA
              simp only [dsOf, List.map_cons, List.map_nil, Option.getD_some, putAll, Act.put, List.setIfInBounds_toArray, List.set_cons_zero, List.set_cons_succ]
              simp [Region.wanted, yielded, eg]
            clear eg
            have e12 : s 12 = _ := (hd 12 (by kernel_rfl)).2 rfl
            have e14 : s 14 = _ := (hd 14 (by kernel_rfl)).2 rfl
            have ho1 := HO1.out
            have hR' := hR rfl (.int .i64 (U1 : Int)) rfl
            clear hR hN hd
            refine opGives_value ?_ hR'
            subst hA
            simp only [dsOf, List.map_cons, List.map_nil, Option.getD_some, putAll, Act.put, List.setIfInBounds_toArray, List.set_cons_zero, List.set_cons_succ]
            go_simp
          · intro s b_ w_ hI hbi hd hq R hR hN
            generalize hA : putAll _ 0 s _ = A
            clear hq
            have eg : s 5 = _ := (hd 5 (by kernel_rfl)).2 rfl
            refine stepG_on ?_ ?_
            · clear hR hN hd hI
              subst hA
              simp only [dsOf, List.map_cons, List.map_nil, Option.getD_some, putAll, Act.put, List.setIfInBounds_toArray, List.set_cons_zero, List.set_cons_succ]
              simp [Region.wanted, yielded, eg]
            clear eg
            have e6 : s 6 = _ := (hd 6 (by kernel_rfl)).2 rfl
            have b11 : b_ 11 = true := (hd 11 (by kernel_rfl)).1
            have e15 : s 15 = _ := (hd 15 (by kernel_rfl)).2 rfl
            have hOA := hI.hA b11 hbi
            have hBw := hI.hB hbi
            clear hR
            obtain ⟨Aa, ca, eA, -⟩ := hOA.read
            refine opGives_call (f := 108) (args := #[.slice Aa (l ++ [(iv : Int)]).length ca, .int .i64 (U1 : Int), .pointer (some ⟨bk, 0, none⟩), .pointer (some ⟨bl, 0, none⟩), .pointer (some ⟨bd, 0, none⟩), .pointer (some ⟨bg, 0, none⟩)]) ?_ ?_
            · subst hA
              clear hN hd
              have e11 := eA
              simp only [dsOf, List.map_cons, List.map_nil, Option.getD_some, putAll, Act.put, List.setIfInBounds_toArray, List.set_cons_zero, List.set_cons_succ]
              go_simp
            clear hA A hd
            rw [eA] at hOA
            refine (HIH.out _ w_ (hOA.lower HBW.out) hBw).mono ?_
            rintro e w3_ ⟨rfl, hs3, hg3⟩
            exact ⟨_, rfl, hN rfl _ _ (hI.call b11 hbi ⟨rfl, hs3, grown_trans (grown_below hBw _) hg3⟩)⟩
          · intro s b_ w_ hI hbi hd hq R hR hN
            generalize hA : putAll _ 0 s _ = A
            clear hq
            refine stepG_on rfl ?_
            have e5 : s 5 = _ := (hd 5 (by kernel_rfl)).2 rfl
            have b16 : b_ 16 = true := (hd 16 (by kernel_rfl)).1
            have e16 := (hI.hD b16).1
            have hR' := hR rfl (.bool r) rfl
            clear hR hN hd
            refine opGives_value ?_ hR'
            subst hA
            simp only [dsOf, List.map_cons, List.map_nil, Option.getD_some, putAll, Act.put, List.setIfInBounds_toArray, List.set_cons_zero, List.set_cons_succ]
            go_simp
        case rest =>
          intro s9 b_ w9 hI hb hv
          have e17_ : s9 17 = _ := hv 17 (by decide) rfl
          simp only [dsOf, List.map_cons, List.map_nil, Option.getD_some, putAll, Act.put, List.setIfInBounds_toArray, List.set_cons_zero, List.set_cons_succ]
          rw [e17_]
          clear hv e17_
          obtain ⟨-, hs3, hg3⟩ := hI.hD (hb 16 (by decide))
          have HGn := Aside0.mk (grown_trans HG.out hg3)
          have HSn := Aside0.mk hs3
          clear hI hb hs3 hg3
          cases r with
          | true =>
            have HT := Aside0.mk (HHIT.out rfl)
            go_wp2
            go_ret
            exact ⟨by rw [HT.out]; rfl, by rw [HT.out]; exact HSn.out, HGn.out⟩
          | false =>
            go_wp2
            go_roundw
            case rel => exact ⟨iv + 1, by go_num, by omega, HGn, ⟨by rw [HNX.out]; exact HR1.out.symm⟩, ⟨by rw [HNX.out, ← HS2.out]; exact HSn.out⟩⟩
            case measure => simp [intOf]; omega
    · have e : iv = n := by omega
      have HE : Aside0 (exts n (k + 1) l = expTo n k l iv) := ⟨by rw [e]; exact exts_succ n k l⟩
      have hltI : ¬ (iv : Int) < (n : Int) := by omega
      clear e
      go_wp2
      go_ret
      exact ⟨by rw [HE.out, HF.out]; rfl, by rw [HE.out]; exact HS.out, HG.out⟩
end Go.Proofs.Ythbkboigbkadjaa.H

namespace Go.Proofs.Ythbkboigbkadjaa.H
open Go.RowKit Go.Proofs.YthbkboigbkadjaaW.PrintWords Go.Proofs.YthbkboigbkadjaaW.PrintLast Go.Proofs.YthbkboigbkadjaaW.PrintMore
set_option linter.unusedVariables false
set_option linter.unusedSimpArgs false

/-- a row of lists of the call's own, each list in memory of its own -/
def OwnR (b : Nat) (w : World) (v : Value) (ls : List (List Int)) : Prop :=
  ∃ (g cap : Nat) (ws : List Value), v = .slice (some ⟨g, 0, none⟩) ls.length cap ∧ b ≤ g ∧ g < w.heap.size ∧ w.ownsRow b 22 1 v ls.length ws ∧ (∀ (j : Nat) (x : List Int), ls[j]? = some x → ∃ u, ws[j]? = some u ∧ OwnI b w u x ∧ ∀ k, u.ownBlock = some k → k ≠ g) ∧ ∀ u ∈ ws, u.oneCell' = true
theorem OwnR.below {b : Nat} {w w' : World} {v : Value} {ls : List (List Int)} (h : OwnR b w v ls) (hb : Below w.heap.size w w') : OwnR b w' v ls := by
  obtain ⟨g, cap, ws, rfl, h1, h2, h3, h4, h5⟩ := h
  exact ⟨g, cap, ws, rfl, h1, Nat.lt_of_lt_of_le h2 hb.size, own_move h3 (fun k hk => hb.block k (own_lt h3 k hk)), fun j x hx => by
    obtain ⟨u, e, ho, hn⟩ := h4 j x hx
    exact ⟨u, e, ho.below hb, hn⟩, h5⟩
theorem OwnR.lower {b b' : Nat} {w : World} {v : Value} {ls : List (List Int)} (h : OwnR b w v ls) (hb : b' ≤ b) : OwnR b' w v ls := by
  obtain ⟨g, cap, ws, rfl, h1, h2, h3, h4, h5⟩ := h
  exact ⟨g, cap, ws, rfl, Nat.le_trans hb h1, h2, own_weaken h3 hb, fun j x hx => by
    obtain ⟨u, e, ho, hn⟩ := h4 j x hx
    exact ⟨u, e, ho.lower hb, hn⟩, h5⟩
theorem OwnR.empty {b : Nat} (w : World) (hb : b ≤ w.heap.size) : OwnR b (w.alloc (.cells #[] 22)) (.slice (some ⟨w.heap.size, 0, none⟩) 0 0) [] :=
  ⟨w.heap.size, 0, [], rfl, hb, by simp, ⟨rfl, .inr ⟨w.heap.size, 0, #[], rfl, hb, heap_alloc_new w _, Nat.le_refl _, by decide, rfl, rfl⟩⟩, fun j x h => by simp at h, fun u h => by cases h⟩
theorem OwnR.one {b : Nat} {w : World} {u : Value} {l : List Int} (hb : b ≤ w.heap.size) (h : OwnI b w u l) : OwnR b (w.alloc (.cells #[u] 22)) (.slice (some ⟨w.heap.size, 0, none⟩) 1 1) [l] := by
  have hbl : Below w.heap.size w (w.alloc (.cells #[u] 22)) := Below.alloc (Below.refl _ _) (Nat.le_refl _) _
  obtain ⟨A, c, rfl, -⟩ := id h.read
  refine ⟨w.heap.size, 1, [_], rfl, hb, by simp, ⟨rfl, .inr ⟨w.heap.size, 1, #[_], rfl, hb, heap_alloc_new w _, Nat.le_refl _, by decide, rfl, rfl⟩⟩, fun j x hx => ?_, fun u hu => ?_⟩
  · cases j with
    | zero => simp at hx; subst hx; exact ⟨_, rfl, h.below hbl, fun k hk e => by have := h.lt k hk; omega⟩
    | succ j => simp at hx
  · rw [List.mem_singleton] at hu; subst hu; rfl
theorem OwnR.get {b : Nat} {w : World} {v : Value} {ls : List (List Int)} (h : OwnR b w v ls) {j : Nat} {x : List Int} (hj : ls[j]? = some x) : ∃ g cap u, v = .slice (some ⟨g, 0, none⟩) ls.length cap ∧ w.cell? ⟨g, j, none⟩ = some u ∧ OwnI b w u x := by
  obtain ⟨g, cap, ws, rfl, h1, h2, h3, h4, h5⟩ := h
  obtain ⟨u, e, ho, -⟩ := h4 j x hj
  have hc := World.ownsRow.cells h3 (g := g) rfl j u e
  rw [add_plain] at hc
  exact ⟨g, cap, u, rfl, hc, ho⟩
theorem infoI : (Try.prog.info? 22).map (fun i => (i.zero, i.size, i.bytes)) = some (some (.slice none 0 0), 1, 24) := by kernel_rfl

set_option maxRecDepth 100000 in
/-- append(v, u...) at rows, as one operation -/
theorem appendRows_gives {o : Oper} {ev : Operand → Value} {W : World} (base : Nat) (s x : Operand) (ho : o.op = .call { callee := .builtin .append, args := #[s, x], argTypes := #[57, 57] })
    (v u : Value) (ls ms : List (List Int)) (mid : Nat) (hs : ev s = v) (hx : ev x = u) (HO : OwnR base W v ls) (HM : OwnR mid W u ms) (hmid : ∀ g n c, v = .slice (some ⟨g, 0, none⟩) n c → g < mid) (hbm : base ≤ mid) (hbase : base ≤ W.heap.size) (hl : ls.length + ms.length ≤ 100000) {R : Value → World → Prop}
    (h : ∀ v1 w1, OwnR base w1 v1 (ls ++ ms) → W.grownBy w1 v.ownBlock → R v1 w1) : opGives Try.prog o ev W R := by
  obtain ⟨iI, hi, hii⟩ := Option.map_eq_some_iff.1 infoI
  simp only [Prod.mk.injEq] at hii
  obtain ⟨hi0, hi1, hi2⟩ := hii
  obtain ⟨g, cap, ws, rfl, h1, h2, h3, h4, h5⟩ := HO
  obtain ⟨g', cap', ws', rfl, h1', h2', h3', h4', h5'⟩ := HM
  have hgm := hmid g _ _ rfl
  obtain ⟨v', w', hrun, hr2, hr3, hr4, hr5⟩ := run_append_own_at (P := Try.prog) W base 57 o.type 22 _ (.slice none 0 0) 1 24 Try.underlying57 hi hi0 hi1 hi2 rfl (by decide) _ ls.length ws h3 ⟨g', 0, none⟩ ms.length cap' ws' h3'.1
    (fun j u hj => World.ownsRow.cells h3' (g := g') rfl j u hj) h5' (by simp only [maxLen]; omega) (by omega) hbase
  have hown : (Value.slice (some ⟨g, 0, none⟩) ls.length cap).ownBlock = some g := rfl
  rw [hown] at hr3 hr5
  refine opGives_value (w' := w') (v := v') ?_ (h v' w' ?_ hr3)
  · unfold execOp
    simp only [ho, resolve, invoke, builtin, Sem.run_bind, Sem.run_pure, Result.andThen_ok, List.map_toArray, List.map_cons, List.map_nil, hs, hx, hrun]
  · have hv' : ∃ g2 c2, v' = .slice (some ⟨g2, 0, none⟩) (ls.length + ms.length) c2 := by
      rcases hr2.2 with ⟨rfl, -⟩ | ⟨g2, c2, cur2, rfl, -⟩
      · rcases hr5 with e | e <;> cases e
      · exact ⟨g2, c2, rfl⟩
    obtain ⟨g2, c2, rfl⟩ := hv'
    have hg2 : g2 = g ∨ g2 = W.heap.size := by
      rcases hr5 with e | e
      · left; exact Option.some.inj e
      · right; exact Option.some.inj e
    refine ⟨g2, c2, ws ++ ws', by rw [List.length_append], own_base hr2 g2 rfl, own_lt hr2 g2 rfl, by rw [List.length_append]; exact hr2, fun j x hj => ?_, fun u hu => ?_⟩
    · have hwl : ws.length = ls.length := by rw [h3.1, Nat.mul_one]
      by_cases hjl : j < ls.length
      · rw [List.getElem?_append_left hjl] at hj
        obtain ⟨u, e, hou, hn⟩ := h4 j x hj
        refine ⟨u, by rw [List.getElem?_append_left (by omega)]; exact e, hou.grown hr3 (fun k hk e2 => hn k hk (Option.some.inj e2)), fun k hk e2 => ?_⟩
        rcases hg2 with rfl | rfl
        · exact hn k hk e2
        · have := hou.lt k hk; omega
      · rw [List.getElem?_append_right (by omega)] at hj
        obtain ⟨u, e, hou, hn⟩ := h4' _ x hj
        refine ⟨u, by rw [List.getElem?_append_right (by omega), hwl]; exact e, (hou.lower hbm).grown hr3 (fun k hk e2 => ?_), fun k hk e2 => ?_⟩
        · have := hou.base k hk
          have := Option.some.inj e2
          omega
        · have := hou.base k hk
          have := hou.lt k hk
          omega
    · rcases List.mem_append.1 hu with hu | hu
      · exact h5 u hu
      · exact h5' u hu

set_option maxRecDepth 100000 in
set_option maxHeartbeats 1000000 in
theorem specOwn2 (v : Value) (xs : List Int) (w : World) (hv : ReadI w v xs) (hl : xs.length ≤ 1000000) :
    Calls Try.prog 101 #[v] w fun e w' => ∃ u, e = .returned u ∧ OwnI w.heap.size w' u xs ∧ Below w.heap.size w w' := by
  obtain ⟨A, c, rfl, hc, hr⟩ := id hv
  obtain ⟨w1, hw1⟩ : ∃ w1, w1 = w.alloc (.cells #[] 2) := ⟨_, rfl⟩
  have hB : Below w.heap.size w w1 := by rw [hw1]; exact Below.alloc (Below.refl _ _) (Nat.le_refl _) _
  have hs1 : w.heap.size ≤ w1.heap.size := hB.size
  have HO := Aside0.mk (show OwnI w.heap.size w1 (.slice (some ⟨w.heap.size, 0, none⟩) 0 0) [] by rw [hw1]; exact OwnI.empty w (Nat.le_refl _))
  have HB := Aside0.mk hB
  have HR := Aside0.mk (Kd.C_below hr hB)
  clear hr hv hB
  go_enter Try.func101, Try.ntmps101
  go_wp2_with (first | ((with_reducible refine gate_builtin (b := .append) (xs := #[.tmp 3, .tmp 4]) rfl ?_); rw [← hw1]; clear hw1; refine Kd.R_append_row (Value.int .i64) (0 : Int) (w0 := w) w.heap.size rfl (.tmp 3) (.tmp 4) 22 2 (.int .i64 0) 8 rfl Try.underlying22 info64 rfl (by decide) _ [] xs A xs.length c (fun _ => True) rfl rfl (fun _ _ => trivial) HO.out HR.out HB.out hs1 (by simp; omega) ?_; intro v1 w2 ho hb hg hat; have HO2 := Aside0.mk ho; have HB2 := Aside0.mk hb; clear ho hb hg hat))
  go_ret
  exact ⟨_, rfl, HO2.out, HB2.out⟩

set_option maxRecDepth 100000 in
set_option maxHeartbeats 1000000 in
theorem specPlace2 (v : Value) (xs : List Int) (y : Int) (w : World) (hr : ReadI w v xs) :
    Calls Try.prog 107 #[v, .int .i64 y] w fun e w' => (∃ r : Int, e = .returned (.int .i64 r) ∧ decide (0 ≤ r) = decide (y ∈ xs)) ∧ Below w.heap.size w w' := by
  have hlen := hr.len
  obtain ⟨A, c, rfl, hc, hr⟩ := hr
  have HR := Aside0.mk hr
  clear hr hc
  go_enter Try.func107, Try.ntmps107
  go_wp2
  go_loopw [5] (fun v wr => ∃ i : Nat, v = .int .i64 i ∧ i ≤ xs.length ∧ Aside0 (∀ j, j < i → xs.getD j 0 ≠ y) ∧ wr = w) (fun v _ => xs.length - (intOf v).toNat)
  case atStart => exact ⟨0, rfl, Nat.zero_le _, ⟨fun j hj => absurd hj (Nat.not_lt_zero _)⟩, rfl⟩
  case round =>
    obtain ⟨i, rfl, hi, HN, rfl⟩ := hrel
    by_cases hlt : i < xs.length
    · obtain ⟨ad, x, rfl, hcell, HY⟩ := ReadI.get HR.out hlt
      cases hq : (x == y) with
      | true =>
        have HM : Aside0 (y ∈ xs) := ⟨by rw [← eq_of_beq hq]; exact mem_at hlt HY.out⟩
        go_wp2
        go_ret
        exact ⟨⟨_, rfl, by rw [decide_eq_true HM.out]; exact decide_eq_true (by omega)⟩, Below.refl _ _⟩
      | false =>
        have HX := Aside0.mk hq
        go_wp2
        go_roundw
        case rel => exact ⟨i + 1, by go_num, by omega, ⟨fun j hj => by
          rcases Nat.lt_succ_iff_lt_or_eq.1 hj with h | rfl
          · exact HN.out j h
          · rw [HY.out]; intro e; have h9 := HX.out; rw [e] at h9; simp at h9⟩, trivial⟩
        case measure => simp [intOf]; omega
    · have HM : Aside0 (¬ y ∈ xs) := ⟨fun h => by
        obtain ⟨j, hj, e⟩ := List.getElem_of_mem h
        have := HN.out j (by omega)
        rw [List.getD_eq_getElem?_getD, List.getElem?_eq_getElem hj, Option.getD_some, e] at this
        exact this rfl⟩
      go_wp2
      go_ret
      exact ⟨⟨_, rfl, by rw [decide_eq_false HM.out]; decide⟩, Below.refl _ _⟩
end Go.Proofs.Ythbkboigbkadjaa.H
