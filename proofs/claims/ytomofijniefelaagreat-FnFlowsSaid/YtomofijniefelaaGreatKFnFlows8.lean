/- Pairings, of the program. -/
import Derived.Test.YtomofijniefelaaGreatKFnFlows1
import Derived.Test.YtomofijniefelaaGreatKFnFlows2
import Derived.Test.YtomofijniefelaaGreatKFnFlows3
import Derived.Test.YtomofijniefelaaGreatKFnFlows4
import Derived.Test.YtomofijniefelaaGreatKFnFlows5
import Derived.Test.YtomofijniefelaaGreatKFnFlows6
import Derived.Test.YtomofijniefelaaGreatKFnFlows7

namespace Go.Proofs.YtomofijniefelaaGreat.H
open Go.RowKit Go.Proofs.YtomofijniefelaaGreatW.PrintWords Go.Proofs.YtomofijniefelaaGreatW.PrintLast
set_option linter.unusedVariables false
set_option linter.unusedSimpArgs false
/-- the faces of the first i pairs -/
def seenP (ps : List (Int × Int)) (i : Nat) (z : Int) : Bool := (List.range i).any fun j => (z == (ps.getD j (0, 0)).1) || (z == (ps.getD j (0, 0)).2)
theorem seenTo_succ {ps : List (Int × Int)} {i : Nat} {x y : Int} (e : ps[i]? = some (x, y)) (z : Int) : seenP ps (i + 1) z = ((z == y) || ((z == x) || seenP ps i z)) := by
 unfold seenP
 rw [List.range_succ, List.any_append]
 simp only [List.any_cons, List.any_nil, Bool.or_false, List.getD_eq_getElem?_getD, e, Option.getD_some]
 rw [Bool.or_comm, Bool.or_comm (z == x) (z == y), Bool.or_assoc]
theorem seen_share {ps : List (Int × Int)} {i : Nat} {x y : Int} (e : ps[i]? = some (x, y)) (h1 : seenP ps i x = false) (h2 : seenP ps i y = false) : ∀ j, j < i → shares (ps.getD i (0, 0)) (ps.getD j (0, 0)) = false := by
 intro j hj
 have a1 := List.any_eq_false.1 h1 j (List.mem_range.2 hj)
 have a2 := List.any_eq_false.1 h2 j (List.mem_range.2 hj)
 rw [show ps.getD i (0, 0) = (x, y) by rw [List.getD_eq_getElem?_getD, e]; rfl]
 unfold shares
 simp only [Bool.or_eq_true, not_or, Bool.not_eq_true] at a1 a2
 rw [a1.1, a1.2, a2.1, a2.2]; rfl
theorem seen_x {xs : List Int} {ps : List (Int × Int)} {i : Nat} {x y : Int} (e : ps[i]? = some (x, y)) (h : seenP ps i x = true) : pOkAt xs ps i = false := by
 obtain ⟨j, hj, h⟩ := List.any_eq_true.1 h
 refine pOkAt_share (List.mem_range.1 hj) ?_
 rw [show ps.getD i (0, 0) = (x, y) by rw [List.getD_eq_getElem?_getD, e]; rfl]
 unfold shares
 rw [Bool.or_eq_true] at h
 rcases h with h | h
 ·rw [h, Bool.true_or]
 ·rw [h, Bool.true_or, Bool.or_true]
theorem seen_y {xs : List Int} {ps : List (Int × Int)} {i : Nat} {x y : Int} (e : ps[i]? = some (x, y)) (h : seenP ps i y = true) : pOkAt xs ps i = false := by
 obtain ⟨j, hj, h⟩ := List.any_eq_true.1 h
 refine pOkAt_share (List.mem_range.1 hj) ?_
 rw [show ps.getD i (0, 0) = (x, y) by rw [List.getD_eq_getElem?_getD, e]; rfl]
 unfold shares
 rw [Bool.or_eq_true] at h
 rcases h with h | h
 ·rw [h, Bool.true_or, Bool.or_true, Bool.or_true]
 ·rw [h, Bool.or_true, Bool.or_true, Bool.or_true]
theorem map_step1 {w1 wr w9 w7 : World} {b : Nat} (h1 : Below w1.heap.size w1 wr) (h2 : Below wr.heap.size wr w9) (g : w9.grownBy w7 (some b)) (hb : w1.heap.size ≤ b) : Below w1.heap.size w1 w7 :=
 h1.trans ((h2.mono h1.size).trans (below_grown g hb (Nat.le_trans h1.size h2.size)))
theorem SetI.kk {S : Int → Bool} {b k k' : Nat} {w : World} (h : SetI S b k w) (e : k = k') : SetI S b k' w := by subst e; exact h
/-- two numbers are laid into a set, in any order -/
def PI (S : Int → Bool) (b m : Nat) (x y : Int) (w9 : World) (bb : Nat → Bool) (W : World) : Prop :=
 w9.grownBy W (some b) ∧ SetI (fun z => (bb 7 && z == y) || ((bb 6 && z == x) || S z)) b (m + (bb 6).toNat + (bb 7).toNat) W
theorem PI.start {S : Int → Bool} {b m : Nat} {x y : Int} {w9 : World} (h : SetI S b m w9) (bb : Nat → Bool) (hb : ∀ i, bb i = false) : PI S b m x y w9 bb w9.drew := by
 refine ⟨grown_drew _ _, ?_⟩
 rw [hb 6, hb 7]
 exact ((h.below (Below.refl _ _).drew).congr (fun z => by simp)).kk rfl
theorem PI.congr {S : Int → Bool} {b m : Nat} {x y : Int} {w9 W : World} {bb bb' : Nat → Bool} (h : PI S b m x y w9 bb W) (e : ∀ i, bb i = bb' i) : PI S b m x y w9 bb' W := by
 have : bb = bb' := funext e
 rw [← this]; exact h
theorem PI.stay {S : Int → Bool} {b m : Nat} {x y : Int} {w9 W : World} {bb : Nat → Bool} (h : PI S b m x y w9 bb W) {i : Nat} (hi : i < 6) : PI S b m x y w9 (mark bb i) W := by
 unfold PI at h ⊢
 have h6 : mark bb i 6 = bb 6 := by unfold mark; rw [show ((6 : Nat) == i) = false from by rw [beq_eq_false_iff_ne]; omega, Bool.false_or]
 have h7 : mark bb i 7 = bb 7 := by unfold mark; rw [show ((7 : Nat) == i) = false from by rw [beq_eq_false_iff_ne]; omega, Bool.false_or]
 rw [h6, h7]; exact h
theorem PI.put6 {S : Int → Bool} {b m : Nat} {x y : Int} {w9 W : World} {bb : Nat → Bool} (h : PI S b m x y w9 bb W) (hb : bb 6 = false) (hw : (Lit.int .i64 x).wf = true) (hm : m < 100000 ∧ m + 1 < 100000) :
  ∃ w', (Instr.mapUpdate 175 (.map (some b)) (.int .i64 x) (.bool true)).run Tryz.prog W = .ok () w' ∧ PI S b m x y w9 (mark bb 6) w' := by
 obtain ⟨g, h⟩ := h
 rw [hb] at h
 have hle := Bool.toNat_le (bb 7)
 obtain ⟨w', hr, hs, hg⟩ := h.put hw (by simp only [Bool.toNat_false]; omega)
 refine ⟨w', hr, grown_trans g hg, ?_⟩
 have h6 : mark bb 6 6 = true := by simp [mark]
 have h7 : mark bb 6 7 = bb 7 := by simp [mark]
 rw [h6, h7]
 refine (hs.congr (fun z => ?_)).kk (by simp only [Bool.toNat_false, Bool.toNat_true] <;> omega)
 cases bb 7 <;> cases (z == x) <;> cases (z == y) <;> simp
theorem PI.put7 {S : Int → Bool} {b m : Nat} {x y : Int} {w9 W : World} {bb : Nat → Bool} (h : PI S b m x y w9 bb W) (hb : bb 7 = false) (hw : (Lit.int .i64 y).wf = true) (hm : m < 100000 ∧ m + 1 < 100000) :
  ∃ w', (Instr.mapUpdate 175 (.map (some b)) (.int .i64 y) (.bool true)).run Tryz.prog W = .ok () w' ∧ PI S b m x y w9 (mark bb 7) w' := by
 obtain ⟨g, h⟩ := h
 rw [hb] at h
 have hle := Bool.toNat_le (bb 6)
 obtain ⟨w', hr, hs, hg⟩ := h.put hw (by simp only [Bool.toNat_false]; omega)
 refine ⟨w', hr, grown_trans g hg, ?_⟩
 have h6 : mark bb 7 6 = bb 6 := by simp [mark]
 have h7 : mark bb 7 7 = true := by simp [mark]
 rw [h6, h7]
 refine (hs.congr (fun z => ?_)).kk (by simp only [Bool.toNat_false, Bool.toNat_true] <;> omega)
 cases bb 6 <;> cases (z == x) <;> cases (z == y) <;> simp
theorem PI.fin {S S' : Int → Bool} {b i : Nat} {x y : Int} {w9 W : World} {bb : Nat → Bool} (h : PI S b (2 * i) x y w9 bb W) (h6 : bb 6 = true) (h7 : bb 7 = true) (e : ∀ z, S' z = ((z == y) || ((z == x) || S z))) : SetI S' b (2 * (i + 1)) W := by
 have h := h.2
 rw [h6, h7] at h
 exact (h.congr (fun z => by rw [e z]; simp)).kk (by simp only [Bool.toNat_true] <;> omega)
/-- pairs rise, so there are few -/
theorem few {n : Nat} {xs : List Int} {ps : List (Int × Int)} (hc : Cx n xs) : ∀ i, (∀ t, t < i + 1 → pOkAt xs ps t = true) → i ≤ ((ps.getD i (0, 0)).1.toNat * 64 + (ps.getD i (0, 0)).2.toNat) ∧ (ps.getD i (0, 0)).1 ∈ xs ∧ (ps.getD i (0, 0)).2 ∈ xs := by
 intro i
 induction i with
 | zero =>
  intro h
  have h0 := h 0 (by omega)
  unfold pOkAt pairAt at h0
  simp only [Bool.and_eq_true, decide_eq_true_eq] at h0
  exact ⟨Nat.zero_le _, h0.1.1, h0.1.2.1⟩
 | succ i ih =>
  intro h
  have h1 := ih (fun t ht => h t (by omega))
  have h0 := h (i + 1) (by omega)
  unfold pOkAt pairAt lessP at h0
  simp only [Bool.and_eq_true, Bool.or_eq_true, decide_eq_true_eq, Nat.add_sub_cancel, beq_iff_eq] at h0
  obtain ⟨a, ha, ha1, ha2⟩ := hc.nat h1.2.1
  obtain ⟨b, hb, hb1, hb2⟩ := hc.nat h1.2.2
  obtain ⟨c, hc', hc1, hc2⟩ := hc.nat h0.1.1
  obtain ⟨d, hd, hd1, hd2⟩ := hc.nat h0.1.2.1
  have h2 := h0.2.1
  refine ⟨?_, h0.1.1, h0.1.2.1⟩
  have h3 := h1.1
  rw [ha, hb] at h3
  rw [ha, hb, hc', hd] at h2
  rw [hc', hd]
  simp only [Int.toNat_natCast] at h3 ⊢
  omega
theorem few_at {n : Nat} {xs : List Int} {ps : List (Int × Int)} (hc : Cx n xs) {i : Nat} (h : ∀ t, t < i → pOkAt xs ps t = true) : 2 * i < 10000 := by
 cases i with
 | zero => omega
 | succ i =>
  obtain ⟨h1, h2, h3⟩ := few hc i h
  obtain ⟨a, ha, ha1, ha2⟩ := hc.nat h2
  obtain ⟨b, hb, hb1, hb2⟩ := hc.nat h3
  rw [ha, hb] at h1
  simp only [Int.toNat_natCast] at h1
  omega
set_option maxRecDepth 100000 in
set_option maxHeartbeats 8000000 in
theorem isPairing (n : Nat) (ku : Value) (xs : List Int) (v : Value) (ps : List (Int × Int)) (w : World) (hk : ReadI w ku xs) (hv : ReadP w v ps) (hc : Cx n xs) :
  Calls Tryz.prog 294 #[cx n ku, v] w fun e w' => e = .returned (.bool (pOk xs ps)) ∧ Below w.heap.size w w' := by
 obtain ⟨w1, hw1⟩ : ∃ w1, w1 = w.alloc (.cells #[.int .i64 n, ku] 26) := ⟨_, rfl⟩
 have hB : Below w.heap.size w w1 := by rw [hw1]; exact Below.alloc (Below.refl _ _) (Nat.le_refl _) _
 have c0 : w1.cell? ⟨w.heap.size, 0, none⟩ = some (.int .i64 n) := by rw [hw1]; simp
 have c1 : w1.cell? ⟨w.heap.size, 1, none⟩ = some ku := by rw [hw1]; simp
 have hz1 : w1.heap.size = w.heap.size + 1 := by rw [hw1]; simp
 have HB := Aside0.mk hB
 have HK := Aside0.mk (hk.below hB)
 have HV := Aside0.mk (hv.below hB)
 have HC := Aside0.mk hc
 have HS0 := Aside0.mk (SetI.made w1)
 have HBm : Aside0 (Below w1.heap.size w1 (w1.alloc (.map #[] 0))) := ⟨Below.alloc (Below.refl _ _) (Nat.le_refl _) _⟩
 obtain ⟨A1, d1, rfl, -⟩ := id hk
 obtain ⟨A2, d2, rfl, hl9, -⟩ := id hv
 clear hk hv hB hc
 have hmx : Tryz.prog.follows .mixedOrders = true := by kernel_rfl
 have hmm := @run_makeMap Tryz.prog
 go_enter Tryz.func294, Tryz.ntmps294
 go_wp2
 rw [← hw1]
 clear hw1
 obtain ⟨b, hbe⟩ : ∃ b, b = w.heap.size + 1 := ⟨_, rfl⟩
 rw [hz1, ← hbe] at HS0
 have HBB : Aside0 (w1.heap.size ≤ b) := ⟨by omega⟩
 rw [← hbe]
 clear hbe hz1
 go_loopw [11] (fun s11 wr => ∃ iv : Nat, s11 = .int .i64 iv ∧ iv ≤ ps.length ∧ Aside0 (∀ t, t < iv → pOkAt xs ps t = true) ∧ Aside0 (Below w1.heap.size w1 wr) ∧ Aside0 (SetI (seenP ps iv) b (2 * iv) wr)) (fun s11 _ => ps.length - (intOf s11).toNat)
 case atStart => exact ⟨0, rfl, Nat.zero_le _, ⟨fun t h => absurd h (Nat.not_lt_zero _)⟩, HBm, ⟨HS0.out.congr (fun _ => rfl)⟩⟩
 case round =>
  obtain ⟨iv, rfl, hi, HI, HBr, HSr⟩ := hrel
  have c0 := pw_cell_below HBr.out c0
  have c1 := pw_cell_below HBr.out c1
  by_cases hlt : iv < ps.length
  ·obtain ⟨g, x, y, rfl, hxy, hc0, hc1⟩ := ReadP.get (HV.out.below HBr.out) hlt
   have HXY := Aside0.mk hxy
   have hiI : (iv : Int) < (ps.length : Int) := by omega
   have hmin : min (iv * 2) 0 = 0 := Nat.min_eq_right (Nat.zero_le _)
   clear hmin
   obtain ⟨w5, hw5⟩ : ∃ w5, w5 = wr.alloc (.cells #[.int .i64 x, .int .i64 y] 72) := ⟨_, rfl⟩
   have hb5 : Below wr.heap.size wr w5 := by rw [hw5]; exact Below.alloc (Below.refl _ _) (Nat.le_refl _) _
   have p0 : w5.cell? ⟨wr.heap.size, 0, none⟩ = some (.int .i64 x) := by rw [hw5]; simp
   have p1 : w5.cell? ⟨wr.heap.size, 1, none⟩ = some (.int .i64 y) := by rw [hw5]; simp
   have HB5 := Aside0.mk hb5
   have HS5 := Aside0.mk (HSr.out.below hb5)
   have HK9 : Aside0 (2 * iv < 100000 ∧ 2 * iv + 1 < 100000) := ⟨by have := few_at HC.out HI.out; omega⟩
   obtain ⟨B1, hB1⟩ : ∃ B1, B1 = pairAt xs x y := ⟨_, rfl⟩
   have HPA : Aside0 (∀ W, Below wr.heap.size wr W → Calls Tryz.prog 239 #[cx n (.slice A1 xs.length d1), .agg #[.int .i64 x, .int .i64 y]] W fun e w' => e = .returned (.bool B1) ∧ Below W.heap.size W w') := ⟨fun W hW => by rw [hB1]; exact isPair n _ xs x y W ((HK.out.below HBr.out).below hW) HC.out⟩
   have START := True.intro
   clear START
   cases B1 with
   | false =>
    have HA : Aside0 (pOk xs ps = false) := ⟨pOk_false hlt (pOkAt_pair hxy hB1.symm)⟩
    clear hB1 hxy hb5
    go_wp2
    rw [← hw5]
    clear hw5 hc0 hc1
    replace c0 := pw_cell_below HB5.out c0
    replace c1 := pw_cell_below HB5.out c1
    refine wp_region_gg Bl (fun w => (Below.refl _ w).drew) (fun _ _ _ => Bl.trans) (fun i => match i with | 0 => fun v _ => v = .agg #[.int .i64 (n : Int), .slice A1 xs.length d1] | 1 => fun v _ => v = .agg #[.int .i64 x, .int .i64 y] | 2 => fun v _ => v = .bool false | 3 => fun v _ => v = .bool true | 4 => fun v _ => v = .bool true | 5 => fun v _ => v = undef | 6 => fun v _ => v = undef | 7 => fun v _ => v = undef | 8 => fun v _ => v = undef | 9 => fun v _ => v = .bool true | 10 => fun v _ => v = .bool true | 11 => fun v _ => v = undef | 12 => fun v _ => v = undef | 13 => fun v _ => v = undef | 14 => fun v _ => v = undef | 15 => fun v _ => v = .bool true | 16 => fun v _ => v = .bool true | 17 => fun v _ => v = undef | 18 => fun v _ => v = undef | 19 => fun v _ => v = undef | 20 => fun v _ => v = undef | 21 => fun v _ => v = undef | 22 => fun v _ => v = undef | 23 => fun v _ => v = undef | 24 => fun v _ => v = undef | 25 => fun v _ => v = undef | 26 => fun v _ => v = undef | 27 => fun v _ => v = undef | 28 => fun v _ => v = undef | 29 => fun v _ => v = .bool true | _ => fun _ _ => True)
     [0, 0, 3, 7, 15, 31, 31, 95, 255, 511, 1023, 2047, 2047, 6143, 16383, 32767, 65535, 131071, 262143, 524287, 1048575, 1048575, 3145727, 8388607, 16777215, 1048575, 67108863, 134217727, 268435455, 536870911] hmx (by kernel_rfl) ?st ?steps ?rest
    case st =>
     intro i v w1_ w2_ hb
     match i with
     | 0 | 1 | 2 | 3 | 4 | 5 | 6 | 7 | 8 | 9 | 10 | 11 | 12 | 13 | 14 | 15 | 16 | 17 | 18 | 19 | 20 | 21 | 22 | 23 | 24 | 25 | 26 | 27 | 28 | 29 => exact id
     | n + 30 => exact id
    case steps =>
     refine ⟨?_, ?_, ?_, ?_, ?_, ?_, ?_, ?_, ?_, ?_, ?_, ?_, ?_, ?_, ?_, ?_, ?_, ?_, ?_, ?_, ?_, ?_, ?_, ?_, ?_, ?_, ?_, ?_, ?_, ?_, trivial⟩
     ·intro s w_ hb hd hq R hR
      generalize hA : putAll _ 0 s _ = A
      clear hq
      refine stepG_on rfl ?_
      have c0 := pw_cell_below hb c0
      have c1 := pw_cell_below hb c1
      have hR' := hR (.agg #[.int .i64 (n : Int), .slice A1 xs.length d1]) _ (Below.refl _ _) rfl
      clear hR hd
      refine opGives_value ?_ hR'
      subst hA
      simp only [dsOf, List.map_cons, List.map_nil, Option.getD_some, putAll, Act.put, List.setIfInBounds_toArray, List.set_cons_zero, List.set_cons_succ]
      go_simp
     ·intro s w_ hb hd hq R hR
      generalize hA : putAll _ 0 s _ = A
      clear hq
      refine stepG_on rfl ?_
      have p0 := pw_cell_below hb p0
      have p1 := pw_cell_below hb p1
      have hR' := hR (.agg #[.int .i64 x, .int .i64 y]) _ (Below.refl _ _) rfl
      clear hR hd
      refine opGives_value ?_ hR'
      subst hA
      simp only [dsOf, List.map_cons, List.map_nil, Option.getD_some, putAll, Act.put, List.setIfInBounds_toArray, List.set_cons_zero, List.set_cons_succ]
      go_simp
     ·intro s w_ hb hd hq R hR
      generalize hA : putAll _ 0 s _ = A
      clear hq
      refine stepG_on rfl ?_
      have e0 : s 0 = _ := hd 0 (by kernel_rfl)
      have e1 : s 1 = _ := hd 1 (by kernel_rfl)
      refine opGives_call (f := 239) (args := #[.agg #[.int .i64 (n : Int), .slice A1 xs.length d1], .agg #[.int .i64 x, .int .i64 y]]) ?_ ?_
      ·subst hA
       clear hR hd
       simp only [dsOf, List.map_cons, List.map_nil, Option.getD_some, putAll, Act.put, List.setIfInBounds_toArray, List.set_cons_zero, List.set_cons_succ]
       go_simp
      clear hA A hd
      refine (HPA.out w_ (Below.trans HB5.out (Below.mono hb HB5.out.size))).mono ?_
      rintro e w3_ ⟨rfl, hb3⟩
      exact ⟨_, rfl, hR _ _ hb3 rfl⟩
     ·intro s w_ hb hd hq R hR
      generalize hA : putAll _ 0 s _ = A
      clear hq
      refine stepG_on rfl ?_
      have e2 : s 2 = _ := hd 2 (by kernel_rfl)
      have hR' := hR (.bool true) _ (Below.refl _ _) rfl
      clear hR hd
      refine opGives_value ?_ hR'
      subst hA
      simp only [dsOf, List.map_cons, List.map_nil, Option.getD_some, putAll, Act.put, List.setIfInBounds_toArray, List.set_cons_zero, List.set_cons_succ]
      go_simp
     ·intro s w_ hb hd hq R hR
      generalize hA : putAll _ 0 s _ = A
      clear hq
      refine stepG_on rfl ?_
      have e3 : s 3 = _ := hd 3 (by kernel_rfl)
      have hR' := hR (.bool true) _ (Below.refl _ _) rfl
      clear hR hd
      refine opGives_value ?_ hR'
      subst hA
      simp only [dsOf, List.map_cons, List.map_nil, Option.getD_some, putAll, Act.put, List.setIfInBounds_toArray, List.set_cons_zero, List.set_cons_succ]
      go_simp
     ·intro s w_ hb hd hq R hR
      generalize hA : putAll _ 0 s _ = A
      have eg : s 4 = _ := hd 4 (by kernel_rfl)
      clear hq
      refine stepG_off ?_ (hR undef _ (Below.refl _ _) rfl)
      clear hR hd
      subst hA
      simp only [dsOf, List.map_cons, List.map_nil, Option.getD_some, putAll, Act.put, List.setIfInBounds_toArray, List.set_cons_zero, List.set_cons_succ]
      simp [Region.wanted, yielded, eg, undef]
     ·intro s w_ hb hd hq R hR
      generalize hA : putAll _ 0 s _ = A
      have eg : s 4 = _ := hd 4 (by kernel_rfl)
      clear hq
      refine stepG_off ?_ (hR undef _ (Below.refl _ _) rfl)
      clear hR hd
      subst hA
      simp only [dsOf, List.map_cons, List.map_nil, Option.getD_some, putAll, Act.put, List.setIfInBounds_toArray, List.set_cons_zero, List.set_cons_succ]
      simp [Region.wanted, yielded, eg, undef]
     ·intro s w_ hb hd hq R hR
      generalize hA : putAll _ 0 s _ = A
      have eg : s 4 = _ := hd 4 (by kernel_rfl)
      clear hq
      refine stepG_off ?_ (hR undef _ (Below.refl _ _) rfl)
      clear hR hd
      subst hA
      simp only [dsOf, List.map_cons, List.map_nil, Option.getD_some, putAll, Act.put, List.setIfInBounds_toArray, List.set_cons_zero, List.set_cons_succ]
      simp [Region.wanted, yielded, eg, undef]
     ·intro s w_ hb hd hq R hR
      generalize hA : putAll _ 0 s _ = A
      have eg : s 4 = _ := hd 4 (by kernel_rfl)
      clear hq
      refine stepG_off ?_ (hR undef _ (Below.refl _ _) rfl)
      clear hR hd
      subst hA
      simp only [dsOf, List.map_cons, List.map_nil, Option.getD_some, putAll, Act.put, List.setIfInBounds_toArray, List.set_cons_zero, List.set_cons_succ]
      simp [Region.wanted, yielded, eg, undef]
     ·intro s w_ hb hd hq R hR
      generalize hA : putAll _ 0 s _ = A
      clear hq
      refine stepG_on rfl ?_
      have e4 : s 4 = _ := hd 4 (by kernel_rfl)
      have e8 : s 8 = _ := hd 8 (by kernel_rfl)
      have hR' := hR (.bool true) _ (Below.refl _ _) rfl
      clear hR hd
      refine opGives_value ?_ hR'
      subst hA
      simp only [dsOf, List.map_cons, List.map_nil, Option.getD_some, putAll, Act.put, List.setIfInBounds_toArray, List.set_cons_zero, List.set_cons_succ]
      go_simp
     ·intro s w_ hb hd hq R hR
      generalize hA : putAll _ 0 s _ = A
      clear hq
      refine stepG_on rfl ?_
      have e9 : s 9 = _ := hd 9 (by kernel_rfl)
      have hR' := hR (.bool true) _ (Below.refl _ _) rfl
      clear hR hd
      refine opGives_value ?_ hR'
      subst hA
      simp only [dsOf, List.map_cons, List.map_nil, Option.getD_some, putAll, Act.put, List.setIfInBounds_toArray, List.set_cons_zero, List.set_cons_succ]
      go_simp
     ·intro s w_ hb hd hq R hR
      generalize hA : putAll _ 0 s _ = A
      have eg : s 10 = _ := hd 10 (by kernel_rfl)
      clear hq
      refine stepG_off ?_ (hR undef _ (Below.refl _ _) rfl)
      clear hR hd
      subst hA
      simp only [dsOf, List.map_cons, List.map_nil, Option.getD_some, putAll, Act.put, List.setIfInBounds_toArray, List.set_cons_zero, List.set_cons_succ]
      simp [Region.wanted, yielded, eg, undef]
     ·intro s w_ hb hd hq R hR
      generalize hA : putAll _ 0 s _ = A
      have eg : s 10 = _ := hd 10 (by kernel_rfl)
      clear hq
      refine stepG_off ?_ (hR undef _ (Below.refl _ _) rfl)
      clear hR hd
      subst hA
      simp only [dsOf, List.map_cons, List.map_nil, Option.getD_some, putAll, Act.put, List.setIfInBounds_toArray, List.set_cons_zero, List.set_cons_succ]
      simp [Region.wanted, yielded, eg, undef]
     ·intro s w_ hb hd hq R hR
      generalize hA : putAll _ 0 s _ = A
      have eg : s 10 = _ := hd 10 (by kernel_rfl)
      clear hq
      refine stepG_off ?_ (hR undef _ (Below.refl _ _) rfl)
      clear hR hd
      subst hA
      simp only [dsOf, List.map_cons, List.map_nil, Option.getD_some, putAll, Act.put, List.setIfInBounds_toArray, List.set_cons_zero, List.set_cons_succ]
      simp [Region.wanted, yielded, eg, undef]
     ·intro s w_ hb hd hq R hR
      generalize hA : putAll _ 0 s _ = A
      have eg : s 10 = _ := hd 10 (by kernel_rfl)
      clear hq
      refine stepG_off ?_ (hR undef _ (Below.refl _ _) rfl)
      clear hR hd
      subst hA
      simp only [dsOf, List.map_cons, List.map_nil, Option.getD_some, putAll, Act.put, List.setIfInBounds_toArray, List.set_cons_zero, List.set_cons_succ]
      simp [Region.wanted, yielded, eg, undef]
     ·intro s w_ hb hd hq R hR
      generalize hA : putAll _ 0 s _ = A
      clear hq
      refine stepG_on rfl ?_
      have e10 : s 10 = _ := hd 10 (by kernel_rfl)
      have e14 : s 14 = _ := hd 14 (by kernel_rfl)
      have hR' := hR (.bool true) _ (Below.refl _ _) rfl
      clear hR hd
      refine opGives_value ?_ hR'
      subst hA
      simp only [dsOf, List.map_cons, List.map_nil, Option.getD_some, putAll, Act.put, List.setIfInBounds_toArray, List.set_cons_zero, List.set_cons_succ]
      go_simp
     ·intro s w_ hb hd hq R hR
      generalize hA : putAll _ 0 s _ = A
      clear hq
      refine stepG_on rfl ?_
      have e15 : s 15 = _ := hd 15 (by kernel_rfl)
      have hR' := hR (.bool true) _ (Below.refl _ _) rfl
      clear hR hd
      refine opGives_value ?_ hR'
      subst hA
      simp only [dsOf, List.map_cons, List.map_nil, Option.getD_some, putAll, Act.put, List.setIfInBounds_toArray, List.set_cons_zero, List.set_cons_succ]
      go_simp
     ·intro s w_ hb hd hq R hR
      generalize hA : putAll _ 0 s _ = A
      have eg : s 16 = _ := hd 16 (by kernel_rfl)
      clear hq
      refine stepG_off ?_ (hR undef _ (Below.refl _ _) rfl)
      clear hR hd
      subst hA
      simp only [dsOf, List.map_cons, List.map_nil, Option.getD_some, putAll, Act.put, List.setIfInBounds_toArray, List.set_cons_zero, List.set_cons_succ]
      simp [Region.wanted, yielded, eg, undef]
     ·intro s w_ hb hd hq R hR
      generalize hA : putAll _ 0 s _ = A
      have eg : s 16 = _ := hd 16 (by kernel_rfl)
      clear hq
      refine stepG_off ?_ (hR undef _ (Below.refl _ _) rfl)
      clear hR hd
      subst hA
      simp only [dsOf, List.map_cons, List.map_nil, Option.getD_some, putAll, Act.put, List.setIfInBounds_toArray, List.set_cons_zero, List.set_cons_succ]
      simp [Region.wanted, yielded, eg, undef]
     ·intro s w_ hb hd hq R hR
      generalize hA : putAll _ 0 s _ = A
      have eg : s 16 = _ := hd 16 (by kernel_rfl)
      clear hq
      refine stepG_off ?_ (hR undef _ (Below.refl _ _) rfl)
      clear hR hd
      subst hA
      simp only [dsOf, List.map_cons, List.map_nil, Option.getD_some, putAll, Act.put, List.setIfInBounds_toArray, List.set_cons_zero, List.set_cons_succ]
      simp [Region.wanted, yielded, eg, undef]
     ·intro s w_ hb hd hq R hR
      generalize hA : putAll _ 0 s _ = A
      have eg : s 19 = _ := hd 19 (by kernel_rfl)
      clear hq
      refine stepG_off ?_ (hR undef _ (Below.refl _ _) rfl)
      clear hR hd
      subst hA
      simp only [dsOf, List.map_cons, List.map_nil, Option.getD_some, putAll, Act.put, List.setIfInBounds_toArray, List.set_cons_zero, List.set_cons_succ]
      simp [Region.wanted, yielded, eg, undef]
     ·intro s w_ hb hd hq R hR
      generalize hA : putAll _ 0 s _ = A
      have eg : s 19 = _ := hd 19 (by kernel_rfl)
      clear hq
      refine stepG_off ?_ (hR undef _ (Below.refl _ _) rfl)
      clear hR hd
      subst hA
      simp only [dsOf, List.map_cons, List.map_nil, Option.getD_some, putAll, Act.put, List.setIfInBounds_toArray, List.set_cons_zero, List.set_cons_succ]
      simp [Region.wanted, yielded, eg, undef]
     ·intro s w_ hb hd hq R hR
      generalize hA : putAll _ 0 s _ = A
      have eg : s 19 = _ := hd 19 (by kernel_rfl)
      clear hq
      refine stepG_off ?_ (hR undef _ (Below.refl _ _) rfl)
      clear hR hd
      subst hA
      simp only [dsOf, List.map_cons, List.map_nil, Option.getD_some, putAll, Act.put, List.setIfInBounds_toArray, List.set_cons_zero, List.set_cons_succ]
      simp [Region.wanted, yielded, eg, undef]
     ·intro s w_ hb hd hq R hR
      generalize hA : putAll _ 0 s _ = A
      have eg : s 19 = _ := hd 19 (by kernel_rfl)
      clear hq
      refine stepG_off ?_ (hR undef _ (Below.refl _ _) rfl)
      clear hR hd
      subst hA
      simp only [dsOf, List.map_cons, List.map_nil, Option.getD_some, putAll, Act.put, List.setIfInBounds_toArray, List.set_cons_zero, List.set_cons_succ]
      simp [Region.wanted, yielded, eg, undef]
     ·intro s w_ hb hd hq R hR
      generalize hA : putAll _ 0 s _ = A
      have eg : s 19 = _ := hd 19 (by kernel_rfl)
      clear hq
      refine stepG_off ?_ (hR undef _ (Below.refl _ _) rfl)
      clear hR hd
      subst hA
      simp only [dsOf, List.map_cons, List.map_nil, Option.getD_some, putAll, Act.put, List.setIfInBounds_toArray, List.set_cons_zero, List.set_cons_succ]
      simp [Region.wanted, yielded, eg, undef]
     ·intro s w_ hb hd hq R hR
      generalize hA : putAll _ 0 s _ = A
      have eg : s 19 = _ := hd 19 (by kernel_rfl)
      clear hq
      refine stepG_off ?_ (hR undef _ (Below.refl _ _) rfl)
      clear hR hd
      subst hA
      simp only [dsOf, List.map_cons, List.map_nil, Option.getD_some, putAll, Act.put, List.setIfInBounds_toArray, List.set_cons_zero, List.set_cons_succ]
      simp [Region.wanted, yielded, eg, undef]
     ·intro s w_ hb hd hq R hR
      generalize hA : putAll _ 0 s _ = A
      have eg : s 19 = _ := hd 19 (by kernel_rfl)
      clear hq
      refine stepG_off ?_ (hR undef _ (Below.refl _ _) rfl)
      clear hR hd
      subst hA
      simp only [dsOf, List.map_cons, List.map_nil, Option.getD_some, putAll, Act.put, List.setIfInBounds_toArray, List.set_cons_zero, List.set_cons_succ]
      simp [Region.wanted, yielded, eg, undef]
     ·intro s w_ hb hd hq R hR
      generalize hA : putAll _ 0 s _ = A
      have eg : s 19 = _ := hd 19 (by kernel_rfl)
      clear hq
      refine stepG_off ?_ (hR undef _ (Below.refl _ _) rfl)
      clear hR hd
      subst hA
      simp only [dsOf, List.map_cons, List.map_nil, Option.getD_some, putAll, Act.put, List.setIfInBounds_toArray, List.set_cons_zero, List.set_cons_succ]
      simp [Region.wanted, yielded, eg, undef]
     ·intro s w_ hb hd hq R hR
      generalize hA : putAll _ 0 s _ = A
      have eg : s 16 = _ := hd 16 (by kernel_rfl)
      clear hq
      refine stepG_off ?_ (hR undef _ (Below.refl _ _) rfl)
      clear hR hd
      subst hA
      simp only [dsOf, List.map_cons, List.map_nil, Option.getD_some, putAll, Act.put, List.setIfInBounds_toArray, List.set_cons_zero, List.set_cons_succ]
      simp [Region.wanted, yielded, eg, undef]
     ·intro s w_ hb hd hq R hR
      generalize hA : putAll _ 0 s _ = A
      clear hq
      refine stepG_on rfl ?_
      have e16 : s 16 = _ := hd 16 (by kernel_rfl)
      have e28 : s 28 = _ := hd 28 (by kernel_rfl)
      have hR' := hR (.bool true) _ (Below.refl _ _) rfl
      clear hR hd
      refine opGives_value ?_ hR'
      subst hA
      simp only [dsOf, List.map_cons, List.map_nil, Option.getD_some, putAll, Act.put, List.setIfInBounds_toArray, List.set_cons_zero, List.set_cons_succ]
      go_simp
    case rest =>
     intro s9 w9 hb hv
     have e29_ : s9 29 = _ := hv 29 (by decide)
     simp only [dsOf, List.map_cons, List.map_nil, Option.getD_some, putAll, Act.put, List.setIfInBounds_toArray, List.set_cons_zero, List.set_cons_succ]
     rw [e29_]
     clear hv e29_
     have hB9 := Below.trans HB5.out (Below.mono hb HB5.out.size)
     have HBe := Aside0.mk (HBr.out.trans (hB9.mono HBr.out.size))
     clear hb hB9
     go_wp2
     go_ret
     exact ⟨by rw [HA.out]; rfl, HB.out.trans (HBe.out.mono HB.out.size)⟩
   | true =>
    have HPT : Aside0 (pairAt xs (ps.getD iv (0, 0)).1 (ps.getD iv (0, 0)).2 = true) := ⟨by rw [List.getD_eq_getElem?_getD, hxy]; exact hB1.symm⟩
    obtain ⟨HWX, HWY⟩ : Aside0 ((Lit.int .i64 x).wf = true) ∧ Aside0 ((Lit.int .i64 y).wf = true) := by
     have h := hB1.symm
     unfold pairAt at h
     simp only [Bool.and_eq_true, decide_eq_true_eq] at h
     obtain ⟨a, ha, ha1, ha2⟩ := HC.out.nat h.1
     obtain ⟨b, hb, hb1, hb2⟩ := HC.out.nat h.2.1
     exact ⟨⟨wfI (by omega) (by omega)⟩, ⟨wfI (by omega) (by omega)⟩⟩
    clear hB1
    cases hs0 : seenP ps iv x with
    | true =>
     have HA : Aside0 (pOk xs ps = false) := ⟨pOk_false hlt (seen_x hxy hs0)⟩
     have HSX := Aside0.mk hs0
     clear hxy hb5 hs0
     go_wp2
     rw [← hw5]
     clear hw5 hc0 hc1
     replace c0 := pw_cell_below HB5.out c0
     replace c1 := pw_cell_below HB5.out c1
     refine wp_region_gg Bl (fun w => (Below.refl _ w).drew) (fun _ _ _ => Bl.trans) (fun i => match i with | 0 => fun v _ => v = .agg #[.int .i64 (n : Int), .slice A1 xs.length d1] | 1 => fun v _ => v = .agg #[.int .i64 x, .int .i64 y] | 2 => fun v _ => v = .bool true | 3 => fun v _ => v = .bool false | 4 => fun v _ => v = .bool false | 5 => fun v _ => v = .map (some b) | 6 => fun v _ => v = .pointer (some ⟨wr.heap.size, 0, none⟩) | 7 => fun v _ => v = .int .i64 x | 8 => fun v _ => v = .bool true | 9 => fun v _ => v = .bool true | 10 => fun v _ => v = .bool true | 11 => fun v _ => v = undef | 12 => fun v _ => v = undef | 13 => fun v _ => v = undef | 14 => fun v _ => v = undef | 15 => fun v _ => v = .bool true | 16 => fun v _ => v = .bool true | 17 => fun v _ => v = undef | 18 => fun v _ => v = undef | 19 => fun v _ => v = undef | 20 => fun v _ => v = undef | 21 => fun v _ => v = undef | 22 => fun v _ => v = undef | 23 => fun v _ => v = undef | 24 => fun v _ => v = undef | 25 => fun v _ => v = undef | 26 => fun v _ => v = undef | 27 => fun v _ => v = undef | 28 => fun v _ => v = undef | 29 => fun v _ => v = .bool true | _ => fun _ _ => True)
      [0, 0, 3, 7, 15, 31, 31, 95, 255, 511, 1023, 2047, 2047, 6143, 16383, 32767, 65535, 131071, 262143, 524287, 1048575, 1048575, 3145727, 8388607, 16777215, 1048575, 67108863, 134217727, 268435455, 536870911] hmx (by kernel_rfl) ?st ?steps ?rest
     case st =>
      intro i v w1_ w2_ hb
      match i with
      | 0 | 1 | 2 | 3 | 4 | 5 | 6 | 7 | 8 | 9 | 10 | 11 | 12 | 13 | 14 | 15 | 16 | 17 | 18 | 19 | 20 | 21 | 22 | 23 | 24 | 25 | 26 | 27 | 28 | 29 => exact id
      | n + 30 => exact id
     case steps =>
      refine ⟨?_, ?_, ?_, ?_, ?_, ?_, ?_, ?_, ?_, ?_, ?_, ?_, ?_, ?_, ?_, ?_, ?_, ?_, ?_, ?_, ?_, ?_, ?_, ?_, ?_, ?_, ?_, ?_, ?_, ?_, trivial⟩
      ·intro s w_ hb hd hq R hR
       generalize hA : putAll _ 0 s _ = A
       clear hq
       refine stepG_on rfl ?_
       have c0 := pw_cell_below hb c0
       have c1 := pw_cell_below hb c1
       have hR' := hR (.agg #[.int .i64 (n : Int), .slice A1 xs.length d1]) _ (Below.refl _ _) rfl
       clear hR hd
       refine opGives_value ?_ hR'
       subst hA
       simp only [dsOf, List.map_cons, List.map_nil, Option.getD_some, putAll, Act.put, List.setIfInBounds_toArray, List.set_cons_zero, List.set_cons_succ]
       go_simp
      ·intro s w_ hb hd hq R hR
       generalize hA : putAll _ 0 s _ = A
       clear hq
       refine stepG_on rfl ?_
       have p0 := pw_cell_below hb p0
       have p1 := pw_cell_below hb p1
       have hR' := hR (.agg #[.int .i64 x, .int .i64 y]) _ (Below.refl _ _) rfl
       clear hR hd
       refine opGives_value ?_ hR'
       subst hA
       simp only [dsOf, List.map_cons, List.map_nil, Option.getD_some, putAll, Act.put, List.setIfInBounds_toArray, List.set_cons_zero, List.set_cons_succ]
       go_simp
      ·intro s w_ hb hd hq R hR
       generalize hA : putAll _ 0 s _ = A
       clear hq
       refine stepG_on rfl ?_
       have e0 : s 0 = _ := hd 0 (by kernel_rfl)
       have e1 : s 1 = _ := hd 1 (by kernel_rfl)
       refine opGives_call (f := 239) (args := #[.agg #[.int .i64 (n : Int), .slice A1 xs.length d1], .agg #[.int .i64 x, .int .i64 y]]) ?_ ?_
       ·subst hA
        clear hR hd
        simp only [dsOf, List.map_cons, List.map_nil, Option.getD_some, putAll, Act.put, List.setIfInBounds_toArray, List.set_cons_zero, List.set_cons_succ]
        go_simp
       clear hA A hd
       refine (HPA.out w_ (Below.trans HB5.out (Below.mono hb HB5.out.size))).mono ?_
       rintro e w3_ ⟨rfl, hb3⟩
       exact ⟨_, rfl, hR _ _ hb3 rfl⟩
      ·intro s w_ hb hd hq R hR
       generalize hA : putAll _ 0 s _ = A
       clear hq
       refine stepG_on rfl ?_
       have e2 : s 2 = _ := hd 2 (by kernel_rfl)
       have hR' := hR (.bool false) _ (Below.refl _ _) rfl
       clear hR hd
       refine opGives_value ?_ hR'
       subst hA
       simp only [dsOf, List.map_cons, List.map_nil, Option.getD_some, putAll, Act.put, List.setIfInBounds_toArray, List.set_cons_zero, List.set_cons_succ]
       go_simp
      ·intro s w_ hb hd hq R hR
       generalize hA : putAll _ 0 s _ = A
       clear hq
       refine stepG_on rfl ?_
       have e3 : s 3 = _ := hd 3 (by kernel_rfl)
       have hR' := hR (.bool false) _ (Below.refl _ _) rfl
       clear hR hd
       refine opGives_value ?_ hR'
       subst hA
       simp only [dsOf, List.map_cons, List.map_nil, Option.getD_some, putAll, Act.put, List.setIfInBounds_toArray, List.set_cons_zero, List.set_cons_succ]
       go_simp
      ·intro s w_ hb hd hq R hR
       generalize hA : putAll _ 0 s _ = A
       have eg : s 4 = _ := hd 4 (by kernel_rfl)
       clear hq
       refine stepG_on ?_ ?_
       ·clear hR hd
        subst hA
        simp only [dsOf, List.map_cons, List.map_nil, Option.getD_some, putAll, Act.put, List.setIfInBounds_toArray, List.set_cons_zero, List.set_cons_succ]
        simp [Region.wanted, yielded, eg, undef]
       clear eg
       have hR' := hR (.map (some b)) _ (Below.refl _ _) rfl
       clear hR hd
       refine opGives_value ?_ hR'
       subst hA
       simp only [dsOf, List.map_cons, List.map_nil, Option.getD_some, putAll, Act.put, List.setIfInBounds_toArray, List.set_cons_zero, List.set_cons_succ]
       go_simp
      ·intro s w_ hb hd hq R hR
       generalize hA : putAll _ 0 s _ = A
       have eg : s 4 = _ := hd 4 (by kernel_rfl)
       clear hq
       refine stepG_on ?_ ?_
       ·clear hR hd
        subst hA
        simp only [dsOf, List.map_cons, List.map_nil, Option.getD_some, putAll, Act.put, List.setIfInBounds_toArray, List.set_cons_zero, List.set_cons_succ]
        simp [Region.wanted, yielded, eg, undef]
       clear eg
       have hR' := hR (.pointer (some ⟨wr.heap.size, 0, none⟩)) _ (Below.refl _ _) rfl
       clear hR hd
       refine opGives_value ?_ hR'
       subst hA
       simp only [dsOf, List.map_cons, List.map_nil, Option.getD_some, putAll, Act.put, List.setIfInBounds_toArray, List.set_cons_zero, List.set_cons_succ]
       go_simp
      ·intro s w_ hb hd hq R hR
       generalize hA : putAll _ 0 s _ = A
       have eg : s 4 = _ := hd 4 (by kernel_rfl)
       clear hq
       refine stepG_on ?_ ?_
       ·clear hR hd
        subst hA
        simp only [dsOf, List.map_cons, List.map_nil, Option.getD_some, putAll, Act.put, List.setIfInBounds_toArray, List.set_cons_zero, List.set_cons_succ]
        simp [Region.wanted, yielded, eg, undef]
       clear eg
       have e6 : s 6 = _ := hd 6 (by kernel_rfl)
       have p0 := pw_cell_below hb p0
       have hR' := hR (.int .i64 x) _ (Below.refl _ _) rfl
       clear hR hd
       refine opGives_value ?_ hR'
       subst hA
       simp only [dsOf, List.map_cons, List.map_nil, Option.getD_some, putAll, Act.put, List.setIfInBounds_toArray, List.set_cons_zero, List.set_cons_succ]
       go_simp
      ·intro s w_ hb hd hq R hR
       generalize hA : putAll _ 0 s _ = A
       have eg : s 4 = _ := hd 4 (by kernel_rfl)
       clear hq
       refine stepG_on ?_ ?_
       ·clear hR hd
        subst hA
        simp only [dsOf, List.map_cons, List.map_nil, Option.getD_some, putAll, Act.put, List.setIfInBounds_toArray, List.set_cons_zero, List.set_cons_succ]
        simp [Region.wanted, yielded, eg, undef]
       clear eg
       have e5 : s 5 = _ := hd 5 (by kernel_rfl)
       have e7 : s 7 = _ := hd 7 (by kernel_rfl)
       have hlk := (HS5.out.below hb).look HWX.out
       rw [HSX.out] at hlk
       have hR' := hR (.bool true) _ (Below.refl _ _) rfl
       clear hR hd
       refine opGives_value ?_ hR'
       subst hA
       simp only [dsOf, List.map_cons, List.map_nil, Option.getD_some, putAll, Act.put, List.setIfInBounds_toArray, List.set_cons_zero, List.set_cons_succ]
       go_simp
      ·intro s w_ hb hd hq R hR
       generalize hA : putAll _ 0 s _ = A
       clear hq
       refine stepG_on rfl ?_
       have e4 : s 4 = _ := hd 4 (by kernel_rfl)
       have e8 : s 8 = _ := hd 8 (by kernel_rfl)
       have hR' := hR (.bool true) _ (Below.refl _ _) rfl
       clear hR hd
       refine opGives_value ?_ hR'
       subst hA
       simp only [dsOf, List.map_cons, List.map_nil, Option.getD_some, putAll, Act.put, List.setIfInBounds_toArray, List.set_cons_zero, List.set_cons_succ]
       go_simp
      ·intro s w_ hb hd hq R hR
       generalize hA : putAll _ 0 s _ = A
       clear hq
       refine stepG_on rfl ?_
       have e9 : s 9 = _ := hd 9 (by kernel_rfl)
       have hR' := hR (.bool true) _ (Below.refl _ _) rfl
       clear hR hd
       refine opGives_value ?_ hR'
       subst hA
       simp only [dsOf, List.map_cons, List.map_nil, Option.getD_some, putAll, Act.put, List.setIfInBounds_toArray, List.set_cons_zero, List.set_cons_succ]
       go_simp
      ·intro s w_ hb hd hq R hR
       generalize hA : putAll _ 0 s _ = A
       have eg : s 10 = _ := hd 10 (by kernel_rfl)
       clear hq
       refine stepG_off ?_ (hR undef _ (Below.refl _ _) rfl)
       clear hR hd
       subst hA
       simp only [dsOf, List.map_cons, List.map_nil, Option.getD_some, putAll, Act.put, List.setIfInBounds_toArray, List.set_cons_zero, List.set_cons_succ]
       simp [Region.wanted, yielded, eg, undef]
      ·intro s w_ hb hd hq R hR
       generalize hA : putAll _ 0 s _ = A
       have eg : s 10 = _ := hd 10 (by kernel_rfl)
       clear hq
       refine stepG_off ?_ (hR undef _ (Below.refl _ _) rfl)
       clear hR hd
       subst hA
       simp only [dsOf, List.map_cons, List.map_nil, Option.getD_some, putAll, Act.put, List.setIfInBounds_toArray, List.set_cons_zero, List.set_cons_succ]
       simp [Region.wanted, yielded, eg, undef]
      ·intro s w_ hb hd hq R hR
       generalize hA : putAll _ 0 s _ = A
       have eg : s 10 = _ := hd 10 (by kernel_rfl)
       clear hq
       refine stepG_off ?_ (hR undef _ (Below.refl _ _) rfl)
       clear hR hd
       subst hA
       simp only [dsOf, List.map_cons, List.map_nil, Option.getD_some, putAll, Act.put, List.setIfInBounds_toArray, List.set_cons_zero, List.set_cons_succ]
       simp [Region.wanted, yielded, eg, undef]
      ·intro s w_ hb hd hq R hR
       generalize hA : putAll _ 0 s _ = A
       have eg : s 10 = _ := hd 10 (by kernel_rfl)
       clear hq
       refine stepG_off ?_ (hR undef _ (Below.refl _ _) rfl)
       clear hR hd
       subst hA
       simp only [dsOf, List.map_cons, List.map_nil, Option.getD_some, putAll, Act.put, List.setIfInBounds_toArray, List.set_cons_zero, List.set_cons_succ]
       simp [Region.wanted, yielded, eg, undef]
      ·intro s w_ hb hd hq R hR
       generalize hA : putAll _ 0 s _ = A
       clear hq
       refine stepG_on rfl ?_
       have e10 : s 10 = _ := hd 10 (by kernel_rfl)
       have e14 : s 14 = _ := hd 14 (by kernel_rfl)
       have hR' := hR (.bool true) _ (Below.refl _ _) rfl
       clear hR hd
       refine opGives_value ?_ hR'
       subst hA
       simp only [dsOf, List.map_cons, List.map_nil, Option.getD_some, putAll, Act.put, List.setIfInBounds_toArray, List.set_cons_zero, List.set_cons_succ]
       go_simp
      ·intro s w_ hb hd hq R hR
       generalize hA : putAll _ 0 s _ = A
       clear hq
       refine stepG_on rfl ?_
       have e15 : s 15 = _ := hd 15 (by kernel_rfl)
       have hR' := hR (.bool true) _ (Below.refl _ _) rfl
       clear hR hd
       refine opGives_value ?_ hR'
       subst hA
       simp only [dsOf, List.map_cons, List.map_nil, Option.getD_some, putAll, Act.put, List.setIfInBounds_toArray, List.set_cons_zero, List.set_cons_succ]
       go_simp
      ·intro s w_ hb hd hq R hR
       generalize hA : putAll _ 0 s _ = A
       have eg : s 16 = _ := hd 16 (by kernel_rfl)
       clear hq
       refine stepG_off ?_ (hR undef _ (Below.refl _ _) rfl)
       clear hR hd
       subst hA
       simp only [dsOf, List.map_cons, List.map_nil, Option.getD_some, putAll, Act.put, List.setIfInBounds_toArray, List.set_cons_zero, List.set_cons_succ]
       simp [Region.wanted, yielded, eg, undef]
      ·intro s w_ hb hd hq R hR
       generalize hA : putAll _ 0 s _ = A
       have eg : s 16 = _ := hd 16 (by kernel_rfl)
       clear hq
       refine stepG_off ?_ (hR undef _ (Below.refl _ _) rfl)
       clear hR hd
       subst hA
       simp only [dsOf, List.map_cons, List.map_nil, Option.getD_some, putAll, Act.put, List.setIfInBounds_toArray, List.set_cons_zero, List.set_cons_succ]
       simp [Region.wanted, yielded, eg, undef]
      ·intro s w_ hb hd hq R hR
       generalize hA : putAll _ 0 s _ = A
       have eg : s 16 = _ := hd 16 (by kernel_rfl)
       clear hq
       refine stepG_off ?_ (hR undef _ (Below.refl _ _) rfl)
       clear hR hd
       subst hA
       simp only [dsOf, List.map_cons, List.map_nil, Option.getD_some, putAll, Act.put, List.setIfInBounds_toArray, List.set_cons_zero, List.set_cons_succ]
       simp [Region.wanted, yielded, eg, undef]
      ·intro s w_ hb hd hq R hR
       generalize hA : putAll _ 0 s _ = A
       have eg : s 19 = _ := hd 19 (by kernel_rfl)
       clear hq
       refine stepG_off ?_ (hR undef _ (Below.refl _ _) rfl)
       clear hR hd
       subst hA
       simp only [dsOf, List.map_cons, List.map_nil, Option.getD_some, putAll, Act.put, List.setIfInBounds_toArray, List.set_cons_zero, List.set_cons_succ]
       simp [Region.wanted, yielded, eg, undef]
      ·intro s w_ hb hd hq R hR
       generalize hA : putAll _ 0 s _ = A
       have eg : s 19 = _ := hd 19 (by kernel_rfl)
       clear hq
       refine stepG_off ?_ (hR undef _ (Below.refl _ _) rfl)
       clear hR hd
       subst hA
       simp only [dsOf, List.map_cons, List.map_nil, Option.getD_some, putAll, Act.put, List.setIfInBounds_toArray, List.set_cons_zero, List.set_cons_succ]
       simp [Region.wanted, yielded, eg, undef]
      ·intro s w_ hb hd hq R hR
       generalize hA : putAll _ 0 s _ = A
       have eg : s 19 = _ := hd 19 (by kernel_rfl)
       clear hq
       refine stepG_off ?_ (hR undef _ (Below.refl _ _) rfl)
       clear hR hd
       subst hA
       simp only [dsOf, List.map_cons, List.map_nil, Option.getD_some, putAll, Act.put, List.setIfInBounds_toArray, List.set_cons_zero, List.set_cons_succ]
       simp [Region.wanted, yielded, eg, undef]
      ·intro s w_ hb hd hq R hR
       generalize hA : putAll _ 0 s _ = A
       have eg : s 19 = _ := hd 19 (by kernel_rfl)
       clear hq
       refine stepG_off ?_ (hR undef _ (Below.refl _ _) rfl)
       clear hR hd
       subst hA
       simp only [dsOf, List.map_cons, List.map_nil, Option.getD_some, putAll, Act.put, List.setIfInBounds_toArray, List.set_cons_zero, List.set_cons_succ]
       simp [Region.wanted, yielded, eg, undef]
      ·intro s w_ hb hd hq R hR
       generalize hA : putAll _ 0 s _ = A
       have eg : s 19 = _ := hd 19 (by kernel_rfl)
       clear hq
       refine stepG_off ?_ (hR undef _ (Below.refl _ _) rfl)
       clear hR hd
       subst hA
       simp only [dsOf, List.map_cons, List.map_nil, Option.getD_some, putAll, Act.put, List.setIfInBounds_toArray, List.set_cons_zero, List.set_cons_succ]
       simp [Region.wanted, yielded, eg, undef]
      ·intro s w_ hb hd hq R hR
       generalize hA : putAll _ 0 s _ = A
       have eg : s 19 = _ := hd 19 (by kernel_rfl)
       clear hq
       refine stepG_off ?_ (hR undef _ (Below.refl _ _) rfl)
       clear hR hd
       subst hA
       simp only [dsOf, List.map_cons, List.map_nil, Option.getD_some, putAll, Act.put, List.setIfInBounds_toArray, List.set_cons_zero, List.set_cons_succ]
       simp [Region.wanted, yielded, eg, undef]
      ·intro s w_ hb hd hq R hR
       generalize hA : putAll _ 0 s _ = A
       have eg : s 19 = _ := hd 19 (by kernel_rfl)
       clear hq
       refine stepG_off ?_ (hR undef _ (Below.refl _ _) rfl)
       clear hR hd
       subst hA
       simp only [dsOf, List.map_cons, List.map_nil, Option.getD_some, putAll, Act.put, List.setIfInBounds_toArray, List.set_cons_zero, List.set_cons_succ]
       simp [Region.wanted, yielded, eg, undef]
      ·intro s w_ hb hd hq R hR
       generalize hA : putAll _ 0 s _ = A
       have eg : s 19 = _ := hd 19 (by kernel_rfl)
       clear hq
       refine stepG_off ?_ (hR undef _ (Below.refl _ _) rfl)
       clear hR hd
       subst hA
       simp only [dsOf, List.map_cons, List.map_nil, Option.getD_some, putAll, Act.put, List.setIfInBounds_toArray, List.set_cons_zero, List.set_cons_succ]
       simp [Region.wanted, yielded, eg, undef]
      ·intro s w_ hb hd hq R hR
       generalize hA : putAll _ 0 s _ = A
       have eg : s 16 = _ := hd 16 (by kernel_rfl)
       clear hq
       refine stepG_off ?_ (hR undef _ (Below.refl _ _) rfl)
       clear hR hd
       subst hA
       simp only [dsOf, List.map_cons, List.map_nil, Option.getD_some, putAll, Act.put, List.setIfInBounds_toArray, List.set_cons_zero, List.set_cons_succ]
       simp [Region.wanted, yielded, eg, undef]
      ·intro s w_ hb hd hq R hR
       generalize hA : putAll _ 0 s _ = A
       clear hq
       refine stepG_on rfl ?_
       have e16 : s 16 = _ := hd 16 (by kernel_rfl)
       have e28 : s 28 = _ := hd 28 (by kernel_rfl)
       have hR' := hR (.bool true) _ (Below.refl _ _) rfl
       clear hR hd
       refine opGives_value ?_ hR'
       subst hA
       simp only [dsOf, List.map_cons, List.map_nil, Option.getD_some, putAll, Act.put, List.setIfInBounds_toArray, List.set_cons_zero, List.set_cons_succ]
       go_simp
     case rest =>
      intro s9 w9 hb hv
      have e29_ : s9 29 = _ := hv 29 (by decide)
      simp only [dsOf, List.map_cons, List.map_nil, Option.getD_some, putAll, Act.put, List.setIfInBounds_toArray, List.set_cons_zero, List.set_cons_succ]
      rw [e29_]
      clear hv e29_
      have hB9 := Below.trans HB5.out (Below.mono hb HB5.out.size)
      have HBe := Aside0.mk (HBr.out.trans (hB9.mono HBr.out.size))
      clear hb hB9
      go_wp2
      go_ret
      exact ⟨by rw [HA.out]; rfl, HB.out.trans (HBe.out.mono HB.out.size)⟩
    | false =>
     have HSX := Aside0.mk hs0
     clear hs0
     cases hs1 : seenP ps iv y with
     | true =>
      have HA : Aside0 (pOk xs ps = false) := ⟨pOk_false hlt (seen_y hxy hs1)⟩
      have HSY := Aside0.mk hs1
      clear hxy hb5 hs1
      go_wp2
      rw [← hw5]
      clear hw5 hc0 hc1
      replace c0 := pw_cell_below HB5.out c0
      replace c1 := pw_cell_below HB5.out c1
      refine wp_region_gg Bl (fun w => (Below.refl _ w).drew) (fun _ _ _ => Bl.trans) (fun i => match i with | 0 => fun v _ => v = .agg #[.int .i64 (n : Int), .slice A1 xs.length d1] | 1 => fun v _ => v = .agg #[.int .i64 x, .int .i64 y] | 2 => fun v _ => v = .bool true | 3 => fun v _ => v = .bool false | 4 => fun v _ => v = .bool false | 5 => fun v _ => v = .map (some b) | 6 => fun v _ => v = .pointer (some ⟨wr.heap.size, 0, none⟩) | 7 => fun v _ => v = .int .i64 x | 8 => fun v _ => v = .bool false | 9 => fun v _ => v = .bool false | 10 => fun v _ => v = .bool false | 11 => fun v _ => v = .map (some b) | 12 => fun v _ => v = .pointer (some ⟨wr.heap.size, 1, none⟩) | 13 => fun v _ => v = .int .i64 y | 14 => fun v _ => v = .bool true | 15 => fun v _ => v = .bool true | 16 => fun v _ => v = .bool true | 17 => fun v _ => v = undef | 18 => fun v _ => v = undef | 19 => fun v _ => v = undef | 20 => fun v _ => v = undef | 21 => fun v _ => v = undef | 22 => fun v _ => v = undef | 23 => fun v _ => v = undef | 24 => fun v _ => v = undef | 25 => fun v _ => v = undef | 26 => fun v _ => v = undef | 27 => fun v _ => v = undef | 28 => fun v _ => v = undef | 29 => fun v _ => v = .bool true | _ => fun _ _ => True)
       [0, 0, 3, 7, 15, 31, 31, 95, 255, 511, 1023, 2047, 2047, 6143, 16383, 32767, 65535, 131071, 262143, 524287, 1048575, 1048575, 3145727, 8388607, 16777215, 1048575, 67108863, 134217727, 268435455, 536870911] hmx (by kernel_rfl) ?st ?steps ?rest
      case st =>
       intro i v w1_ w2_ hb
       match i with
       | 0 | 1 | 2 | 3 | 4 | 5 | 6 | 7 | 8 | 9 | 10 | 11 | 12 | 13 | 14 | 15 | 16 | 17 | 18 | 19 | 20 | 21 | 22 | 23 | 24 | 25 | 26 | 27 | 28 | 29 => exact id
       | n + 30 => exact id
      case steps =>
       refine ⟨?_, ?_, ?_, ?_, ?_, ?_, ?_, ?_, ?_, ?_, ?_, ?_, ?_, ?_, ?_, ?_, ?_, ?_, ?_, ?_, ?_, ?_, ?_, ?_, ?_, ?_, ?_, ?_, ?_, ?_, trivial⟩
       ·intro s w_ hb hd hq R hR
        generalize hA : putAll _ 0 s _ = A
        clear hq
        refine stepG_on rfl ?_
        have c0 := pw_cell_below hb c0
        have c1 := pw_cell_below hb c1
        have hR' := hR (.agg #[.int .i64 (n : Int), .slice A1 xs.length d1]) _ (Below.refl _ _) rfl
        clear hR hd
        refine opGives_value ?_ hR'
        subst hA
        simp only [dsOf, List.map_cons, List.map_nil, Option.getD_some, putAll, Act.put, List.setIfInBounds_toArray, List.set_cons_zero, List.set_cons_succ]
        go_simp
       ·intro s w_ hb hd hq R hR
        generalize hA : putAll _ 0 s _ = A
        clear hq
        refine stepG_on rfl ?_
        have p0 := pw_cell_below hb p0
        have p1 := pw_cell_below hb p1
        have hR' := hR (.agg #[.int .i64 x, .int .i64 y]) _ (Below.refl _ _) rfl
        clear hR hd
        refine opGives_value ?_ hR'
        subst hA
        simp only [dsOf, List.map_cons, List.map_nil, Option.getD_some, putAll, Act.put, List.setIfInBounds_toArray, List.set_cons_zero, List.set_cons_succ]
        go_simp
       ·intro s w_ hb hd hq R hR
        generalize hA : putAll _ 0 s _ = A
        clear hq
        refine stepG_on rfl ?_
        have e0 : s 0 = _ := hd 0 (by kernel_rfl)
        have e1 : s 1 = _ := hd 1 (by kernel_rfl)
        refine opGives_call (f := 239) (args := #[.agg #[.int .i64 (n : Int), .slice A1 xs.length d1], .agg #[.int .i64 x, .int .i64 y]]) ?_ ?_
        ·subst hA
         clear hR hd
         simp only [dsOf, List.map_cons, List.map_nil, Option.getD_some, putAll, Act.put, List.setIfInBounds_toArray, List.set_cons_zero, List.set_cons_succ]
         go_simp
        clear hA A hd
        refine (HPA.out w_ (Below.trans HB5.out (Below.mono hb HB5.out.size))).mono ?_
        rintro e w3_ ⟨rfl, hb3⟩
        exact ⟨_, rfl, hR _ _ hb3 rfl⟩
       ·intro s w_ hb hd hq R hR
        generalize hA : putAll _ 0 s _ = A
        clear hq
        refine stepG_on rfl ?_
        have e2 : s 2 = _ := hd 2 (by kernel_rfl)
        have hR' := hR (.bool false) _ (Below.refl _ _) rfl
        clear hR hd
        refine opGives_value ?_ hR'
        subst hA
        simp only [dsOf, List.map_cons, List.map_nil, Option.getD_some, putAll, Act.put, List.setIfInBounds_toArray, List.set_cons_zero, List.set_cons_succ]
        go_simp
       ·intro s w_ hb hd hq R hR
        generalize hA : putAll _ 0 s _ = A
        clear hq
        refine stepG_on rfl ?_
        have e3 : s 3 = _ := hd 3 (by kernel_rfl)
        have hR' := hR (.bool false) _ (Below.refl _ _) rfl
        clear hR hd
        refine opGives_value ?_ hR'
        subst hA
        simp only [dsOf, List.map_cons, List.map_nil, Option.getD_some, putAll, Act.put, List.setIfInBounds_toArray, List.set_cons_zero, List.set_cons_succ]
        go_simp
       ·intro s w_ hb hd hq R hR
        generalize hA : putAll _ 0 s _ = A
        have eg : s 4 = _ := hd 4 (by kernel_rfl)
        clear hq
        refine stepG_on ?_ ?_
        ·clear hR hd
         subst hA
         simp only [dsOf, List.map_cons, List.map_nil, Option.getD_some, putAll, Act.put, List.setIfInBounds_toArray, List.set_cons_zero, List.set_cons_succ]
         simp [Region.wanted, yielded, eg, undef]
        clear eg
        have hR' := hR (.map (some b)) _ (Below.refl _ _) rfl
        clear hR hd
        refine opGives_value ?_ hR'
        subst hA
        simp only [dsOf, List.map_cons, List.map_nil, Option.getD_some, putAll, Act.put, List.setIfInBounds_toArray, List.set_cons_zero, List.set_cons_succ]
        go_simp
       ·intro s w_ hb hd hq R hR
        generalize hA : putAll _ 0 s _ = A
        have eg : s 4 = _ := hd 4 (by kernel_rfl)
        clear hq
        refine stepG_on ?_ ?_
        ·clear hR hd
         subst hA
         simp only [dsOf, List.map_cons, List.map_nil, Option.getD_some, putAll, Act.put, List.setIfInBounds_toArray, List.set_cons_zero, List.set_cons_succ]
         simp [Region.wanted, yielded, eg, undef]
        clear eg
        have hR' := hR (.pointer (some ⟨wr.heap.size, 0, none⟩)) _ (Below.refl _ _) rfl
        clear hR hd
        refine opGives_value ?_ hR'
        subst hA
        simp only [dsOf, List.map_cons, List.map_nil, Option.getD_some, putAll, Act.put, List.setIfInBounds_toArray, List.set_cons_zero, List.set_cons_succ]
        go_simp
       ·intro s w_ hb hd hq R hR
        generalize hA : putAll _ 0 s _ = A
        have eg : s 4 = _ := hd 4 (by kernel_rfl)
        clear hq
        refine stepG_on ?_ ?_
        ·clear hR hd
         subst hA
         simp only [dsOf, List.map_cons, List.map_nil, Option.getD_some, putAll, Act.put, List.setIfInBounds_toArray, List.set_cons_zero, List.set_cons_succ]
         simp [Region.wanted, yielded, eg, undef]
        clear eg
        have e6 : s 6 = _ := hd 6 (by kernel_rfl)
        have p0 := pw_cell_below hb p0
        have hR' := hR (.int .i64 x) _ (Below.refl _ _) rfl
        clear hR hd
        refine opGives_value ?_ hR'
        subst hA
        simp only [dsOf, List.map_cons, List.map_nil, Option.getD_some, putAll, Act.put, List.setIfInBounds_toArray, List.set_cons_zero, List.set_cons_succ]
        go_simp
       ·intro s w_ hb hd hq R hR
        generalize hA : putAll _ 0 s _ = A
        have eg : s 4 = _ := hd 4 (by kernel_rfl)
        clear hq
        refine stepG_on ?_ ?_
        ·clear hR hd
         subst hA
         simp only [dsOf, List.map_cons, List.map_nil, Option.getD_some, putAll, Act.put, List.setIfInBounds_toArray, List.set_cons_zero, List.set_cons_succ]
         simp [Region.wanted, yielded, eg, undef]
        clear eg
        have e5 : s 5 = _ := hd 5 (by kernel_rfl)
        have e7 : s 7 = _ := hd 7 (by kernel_rfl)
        have hlk := (HS5.out.below hb).look HWX.out
        rw [HSX.out] at hlk
        have hR' := hR (.bool false) _ (Below.refl _ _) rfl
        clear hR hd
        refine opGives_value ?_ hR'
        subst hA
        simp only [dsOf, List.map_cons, List.map_nil, Option.getD_some, putAll, Act.put, List.setIfInBounds_toArray, List.set_cons_zero, List.set_cons_succ]
        go_simp
       ·intro s w_ hb hd hq R hR
        generalize hA : putAll _ 0 s _ = A
        clear hq
        refine stepG_on rfl ?_
        have e4 : s 4 = _ := hd 4 (by kernel_rfl)
        have e8 : s 8 = _ := hd 8 (by kernel_rfl)
        have hR' := hR (.bool false) _ (Below.refl _ _) rfl
        clear hR hd
        refine opGives_value ?_ hR'
        subst hA
        simp only [dsOf, List.map_cons, List.map_nil, Option.getD_some, putAll, Act.put, List.setIfInBounds_toArray, List.set_cons_zero, List.set_cons_succ]
        go_simp
       ·intro s w_ hb hd hq R hR
        generalize hA : putAll _ 0 s _ = A
        clear hq
        refine stepG_on rfl ?_
        have e9 : s 9 = _ := hd 9 (by kernel_rfl)
        have hR' := hR (.bool false) _ (Below.refl _ _) rfl
        clear hR hd
        refine opGives_value ?_ hR'
        subst hA
        simp only [dsOf, List.map_cons, List.map_nil, Option.getD_some, putAll, Act.put, List.setIfInBounds_toArray, List.set_cons_zero, List.set_cons_succ]
        go_simp
       ·intro s w_ hb hd hq R hR
        generalize hA : putAll _ 0 s _ = A
        have eg : s 10 = _ := hd 10 (by kernel_rfl)
        clear hq
        refine stepG_on ?_ ?_
        ·clear hR hd
         subst hA
         simp only [dsOf, List.map_cons, List.map_nil, Option.getD_some, putAll, Act.put, List.setIfInBounds_toArray, List.set_cons_zero, List.set_cons_succ]
         simp [Region.wanted, yielded, eg, undef]
        clear eg
        have hR' := hR (.map (some b)) _ (Below.refl _ _) rfl
        clear hR hd
        refine opGives_value ?_ hR'
        subst hA
        simp only [dsOf, List.map_cons, List.map_nil, Option.getD_some, putAll, Act.put, List.setIfInBounds_toArray, List.set_cons_zero, List.set_cons_succ]
        go_simp
       ·intro s w_ hb hd hq R hR
        generalize hA : putAll _ 0 s _ = A
        have eg : s 10 = _ := hd 10 (by kernel_rfl)
        clear hq
        refine stepG_on ?_ ?_
        ·clear hR hd
         subst hA
         simp only [dsOf, List.map_cons, List.map_nil, Option.getD_some, putAll, Act.put, List.setIfInBounds_toArray, List.set_cons_zero, List.set_cons_succ]
         simp [Region.wanted, yielded, eg, undef]
        clear eg
        have hR' := hR (.pointer (some ⟨wr.heap.size, 1, none⟩)) _ (Below.refl _ _) rfl
        clear hR hd
        refine opGives_value ?_ hR'
        subst hA
        simp only [dsOf, List.map_cons, List.map_nil, Option.getD_some, putAll, Act.put, List.setIfInBounds_toArray, List.set_cons_zero, List.set_cons_succ]
        go_simp
       ·intro s w_ hb hd hq R hR
        generalize hA : putAll _ 0 s _ = A
        have eg : s 10 = _ := hd 10 (by kernel_rfl)
        clear hq
        refine stepG_on ?_ ?_
        ·clear hR hd
         subst hA
         simp only [dsOf, List.map_cons, List.map_nil, Option.getD_some, putAll, Act.put, List.setIfInBounds_toArray, List.set_cons_zero, List.set_cons_succ]
         simp [Region.wanted, yielded, eg, undef]
        clear eg
        have e12 : s 12 = _ := hd 12 (by kernel_rfl)
        have p1 := pw_cell_below hb p1
        have hR' := hR (.int .i64 y) _ (Below.refl _ _) rfl
        clear hR hd
        refine opGives_value ?_ hR'
        subst hA
        simp only [dsOf, List.map_cons, List.map_nil, Option.getD_some, putAll, Act.put, List.setIfInBounds_toArray, List.set_cons_zero, List.set_cons_succ]
        go_simp
       ·intro s w_ hb hd hq R hR
        generalize hA : putAll _ 0 s _ = A
        have eg : s 10 = _ := hd 10 (by kernel_rfl)
        clear hq
        refine stepG_on ?_ ?_
        ·clear hR hd
         subst hA
         simp only [dsOf, List.map_cons, List.map_nil, Option.getD_some, putAll, Act.put, List.setIfInBounds_toArray, List.set_cons_zero, List.set_cons_succ]
         simp [Region.wanted, yielded, eg, undef]
        clear eg
        have e11 : s 11 = _ := hd 11 (by kernel_rfl)
        have e13 : s 13 = _ := hd 13 (by kernel_rfl)
        have hlk := (HS5.out.below hb).look HWY.out
        rw [HSY.out] at hlk
        have hR' := hR (.bool true) _ (Below.refl _ _) rfl
        clear hR hd
        refine opGives_value ?_ hR'
        subst hA
        simp only [dsOf, List.map_cons, List.map_nil, Option.getD_some, putAll, Act.put, List.setIfInBounds_toArray, List.set_cons_zero, List.set_cons_succ]
        go_simp
       ·intro s w_ hb hd hq R hR
        generalize hA : putAll _ 0 s _ = A
        clear hq
        refine stepG_on rfl ?_
        have e10 : s 10 = _ := hd 10 (by kernel_rfl)
        have e14 : s 14 = _ := hd 14 (by kernel_rfl)
        have hR' := hR (.bool true) _ (Below.refl _ _) rfl
        clear hR hd
        refine opGives_value ?_ hR'
        subst hA
        simp only [dsOf, List.map_cons, List.map_nil, Option.getD_some, putAll, Act.put, List.setIfInBounds_toArray, List.set_cons_zero, List.set_cons_succ]
        go_simp
       ·intro s w_ hb hd hq R hR
        generalize hA : putAll _ 0 s _ = A
        clear hq
        refine stepG_on rfl ?_
        have e15 : s 15 = _ := hd 15 (by kernel_rfl)
        have hR' := hR (.bool true) _ (Below.refl _ _) rfl
        clear hR hd
        refine opGives_value ?_ hR'
        subst hA
        simp only [dsOf, List.map_cons, List.map_nil, Option.getD_some, putAll, Act.put, List.setIfInBounds_toArray, List.set_cons_zero, List.set_cons_succ]
        go_simp
       ·intro s w_ hb hd hq R hR
        generalize hA : putAll _ 0 s _ = A
        have eg : s 16 = _ := hd 16 (by kernel_rfl)
        clear hq
        refine stepG_off ?_ (hR undef _ (Below.refl _ _) rfl)
        clear hR hd
        subst hA
        simp only [dsOf, List.map_cons, List.map_nil, Option.getD_some, putAll, Act.put, List.setIfInBounds_toArray, List.set_cons_zero, List.set_cons_succ]
        simp [Region.wanted, yielded, eg, undef]
       ·intro s w_ hb hd hq R hR
        generalize hA : putAll _ 0 s _ = A
        have eg : s 16 = _ := hd 16 (by kernel_rfl)
        clear hq
        refine stepG_off ?_ (hR undef _ (Below.refl _ _) rfl)
        clear hR hd
        subst hA
        simp only [dsOf, List.map_cons, List.map_nil, Option.getD_some, putAll, Act.put, List.setIfInBounds_toArray, List.set_cons_zero, List.set_cons_succ]
        simp [Region.wanted, yielded, eg, undef]
       ·intro s w_ hb hd hq R hR
        generalize hA : putAll _ 0 s _ = A
        have eg : s 16 = _ := hd 16 (by kernel_rfl)
        clear hq
        refine stepG_off ?_ (hR undef _ (Below.refl _ _) rfl)
        clear hR hd
        subst hA
        simp only [dsOf, List.map_cons, List.map_nil, Option.getD_some, putAll, Act.put, List.setIfInBounds_toArray, List.set_cons_zero, List.set_cons_succ]
        simp [Region.wanted, yielded, eg, undef]
       ·intro s w_ hb hd hq R hR
        generalize hA : putAll _ 0 s _ = A
        have eg : s 19 = _ := hd 19 (by kernel_rfl)
        clear hq
        refine stepG_off ?_ (hR undef _ (Below.refl _ _) rfl)
        clear hR hd
        subst hA
        simp only [dsOf, List.map_cons, List.map_nil, Option.getD_some, putAll, Act.put, List.setIfInBounds_toArray, List.set_cons_zero, List.set_cons_succ]
        simp [Region.wanted, yielded, eg, undef]
       ·intro s w_ hb hd hq R hR
        generalize hA : putAll _ 0 s _ = A
        have eg : s 19 = _ := hd 19 (by kernel_rfl)
        clear hq
        refine stepG_off ?_ (hR undef _ (Below.refl _ _) rfl)
        clear hR hd
        subst hA
        simp only [dsOf, List.map_cons, List.map_nil, Option.getD_some, putAll, Act.put, List.setIfInBounds_toArray, List.set_cons_zero, List.set_cons_succ]
        simp [Region.wanted, yielded, eg, undef]
       ·intro s w_ hb hd hq R hR
        generalize hA : putAll _ 0 s _ = A
        have eg : s 19 = _ := hd 19 (by kernel_rfl)
        clear hq
        refine stepG_off ?_ (hR undef _ (Below.refl _ _) rfl)
        clear hR hd
        subst hA
        simp only [dsOf, List.map_cons, List.map_nil, Option.getD_some, putAll, Act.put, List.setIfInBounds_toArray, List.set_cons_zero, List.set_cons_succ]
        simp [Region.wanted, yielded, eg, undef]
       ·intro s w_ hb hd hq R hR
        generalize hA : putAll _ 0 s _ = A
        have eg : s 19 = _ := hd 19 (by kernel_rfl)
        clear hq
        refine stepG_off ?_ (hR undef _ (Below.refl _ _) rfl)
        clear hR hd
        subst hA
        simp only [dsOf, List.map_cons, List.map_nil, Option.getD_some, putAll, Act.put, List.setIfInBounds_toArray, List.set_cons_zero, List.set_cons_succ]
        simp [Region.wanted, yielded, eg, undef]
       ·intro s w_ hb hd hq R hR
        generalize hA : putAll _ 0 s _ = A
        have eg : s 19 = _ := hd 19 (by kernel_rfl)
        clear hq
        refine stepG_off ?_ (hR undef _ (Below.refl _ _) rfl)
        clear hR hd
        subst hA
        simp only [dsOf, List.map_cons, List.map_nil, Option.getD_some, putAll, Act.put, List.setIfInBounds_toArray, List.set_cons_zero, List.set_cons_succ]
        simp [Region.wanted, yielded, eg, undef]
       ·intro s w_ hb hd hq R hR
        generalize hA : putAll _ 0 s _ = A
        have eg : s 19 = _ := hd 19 (by kernel_rfl)
        clear hq
        refine stepG_off ?_ (hR undef _ (Below.refl _ _) rfl)
        clear hR hd
        subst hA
        simp only [dsOf, List.map_cons, List.map_nil, Option.getD_some, putAll, Act.put, List.setIfInBounds_toArray, List.set_cons_zero, List.set_cons_succ]
        simp [Region.wanted, yielded, eg, undef]
       ·intro s w_ hb hd hq R hR
        generalize hA : putAll _ 0 s _ = A
        have eg : s 19 = _ := hd 19 (by kernel_rfl)
        clear hq
        refine stepG_off ?_ (hR undef _ (Below.refl _ _) rfl)
        clear hR hd
        subst hA
        simp only [dsOf, List.map_cons, List.map_nil, Option.getD_some, putAll, Act.put, List.setIfInBounds_toArray, List.set_cons_zero, List.set_cons_succ]
        simp [Region.wanted, yielded, eg, undef]
       ·intro s w_ hb hd hq R hR
        generalize hA : putAll _ 0 s _ = A
        have eg : s 19 = _ := hd 19 (by kernel_rfl)
        clear hq
        refine stepG_off ?_ (hR undef _ (Below.refl _ _) rfl)
        clear hR hd
        subst hA
        simp only [dsOf, List.map_cons, List.map_nil, Option.getD_some, putAll, Act.put, List.setIfInBounds_toArray, List.set_cons_zero, List.set_cons_succ]
        simp [Region.wanted, yielded, eg, undef]
       ·intro s w_ hb hd hq R hR
        generalize hA : putAll _ 0 s _ = A
        have eg : s 16 = _ := hd 16 (by kernel_rfl)
        clear hq
        refine stepG_off ?_ (hR undef _ (Below.refl _ _) rfl)
        clear hR hd
        subst hA
        simp only [dsOf, List.map_cons, List.map_nil, Option.getD_some, putAll, Act.put, List.setIfInBounds_toArray, List.set_cons_zero, List.set_cons_succ]
        simp [Region.wanted, yielded, eg, undef]
       ·intro s w_ hb hd hq R hR
        generalize hA : putAll _ 0 s _ = A
        clear hq
        refine stepG_on rfl ?_
        have e16 : s 16 = _ := hd 16 (by kernel_rfl)
        have e28 : s 28 = _ := hd 28 (by kernel_rfl)
        have hR' := hR (.bool true) _ (Below.refl _ _) rfl
        clear hR hd
        refine opGives_value ?_ hR'
        subst hA
        simp only [dsOf, List.map_cons, List.map_nil, Option.getD_some, putAll, Act.put, List.setIfInBounds_toArray, List.set_cons_zero, List.set_cons_succ]
        go_simp
      case rest =>
       intro s9 w9 hb hv
       have e29_ : s9 29 = _ := hv 29 (by decide)
       simp only [dsOf, List.map_cons, List.map_nil, Option.getD_some, putAll, Act.put, List.setIfInBounds_toArray, List.set_cons_zero, List.set_cons_succ]
       rw [e29_]
       clear hv e29_
       have hB9 := Below.trans HB5.out (Below.mono hb HB5.out.size)
       have HBe := Aside0.mk (HBr.out.trans (hB9.mono HBr.out.size))
       clear hb hB9
       go_wp2
       go_ret
       exact ⟨by rw [HA.out]; rfl, HB.out.trans (HBe.out.mono HB.out.size)⟩
     | false =>
      have HSY := Aside0.mk hs1
      clear hs1
      by_cases h0 : iv = 0
      ·have HLT : Aside0 ((decide (iv = 0) || lessP (ps.getD (iv - 1) (0, 0)).1 (ps.getD (iv - 1) (0, 0)).2 (ps.getD iv (0, 0)).1 (ps.getD iv (0, 0)).2) = true) := ⟨by rw [decide_eq_true h0, Bool.true_or]⟩
       have HGT : Aside0 (decide (0 < iv) = false) := ⟨decide_eq_false (by omega)⟩
       have HI2 : Aside0 (∀ t, t < iv + 1 → pOkAt xs ps t = true) := ⟨fun t ht => by
        rcases Nat.lt_succ_iff_lt_or_eq.1 ht with h | h
        ·exact HI.out t h
        ·rw [h]; exact pOkAt_all HPT.out HLT.out (fun u hu => seen_share HXY.out HSX.out HSY.out u hu)⟩
       clear h0 hxy hb5
       go_wp2
       rw [← hw5]
       clear hw5 hc0 hc1
       replace c0 := pw_cell_below HB5.out c0
       replace c1 := pw_cell_below HB5.out c1
       refine wp_region_gg Bl (fun w => (Below.refl _ w).drew) (fun _ _ _ => Bl.trans) (fun i => match i with | 0 => fun v _ => v = .agg #[.int .i64 (n : Int), .slice A1 xs.length d1] | 1 => fun v _ => v = .agg #[.int .i64 x, .int .i64 y] | 2 => fun v _ => v = .bool true | 3 => fun v _ => v = .bool false | 4 => fun v _ => v = .bool false | 5 => fun v _ => v = .map (some b) | 6 => fun v _ => v = .pointer (some ⟨wr.heap.size, 0, none⟩) | 7 => fun v _ => v = .int .i64 x | 8 => fun v _ => v = .bool false | 9 => fun v _ => v = .bool false | 10 => fun v _ => v = .bool false | 11 => fun v _ => v = .map (some b) | 12 => fun v _ => v = .pointer (some ⟨wr.heap.size, 1, none⟩) | 13 => fun v _ => v = .int .i64 y | 14 => fun v _ => v = .bool false | 15 => fun v _ => v = .bool false | 16 => fun v _ => v = .bool false | 17 => fun v _ => v = .int .i64 (iv : Int) | 18 => fun v _ => v = .bool false | 19 => fun v _ => v = .bool false | 20 => fun v _ => v = undef | 21 => fun v _ => v = undef | 22 => fun v _ => v = undef | 23 => fun v _ => v = undef | 24 => fun v _ => v = undef | 25 => fun v _ => v = undef | 26 => fun v _ => v = undef | 27 => fun v _ => v = undef | 28 => fun v _ => v = .bool false | 29 => fun v _ => v = .bool false | _ => fun _ _ => True)
        [0, 0, 3, 7, 15, 31, 31, 95, 255, 511, 1023, 2047, 2047, 6143, 16383, 32767, 65535, 131071, 262143, 524287, 1048575, 1048575, 3145727, 8388607, 16777215, 1048575, 67108863, 134217727, 268435455, 536870911] hmx (by kernel_rfl) ?st ?steps ?rest
       case st =>
        intro i v w1_ w2_ hb
        match i with
        | 0 | 1 | 2 | 3 | 4 | 5 | 6 | 7 | 8 | 9 | 10 | 11 | 12 | 13 | 14 | 15 | 16 | 17 | 18 | 19 | 20 | 21 | 22 | 23 | 24 | 25 | 26 | 27 | 28 | 29 => exact id
        | n + 30 => exact id
       case steps =>
        refine ⟨?_, ?_, ?_, ?_, ?_, ?_, ?_, ?_, ?_, ?_, ?_, ?_, ?_, ?_, ?_, ?_, ?_, ?_, ?_, ?_, ?_, ?_, ?_, ?_, ?_, ?_, ?_, ?_, ?_, ?_, trivial⟩
        ·intro s w_ hb hd hq R hR
         generalize hA : putAll _ 0 s _ = A
         clear hq
         refine stepG_on rfl ?_
         have c0 := pw_cell_below hb c0
         have c1 := pw_cell_below hb c1
         have hR' := hR (.agg #[.int .i64 (n : Int), .slice A1 xs.length d1]) _ (Below.refl _ _) rfl
         clear hR hd
         refine opGives_value ?_ hR'
         subst hA
         simp only [dsOf, List.map_cons, List.map_nil, Option.getD_some, putAll, Act.put, List.setIfInBounds_toArray, List.set_cons_zero, List.set_cons_succ]
         go_simp
        ·intro s w_ hb hd hq R hR
         generalize hA : putAll _ 0 s _ = A
         clear hq
         refine stepG_on rfl ?_
         have p0 := pw_cell_below hb p0
         have p1 := pw_cell_below hb p1
         have hR' := hR (.agg #[.int .i64 x, .int .i64 y]) _ (Below.refl _ _) rfl
         clear hR hd
         refine opGives_value ?_ hR'
         subst hA
         simp only [dsOf, List.map_cons, List.map_nil, Option.getD_some, putAll, Act.put, List.setIfInBounds_toArray, List.set_cons_zero, List.set_cons_succ]
         go_simp
        ·intro s w_ hb hd hq R hR
         generalize hA : putAll _ 0 s _ = A
         clear hq
         refine stepG_on rfl ?_
         have e0 : s 0 = _ := hd 0 (by kernel_rfl)
         have e1 : s 1 = _ := hd 1 (by kernel_rfl)
         refine opGives_call (f := 239) (args := #[.agg #[.int .i64 (n : Int), .slice A1 xs.length d1], .agg #[.int .i64 x, .int .i64 y]]) ?_ ?_
         ·subst hA
          clear hR hd
          simp only [dsOf, List.map_cons, List.map_nil, Option.getD_some, putAll, Act.put, List.setIfInBounds_toArray, List.set_cons_zero, List.set_cons_succ]
          go_simp
         clear hA A hd
         refine (HPA.out w_ (Below.trans HB5.out (Below.mono hb HB5.out.size))).mono ?_
         rintro e w3_ ⟨rfl, hb3⟩
         exact ⟨_, rfl, hR _ _ hb3 rfl⟩
        ·intro s w_ hb hd hq R hR
         generalize hA : putAll _ 0 s _ = A
         clear hq
         refine stepG_on rfl ?_
         have e2 : s 2 = _ := hd 2 (by kernel_rfl)
         have hR' := hR (.bool false) _ (Below.refl _ _) rfl
         clear hR hd
         refine opGives_value ?_ hR'
         subst hA
         simp only [dsOf, List.map_cons, List.map_nil, Option.getD_some, putAll, Act.put, List.setIfInBounds_toArray, List.set_cons_zero, List.set_cons_succ]
         go_simp
        ·intro s w_ hb hd hq R hR
         generalize hA : putAll _ 0 s _ = A
         clear hq
         refine stepG_on rfl ?_
         have e3 : s 3 = _ := hd 3 (by kernel_rfl)
         have hR' := hR (.bool false) _ (Below.refl _ _) rfl
         clear hR hd
         refine opGives_value ?_ hR'
         subst hA
         simp only [dsOf, List.map_cons, List.map_nil, Option.getD_some, putAll, Act.put, List.setIfInBounds_toArray, List.set_cons_zero, List.set_cons_succ]
         go_simp
        ·intro s w_ hb hd hq R hR
         generalize hA : putAll _ 0 s _ = A
         have eg : s 4 = _ := hd 4 (by kernel_rfl)
         clear hq
         refine stepG_on ?_ ?_
         ·clear hR hd
          subst hA
          simp only [dsOf, List.map_cons, List.map_nil, Option.getD_some, putAll, Act.put, List.setIfInBounds_toArray, List.set_cons_zero, List.set_cons_succ]
          simp [Region.wanted, yielded, eg, undef]
         clear eg
         have hR' := hR (.map (some b)) _ (Below.refl _ _) rfl
         clear hR hd
         refine opGives_value ?_ hR'
         subst hA
         simp only [dsOf, List.map_cons, List.map_nil, Option.getD_some, putAll, Act.put, List.setIfInBounds_toArray, List.set_cons_zero, List.set_cons_succ]
         go_simp
        ·intro s w_ hb hd hq R hR
         generalize hA : putAll _ 0 s _ = A
         have eg : s 4 = _ := hd 4 (by kernel_rfl)
         clear hq
         refine stepG_on ?_ ?_
         ·clear hR hd
          subst hA
          simp only [dsOf, List.map_cons, List.map_nil, Option.getD_some, putAll, Act.put, List.setIfInBounds_toArray, List.set_cons_zero, List.set_cons_succ]
          simp [Region.wanted, yielded, eg, undef]
         clear eg
         have hR' := hR (.pointer (some ⟨wr.heap.size, 0, none⟩)) _ (Below.refl _ _) rfl
         clear hR hd
         refine opGives_value ?_ hR'
         subst hA
         simp only [dsOf, List.map_cons, List.map_nil, Option.getD_some, putAll, Act.put, List.setIfInBounds_toArray, List.set_cons_zero, List.set_cons_succ]
         go_simp
        ·intro s w_ hb hd hq R hR
         generalize hA : putAll _ 0 s _ = A
         have eg : s 4 = _ := hd 4 (by kernel_rfl)
         clear hq
         refine stepG_on ?_ ?_
         ·clear hR hd
          subst hA
          simp only [dsOf, List.map_cons, List.map_nil, Option.getD_some, putAll, Act.put, List.setIfInBounds_toArray, List.set_cons_zero, List.set_cons_succ]
          simp [Region.wanted, yielded, eg, undef]
         clear eg
         have e6 : s 6 = _ := hd 6 (by kernel_rfl)
         have p0 := pw_cell_below hb p0
         have hR' := hR (.int .i64 x) _ (Below.refl _ _) rfl
         clear hR hd
         refine opGives_value ?_ hR'
         subst hA
         simp only [dsOf, List.map_cons, List.map_nil, Option.getD_some, putAll, Act.put, List.setIfInBounds_toArray, List.set_cons_zero, List.set_cons_succ]
         go_simp
        ·intro s w_ hb hd hq R hR
         generalize hA : putAll _ 0 s _ = A
         have eg : s 4 = _ := hd 4 (by kernel_rfl)
         clear hq
         refine stepG_on ?_ ?_
         ·clear hR hd
          subst hA
          simp only [dsOf, List.map_cons, List.map_nil, Option.getD_some, putAll, Act.put, List.setIfInBounds_toArray, List.set_cons_zero, List.set_cons_succ]
          simp [Region.wanted, yielded, eg, undef]
         clear eg
         have e5 : s 5 = _ := hd 5 (by kernel_rfl)
         have e7 : s 7 = _ := hd 7 (by kernel_rfl)
         have hlk := (HS5.out.below hb).look HWX.out
         rw [HSX.out] at hlk
         have hR' := hR (.bool false) _ (Below.refl _ _) rfl
         clear hR hd
         refine opGives_value ?_ hR'
         subst hA
         simp only [dsOf, List.map_cons, List.map_nil, Option.getD_some, putAll, Act.put, List.setIfInBounds_toArray, List.set_cons_zero, List.set_cons_succ]
         go_simp
        ·intro s w_ hb hd hq R hR
         generalize hA : putAll _ 0 s _ = A
         clear hq
         refine stepG_on rfl ?_
         have e4 : s 4 = _ := hd 4 (by kernel_rfl)
         have e8 : s 8 = _ := hd 8 (by kernel_rfl)
         have hR' := hR (.bool false) _ (Below.refl _ _) rfl
         clear hR hd
         refine opGives_value ?_ hR'
         subst hA
         simp only [dsOf, List.map_cons, List.map_nil, Option.getD_some, putAll, Act.put, List.setIfInBounds_toArray, List.set_cons_zero, List.set_cons_succ]
         go_simp
        ·intro s w_ hb hd hq R hR
         generalize hA : putAll _ 0 s _ = A
         clear hq
         refine stepG_on rfl ?_
         have e9 : s 9 = _ := hd 9 (by kernel_rfl)
         have hR' := hR (.bool false) _ (Below.refl _ _) rfl
         clear hR hd
         refine opGives_value ?_ hR'
         subst hA
         simp only [dsOf, List.map_cons, List.map_nil, Option.getD_some, putAll, Act.put, List.setIfInBounds_toArray, List.set_cons_zero, List.set_cons_succ]
         go_simp
        ·intro s w_ hb hd hq R hR
         generalize hA : putAll _ 0 s _ = A
         have eg : s 10 = _ := hd 10 (by kernel_rfl)
         clear hq
         refine stepG_on ?_ ?_
         ·clear hR hd
          subst hA
          simp only [dsOf, List.map_cons, List.map_nil, Option.getD_some, putAll, Act.put, List.setIfInBounds_toArray, List.set_cons_zero, List.set_cons_succ]
          simp [Region.wanted, yielded, eg, undef]
         clear eg
         have hR' := hR (.map (some b)) _ (Below.refl _ _) rfl
         clear hR hd
         refine opGives_value ?_ hR'
         subst hA
         simp only [dsOf, List.map_cons, List.map_nil, Option.getD_some, putAll, Act.put, List.setIfInBounds_toArray, List.set_cons_zero, List.set_cons_succ]
         go_simp
        ·intro s w_ hb hd hq R hR
         generalize hA : putAll _ 0 s _ = A
         have eg : s 10 = _ := hd 10 (by kernel_rfl)
         clear hq
         refine stepG_on ?_ ?_
         ·clear hR hd
          subst hA
          simp only [dsOf, List.map_cons, List.map_nil, Option.getD_some, putAll, Act.put, List.setIfInBounds_toArray, List.set_cons_zero, List.set_cons_succ]
          simp [Region.wanted, yielded, eg, undef]
         clear eg
         have hR' := hR (.pointer (some ⟨wr.heap.size, 1, none⟩)) _ (Below.refl _ _) rfl
         clear hR hd
         refine opGives_value ?_ hR'
         subst hA
         simp only [dsOf, List.map_cons, List.map_nil, Option.getD_some, putAll, Act.put, List.setIfInBounds_toArray, List.set_cons_zero, List.set_cons_succ]
         go_simp
        ·intro s w_ hb hd hq R hR
         generalize hA : putAll _ 0 s _ = A
         have eg : s 10 = _ := hd 10 (by kernel_rfl)
         clear hq
         refine stepG_on ?_ ?_
         ·clear hR hd
          subst hA
          simp only [dsOf, List.map_cons, List.map_nil, Option.getD_some, putAll, Act.put, List.setIfInBounds_toArray, List.set_cons_zero, List.set_cons_succ]
          simp [Region.wanted, yielded, eg, undef]
         clear eg
         have e12 : s 12 = _ := hd 12 (by kernel_rfl)
         have p1 := pw_cell_below hb p1
         have hR' := hR (.int .i64 y) _ (Below.refl _ _) rfl
         clear hR hd
         refine opGives_value ?_ hR'
         subst hA
         simp only [dsOf, List.map_cons, List.map_nil, Option.getD_some, putAll, Act.put, List.setIfInBounds_toArray, List.set_cons_zero, List.set_cons_succ]
         go_simp
        ·intro s w_ hb hd hq R hR
         generalize hA : putAll _ 0 s _ = A
         have eg : s 10 = _ := hd 10 (by kernel_rfl)
         clear hq
         refine stepG_on ?_ ?_
         ·clear hR hd
          subst hA
          simp only [dsOf, List.map_cons, List.map_nil, Option.getD_some, putAll, Act.put, List.setIfInBounds_toArray, List.set_cons_zero, List.set_cons_succ]
          simp [Region.wanted, yielded, eg, undef]
         clear eg
         have e11 : s 11 = _ := hd 11 (by kernel_rfl)
         have e13 : s 13 = _ := hd 13 (by kernel_rfl)
         have hlk := (HS5.out.below hb).look HWY.out
         rw [HSY.out] at hlk
         have hR' := hR (.bool false) _ (Below.refl _ _) rfl
         clear hR hd
         refine opGives_value ?_ hR'
         subst hA
         simp only [dsOf, List.map_cons, List.map_nil, Option.getD_some, putAll, Act.put, List.setIfInBounds_toArray, List.set_cons_zero, List.set_cons_succ]
         go_simp
        ·intro s w_ hb hd hq R hR
         generalize hA : putAll _ 0 s _ = A
         clear hq
         refine stepG_on rfl ?_
         have e10 : s 10 = _ := hd 10 (by kernel_rfl)
         have e14 : s 14 = _ := hd 14 (by kernel_rfl)
         have hR' := hR (.bool false) _ (Below.refl _ _) rfl
         clear hR hd
         refine opGives_value ?_ hR'
         subst hA
         simp only [dsOf, List.map_cons, List.map_nil, Option.getD_some, putAll, Act.put, List.setIfInBounds_toArray, List.set_cons_zero, List.set_cons_succ]
         go_simp
        ·intro s w_ hb hd hq R hR
         generalize hA : putAll _ 0 s _ = A
         clear hq
         refine stepG_on rfl ?_
         have e15 : s 15 = _ := hd 15 (by kernel_rfl)
         have hR' := hR (.bool false) _ (Below.refl _ _) rfl
         clear hR hd
         refine opGives_value ?_ hR'
         subst hA
         simp only [dsOf, List.map_cons, List.map_nil, Option.getD_some, putAll, Act.put, List.setIfInBounds_toArray, List.set_cons_zero, List.set_cons_succ]
         go_simp
        ·intro s w_ hb hd hq R hR
         generalize hA : putAll _ 0 s _ = A
         have eg : s 16 = _ := hd 16 (by kernel_rfl)
         clear hq
         refine stepG_on ?_ ?_
         ·clear hR hd
          subst hA
          simp only [dsOf, List.map_cons, List.map_nil, Option.getD_some, putAll, Act.put, List.setIfInBounds_toArray, List.set_cons_zero, List.set_cons_succ]
          simp [Region.wanted, yielded, eg, undef]
         clear eg
         have hR' := hR (.int .i64 (iv : Int)) _ (Below.refl _ _) rfl
         clear hR hd
         refine opGives_value ?_ hR'
         subst hA
         simp only [dsOf, List.map_cons, List.map_nil, Option.getD_some, putAll, Act.put, List.setIfInBounds_toArray, List.set_cons_zero, List.set_cons_succ]
         go_simp
        ·intro s w_ hb hd hq R hR
         generalize hA : putAll _ 0 s _ = A
         have eg : s 16 = _ := hd 16 (by kernel_rfl)
         clear hq
         refine stepG_on ?_ ?_
         ·clear hR hd
          subst hA
          simp only [dsOf, List.map_cons, List.map_nil, Option.getD_some, putAll, Act.put, List.setIfInBounds_toArray, List.set_cons_zero, List.set_cons_succ]
          simp [Region.wanted, yielded, eg, undef]
         clear eg
         have e17 : s 17 = _ := hd 17 (by kernel_rfl)
         have hgt := HGT.out
         have hR' := hR (.bool false) _ (Below.refl _ _) rfl
         clear hR hd
         refine opGives_value ?_ hR'
         subst hA
         simp only [dsOf, List.map_cons, List.map_nil, Option.getD_some, putAll, Act.put, List.setIfInBounds_toArray, List.set_cons_zero, List.set_cons_succ]
         go_simp
        ·intro s w_ hb hd hq R hR
         generalize hA : putAll _ 0 s _ = A
         have eg : s 16 = _ := hd 16 (by kernel_rfl)
         clear hq
         refine stepG_on ?_ ?_
         ·clear hR hd
          subst hA
          simp only [dsOf, List.map_cons, List.map_nil, Option.getD_some, putAll, Act.put, List.setIfInBounds_toArray, List.set_cons_zero, List.set_cons_succ]
          simp [Region.wanted, yielded, eg, undef]
         clear eg
         have e18 : s 18 = _ := hd 18 (by kernel_rfl)
         have hR' := hR (.bool false) _ (Below.refl _ _) rfl
         clear hR hd
         refine opGives_value ?_ hR'
         subst hA
         simp only [dsOf, List.map_cons, List.map_nil, Option.getD_some, putAll, Act.put, List.setIfInBounds_toArray, List.set_cons_zero, List.set_cons_succ]
         go_simp
        ·intro s w_ hb hd hq R hR
         generalize hA : putAll _ 0 s _ = A
         have eg : s 19 = _ := hd 19 (by kernel_rfl)
         clear hq
         refine stepG_off ?_ (hR undef _ (Below.refl _ _) rfl)
         clear hR hd
         subst hA
         simp only [dsOf, List.map_cons, List.map_nil, Option.getD_some, putAll, Act.put, List.setIfInBounds_toArray, List.set_cons_zero, List.set_cons_succ]
         simp [Region.wanted, yielded, eg, undef]
        ·intro s w_ hb hd hq R hR
         generalize hA : putAll _ 0 s _ = A
         have eg : s 19 = _ := hd 19 (by kernel_rfl)
         clear hq
         refine stepG_off ?_ (hR undef _ (Below.refl _ _) rfl)
         clear hR hd
         subst hA
         simp only [dsOf, List.map_cons, List.map_nil, Option.getD_some, putAll, Act.put, List.setIfInBounds_toArray, List.set_cons_zero, List.set_cons_succ]
         simp [Region.wanted, yielded, eg, undef]
        ·intro s w_ hb hd hq R hR
         generalize hA : putAll _ 0 s _ = A
         have eg : s 19 = _ := hd 19 (by kernel_rfl)
         clear hq
         refine stepG_off ?_ (hR undef _ (Below.refl _ _) rfl)
         clear hR hd
         subst hA
         simp only [dsOf, List.map_cons, List.map_nil, Option.getD_some, putAll, Act.put, List.setIfInBounds_toArray, List.set_cons_zero, List.set_cons_succ]
         simp [Region.wanted, yielded, eg, undef]
        ·intro s w_ hb hd hq R hR
         generalize hA : putAll _ 0 s _ = A
         have eg : s 19 = _ := hd 19 (by kernel_rfl)
         clear hq
         refine stepG_off ?_ (hR undef _ (Below.refl _ _) rfl)
         clear hR hd
         subst hA
         simp only [dsOf, List.map_cons, List.map_nil, Option.getD_some, putAll, Act.put, List.setIfInBounds_toArray, List.set_cons_zero, List.set_cons_succ]
         simp [Region.wanted, yielded, eg, undef]
        ·intro s w_ hb hd hq R hR
         generalize hA : putAll _ 0 s _ = A
         have eg : s 19 = _ := hd 19 (by kernel_rfl)
         clear hq
         refine stepG_off ?_ (hR undef _ (Below.refl _ _) rfl)
         clear hR hd
         subst hA
         simp only [dsOf, List.map_cons, List.map_nil, Option.getD_some, putAll, Act.put, List.setIfInBounds_toArray, List.set_cons_zero, List.set_cons_succ]
         simp [Region.wanted, yielded, eg, undef]
        ·intro s w_ hb hd hq R hR
         generalize hA : putAll _ 0 s _ = A
         have eg : s 19 = _ := hd 19 (by kernel_rfl)
         clear hq
         refine stepG_off ?_ (hR undef _ (Below.refl _ _) rfl)
         clear hR hd
         subst hA
         simp only [dsOf, List.map_cons, List.map_nil, Option.getD_some, putAll, Act.put, List.setIfInBounds_toArray, List.set_cons_zero, List.set_cons_succ]
         simp [Region.wanted, yielded, eg, undef]
        ·intro s w_ hb hd hq R hR
         generalize hA : putAll _ 0 s _ = A
         have eg : s 19 = _ := hd 19 (by kernel_rfl)
         clear hq
         refine stepG_off ?_ (hR undef _ (Below.refl _ _) rfl)
         clear hR hd
         subst hA
         simp only [dsOf, List.map_cons, List.map_nil, Option.getD_some, putAll, Act.put, List.setIfInBounds_toArray, List.set_cons_zero, List.set_cons_succ]
         simp [Region.wanted, yielded, eg, undef]
        ·intro s w_ hb hd hq R hR
         generalize hA : putAll _ 0 s _ = A
         have eg : s 19 = _ := hd 19 (by kernel_rfl)
         clear hq
         refine stepG_off ?_ (hR undef _ (Below.refl _ _) rfl)
         clear hR hd
         subst hA
         simp only [dsOf, List.map_cons, List.map_nil, Option.getD_some, putAll, Act.put, List.setIfInBounds_toArray, List.set_cons_zero, List.set_cons_succ]
         simp [Region.wanted, yielded, eg, undef]
        ·intro s w_ hb hd hq R hR
         generalize hA : putAll _ 0 s _ = A
         have eg : s 16 = _ := hd 16 (by kernel_rfl)
         clear hq
         refine stepG_on ?_ ?_
         ·clear hR hd
          subst hA
          simp only [dsOf, List.map_cons, List.map_nil, Option.getD_some, putAll, Act.put, List.setIfInBounds_toArray, List.set_cons_zero, List.set_cons_succ]
          simp [Region.wanted, yielded, eg, undef]
         clear eg
         have e19 : s 19 = _ := hd 19 (by kernel_rfl)
         have e27 : s 27 = _ := hd 27 (by kernel_rfl)
         have hR' := hR (.bool false) _ (Below.refl _ _) rfl
         clear hR hd
         refine opGives_value ?_ hR'
         subst hA
         simp only [dsOf, List.map_cons, List.map_nil, Option.getD_some, putAll, Act.put, List.setIfInBounds_toArray, List.set_cons_zero, List.set_cons_succ]
         go_simp
        ·intro s w_ hb hd hq R hR
         generalize hA : putAll _ 0 s _ = A
         clear hq
         refine stepG_on rfl ?_
         have e16 : s 16 = _ := hd 16 (by kernel_rfl)
         have e28 : s 28 = _ := hd 28 (by kernel_rfl)
         have hR' := hR (.bool false) _ (Below.refl _ _) rfl
         clear hR hd
         refine opGives_value ?_ hR'
         subst hA
         simp only [dsOf, List.map_cons, List.map_nil, Option.getD_some, putAll, Act.put, List.setIfInBounds_toArray, List.set_cons_zero, List.set_cons_succ]
         go_simp
       case rest =>
        intro s9 w9 hb hv
        have e29_ : s9 29 = _ := hv 29 (by decide)
        simp only [dsOf, List.map_cons, List.map_nil, Option.getD_some, putAll, Act.put, List.setIfInBounds_toArray, List.set_cons_zero, List.set_cons_succ]
        rw [e29_]
        clear hv e29_
        have HB9 := Aside0.mk (Below.trans HB5.out (Below.mono hb HB5.out.size))
        have HS9 := Aside0.mk (HS5.out.below hb)
        replace p0 := pw_cell_below hb p0
        replace p1 := pw_cell_below hb p1
        clear hb
        have hnb : wr.heap.size ≠ b := Nat.ne_of_gt HSr.out.lt
        go_wp2
        refine wp_region_j 6 (fun i => match i with | 0 => fun v => v = .map (some b) | 1 => fun v => v = .pointer (some ⟨wr.heap.size, 0, none⟩) | 2 => fun v => v = .int .i64 x | 3 => fun v => v = .map (some b) | 4 => fun v => v = .pointer (some ⟨wr.heap.size, 1, none⟩) | 5 => fun v => v = .int .i64 y | _ => fun _ => True) (PI (seenP ps iv) b (2 * iv) x y w9) [0, 0, 2, 0, 0, 16, 7, 127] hmx (by kernel_rfl) (fun bb h => PI.start HS9.out bb h) (fun i bb w1 hi h => h.stay hi) (fun bb bb' w1 e h => h.congr e) ?hs ?ht ?hend
        case hs =>
         intro i o hi ho s bb w_ hb hd R hR
         match i, hi, ho with
         | 0, _, ho =>
          injection ho with ho
          subst ho
          generalize hA : putAll _ 0 s _ = A
          have hR' := hR (.map (some b)) rfl
          clear hR hd hb
          refine opGives_value ?_ hR'
          subst hA
          simp only [dsOf, List.take, List.map_cons, List.map_nil, Option.getD_some, putAll, Act.put, List.setIfInBounds_toArray, List.set_cons_zero, List.set_cons_succ]
          go_simp
         | 1, _, ho =>
          injection ho with ho
          subst ho
          generalize hA : putAll _ 0 s _ = A
          have hR' := hR (.pointer (some ⟨wr.heap.size, 0, none⟩)) rfl
          clear hR hd hb
          refine opGives_value ?_ hR'
          subst hA
          simp only [dsOf, List.take, List.map_cons, List.map_nil, Option.getD_some, putAll, Act.put, List.setIfInBounds_toArray, List.set_cons_zero, List.set_cons_succ]
          go_simp
         | 2, _, ho =>
          injection ho with ho
          subst ho
          generalize hA : putAll _ 0 s _ = A
          have e1 : s 1 = _ := hd 1 (by decide) (by kernel_rfl)
          have p0 := grown_cell hb.1 p0 hnb
          have hR' := hR (.int .i64 x) rfl
          clear hR hd hb
          refine opGives_value ?_ hR'
          subst hA
          simp only [dsOf, List.take, List.map_cons, List.map_nil, Option.getD_some, putAll, Act.put, List.setIfInBounds_toArray, List.set_cons_zero, List.set_cons_succ]
          go_simp
         | 3, _, ho =>
          injection ho with ho
          subst ho
          generalize hA : putAll _ 0 s _ = A
          have hR' := hR (.map (some b)) rfl
          clear hR hd hb
          refine opGives_value ?_ hR'
          subst hA
          simp only [dsOf, List.take, List.map_cons, List.map_nil, Option.getD_some, putAll, Act.put, List.setIfInBounds_toArray, List.set_cons_zero, List.set_cons_succ]
          go_simp
         | 4, _, ho =>
          injection ho with ho
          subst ho
          generalize hA : putAll _ 0 s _ = A
          have hR' := hR (.pointer (some ⟨wr.heap.size, 1, none⟩)) rfl
          clear hR hd hb
          refine opGives_value ?_ hR'
          subst hA
          simp only [dsOf, List.take, List.map_cons, List.map_nil, Option.getD_some, putAll, Act.put, List.setIfInBounds_toArray, List.set_cons_zero, List.set_cons_succ]
          go_simp
         | 5, _, ho =>
          injection ho with ho
          subst ho
          generalize hA : putAll _ 0 s _ = A
          have e4 : s 4 = _ := hd 4 (by decide) (by kernel_rfl)
          have p1 := grown_cell hb.1 p1 hnb
          have hR' := hR (.int .i64 y) rfl
          clear hR hd hb
          refine opGives_value ?_ hR'
          subst hA
          simp only [dsOf, List.take, List.map_cons, List.map_nil, Option.getD_some, putAll, Act.put, List.setIfInBounds_toArray, List.set_cons_zero, List.set_cons_succ]
          go_simp
        case ht =>
         intro i o hi hil ho s bb w_ hb hbi hon hd
         match i, hi, hil, ho with
         | 6, _, _, ho =>
          injection ho with ho
          subst ho
          generalize hA : putAll _ 0 s _ = A
          have e0 : s 0 = _ := hd 0 (by decide) (by kernel_rfl)
          have e1 : s 1 = _ := hd 1 (by decide) (by kernel_rfl)
          have e2 : s 2 = _ := hd 2 (by decide) (by kernel_rfl)
          obtain ⟨w6, hr, hI⟩ := hb.put6 hbi HWX.out HK9.out
          refine ⟨w6, ?_, hI⟩
          clear hI hd hb hon
          subst hA
          simp only [dsOf, List.take, List.map_cons, List.map_nil, Option.getD_some, putAll, Act.put, List.setIfInBounds_toArray, List.set_cons_zero, List.set_cons_succ]
          go_simp
         | 7, _, _, ho =>
          injection ho with ho
          subst ho
          generalize hA : putAll _ 0 s _ = A
          have e0 : s 0 = _ := hd 0 (by decide) (by kernel_rfl)
          have e1 : s 1 = _ := hd 1 (by decide) (by kernel_rfl)
          have e2 : s 2 = _ := hd 2 (by decide) (by kernel_rfl)
          have e3 : s 3 = _ := hd 3 (by decide) (by kernel_rfl)
          have e4 : s 4 = _ := hd 4 (by decide) (by kernel_rfl)
          have e5 : s 5 = _ := hd 5 (by decide) (by kernel_rfl)
          obtain ⟨w6, hr, hI⟩ := hb.put7 hbi HWY.out HK9.out
          refine ⟨w6, ?_, hI⟩
          clear hI hd hb hon
          subst hA
          simp only [dsOf, List.take, List.map_cons, List.map_nil, Option.getD_some, putAll, Act.put, List.setIfInBounds_toArray, List.set_cons_zero, List.set_cons_succ]
          go_simp
        case hend =>
         intro s bb w7 hI hall hv
         have HSn : Aside0 (SetI (seenP ps (iv + 1)) b (2 * (iv + 1)) w7) := ⟨hI.fin (hall 6 (by decide)) (hall 7 (by decide)) (seenTo_succ HXY.out)⟩
         have HBn := Aside0.mk (map_step1 HBr.out HB9.out hI.1 HBB.out)
         clear hI hall hv
         simp only [dsOf, List.take, List.map_cons, List.map_nil, Option.getD_some, putAll, Act.put, List.setIfInBounds_toArray, List.set_cons_zero, List.set_cons_succ]
         go_wp2
         go_roundw
         case rel => exact ⟨iv + 1, by go_num, by omega, HI2, HBn, HSn⟩
         case measure => simp [intOf]; omega
      ·have HGT : Aside0 (decide (0 < iv) = true) := ⟨decide_eq_true (by omega)⟩
       have H1I : Aside0 ((0 : Int) ≤ (iv : Int) - 1 ∧ (iv : Int) - 1 < (ps.length : Int)) := ⟨by omega, by omega⟩
       have HWR : Aside0 (IntKind.i64.wrap ((iv : Int) - 1) = (iv : Int) - 1) := ⟨IntWalk.i64_in _ (by omega)⟩
       have H3I : Aside0 (((iv : Int) - 1).toNat = iv - 1) := ⟨by omega⟩
       obtain ⟨g2, x', y', e2, hxy', hd0, hd1⟩ := ReadP.get (HV.out.below HBr.out) (i := iv - 1) (by omega)
       cases e2
       have q0 := pw_cell_below HB5.out hd0
       have q1 := pw_cell_below HB5.out hd1
       have hcl := cmpP_less x' y' x y
       obtain ⟨CM, hCM⟩ : ∃ CM, CM = cmpP x' y' x y := ⟨_, rfl⟩
       have HCM : Aside0 (∀ W : World, Calls Tryz.prog 202 #[.agg #[.int .i64 x', .int .i64 y'], .agg #[.int .i64 x, .int .i64 y]] W fun e w' => e = .returned (.int .i64 CM) ∧ Below W.heap.size W w') := ⟨fun W => by rw [hCM]; exact comparePairs x' y' x y W⟩
       rw [← hCM] at hcl
       obtain ⟨C0, hC0⟩ : ∃ C0, C0 = decide (0 ≤ CM) := ⟨_, rfl⟩
       have HCC := Aside0.mk hC0.symm
       have HLL : Aside0 (lessP x' y' x y = !C0) := ⟨by rw [hC0, hcl, Bool.not_not]⟩
       have HNF : Aside0 (lessP x' y' x y = false → pOk xs ps = false) := ⟨fun h => pOk_false hlt (pOkAt_less h0 hxy hxy' h)⟩
       have HYT : Aside0 (lessP x' y' x y = true → (decide (iv = 0) || lessP (ps.getD (iv - 1) (0, 0)).1 (ps.getD (iv - 1) (0, 0)).2 (ps.getD iv (0, 0)).1 (ps.getD iv (0, 0)).2) = true) := ⟨fun h => by rw [List.getD_eq_getElem?_getD, hxy', List.getD_eq_getElem?_getD, hxy]; show (_ || lessP x' y' x y) = true; rw [h, Bool.or_true]⟩
       clear h0 hxy hxy' hb5 hC0 hCM hcl hd0 hd1
       go_wp2
       rw [← hw5]
       clear hw5 hc0 hc1
       replace c0 := pw_cell_below HB5.out c0
       replace c1 := pw_cell_below HB5.out c1
       refine wp_region_gg Bl (fun w => (Below.refl _ w).drew) (fun _ _ _ => Bl.trans) (fun i => match i with | 0 => fun v _ => v = .agg #[.int .i64 (n : Int), .slice A1 xs.length d1] | 1 => fun v _ => v = .agg #[.int .i64 x, .int .i64 y] | 2 => fun v _ => v = .bool true | 3 => fun v _ => v = .bool false | 4 => fun v _ => v = .bool false | 5 => fun v _ => v = .map (some b) | 6 => fun v _ => v = .pointer (some ⟨wr.heap.size, 0, none⟩) | 7 => fun v _ => v = .int .i64 x | 8 => fun v _ => v = .bool false | 9 => fun v _ => v = .bool false | 10 => fun v _ => v = .bool false | 11 => fun v _ => v = .map (some b) | 12 => fun v _ => v = .pointer (some ⟨wr.heap.size, 1, none⟩) | 13 => fun v _ => v = .int .i64 y | 14 => fun v _ => v = .bool false | 15 => fun v _ => v = .bool false | 16 => fun v _ => v = .bool false | 17 => fun v _ => v = .int .i64 (iv : Int) | 18 => fun v _ => v = .bool true | 19 => fun v _ => v = .bool true | 20 => fun v _ => v = .slice (some ⟨g, 0, none⟩) ps.length d2 | 21 => fun v _ => v = .int .i64 (iv : Int) | 22 => fun v _ => v = .int .i64 ((iv : Int) - 1) | 23 => fun v _ => v = .pointer (some ⟨g, (iv - 1) * 2, none⟩) | 24 => fun v _ => v = .agg #[.int .i64 x', .int .i64 y'] | 25 => fun v _ => v = .agg #[.int .i64 x, .int .i64 y] | 26 => fun v _ => v = .int .i64 CM | 27 => fun v _ => v = .bool C0 | 28 => fun v _ => v = .bool C0 | 29 => fun v _ => v = .bool C0 | _ => fun _ _ => True)
        [0, 0, 3, 7, 15, 31, 31, 95, 255, 511, 1023, 2047, 2047, 6143, 16383, 32767, 65535, 131071, 262143, 524287, 1048575, 1048575, 3145727, 8388607, 16777215, 1048575, 67108863, 134217727, 268435455, 536870911] hmx (by kernel_rfl) ?st ?steps ?rest
       case st =>
        intro i v w1_ w2_ hb
        match i with
        | 0 | 1 | 2 | 3 | 4 | 5 | 6 | 7 | 8 | 9 | 10 | 11 | 12 | 13 | 14 | 15 | 16 | 17 | 18 | 19 | 20 | 21 | 22 | 23 | 24 | 25 | 26 | 27 | 28 | 29 => exact id
        | n + 30 => exact id
       case steps =>
        refine ⟨?_, ?_, ?_, ?_, ?_, ?_, ?_, ?_, ?_, ?_, ?_, ?_, ?_, ?_, ?_, ?_, ?_, ?_, ?_, ?_, ?_, ?_, ?_, ?_, ?_, ?_, ?_, ?_, ?_, ?_, trivial⟩
        ·intro s w_ hb hd hq R hR
         generalize hA : putAll _ 0 s _ = A
         clear hq
         refine stepG_on rfl ?_
         have c0 := pw_cell_below hb c0
         have c1 := pw_cell_below hb c1
         have hR' := hR (.agg #[.int .i64 (n : Int), .slice A1 xs.length d1]) _ (Below.refl _ _) rfl
         clear hR hd
         refine opGives_value ?_ hR'
         subst hA
         simp only [dsOf, List.map_cons, List.map_nil, Option.getD_some, putAll, Act.put, List.setIfInBounds_toArray, List.set_cons_zero, List.set_cons_succ]
         go_simp
        ·intro s w_ hb hd hq R hR
         generalize hA : putAll _ 0 s _ = A
         clear hq
         refine stepG_on rfl ?_
         have p0 := pw_cell_below hb p0
         have p1 := pw_cell_below hb p1
         have hR' := hR (.agg #[.int .i64 x, .int .i64 y]) _ (Below.refl _ _) rfl
         clear hR hd
         refine opGives_value ?_ hR'
         subst hA
         simp only [dsOf, List.map_cons, List.map_nil, Option.getD_some, putAll, Act.put, List.setIfInBounds_toArray, List.set_cons_zero, List.set_cons_succ]
         go_simp
        ·intro s w_ hb hd hq R hR
         generalize hA : putAll _ 0 s _ = A
         clear hq
         refine stepG_on rfl ?_
         have e0 : s 0 = _ := hd 0 (by kernel_rfl)
         have e1 : s 1 = _ := hd 1 (by kernel_rfl)
         refine opGives_call (f := 239) (args := #[.agg #[.int .i64 (n : Int), .slice A1 xs.length d1], .agg #[.int .i64 x, .int .i64 y]]) ?_ ?_
         ·subst hA
          clear hR hd
          simp only [dsOf, List.map_cons, List.map_nil, Option.getD_some, putAll, Act.put, List.setIfInBounds_toArray, List.set_cons_zero, List.set_cons_succ]
          go_simp
         clear hA A hd
         refine (HPA.out w_ (Below.trans HB5.out (Below.mono hb HB5.out.size))).mono ?_
         rintro e w3_ ⟨rfl, hb3⟩
         exact ⟨_, rfl, hR _ _ hb3 rfl⟩
        ·intro s w_ hb hd hq R hR
         generalize hA : putAll _ 0 s _ = A
         clear hq
         refine stepG_on rfl ?_
         have e2 : s 2 = _ := hd 2 (by kernel_rfl)
         have hR' := hR (.bool false) _ (Below.refl _ _) rfl
         clear hR hd
         refine opGives_value ?_ hR'
         subst hA
         simp only [dsOf, List.map_cons, List.map_nil, Option.getD_some, putAll, Act.put, List.setIfInBounds_toArray, List.set_cons_zero, List.set_cons_succ]
         go_simp
        ·intro s w_ hb hd hq R hR
         generalize hA : putAll _ 0 s _ = A
         clear hq
         refine stepG_on rfl ?_
         have e3 : s 3 = _ := hd 3 (by kernel_rfl)
         have hR' := hR (.bool false) _ (Below.refl _ _) rfl
         clear hR hd
         refine opGives_value ?_ hR'
         subst hA
         simp only [dsOf, List.map_cons, List.map_nil, Option.getD_some, putAll, Act.put, List.setIfInBounds_toArray, List.set_cons_zero, List.set_cons_succ]
         go_simp
        ·intro s w_ hb hd hq R hR
         generalize hA : putAll _ 0 s _ = A
         have eg : s 4 = _ := hd 4 (by kernel_rfl)
         clear hq
         refine stepG_on ?_ ?_
         ·clear hR hd
          subst hA
          simp only [dsOf, List.map_cons, List.map_nil, Option.getD_some, putAll, Act.put, List.setIfInBounds_toArray, List.set_cons_zero, List.set_cons_succ]
          simp [Region.wanted, yielded, eg, undef]
         clear eg
         have hR' := hR (.map (some b)) _ (Below.refl _ _) rfl
         clear hR hd
         refine opGives_value ?_ hR'
         subst hA
         simp only [dsOf, List.map_cons, List.map_nil, Option.getD_some, putAll, Act.put, List.setIfInBounds_toArray, List.set_cons_zero, List.set_cons_succ]
         go_simp
        ·intro s w_ hb hd hq R hR
         generalize hA : putAll _ 0 s _ = A
         have eg : s 4 = _ := hd 4 (by kernel_rfl)
         clear hq
         refine stepG_on ?_ ?_
         ·clear hR hd
          subst hA
          simp only [dsOf, List.map_cons, List.map_nil, Option.getD_some, putAll, Act.put, List.setIfInBounds_toArray, List.set_cons_zero, List.set_cons_succ]
          simp [Region.wanted, yielded, eg, undef]
         clear eg
         have hR' := hR (.pointer (some ⟨wr.heap.size, 0, none⟩)) _ (Below.refl _ _) rfl
         clear hR hd
         refine opGives_value ?_ hR'
         subst hA
         simp only [dsOf, List.map_cons, List.map_nil, Option.getD_some, putAll, Act.put, List.setIfInBounds_toArray, List.set_cons_zero, List.set_cons_succ]
         go_simp
        ·intro s w_ hb hd hq R hR
         generalize hA : putAll _ 0 s _ = A
         have eg : s 4 = _ := hd 4 (by kernel_rfl)
         clear hq
         refine stepG_on ?_ ?_
         ·clear hR hd
          subst hA
          simp only [dsOf, List.map_cons, List.map_nil, Option.getD_some, putAll, Act.put, List.setIfInBounds_toArray, List.set_cons_zero, List.set_cons_succ]
          simp [Region.wanted, yielded, eg, undef]
         clear eg
         have e6 : s 6 = _ := hd 6 (by kernel_rfl)
         have p0 := pw_cell_below hb p0
         have hR' := hR (.int .i64 x) _ (Below.refl _ _) rfl
         clear hR hd
         refine opGives_value ?_ hR'
         subst hA
         simp only [dsOf, List.map_cons, List.map_nil, Option.getD_some, putAll, Act.put, List.setIfInBounds_toArray, List.set_cons_zero, List.set_cons_succ]
         go_simp
        ·intro s w_ hb hd hq R hR
         generalize hA : putAll _ 0 s _ = A
         have eg : s 4 = _ := hd 4 (by kernel_rfl)
         clear hq
         refine stepG_on ?_ ?_
         ·clear hR hd
          subst hA
          simp only [dsOf, List.map_cons, List.map_nil, Option.getD_some, putAll, Act.put, List.setIfInBounds_toArray, List.set_cons_zero, List.set_cons_succ]
          simp [Region.wanted, yielded, eg, undef]
         clear eg
         have e5 : s 5 = _ := hd 5 (by kernel_rfl)
         have e7 : s 7 = _ := hd 7 (by kernel_rfl)
         have hlk := (HS5.out.below hb).look HWX.out
         rw [HSX.out] at hlk
         have hR' := hR (.bool false) _ (Below.refl _ _) rfl
         clear hR hd
         refine opGives_value ?_ hR'
         subst hA
         simp only [dsOf, List.map_cons, List.map_nil, Option.getD_some, putAll, Act.put, List.setIfInBounds_toArray, List.set_cons_zero, List.set_cons_succ]
         go_simp
        ·intro s w_ hb hd hq R hR
         generalize hA : putAll _ 0 s _ = A
         clear hq
         refine stepG_on rfl ?_
         have e4 : s 4 = _ := hd 4 (by kernel_rfl)
         have e8 : s 8 = _ := hd 8 (by kernel_rfl)
         have hR' := hR (.bool false) _ (Below.refl _ _) rfl
         clear hR hd
         refine opGives_value ?_ hR'
         subst hA
         simp only [dsOf, List.map_cons, List.map_nil, Option.getD_some, putAll, Act.put, List.setIfInBounds_toArray, List.set_cons_zero, List.set_cons_succ]
         go_simp
        ·intro s w_ hb hd hq R hR
         generalize hA : putAll _ 0 s _ = A
         clear hq
         refine stepG_on rfl ?_
         have e9 : s 9 = _ := hd 9 (by kernel_rfl)
         have hR' := hR (.bool false) _ (Below.refl _ _) rfl
         clear hR hd
         refine opGives_value ?_ hR'
         subst hA
         simp only [dsOf, List.map_cons, List.map_nil, Option.getD_some, putAll, Act.put, List.setIfInBounds_toArray, List.set_cons_zero, List.set_cons_succ]
         go_simp
        ·intro s w_ hb hd hq R hR
         generalize hA : putAll _ 0 s _ = A
         have eg : s 10 = _ := hd 10 (by kernel_rfl)
         clear hq
         refine stepG_on ?_ ?_
         ·clear hR hd
          subst hA
          simp only [dsOf, List.map_cons, List.map_nil, Option.getD_some, putAll, Act.put, List.setIfInBounds_toArray, List.set_cons_zero, List.set_cons_succ]
          simp [Region.wanted, yielded, eg, undef]
         clear eg
         have hR' := hR (.map (some b)) _ (Below.refl _ _) rfl
         clear hR hd
         refine opGives_value ?_ hR'
         subst hA
         simp only [dsOf, List.map_cons, List.map_nil, Option.getD_some, putAll, Act.put, List.setIfInBounds_toArray, List.set_cons_zero, List.set_cons_succ]
         go_simp
        ·intro s w_ hb hd hq R hR
         generalize hA : putAll _ 0 s _ = A
         have eg : s 10 = _ := hd 10 (by kernel_rfl)
         clear hq
         refine stepG_on ?_ ?_
         ·clear hR hd
          subst hA
          simp only [dsOf, List.map_cons, List.map_nil, Option.getD_some, putAll, Act.put, List.setIfInBounds_toArray, List.set_cons_zero, List.set_cons_succ]
          simp [Region.wanted, yielded, eg, undef]
         clear eg
         have hR' := hR (.pointer (some ⟨wr.heap.size, 1, none⟩)) _ (Below.refl _ _) rfl
         clear hR hd
         refine opGives_value ?_ hR'
         subst hA
         simp only [dsOf, List.map_cons, List.map_nil, Option.getD_some, putAll, Act.put, List.setIfInBounds_toArray, List.set_cons_zero, List.set_cons_succ]
         go_simp
        ·intro s w_ hb hd hq R hR
         generalize hA : putAll _ 0 s _ = A
         have eg : s 10 = _ := hd 10 (by kernel_rfl)
         clear hq
         refine stepG_on ?_ ?_
         ·clear hR hd
          subst hA
          simp only [dsOf, List.map_cons, List.map_nil, Option.getD_some, putAll, Act.put, List.setIfInBounds_toArray, List.set_cons_zero, List.set_cons_succ]
          simp [Region.wanted, yielded, eg, undef]
         clear eg
         have e12 : s 12 = _ := hd 12 (by kernel_rfl)
         have p1 := pw_cell_below hb p1
         have hR' := hR (.int .i64 y) _ (Below.refl _ _) rfl
         clear hR hd
         refine opGives_value ?_ hR'
         subst hA
         simp only [dsOf, List.map_cons, List.map_nil, Option.getD_some, putAll, Act.put, List.setIfInBounds_toArray, List.set_cons_zero, List.set_cons_succ]
         go_simp
        ·intro s w_ hb hd hq R hR
         generalize hA : putAll _ 0 s _ = A
         have eg : s 10 = _ := hd 10 (by kernel_rfl)
         clear hq
         refine stepG_on ?_ ?_
         ·clear hR hd
          subst hA
          simp only [dsOf, List.map_cons, List.map_nil, Option.getD_some, putAll, Act.put, List.setIfInBounds_toArray, List.set_cons_zero, List.set_cons_succ]
          simp [Region.wanted, yielded, eg, undef]
         clear eg
         have e11 : s 11 = _ := hd 11 (by kernel_rfl)
         have e13 : s 13 = _ := hd 13 (by kernel_rfl)
         have hlk := (HS5.out.below hb).look HWY.out
         rw [HSY.out] at hlk
         have hR' := hR (.bool false) _ (Below.refl _ _) rfl
         clear hR hd
         refine opGives_value ?_ hR'
         subst hA
         simp only [dsOf, List.map_cons, List.map_nil, Option.getD_some, putAll, Act.put, List.setIfInBounds_toArray, List.set_cons_zero, List.set_cons_succ]
         go_simp
        ·intro s w_ hb hd hq R hR
         generalize hA : putAll _ 0 s _ = A
         clear hq
         refine stepG_on rfl ?_
         have e10 : s 10 = _ := hd 10 (by kernel_rfl)
         have e14 : s 14 = _ := hd 14 (by kernel_rfl)
         have hR' := hR (.bool false) _ (Below.refl _ _) rfl
         clear hR hd
         refine opGives_value ?_ hR'
         subst hA
         simp only [dsOf, List.map_cons, List.map_nil, Option.getD_some, putAll, Act.put, List.setIfInBounds_toArray, List.set_cons_zero, List.set_cons_succ]
         go_simp
        ·intro s w_ hb hd hq R hR
         generalize hA : putAll _ 0 s _ = A
         clear hq
         refine stepG_on rfl ?_
         have e15 : s 15 = _ := hd 15 (by kernel_rfl)
         have hR' := hR (.bool false) _ (Below.refl _ _) rfl
         clear hR hd
         refine opGives_value ?_ hR'
         subst hA
         simp only [dsOf, List.map_cons, List.map_nil, Option.getD_some, putAll, Act.put, List.setIfInBounds_toArray, List.set_cons_zero, List.set_cons_succ]
         go_simp
        ·intro s w_ hb hd hq R hR
         generalize hA : putAll _ 0 s _ = A
         have eg : s 16 = _ := hd 16 (by kernel_rfl)
         clear hq
         refine stepG_on ?_ ?_
         ·clear hR hd
          subst hA
          simp only [dsOf, List.map_cons, List.map_nil, Option.getD_some, putAll, Act.put, List.setIfInBounds_toArray, List.set_cons_zero, List.set_cons_succ]
          simp [Region.wanted, yielded, eg, undef]
         clear eg
         have hR' := hR (.int .i64 (iv : Int)) _ (Below.refl _ _) rfl
         clear hR hd
         refine opGives_value ?_ hR'
         subst hA
         simp only [dsOf, List.map_cons, List.map_nil, Option.getD_some, putAll, Act.put, List.setIfInBounds_toArray, List.set_cons_zero, List.set_cons_succ]
         go_simp
        ·intro s w_ hb hd hq R hR
         generalize hA : putAll _ 0 s _ = A
         have eg : s 16 = _ := hd 16 (by kernel_rfl)
         clear hq
         refine stepG_on ?_ ?_
         ·clear hR hd
          subst hA
          simp only [dsOf, List.map_cons, List.map_nil, Option.getD_some, putAll, Act.put, List.setIfInBounds_toArray, List.set_cons_zero, List.set_cons_succ]
          simp [Region.wanted, yielded, eg, undef]
         clear eg
         have e17 : s 17 = _ := hd 17 (by kernel_rfl)
         have hgt := HGT.out
         have hR' := hR (.bool true) _ (Below.refl _ _) rfl
         clear hR hd
         refine opGives_value ?_ hR'
         subst hA
         simp only [dsOf, List.map_cons, List.map_nil, Option.getD_some, putAll, Act.put, List.setIfInBounds_toArray, List.set_cons_zero, List.set_cons_succ]
         go_simp
        ·intro s w_ hb hd hq R hR
         generalize hA : putAll _ 0 s _ = A
         have eg : s 16 = _ := hd 16 (by kernel_rfl)
         clear hq
         refine stepG_on ?_ ?_
         ·clear hR hd
          subst hA
          simp only [dsOf, List.map_cons, List.map_nil, Option.getD_some, putAll, Act.put, List.setIfInBounds_toArray, List.set_cons_zero, List.set_cons_succ]
          simp [Region.wanted, yielded, eg, undef]
         clear eg
         have e18 : s 18 = _ := hd 18 (by kernel_rfl)
         have hR' := hR (.bool true) _ (Below.refl _ _) rfl
         clear hR hd
         refine opGives_value ?_ hR'
         subst hA
         simp only [dsOf, List.map_cons, List.map_nil, Option.getD_some, putAll, Act.put, List.setIfInBounds_toArray, List.set_cons_zero, List.set_cons_succ]
         go_simp
        ·intro s w_ hb hd hq R hR
         generalize hA : putAll _ 0 s _ = A
         have eg : s 19 = _ := hd 19 (by kernel_rfl)
         clear hq
         refine stepG_on ?_ ?_
         ·clear hR hd
          subst hA
          simp only [dsOf, List.map_cons, List.map_nil, Option.getD_some, putAll, Act.put, List.setIfInBounds_toArray, List.set_cons_zero, List.set_cons_succ]
          simp [Region.wanted, yielded, eg, undef]
         clear eg
         have hR' := hR (.slice (some ⟨g, 0, none⟩) ps.length d2) _ (Below.refl _ _) rfl
         clear hR hd
         refine opGives_value ?_ hR'
         subst hA
         simp only [dsOf, List.map_cons, List.map_nil, Option.getD_some, putAll, Act.put, List.setIfInBounds_toArray, List.set_cons_zero, List.set_cons_succ]
         go_simp
        ·intro s w_ hb hd hq R hR
         generalize hA : putAll _ 0 s _ = A
         have eg : s 19 = _ := hd 19 (by kernel_rfl)
         clear hq
         refine stepG_on ?_ ?_
         ·clear hR hd
          subst hA
          simp only [dsOf, List.map_cons, List.map_nil, Option.getD_some, putAll, Act.put, List.setIfInBounds_toArray, List.set_cons_zero, List.set_cons_succ]
          simp [Region.wanted, yielded, eg, undef]
         clear eg
         have hR' := hR (.int .i64 (iv : Int)) _ (Below.refl _ _) rfl
         clear hR hd
         refine opGives_value ?_ hR'
         subst hA
         simp only [dsOf, List.map_cons, List.map_nil, Option.getD_some, putAll, Act.put, List.setIfInBounds_toArray, List.set_cons_zero, List.set_cons_succ]
         go_simp
        ·intro s w_ hb hd hq R hR
         generalize hA : putAll _ 0 s _ = A
         have eg : s 19 = _ := hd 19 (by kernel_rfl)
         clear hq
         refine stepG_on ?_ ?_
         ·clear hR hd
          subst hA
          simp only [dsOf, List.map_cons, List.map_nil, Option.getD_some, putAll, Act.put, List.setIfInBounds_toArray, List.set_cons_zero, List.set_cons_succ]
          simp [Region.wanted, yielded, eg, undef]
         clear eg
         have e21 : s 21 = _ := hd 21 (by kernel_rfl)
         have hwr := HWR.out
         have hR' := hR (.int .i64 ((iv : Int) - 1)) _ (Below.refl _ _) rfl
         clear hR hd
         refine opGives_value ?_ hR'
         subst hA
         simp only [dsOf, List.map_cons, List.map_nil, Option.getD_some, putAll, Act.put, List.setIfInBounds_toArray, List.set_cons_zero, List.set_cons_succ]
         go_simp
        ·intro s w_ hb hd hq R hR
         generalize hA : putAll _ 0 s _ = A
         have eg : s 19 = _ := hd 19 (by kernel_rfl)
         clear hq
         refine stepG_on ?_ ?_
         ·clear hR hd
          subst hA
          simp only [dsOf, List.map_cons, List.map_nil, Option.getD_some, putAll, Act.put, List.setIfInBounds_toArray, List.set_cons_zero, List.set_cons_succ]
          simp [Region.wanted, yielded, eg, undef]
         clear eg
         have e20 : s 20 = _ := hd 20 (by kernel_rfl)
         have e22 : s 22 = _ := hd 22 (by kernel_rfl)
         have h1i := H1I.out.1
         have h5i : ¬ ((iv : Int) < 1) := by omega
         have h2i := H1I.out.2
         have h3i := H3I.out
         have hR' := hR (.pointer (some ⟨g, (iv - 1) * 2, none⟩)) _ (Below.refl _ _) rfl
         clear hR hd
         refine opGives_value ?_ hR'
         subst hA
         simp only [dsOf, List.map_cons, List.map_nil, Option.getD_some, putAll, Act.put, List.setIfInBounds_toArray, List.set_cons_zero, List.set_cons_succ]
         go_simp
        ·intro s w_ hb hd hq R hR
         generalize hA : putAll _ 0 s _ = A
         have eg : s 19 = _ := hd 19 (by kernel_rfl)
         clear hq
         refine stepG_on ?_ ?_
         ·clear hR hd
          subst hA
          simp only [dsOf, List.map_cons, List.map_nil, Option.getD_some, putAll, Act.put, List.setIfInBounds_toArray, List.set_cons_zero, List.set_cons_succ]
          simp [Region.wanted, yielded, eg, undef]
         clear eg
         have e23 : s 23 = _ := hd 23 (by kernel_rfl)
         have q0 := pw_cell_below hb q0
         have q1 := pw_cell_below hb q1
         have hR' := hR (.agg #[.int .i64 x', .int .i64 y']) _ (Below.refl _ _) rfl
         clear hR hd
         refine opGives_value ?_ hR'
         subst hA
         simp only [dsOf, List.map_cons, List.map_nil, Option.getD_some, putAll, Act.put, List.setIfInBounds_toArray, List.set_cons_zero, List.set_cons_succ]
         go_simp
        ·intro s w_ hb hd hq R hR
         generalize hA : putAll _ 0 s _ = A
         have eg : s 19 = _ := hd 19 (by kernel_rfl)
         clear hq
         refine stepG_on ?_ ?_
         ·clear hR hd
          subst hA
          simp only [dsOf, List.map_cons, List.map_nil, Option.getD_some, putAll, Act.put, List.setIfInBounds_toArray, List.set_cons_zero, List.set_cons_succ]
          simp [Region.wanted, yielded, eg, undef]
         clear eg
         have p0 := pw_cell_below hb p0
         have p1 := pw_cell_below hb p1
         have hR' := hR (.agg #[.int .i64 x, .int .i64 y]) _ (Below.refl _ _) rfl
         clear hR hd
         refine opGives_value ?_ hR'
         subst hA
         simp only [dsOf, List.map_cons, List.map_nil, Option.getD_some, putAll, Act.put, List.setIfInBounds_toArray, List.set_cons_zero, List.set_cons_succ]
         go_simp
        ·intro s w_ hb hd hq R hR
         generalize hA : putAll _ 0 s _ = A
         have eg : s 19 = _ := hd 19 (by kernel_rfl)
         clear hq
         refine stepG_on ?_ ?_
         ·clear hR hd
          subst hA
          simp only [dsOf, List.map_cons, List.map_nil, Option.getD_some, putAll, Act.put, List.setIfInBounds_toArray, List.set_cons_zero, List.set_cons_succ]
          simp [Region.wanted, yielded, eg, undef]
         clear eg
         have e24 : s 24 = _ := hd 24 (by kernel_rfl)
         have e25 : s 25 = _ := hd 25 (by kernel_rfl)
         refine opGives_call (f := 202) (args := #[.agg #[.int .i64 x', .int .i64 y'], .agg #[.int .i64 x, .int .i64 y]]) ?_ ?_
         ·subst hA
          clear hR hd
          simp only [dsOf, List.map_cons, List.map_nil, Option.getD_some, putAll, Act.put, List.setIfInBounds_toArray, List.set_cons_zero, List.set_cons_succ]
          go_simp
         clear hA A hd
         refine (HCM.out w_).mono ?_
         rintro e w3_ ⟨rfl, hb3⟩
         exact ⟨_, rfl, hR _ _ hb3 rfl⟩
        ·intro s w_ hb hd hq R hR
         generalize hA : putAll _ 0 s _ = A
         have eg : s 19 = _ := hd 19 (by kernel_rfl)
         clear hq
         refine stepG_on ?_ ?_
         ·clear hR hd
          subst hA
          simp only [dsOf, List.map_cons, List.map_nil, Option.getD_some, putAll, Act.put, List.setIfInBounds_toArray, List.set_cons_zero, List.set_cons_succ]
          simp [Region.wanted, yielded, eg, undef]
         clear eg
         have e26 : s 26 = _ := hd 26 (by kernel_rfl)
         have hcm := HCC.out
         have hR' := hR (.bool C0) _ (Below.refl _ _) rfl
         clear hR hd
         refine opGives_value ?_ hR'
         subst hA
         simp only [dsOf, List.map_cons, List.map_nil, Option.getD_some, putAll, Act.put, List.setIfInBounds_toArray, List.set_cons_zero, List.set_cons_succ]
         go_simp
        ·intro s w_ hb hd hq R hR
         generalize hA : putAll _ 0 s _ = A
         have eg : s 16 = _ := hd 16 (by kernel_rfl)
         clear hq
         refine stepG_on ?_ ?_
         ·clear hR hd
          subst hA
          simp only [dsOf, List.map_cons, List.map_nil, Option.getD_some, putAll, Act.put, List.setIfInBounds_toArray, List.set_cons_zero, List.set_cons_succ]
          simp [Region.wanted, yielded, eg, undef]
         clear eg
         have e19 : s 19 = _ := hd 19 (by kernel_rfl)
         have e27 : s 27 = _ := hd 27 (by kernel_rfl)
         have hR' := hR (.bool C0) _ (Below.refl _ _) rfl
         clear hR hd
         refine opGives_value ?_ hR'
         subst hA
         simp only [dsOf, List.map_cons, List.map_nil, Option.getD_some, putAll, Act.put, List.setIfInBounds_toArray, List.set_cons_zero, List.set_cons_succ]
         go_simp
        ·intro s w_ hb hd hq R hR
         generalize hA : putAll _ 0 s _ = A
         clear hq
         refine stepG_on rfl ?_
         have e16 : s 16 = _ := hd 16 (by kernel_rfl)
         have e28 : s 28 = _ := hd 28 (by kernel_rfl)
         have hR' := hR (.bool C0) _ (Below.refl _ _) rfl
         clear hR hd
         refine opGives_value ?_ hR'
         subst hA
         simp only [dsOf, List.map_cons, List.map_nil, Option.getD_some, putAll, Act.put, List.setIfInBounds_toArray, List.set_cons_zero, List.set_cons_succ]
         go_simp
       case rest =>
        intro s9 w9 hb hv
        have e29_ : s9 29 = _ := hv 29 (by decide)
        simp only [dsOf, List.map_cons, List.map_nil, Option.getD_some, putAll, Act.put, List.setIfInBounds_toArray, List.set_cons_zero, List.set_cons_succ]
        rw [e29_]
        clear hv e29_
        cases C0 with
        | true =>
         have HA := Aside0.mk (HNF.out HLL.out)
         have hB9 := Below.trans HB5.out (Below.mono hb HB5.out.size)
         have HBe := Aside0.mk (HBr.out.trans (hB9.mono HBr.out.size))
         clear hb hB9
         go_wp2
         go_ret
         exact ⟨by rw [HA.out]; rfl, HB.out.trans (HBe.out.mono HB.out.size)⟩
        | false =>
         have HLT := Aside0.mk (HYT.out HLL.out)
         have HI2 : Aside0 (∀ t, t < iv + 1 → pOkAt xs ps t = true) := ⟨fun t ht => by
          rcases Nat.lt_succ_iff_lt_or_eq.1 ht with h | h
          ·exact HI.out t h
          ·rw [h]; exact pOkAt_all HPT.out HLT.out (fun u hu => seen_share HXY.out HSX.out HSY.out u hu)⟩
         have HB9 := Aside0.mk (Below.trans HB5.out (Below.mono hb HB5.out.size))
         have HS9 := Aside0.mk (HS5.out.below hb)
         replace p0 := pw_cell_below hb p0
         replace p1 := pw_cell_below hb p1
         clear hb
         have hnb : wr.heap.size ≠ b := Nat.ne_of_gt HSr.out.lt
         go_wp2
         refine wp_region_j 6 (fun i => match i with | 0 => fun v => v = .map (some b) | 1 => fun v => v = .pointer (some ⟨wr.heap.size, 0, none⟩) | 2 => fun v => v = .int .i64 x | 3 => fun v => v = .map (some b) | 4 => fun v => v = .pointer (some ⟨wr.heap.size, 1, none⟩) | 5 => fun v => v = .int .i64 y | _ => fun _ => True) (PI (seenP ps iv) b (2 * iv) x y w9) [0, 0, 2, 0, 0, 16, 7, 127] hmx (by kernel_rfl) (fun bb h => PI.start HS9.out bb h) (fun i bb w1 hi h => h.stay hi) (fun bb bb' w1 e h => h.congr e) ?hs ?ht ?hend
         case hs =>
          intro i o hi ho s bb w_ hb hd R hR
          match i, hi, ho with
          | 0, _, ho =>
           injection ho with ho
           subst ho
           generalize hA : putAll _ 0 s _ = A
           have hR' := hR (.map (some b)) rfl
           clear hR hd hb
           refine opGives_value ?_ hR'
           subst hA
           simp only [dsOf, List.take, List.map_cons, List.map_nil, Option.getD_some, putAll, Act.put, List.setIfInBounds_toArray, List.set_cons_zero, List.set_cons_succ]
           go_simp
          | 1, _, ho =>
           injection ho with ho
           subst ho
           generalize hA : putAll _ 0 s _ = A
           have hR' := hR (.pointer (some ⟨wr.heap.size, 0, none⟩)) rfl
           clear hR hd hb
           refine opGives_value ?_ hR'
           subst hA
           simp only [dsOf, List.take, List.map_cons, List.map_nil, Option.getD_some, putAll, Act.put, List.setIfInBounds_toArray, List.set_cons_zero, List.set_cons_succ]
           go_simp
          | 2, _, ho =>
           injection ho with ho
           subst ho
           generalize hA : putAll _ 0 s _ = A
           have e1 : s 1 = _ := hd 1 (by decide) (by kernel_rfl)
           have p0 := grown_cell hb.1 p0 hnb
           have hR' := hR (.int .i64 x) rfl
           clear hR hd hb
           refine opGives_value ?_ hR'
           subst hA
           simp only [dsOf, List.take, List.map_cons, List.map_nil, Option.getD_some, putAll, Act.put, List.setIfInBounds_toArray, List.set_cons_zero, List.set_cons_succ]
           go_simp
          | 3, _, ho =>
           injection ho with ho
           subst ho
           generalize hA : putAll _ 0 s _ = A
           have hR' := hR (.map (some b)) rfl
           clear hR hd hb
           refine opGives_value ?_ hR'
           subst hA
           simp only [dsOf, List.take, List.map_cons, List.map_nil, Option.getD_some, putAll, Act.put, List.setIfInBounds_toArray, List.set_cons_zero, List.set_cons_succ]
           go_simp
          | 4, _, ho =>
           injection ho with ho
           subst ho
           generalize hA : putAll _ 0 s _ = A
           have hR' := hR (.pointer (some ⟨wr.heap.size, 1, none⟩)) rfl
           clear hR hd hb
           refine opGives_value ?_ hR'
           subst hA
           simp only [dsOf, List.take, List.map_cons, List.map_nil, Option.getD_some, putAll, Act.put, List.setIfInBounds_toArray, List.set_cons_zero, List.set_cons_succ]
           go_simp
          | 5, _, ho =>
           injection ho with ho
           subst ho
           generalize hA : putAll _ 0 s _ = A
           have e4 : s 4 = _ := hd 4 (by decide) (by kernel_rfl)
           have p1 := grown_cell hb.1 p1 hnb
           have hR' := hR (.int .i64 y) rfl
           clear hR hd hb
           refine opGives_value ?_ hR'
           subst hA
           simp only [dsOf, List.take, List.map_cons, List.map_nil, Option.getD_some, putAll, Act.put, List.setIfInBounds_toArray, List.set_cons_zero, List.set_cons_succ]
           go_simp
         case ht =>
          intro i o hi hil ho s bb w_ hb hbi hon hd
          match i, hi, hil, ho with
          | 6, _, _, ho =>
           injection ho with ho
           subst ho
           generalize hA : putAll _ 0 s _ = A
           have e0 : s 0 = _ := hd 0 (by decide) (by kernel_rfl)
           have e1 : s 1 = _ := hd 1 (by decide) (by kernel_rfl)
           have e2 : s 2 = _ := hd 2 (by decide) (by kernel_rfl)
           obtain ⟨w6, hr, hI⟩ := hb.put6 hbi HWX.out HK9.out
           refine ⟨w6, ?_, hI⟩
           clear hI hd hb hon
           subst hA
           simp only [dsOf, List.take, List.map_cons, List.map_nil, Option.getD_some, putAll, Act.put, List.setIfInBounds_toArray, List.set_cons_zero, List.set_cons_succ]
           go_simp
          | 7, _, _, ho =>
           injection ho with ho
           subst ho
           generalize hA : putAll _ 0 s _ = A
           have e0 : s 0 = _ := hd 0 (by decide) (by kernel_rfl)
           have e1 : s 1 = _ := hd 1 (by decide) (by kernel_rfl)
           have e2 : s 2 = _ := hd 2 (by decide) (by kernel_rfl)
           have e3 : s 3 = _ := hd 3 (by decide) (by kernel_rfl)
           have e4 : s 4 = _ := hd 4 (by decide) (by kernel_rfl)
           have e5 : s 5 = _ := hd 5 (by decide) (by kernel_rfl)
           obtain ⟨w6, hr, hI⟩ := hb.put7 hbi HWY.out HK9.out
           refine ⟨w6, ?_, hI⟩
           clear hI hd hb hon
           subst hA
           simp only [dsOf, List.take, List.map_cons, List.map_nil, Option.getD_some, putAll, Act.put, List.setIfInBounds_toArray, List.set_cons_zero, List.set_cons_succ]
           go_simp
         case hend =>
          intro s bb w7 hI hall hv
          have HSn : Aside0 (SetI (seenP ps (iv + 1)) b (2 * (iv + 1)) w7) := ⟨hI.fin (hall 6 (by decide)) (hall 7 (by decide)) (seenTo_succ HXY.out)⟩
          have HBn := Aside0.mk (map_step1 HBr.out HB9.out hI.1 HBB.out)
          clear hI hall hv
          simp only [dsOf, List.take, List.map_cons, List.map_nil, Option.getD_some, putAll, Act.put, List.setIfInBounds_toArray, List.set_cons_zero, List.set_cons_succ]
          go_wp2
          go_roundw
          case rel => exact ⟨iv + 1, by go_num, by omega, HI2, HBn, HSn⟩
          case measure => simp [intOf]; omega
  ·have HA : Aside0 (pOk xs ps = true) := ⟨pOk_true (fun t ht => HI.out t (by omega))⟩
   go_wp2
   go_ret
   exact ⟨by rw [HA.out]; rfl, HB.out.trans (HBr.out.mono HB.out.size)⟩
end Go.Proofs.YtomofijniefelaaGreat.H
