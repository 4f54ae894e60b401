/- The way of a hidden set, of the program. -/
import Derived.Test.YtpcjbdkdpcgdiaaEvad
import Derived.Test.YtpcjbdkdpcgdiaaTail
namespace Go.Proofs.Ytpcjbdkdpcgdiaa.H
open Go.RowKit Go.Proofs.YtpcjbdkdpcgdiaaW.PrintWords Go.Proofs.YtpcjbdkdpcgdiaaW.PrintLast Go.Proofs.YtpcjbdkdpcgdiaaW.PrintMore
set_option linter.unusedVariables false
set_option linter.unusedSimpArgs false

theorem set_grown2 (w : World) (b i : Nat) (v : Value) : w.grownBy (w.setCell ⟨b, i, none⟩ v) (some b) :=
  ⟨rfl, rfl, rfl, by simp [World.setCell], fun k _ hne => Below.heap_setCell _ _ _ _ (fun e => hne (by rw [e]))⟩
/-- needed as far as it is known ahead of i + 1 questions; -1 if it is not -/
def ndV (n : Nat) (xs t : List Int) (h : Nat) : Nat → Int
  | 0 => -1
  | i + 1 => if 0 ≤ ndV n xs t h i then ndV n xs t h i else if toldAt n xs t h i then (i : Int) else -1
theorem nd_cases (n : Nat) (xs t : List Int) (h : Nat) : ∀ i, (ndV n xs t h i = -1 ∧ ∀ j, j < i → toldAt n xs t h j = false) ∨ ∃ k : Nat, k < i ∧ ndV n xs t h i = (k : Int) ∧ toldAt n xs t h k = true ∧ ∀ j, j < k → toldAt n xs t h j = false
  | 0 => .inl ⟨rfl, fun j hj => absurd hj (Nat.not_lt_zero _)⟩
  | i + 1 => by
    unfold ndV
    rcases nd_cases n xs t h i with ⟨h1, h2⟩ | ⟨k, h1, h2, h3, h4⟩
    · rw [h1, if_neg (by decide)]
      cases ht : toldAt n xs t h i with
      | true => exact .inr ⟨i, by omega, by rw [if_pos rfl], ht, h2⟩
      | false =>
        refine .inl ⟨by rw [if_neg (by decide)], fun j hj => ?_⟩
        rcases Nat.lt_succ_iff_lt_or_eq.1 hj with h | rfl
        · exact h2 j h
        · exact ht
    · rw [h2, if_pos (by omega)]
      exact .inr ⟨k, by omega, rfl, h3, h4⟩
theorem nd_end {n : Nat} {xs t : List Int} {h : Nat} (ht : toldAt n xs t h n = true) : ndV n xs t h (n + 1) = (neededV n xs t h : Int) := by
  unfold neededV
  rcases nd_cases n xs t h (n + 1) with ⟨h1, h2⟩ | ⟨k, h1, h2, h3, h4⟩
  · rw [h2 n (by omega)] at ht; cases ht
  · rw [h2]
    by_cases hk : k < n
    · rw [firstTold_hit hk h4 h3]
    · obtain rfl : k = n := by omega
      rw [firstTold_none h4]
theorem nd_bd (n : Nat) (xs t : List Int) (h i : Nat) : -1 ≤ ndV n xs t h i ∧ ndV n xs t h i ≤ i := by
  rcases nd_cases n xs t h i with ⟨h1, -⟩ | ⟨k, h1, h2, -⟩ <;> omega
theorem nd_old {n : Nat} {xs t : List Int} {h i : Nat} (h0 : ¬ ndV n xs t h i < 0) : ndV n xs t h (i + 1) = ndV n xs t h i := by
  show (if _ then _ else _) = _; rw [if_pos (by omega)]
theorem nd_new {n : Nat} {xs t : List Int} {h i : Nat} (h0 : ndV n xs t h i < 0) (h1 : toldAt n xs t h i = true) : ndV n xs t h (i + 1) = i := by
  show (if _ then _ else _) = _; rw [if_neg (by omega), if_pos h1]
theorem nd_no {n : Nat} {xs t : List Int} {h i : Nat} (h0 : ndV n xs t h i < 0) (h1 : toldAt n xs t h i = false) : ndV n xs t h (i + 1) = ndV n xs t h i := by
  show (if _ then _ else _) = _
  rw [if_neg (by omega), h1, if_neg (by decide)]
  have := nd_bd n xs t h i
  omega
theorem asked_lt {n : Nat} {t : List Int} (hn : n ≤ 6) (ht : treeOk n t = true) (h i : Nat) (hi : i ≤ n) : yess t h i ||| noes t h i < 64 ∧ yess t h i < 64 := by
  have := (way_pl ht h i hi).1.lt hn
  exact ⟨or_lt64 this.1 this.2, this.1⟩
theorem asked_next (t : List Int) (h i : Nat) : yess t h (i + 1) ||| noes t h (i + 1) = (yess t h i ||| noes t h i) ||| 2 ^ qN t (plc t h i) := by
  cases hb : h.testBit (qN t (plc t h i)) with
  | true => rw [yess_yes hb, noes_yes hb, or_p]
  | false => rw [yess_no hb, noes_no hb, or_q]
theorem toldB_at {n : Nat} {xs t : List Int} (ht : treeOk n t = true) (h i : Nat) (hi : i ≤ n) : toldB n xs (yess t h i ||| noes t h i) (yess t h i) = toldAt n xs t h i := toldB_toldV (way_pl ht h i hi).1
theorem plc_in {n : Nat} (hn : n ≤ 6) (t : List Int) (h i : Nat) (hi : i < n) : 1 ≤ plc t h i ∧ plc t h i < 2 ^ n ∧ plc t h i < 64 := by
  have hb := plc_bd t h i
  have h2 : 2 ^ (i + 1) ≤ 2 ^ n := Nat.pow_le_pow_right (by omega) (by omega)
  have h0 : 1 ≤ 2 ^ i := Nat.one_le_two_pow
  have := (pw6 hn).2
  omega

set_option maxRecDepth 100000 in
set_option maxHeartbeats 8000000 in
theorem wayI (n : Nat) (ku : Value) (xs : List Int) (hcx : Cx n xs) (v : Value) (t : List Int) (h : Nat) (hh : h < 64) (w : World) (hk : ReadI w ku xs) (hv : ReadI w v t) (ht : treeOk n t = true) :
    Calls Try.prog 60 #[cx n ku, v, .int .i64 (h : Nat)] w fun e w' => ∃ u, e = .returned (.tuple #[u, .int .i64 (neededV n xs t h : Nat)]) ∧ OwnI w.heap.size w' u (wayL t h n) ∧ Below w.heap.size w w' := by
  have hn := hcx.hi
  obtain ⟨wb, hwb⟩ : ∃ wb, wb = w.alloc (.cells #[.int .i64 n, ku] 28) := ⟨_, rfl⟩
  obtain ⟨w2, hw2⟩ : ∃ w2, w2 = wb.alloc (.cells #[.int .i64 0, .int .i64 0] 63) := ⟨_, rfl⟩
  have hsb : wb.heap.size = w.heap.size + 1 := by rw [hwb]; simp
  have hBb : Below w.heap.size w wb := by rw [hwb]; exact Below.alloc (Below.refl _ _) (Nat.le_refl _) _
  have hB1 : Below wb.heap.size wb w2 := by rw [hw2]; exact Below.alloc (Below.refl _ _) (Nat.le_refl _) _
  have hB : Below w.heap.size w w2 := hBb.trans (hB1.mono hBb.size)
  have hz2 : w2.heap.size = w.heap.size + 2 := by rw [hw2, hwb]; simp
  have c0 : w2.cell? ⟨w.heap.size, 0, none⟩ = some (.int .i64 n) := pw_cell_below hB1 (by rw [hwb]; simp)
  have c1 : w2.cell? ⟨w.heap.size, 1, none⟩ = some ku := pw_cell_below hB1 (by rw [hwb]; simp)
  have HS0 : Aside0 (w2.heap[w.heap.size + 1]? = some (.cells #[.int .i64 (0 : Nat), .int .i64 (0 : Nat)] 63)) := ⟨by rw [hw2, ← hsb]; exact blk_new _ _⟩
  have HB := Aside0.mk hB
  have HK := Aside0.mk hk
  have HV := Aside0.mk hv
  have HT := Aside0.mk ht
  have hmx : Try.prog.follows .mixedOrders = true := by kernel_rfl
  have hn1 := hcx.lo
  obtain ⟨A1, d1, rfl, -⟩ := id hk
  obtain ⟨A2, d2, rfl, -⟩ := id hv
  have htl : t.length = 2 ^ n - 1 := tree_len ht
  have HTL := Aside0.mk htl
  have HLT : Aside0 (t.length ≤ 63) := ⟨by have := (pw6 hn).2; omega⟩
  have HZ2 := Aside0.mk hz2
  subst hwb
  clear hk hv hsb hBb hB1 hB htl hz2 ht
  go_enter Try.func60, Try.ntmps60
  go_wp2
  rw [← hw2]
  clear hw2
  go_loopw [8, 10, 11] (fun s8 s10 s11 wr => ∃ iv : Nat, iv ≤ n ∧ s10 = .int .i64 (ndV n xs t h iv) ∧ s11 = .int .i64 (plc t h iv : Nat) ∧ Aside0 (OwnI (w.heap.size + 2) wr s8 (wayL t h iv)) ∧ Aside0 (wr.heap[w.heap.size + 1]? = some (.cells #[.int .i64 ((yess t h iv ||| noes t h iv : Nat) : Int), .int .i64 ((yess t h iv : Nat) : Int)] 63)) ∧ Aside0 (Below (w.heap.size + 1) w2 wr)) (fun _ _ s11 _ => 200 - (intOf s11).toNat)
  case atStart => exact ⟨0, Nat.zero_le _, rfl, rfl, ⟨OwnI.nil _ _⟩, ⟨by rw [show yess t h 0 ||| noes t h 0 = 0 from Nat.or_self 0]; exact HS0.out⟩, ⟨Below.refl _ _⟩⟩
  case round =>
    obtain ⟨iv, hi, rfl, rfl, HO, HSr, HBr⟩ := hrel
    have c0 : wr.cell? ⟨w.heap.size, 0, none⟩ = some (.int .i64 n) := by rw [HBr.out.cell (p := ⟨w.heap.size, 0, none⟩) (by simp)]; exact c0
    have c1 : wr.cell? ⟨w.heap.size, 1, none⟩ = some (.slice A1 xs.length d1) := by rw [HBr.out.cell (p := ⟨w.heap.size, 1, none⟩) (by simp)]; exact c1
    have s0 : wr.cell? ⟨w.heap.size + 1, 0, none⟩ = some (.int .i64 ((yess t h iv ||| noes t h iv : Nat) : Int)) := blk_cell HSr.out 0
    have s1 : wr.cell? ⟨w.heap.size + 1, 1, none⟩ = some (.int .i64 ((yess t h iv : Nat) : Int)) := blk_cell HSr.out 1
    have HBw := Aside0.mk (HB.out.trans (HBr.out.mono (Nat.le_succ _)))
    have hal := asked_lt hn HT.out h iv hi
    have hnd := nd_bd n xs t h iv
    have HTO := Aside0.mk (fun (W : World) hr => isTold n (.slice A1 xs.length d1) xs (yess t h iv ||| noes t h iv) (yess t h iv) hal.1 hal.2 W hr hcx)
    rw [toldB_at HT.out h iv hi] at HTO
    have HOLD := Aside0.mk (fun h0 => nd_old (n := n) (xs := xs) (t := t) (h := h) (i := iv) h0)
    have HNEW := Aside0.mk (fun h0 h1 => nd_new (n := n) (xs := xs) (t := t) (h := h) (i := iv) h0 h1)
    have HNO := Aside0.mk (fun h0 h1 => nd_no (n := n) (xs := xs) (t := t) (h := h) (i := iv) h0 h1)
    have hlw := wayL_len t h iv
    have HNX := Aside0.mk (asked_next t h iv)
    obtain ⟨A8, d8, e8, -⟩ := HO.out.read
    rw [hlw] at e8
    subst e8
    have HEN : Aside0 (iv = n → ndV n xs t h (iv + 1) = (neededV n xs t h : Int)) := ⟨fun e => by rw [e]; exact nd_end (toldAt_end hn HT.out h)⟩
    have HTB : Aside0 (iv = n → toldAt n xs t h iv = true) := ⟨fun e => by rw [e]; exact toldAt_end hn HT.out h⟩
    obtain ⟨ND, hND⟩ : ∃ ND, ND = ndV n xs t h iv := ⟨_, rfl⟩
    rw [← hND] at hnd HOLD HNEW HNO ⊢
    obtain ⟨TA, hTA⟩ : ∃ TA, TA = toldAt n xs t h iv := ⟨_, rfl⟩
    rw [← hTA] at HTO HNEW HNO HTB
    obtain ⟨a, haa⟩ : ∃ a, a = yess t h iv ||| noes t h iv := ⟨_, rfl⟩
    rw [← haa] at HSr s0 hal HTO HNX
    obtain ⟨y, hyy⟩ : ∃ y, y = yess t h iv := ⟨_, rfl⟩
    rw [← hyy] at HSr s1 hal HTO
    have HY := Aside0.mk hyy
    have hpl : iv < n → 1 ≤ plc t h iv ∧ plc t h iv < 2 ^ n ∧ plc t h iv < 64 := plc_in hn t h iv
    have hp1 : plc t h iv < 200 := by have h1 := (plc_bd t h iv).2; have h2 : 2 ^ (iv + 1) ≤ 2 ^ 7 := Nat.pow_le_pow_right (by omega) (by omega); have : (2 : Nat) ^ 7 = 128 := rfl; omega
    have HPL := Aside0.mk hpl
    clear hND hTA haa hyy hlw hpl
    have hcs : (¬ ND < 0 ∧ decide (ND < 0) = false) ∨ (ND < 0 ∧ decide (ND < 0) = true ∧ TA = true) ∨ (ND < 0 ∧ decide (ND < 0) = true ∧ TA = false) := by
      by_cases h0 : ND < 0
      · cases TA
        · exact .inr (.inr ⟨h0, decide_eq_true h0, rfl⟩)
        · exact .inr (.inl ⟨h0, decide_eq_true h0, rfl⟩)
      · exact .inl ⟨h0, decide_eq_false h0⟩
    have hst : ∃ ND1 : Int, Aside0 (ndV n xs t h (iv + 1) = ND1) ∧ ((¬ ND < 0 ∧ decide (ND < 0) = false ∧ ND1 = ND) ∨ (ND < 0 ∧ decide (ND < 0) = true ∧ TA = true ∧ ND1 = iv) ∨ (ND < 0 ∧ decide (ND < 0) = true ∧ TA = false ∧ ND1 = ND)) := by
      rcases hcs with ⟨h0, h1⟩ | ⟨h0, h1, h2⟩ | ⟨h0, h1, h2⟩
      · exact ⟨ND, ⟨HOLD.out h0⟩, .inl ⟨h0, h1, rfl⟩⟩
      · exact ⟨iv, ⟨HNEW.out h0 h2⟩, .inr (.inl ⟨h0, h1, h2, rfl⟩)⟩
      · exact ⟨ND, ⟨HNO.out h0 h2⟩, .inr (.inr ⟨h0, h1, h2, rfl⟩)⟩
    obtain ⟨ND1, HND, hst⟩ := hst
    clear hcs HOLD HNEW HNO
    rcases hst with ⟨h0, h1, rfl⟩ | ⟨h0, h1, rfl, rfl⟩ | ⟨h0, h1, rfl, rfl⟩
    all_goals
      go_wp2_with (first | (go_at_call 87; refine (HTO.out _ (HK.out.below HBw.out)).mono ?_; rintro e w3 ⟨rfl, hb⟩; replace c0 := pw_cell_below hb c0; replace c1 := pw_cell_below hb c1; replace HO := Aside0.own HO hb; replace HSr := Aside0.mk (blk_below HSr.out hb); replace HBr := Aside0.mk (HBr.out.trans (hb.mono (by have := HBr.out.size; have := HZ2.out; omega))); replace HBw := Aside0.mk (HBw.out.trans (hb.mono HBw.out.size)); clear hb s0 s1))
      refine wp_region_g Bl (fun w => (Below.refl _ w).drew) (fun _ _ _ => Bl.trans) (fun i => match i with | 0 => fun v _ => v = .slice A8 iv d8 | 1 => fun v _ => v = .int .i64 (iv : Int) | 2 => fun v _ => v = .pointer (some ⟨w.heap.size, 0, none⟩) | 3 => fun v _ => v = .int .i64 (n : Int) | 4 => fun v _ => v = .bool ((iv : Int) == (n : Int)) | _ => fun _ _ => True)
        [0, 1, 0, 4, 15] hmx (by kernel_rfl) ?st ?steps ?rest
      case st =>
        intro i v w1_ w2_ hb
        match i with
        | 0 | 1 | 2 | 3 | 4 => exact id
        | n + 5 => exact id
      case steps =>
        refine ⟨?_, ?_, ?_, ?_, ?_, trivial⟩
        · intro s w_ hb hd hq R hR
          generalize hA : putAll _ 0 s _ = A
          clear hq
          have hR' := hR (.slice A8 iv d8) _ (Below.refl _ _) rfl
          clear hR hd
          refine opGives_value ?_ hR'
          subst hA
          simp only [dsOf, List.map_cons, List.map_nil, Option.getD_some, putAll, Act.put, List.setIfInBounds_toArray, List.set_cons_zero, List.set_cons_succ]
          go_simp
        · intro s w_ hb hd hq R hR
          generalize hA : putAll _ 0 s _ = A
          have e0 : s 0 = _ := hd 0 (by kernel_rfl)
          clear hq
          refine opGives_call (f := 84) (args := #[.slice A8 iv d8]) ?_ ?_
          · subst hA
            clear hR hd
            simp only [dsOf, List.map_cons, List.map_nil, Option.getD_some, putAll, Act.put, List.setIfInBounds_toArray, List.set_cons_zero, List.set_cons_succ]
            go_simp
          clear hA A hd
          refine (length_any A8 iv d8 w_).mono ?_
          rintro e w3_ ⟨rfl, hb3⟩
          exact ⟨_, rfl, hR _ _ hb3 rfl⟩
        · intro s w_ hb hd hq R hR
          generalize hA : putAll _ 0 s _ = A
          clear hq
          have hR' := hR (.pointer (some ⟨w.heap.size, 0, none⟩)) _ (Below.refl _ _) rfl
          clear hR hd
          refine opGives_value ?_ hR'
          subst hA
          simp only [dsOf, List.map_cons, List.map_nil, Option.getD_some, putAll, Act.put, List.setIfInBounds_toArray, List.set_cons_zero, List.set_cons_succ]
          go_simp
        · intro s w_ hb hd hq R hR
          generalize hA : putAll _ 0 s _ = A
          have e2 : s 2 = _ := hd 2 (by kernel_rfl)
          clear hq
          have c0 := pw_cell_below hb c0
          have hR' := hR (.int .i64 (n : Int)) _ (Below.refl _ _) rfl
          clear hR hd
          refine opGives_value ?_ hR'
          subst hA
          simp only [dsOf, List.map_cons, List.map_nil, Option.getD_some, putAll, Act.put, List.setIfInBounds_toArray, List.set_cons_zero, List.set_cons_succ]
          go_simp
        · intro s w_ hb hd hq R hR
          generalize hA : putAll _ 0 s _ = A
          have e1 : s 1 = _ := hd 1 (by kernel_rfl)
          have e3 : s 3 = _ := hd 3 (by kernel_rfl)
          clear hq
          have hR' := hR (.bool ((iv : Int) == (n : Int))) _ (Below.refl _ _) rfl
          clear hR hd
          refine opGives_value ?_ hR'
          subst hA
          simp only [dsOf, List.map_cons, List.map_nil, Option.getD_some, putAll, Act.put, List.setIfInBounds_toArray, List.set_cons_zero, List.set_cons_succ]
          go_simp
      case rest =>
        intro s7 w7 hb hv
        have e4_ : s7 4 = _ := hv 4 (by decide)
        simp only [dsOf, List.map_cons, List.map_nil, Option.getD_some, putAll, Act.put, List.setIfInBounds_toArray, List.set_cons_zero, List.set_cons_succ]
        rw [e4_]
        clear hv e4_
        have hz3 : w.heap.size + 2 ≤ w7.heap.size := by have := HBr.out.size; have := HZ2.out; have := hb.size; omega
        replace c0 := pw_cell_below hb c0
        replace c1 := pw_cell_below hb c1
        replace HO := Aside0.own HO hb
        replace HSr := Aside0.mk (blk_below HSr.out hb)
        replace HBw := Aside0.mk (HBw.out.trans (hb.mono HBw.out.size))
        replace HBr := Aside0.mk (HBr.out.trans (hb.mono (by have := HBr.out.size; have := HZ2.out; omega)))
        clear hb
        by_cases hlast : iv = n
        · have heq : ((iv : Int) == (n : Int)) = true := by rw [hlast]; exact beq_self_eq_true _
          have HEE := Aside0.mk hlast
          first | (exfalso; have := HTB.out hlast; cases this; done) | (clear hlast; go_wp2; go_ret2; exact ⟨_, by rw [← HEN.out HEE.out, HND.out]; rfl, by rw [show wayL t h n = wayL t h iv from by rw [HEE.out]]; exact HO.out.lower (Nat.le_add_right w.heap.size 2), HBw.out⟩)
        · have heq : ((iv : Int) == (n : Int)) = false := by rw [beq_eq_false_iff_ne]; omega
          have hlt : iv < n := by omega
          have hpl := HPL.out hlt
          have hqi := tree_in HT.out (p := plc t h iv) hpl.1 hpl.2.1
          have HYES := Aside0.mk (fun hb => And.intro (plc_yes (t := t) (h := h) (i := iv) hb) (yess_yes (t := t) (h := h) (i := iv) hb))
          have HNOT := Aside0.mk (fun hb => And.intro (plc_no (t := t) (h := h) (i := iv) hb) (yess_no (t := t) (h := h) (i := iv) hb))
          have HWS := Aside0.mk (wayL_succ t h iv)
          obtain ⟨P, hPP⟩ : ∃ P, P = plc t h iv := ⟨_, rfl⟩
          rw [← hPP] at hpl hqi HYES HNOT HWS HNX hp1 ⊢
          obtain ⟨q, hqq⟩ : ∃ q, q = qN t P := ⟨_, rfl⟩
          rw [← hqq] at hqi HYES HNOT HNX
          obtain ⟨_, _, hq1, hq2⟩ := hqi
          have hP3 : ((P : Int) - 1).toNat = P - 1 := by omega
          have hP1 : (0 : Int) ≤ (P : Int) - 1 := by omega
          have hPt : P - 1 < t.length := by have := HTL.out; omega
          have hP2 : (P : Int) - 1 < (t.length : Int) := by omega
          obtain ⟨A3, c3, e3, -, hr3⟩ := HV.out.below HBw.out
          cases e3
          obtain ⟨ad, y0, rfl, hcell, hY0⟩ := ReadI.get hr3 hPt
          have hyq : y0 = (q : Int) := by rw [← hq1]; exact hY0.out.symm
          subst hyq
          have hsh' := pow_wrap' q (by omega)
          have hV := pow_lt64 (v := q) (by omega)
          have hbit := bit_of h q (lt_big hh)
          have hqn : q < n := hq2
          obtain ⟨V, hVV⟩ : ∃ V, V = 2 ^ q := ⟨_, rfl⟩
          rw [← hVV] at hsh' hV HNX HYES
          have ho0 := or_i64 a V (lt_big hal.1) (lt_big hV)
          have ho1 := or_i64 y V (lt_big hal.2) (lt_big hV)
          obtain ⟨a1, ha1⟩ : ∃ a1, a1 = a ||| V := ⟨_, rfl⟩
          obtain ⟨y1, hy1⟩ : ∃ y1, y1 = y ||| V := ⟨_, rfl⟩
          rw [← ha1] at ho0 HNX
          rw [← hy1] at ho1
          have HY1 := Aside0.mk hy1
          have HSH := Aside0.mk hsh'
          have HO0 := Aside0.mk ho0
          have HO1 := Aside0.mk ho1
          have HQ1 := Aside0.mk hq1
          have HPP := Aside0.mk hPP
          clear hPP hqq hY0 hr3 hVV ha1 hy1 hsh' ho0 ho1 hlast hq1 hq2
          go_wp2_with (first | (at_builtin; refine app_own (w0 := w7) (w.heap.size + 2) rfl (.tmp 37) (.tmp 39) rfl _ (wayL t h iv) (q : Int) rfl rfl HO.out (Below.refl _ _) hz3 (by rw [wayL_len]; omega) ?_; intro v1 w8 ho8 hb8 hg8 hat8; have HO8 := Aside0.mk ho8; have HB8 := Aside0.mk hb8; have hz8 : w.heap.size + 2 ≤ w8.heap.size := (by have := hb8.size; omega); have HS8 := Aside0.mk ((hb8.block (w.heap.size + 1) (by omega)).trans HSr.out); have HBr8 := Aside0.mk (HBr.out.trans (hb8.mono (by omega))); clear ho8 hb8 hg8 hat8))
          refine wp_region_tail 6 (fun i => match i with | 0 => fun v _ => v = .pointer (some ⟨w.heap.size + 1, 0, none⟩) | 1 => fun v _ => v = .int .i64 (a : Int) | 2 => fun v _ => v = .int .i64 (q : Int) | 3 => fun v _ => v = .int .i64 (V : Int) | 4 => fun v _ => v = .int .i64 (a1 : Int) | 5 => fun v _ => v = .pointer (some ⟨w.heap.size + 1, 0, none⟩) | _ => fun _ _ => True)
            [0, 1, 0, 4, 15, 31, 63] hmx (by kernel_rfl) ?st ?steps ?rest
          case st =>
            intro i v w1_ w2_ hb
            match i with
            | 0 | 1 | 2 | 3 | 4 | 5 => exact id
            | n + 6 => exact id
          case steps =>
            refine ⟨?_, ?_, ?_, ?_, ?_, ?_, trivial⟩
            · intro s w_ hb hd R hR
              generalize hA : putAll _ 0 s _ = A
              have hR' := hR (.pointer (some ⟨w.heap.size + 1, 0, none⟩)) _ (Below.refl _ _) rfl
              clear hR hd
              refine opGives_value ?_ hR'
              subst hA
              simp only [dsOf, List.take, List.map_cons, List.map_nil, Option.getD_some, putAll, Act.put, List.setIfInBounds_toArray, List.set_cons_zero, List.set_cons_succ]
              go_simp
            · intro s w_ hb hd R hR
              generalize hA : putAll _ 0 s _ = A
              have e0 : s 0 = _ := hd 0 (by kernel_rfl)
              have cc : w_.cell? ⟨w.heap.size + 1, 0, none⟩ = some (.int .i64 (a : Int)) := blk_cell (blk_below HS8.out hb) 0
              have hR' := hR (.int .i64 (a : Int)) _ (Below.refl _ _) rfl
              clear hR hd
              refine opGives_value ?_ hR'
              subst hA
              simp only [dsOf, List.take, List.map_cons, List.map_nil, Option.getD_some, putAll, Act.put, List.setIfInBounds_toArray, List.set_cons_zero, List.set_cons_succ]
              go_simp
            · intro s w_ hb hd R hR
              generalize hA : putAll _ 0 s _ = A
              have hR' := hR (.int .i64 (q : Int)) _ (Below.refl _ _) rfl
              clear hR hd
              refine opGives_value ?_ hR'
              subst hA
              simp only [dsOf, List.take, List.map_cons, List.map_nil, Option.getD_some, putAll, Act.put, List.setIfInBounds_toArray, List.set_cons_zero, List.set_cons_succ]
              go_simp
            · intro s w_ hb hd R hR
              generalize hA : putAll _ 0 s _ = A
              have e2 : s 2 = _ := hd 2 (by kernel_rfl)
              have hsh := HSH.out
              have hR' := hR (.int .i64 (V : Int)) _ (Below.refl _ _) rfl
              clear hR hd
              refine opGives_value ?_ hR'
              subst hA
              simp only [dsOf, List.take, List.map_cons, List.map_nil, Option.getD_some, putAll, Act.put, List.setIfInBounds_toArray, List.set_cons_zero, List.set_cons_succ]
              go_simp
            · intro s w_ hb hd R hR
              generalize hA : putAll _ 0 s _ = A
              have e1 : s 1 = _ := hd 1 (by kernel_rfl)
              have e3 : s 3 = _ := hd 3 (by kernel_rfl)
              have ho := HO0.out
              have hR' := hR (.int .i64 (a1 : Int)) _ (Below.refl _ _) rfl
              clear hR hd
              refine opGives_value ?_ hR'
              subst hA
              simp only [dsOf, List.take, List.map_cons, List.map_nil, Option.getD_some, putAll, Act.put, List.setIfInBounds_toArray, List.set_cons_zero, List.set_cons_succ]
              go_simp
            · intro s w_ hb hd R hR
              generalize hA : putAll _ 0 s _ = A
              have hR' := hR (.pointer (some ⟨w.heap.size + 1, 0, none⟩)) _ (Below.refl _ _) rfl
              clear hR hd
              refine opGives_value ?_ hR'
              subst hA
              simp only [dsOf, List.take, List.map_cons, List.map_nil, Option.getD_some, putAll, Act.put, List.setIfInBounds_toArray, List.set_cons_zero, List.set_cons_succ]
              go_simp
          case rest =>
            intro s9 w9 hb hv
            have e4_ : s9 4 = _ := hv 4 (by decide)
            have e5_ : s9 5 = _ := hv 5 (by decide)
            clear hv
            simp only [dsOf, List.take, List.map_cons, List.map_nil, Option.getD_some, putAll, Act.put, List.setIfInBounds_toArray, List.set_cons_zero, List.set_cons_succ]
            have HSb := Aside0.mk (blk_below HS8.out hb)
            have cc : w9.cell? ⟨w.heap.size + 1, 0, none⟩ = some (.int .i64 (a : Int)) := blk_cell HSb.out 0
            have ff : w9.frozen? ⟨w.heap.size + 1, 0, none⟩ = false := blk_frozen HSb.out 0
            obtain ⟨xw9, hxw9⟩ : ∃ x, x = w9.setCell ⟨w.heap.size + 1, 0, none⟩ (.int .i64 (a1 : Int)) := ⟨_, rfl⟩
            refine .inr ⟨xw9, (by rw [hxw9]; go_simp), ?_⟩
            simp only [List.drop, Act.put, List.setIfInBounds_toArray, List.set_cons_zero, List.set_cons_succ]
            unfold tailList
            have HS0n : Aside0 (xw9.heap[w.heap.size + 1]? = some (.cells #[.int .i64 (a1 : Nat), .int .i64 (y : Nat)] 63)) := ⟨by rw [hxw9]; exact blk_put HSb.out 0 _ rfl⟩
            have hgs : w9.grownBy xw9 (some (w.heap.size + 1)) := by rw [hxw9]; exact set_grown2 _ _ _ _
            clear cc ff e4_ e5_ hxw9 HSb
            have HOx := Aside0.mk ((HO8.out.below hb).grown hgs (fun k hk e => by have := (HO8.out.below hb).base k hk; have h2 := Option.some.inj e; omega))
            have HBx := Aside0.mk ((HBr8.out.trans (hb.mono (by omega))).trans (below_grown hgs (Nat.le_refl _) (by have := hb.size; omega)))
            have hzx : w.heap.size + 2 ≤ xw9.heap.size := by have := hb.size; have := hgs.size; omega
            clear hb hgs
            cases hbt : h.testBit q with
            | false =>
              obtain ⟨hn1', hn2⟩ := HNOT.out hbt
              rw [hbt, if_neg (by decide)] at hbit
              have HN1 := Aside0.mk hn1'
              have HN2 := Aside0.mk hn2
              clear hbt hn1' hn2
              go_wp2
              go_roundw
              case rel => exact ⟨iv + 1, by omega, by rw [HND.out], by rw [HN1.out]; go_num, by rw [HWS.out, HQ1.out]; exact HOx, by rw [HNX.out, HN2.out, ← HY.out]; exact HS0n, HBx⟩
              case measure => have := HPP.out; simp [intOf]; omega
            | true =>
              obtain ⟨hn1', hn2⟩ := HYES.out hbt
              rw [hbt, if_pos rfl] at hbit
              have HN1 := Aside0.mk hn1'
              have HN2 := Aside0.mk hn2
              clear hbt hn1' hn2
              go_wp2
              refine wp_region_tail 6 (fun i => match i with | 0 => fun v _ => v = .pointer (some ⟨w.heap.size + 1, 1, none⟩) | 1 => fun v _ => v = .int .i64 (y : Int) | 2 => fun v _ => v = .int .i64 (q : Int) | 3 => fun v _ => v = .int .i64 (V : Int) | 4 => fun v _ => v = .int .i64 (y1 : Int) | 5 => fun v _ => v = .pointer (some ⟨w.heap.size + 1, 1, none⟩) | _ => fun _ _ => True)
                [0, 1, 0, 4, 15, 31, 63] hmx (by kernel_rfl) ?st ?steps ?rest
              case st =>
                intro i v w1_ w2_ hb
                match i with
                | 0 | 1 | 2 | 3 | 4 | 5 => exact id
                | n + 6 => exact id
              case steps =>
                refine ⟨?_, ?_, ?_, ?_, ?_, ?_, trivial⟩
                · intro s w_ hb hd R hR
                  generalize hA : putAll _ 0 s _ = A
                  have hR' := hR (.pointer (some ⟨w.heap.size + 1, 1, none⟩)) _ (Below.refl _ _) rfl
                  clear hR hd
                  refine opGives_value ?_ hR'
                  subst hA
                  simp only [dsOf, List.take, List.map_cons, List.map_nil, Option.getD_some, putAll, Act.put, List.setIfInBounds_toArray, List.set_cons_zero, List.set_cons_succ]
                  go_simp
                · intro s w_ hb hd R hR
                  generalize hA : putAll _ 0 s _ = A
                  have e0 : s 0 = _ := hd 0 (by kernel_rfl)
                  have cc : w_.cell? ⟨w.heap.size + 1, 1, none⟩ = some (.int .i64 (y : Int)) := blk_cell (blk_below HS0n.out hb) 1
                  have hR' := hR (.int .i64 (y : Int)) _ (Below.refl _ _) rfl
                  clear hR hd
                  refine opGives_value ?_ hR'
                  subst hA
                  simp only [dsOf, List.take, List.map_cons, List.map_nil, Option.getD_some, putAll, Act.put, List.setIfInBounds_toArray, List.set_cons_zero, List.set_cons_succ]
                  go_simp
                · intro s w_ hb hd R hR
                  generalize hA : putAll _ 0 s _ = A
                  have hR' := hR (.int .i64 (q : Int)) _ (Below.refl _ _) rfl
                  clear hR hd
                  refine opGives_value ?_ hR'
                  subst hA
                  simp only [dsOf, List.take, List.map_cons, List.map_nil, Option.getD_some, putAll, Act.put, List.setIfInBounds_toArray, List.set_cons_zero, List.set_cons_succ]
                  go_simp
                · intro s w_ hb hd R hR
                  generalize hA : putAll _ 0 s _ = A
                  have e2 : s 2 = _ := hd 2 (by kernel_rfl)
                  have hsh := HSH.out
                  have hR' := hR (.int .i64 (V : Int)) _ (Below.refl _ _) rfl
                  clear hR hd
                  refine opGives_value ?_ hR'
                  subst hA
                  simp only [dsOf, List.take, List.map_cons, List.map_nil, Option.getD_some, putAll, Act.put, List.setIfInBounds_toArray, List.set_cons_zero, List.set_cons_succ]
                  go_simp
                · intro s w_ hb hd R hR
                  generalize hA : putAll _ 0 s _ = A
                  have e1 : s 1 = _ := hd 1 (by kernel_rfl)
                  have e3 : s 3 = _ := hd 3 (by kernel_rfl)
                  have ho := HO1.out
                  have hR' := hR (.int .i64 (y1 : Int)) _ (Below.refl _ _) rfl
                  clear hR hd
                  refine opGives_value ?_ hR'
                  subst hA
                  simp only [dsOf, List.take, List.map_cons, List.map_nil, Option.getD_some, putAll, Act.put, List.setIfInBounds_toArray, List.set_cons_zero, List.set_cons_succ]
                  go_simp
                · intro s w_ hb hd R hR
                  generalize hA : putAll _ 0 s _ = A
                  have hR' := hR (.pointer (some ⟨w.heap.size + 1, 1, none⟩)) _ (Below.refl _ _) rfl
                  clear hR hd
                  refine opGives_value ?_ hR'
                  subst hA
                  simp only [dsOf, List.take, List.map_cons, List.map_nil, Option.getD_some, putAll, Act.put, List.setIfInBounds_toArray, List.set_cons_zero, List.set_cons_succ]
                  go_simp
              case rest =>
                intro s10 w10 hb hv
                have e4_ : s10 4 = _ := hv 4 (by decide)
                have e5_ : s10 5 = _ := hv 5 (by decide)
                clear hv
                simp only [dsOf, List.take, List.map_cons, List.map_nil, Option.getD_some, putAll, Act.put, List.setIfInBounds_toArray, List.set_cons_zero, List.set_cons_succ]
                have HSb := Aside0.mk (blk_below HS0n.out hb)
                have cc : w10.cell? ⟨w.heap.size + 1, 1, none⟩ = some (.int .i64 (y : Int)) := blk_cell HSb.out 1
                have ff : w10.frozen? ⟨w.heap.size + 1, 1, none⟩ = false := blk_frozen HSb.out 1
                obtain ⟨xw10, hxw10⟩ : ∃ x, x = w10.setCell ⟨w.heap.size + 1, 1, none⟩ (.int .i64 (y1 : Int)) := ⟨_, rfl⟩
                refine .inr ⟨xw10, (by rw [hxw10]; go_simp), ?_⟩
                simp only [List.drop, Act.put, List.setIfInBounds_toArray, List.set_cons_zero, List.set_cons_succ]
                unfold tailList
                have HS1n : Aside0 (xw10.heap[w.heap.size + 1]? = some (.cells #[.int .i64 (a1 : Nat), .int .i64 (y1 : Nat)] 63)) := ⟨by rw [hxw10]; exact blk_put HSb.out 1 _ rfl⟩
                have hgs : w10.grownBy xw10 (some (w.heap.size + 1)) := by rw [hxw10]; exact set_grown2 _ _ _ _
                clear cc ff e4_ e5_ hxw10 HSb
                have HOy := Aside0.mk ((HOx.out.below hb).grown hgs (fun k hk e => by have := (HOx.out.below hb).base k hk; have h2 := Option.some.inj e; omega))
                have HBy := Aside0.mk ((HBx.out.trans (hb.mono (by omega))).trans (below_grown hgs (Nat.le_refl _) (by have := hb.size; omega)))
                clear hb hgs
                go_wp2
                go_roundw
                case rel => exact ⟨iv + 1, by omega, by rw [HND.out], by rw [HN1.out]; go_num, by rw [HWS.out, HQ1.out]; exact HOy, by rw [HNX.out, HN2.out, ← HY.out, ← HY1.out]; exact HS1n, HBy⟩
                case measure => have := HPP.out; simp [intOf]; omega
end Go.Proofs.Ytpcjbdkdpcgdiaa.H
