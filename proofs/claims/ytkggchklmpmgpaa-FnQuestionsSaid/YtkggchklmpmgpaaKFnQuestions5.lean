/- Questions needed, of the program. The code of a complex. QuestionNumber and IsEvasive of the program and of the reference. QuestionNumber and IsEvasive: what is drawn. Nothing old is turned: as a relation. How many vertices a face has. -/
import Derived.Carry
import Derived.Test.YtkggchklmpmgpaaKFnQuestions1
import Derived.Test.YtkggchklmpmgpaaKFnQuestions2
import Derived.Test.YtkggchklmpmgpaaKFnQuestions3
import Derived.Test.YtkggchklmpmgpaaKFnQuestions4

namespace Go.Proofs.Ytkggchklmpmgpaa.H
open Go.RowKit Go.Proofs.YtkggchklmpmgpaaW.PrintWords Go.Proofs.YtkggchklmpmgpaaW.PrintLast Go.Proofs.YtkggchklmpmgpaaW.PrintMore
set_option linter.unusedVariables false
set_option linter.unusedSimpArgs false

theorem le4096 : 4096 < maxLen := by unfold maxLen; decide
theorem mapV_put {n : Nat} {val : Nat → Nat → Int} {D : DataW Unit} {p q : Nat} {l : Lit} (hp : Pl n p q) (hv : MapV n val D) (hD : Maps.IsMap D) (hk : keyOf Try.prog 88 (stV (p ||| q) p) = some l) : MapV n val (D.put l (.lit (.int .i64 (val p q)))) := by
  intro l' h
  by_cases e : l' = l
  · subst e
    exact ⟨p, q, hp, hk, fun z => Maps.atKey_put_same hD (stKeyed.key hk) _ z⟩
  · rw [Maps.has_put_other e] at h
    obtain ⟨p', q', h1, h2, h3⟩ := hv l' h
    exact ⟨p', q', h1, h2, fun z => by rw [Maps.atKey_put_other e]; exact h3 z⟩
theorem lit_inj {a b : Int} (h : (DataW.lit (.int .i64 a) : DataW Unit) = .lit (.int .i64 b)) : a = b := by
  injection h with h
  injection h
theorem mapV_get {n : Nat} {val : Nat → Nat → Int} {D : DataW Unit} {p q : Nat} {l : Lit} (hp : Pl n p q) (hv : MapV n val D) (hk : keyOf Try.prog 88 (stV (p ||| q) p) = some l) (h : Maps.has D l = true) (c : Int) (hc : D.atKey l (.lit (.int .i64 0)) = .lit (.int .i64 c)) : val p q = c := by
  obtain ⟨p', q', h1, h2, h3⟩ := hv l h
  have e := stKeyed.inj hk h2
  obtain ⟨rfl, rfl⟩ := pl_eq hp h1 e
  exact lit_inj ((h3 _).symm.trans hc)

set_option maxRecDepth 100000 in
set_option maxHeartbeats 4000000 in
theorem questionsS (n : Nat) (ku : Value) (xs : List Int) (hcx : Cx n xs) (b : Nat) (p q a : Nat) (w : World) (ha : a = p ||| q)
    (ih : ∀ p' q' a' w, a' = p' ||| q' → lefts n p' q' < lefts n p q → Pl n p' q' → RdK b w ku xs → MapI n (needV n xs) b w →
      Calls Try.prog 123 #[cx n ku, .agg #[.int .i64 (a' : Nat), .int .i64 (p' : Nat)], .map (some b)] w fun e w' => e = .returned (.int .i64 (needV n xs p' q')) ∧ w.grownBy w' (some b) ∧ MapI n (needV n xs) b w')
    (hp : Pl n p q) (hk : RdK b w ku xs) (hT : MapI n (needV n xs) b w) :
    Calls Try.prog 123 #[cx n ku, .agg #[.int .i64 (a : Nat), .int .i64 (p : Nat)], .map (some b)] w fun e w' => e = .returned (.int .i64 (needV n xs p q)) ∧ w.grownBy w' (some b) ∧ MapI n (needV n xs) b w' := by
  have hn := hcx.hi
  obtain ⟨X, hX⟩ : ∃ X, X = needV n xs p q := ⟨_, rfl⟩
  have HX := Aside0.mk hX
  have HWX : Aside0 ((Lit.int .i64 X).wf = true) := ⟨WalkArith.wf_i64 (by have := needV_bd n xs p q; omega)⟩
  have hpq := hp.lt hn
  have hal : a < 64 := by rw [ha]; exact or_lt64 hpq.1 hpq.2
  obtain ⟨l, hkey⟩ := stLit a p hal hpq.1
  have hkey' := hkey
  rw [ha] at hkey'
  have HK0 := Aside0.mk hkey'
  obtain ⟨wb, hwb⟩ : ∃ wb, wb = w.alloc (.cells #[.int .i64 n, ku] 28) := ⟨_, rfl⟩
  obtain ⟨w2, hw2⟩ : ∃ w2, w2 = wb.alloc (.cells #[.int .i64 (a : Nat), .int .i64 (p : Nat)] 88) := ⟨_, rfl⟩
  have hsb : wb.heap.size = w.heap.size + 1 := by rw [hwb]; simp
  have hBb : Below w.heap.size w wb := by rw [hwb]; exact Below.alloc (Below.refl _ _) (Nat.le_refl _) _
  have hB1 : Below wb.heap.size wb w2 := by rw [hw2]; exact Below.alloc (Below.refl _ _) (Nat.le_refl _) _
  have hB : Below w.heap.size w w2 := hBb.trans (hB1.mono hBb.size)
  have hbl := hT.lt
  have c0 : w2.cell? ⟨w.heap.size, 0, none⟩ = some (.int .i64 n) := pw_cell_below hB1 (by rw [hwb]; simp)
  have c1 : w2.cell? ⟨w.heap.size, 1, none⟩ = some ku := pw_cell_below hB1 (by rw [hwb]; simp)
  have s0 : w2.cell? ⟨w.heap.size + 1, 0, none⟩ = some (.int .i64 (a : Nat)) := by rw [hw2, ← hsb]; exact new_cell _ _ _ 0 _ rfl
  have s1 : w2.cell? ⟨w.heap.size + 1, 1, none⟩ = some (.int .i64 (p : Nat)) := by rw [hw2, ← hsb]; exact new_cell _ _ _ 1 _ rfl
  have hne0 : w.heap.size ≠ b := by omega
  have hne1 : w.heap.size + 1 ≠ b := by omega
  have HG := Aside0.mk (grown_below hB (some b))
  have HK := Aside0.mk (hk.below hB)
  have HT := Aside0.mk (hT.below hB)
  have HP := Aside0.mk hp
  have hTB := toldB_toldV (xs := xs) hp
  rw [← ha] at hTB
  have HKEY : Aside0 (keyOf Try.prog 88 (.agg #[.int .i64 (a : Nat), .int .i64 (p : Nat)]) = some l) := ⟨hkey⟩
  obtain ⟨k, D, ho, hv⟩ := HT.out
  have HOW := Aside0.mk (mapV_size hn ho hv)
  have HCV := Aside0.mk (fun h => mapV_get hp hv hkey' h)
  obtain ⟨A1, d1, rfl, -⟩ := id hk.read
  have HTO := Aside0.mk (fun W hr => isTold n (.slice A1 xs.length d1) xs a p hal hpq.1 W hr hcx)
  have HA := Aside0.mk ha
  clear hk hT hB ho hv hkey hkey' hsb hBb hB1 ha
  subst hwb
  cases hhas : Maps.has D l with
  | true =>
    have HC := Aside0.mk (HCV.out hhas)
    clear HCV hX
    go_enter Try.func123, Try.ntmps123
    go_wp2_with (first | (at_lookup; rw [← hw2]; clear hw2; refine wpList_lookup_own_ok_int _ rfl _ _ 89 rfl 88 2 .i64 stKeyed Try.underlying89 Try.underlying2 (zeroI _) b 4096 D rfl HOW.out _ _ rfl HKEY.out ?_; intro c hat hwc; have HE := Aside0.mk (HC.out c hat); clear hat hwc))
    go_ret
    exact ⟨by rw [HE.out]; rfl, HG.out, HT.out⟩
  | false =>
    clear HCV
    obtain ⟨T, hTT⟩ : ∃ T, T = toldV n xs p q := ⟨_, rfl⟩
    rw [← hTT] at hTB
    by_cases ht : 0 ≤ T
    · have HXZ : Aside0 (X = 0) := ⟨by rw [hX]; exact needV_told (by rw [← hTT]; exact ht)⟩
      rw [decide_eq_true ht] at hTB
      rw [hTB] at HTO
      clear hTT hX hTB
      go_enter Try.func123, Try.ntmps123
      go_wp2_with (first | (at_lookup; rw [← hw2]; clear hw2; refine wpList_lookup_own_ok_int _ rfl _ _ 89 rfl 88 2 .i64 stKeyed Try.underlying89 Try.underlying2 (zeroI _) b 4096 D rfl HOW.out _ _ rfl HKEY.out ?_; intro c hat hwc; clear hat hwc) | (go_at_call 131; refine (HTO.out _ HK.out.read).mono ?_; rintro e w3 ⟨rfl, hb⟩; have HG3 := Aside0.mk (grown_trans HG.out (grown_below hb _)); have HT3 := Aside0.mk (HT.out.below hb); have HK3 := Aside0.mk (HK.out.below hb); replace c0 := pw_cell_below hb c0; replace c1 := pw_cell_below hb c1; replace s0 := pw_cell_below hb s0; replace s1 := pw_cell_below hb s1; clear hb) | (at_mapUpdate; obtain ⟨k_, D_, ho_, hv_⟩ := HT3.out; refine wpList_mapUpdate_own _ rfl _ _ _ 89 rfl 88 2 stKeyed Try.underlying89 _ b 4096 _ rfl (mapV_size hn ho_ hv_) le4096 _ _ _ rfl rfl HKEY.out _ [] (plainElem_int Try.underlying2 (by decide)) ?_; intro w8 ho8 hg8; have HGe := Aside0.mk (grown_trans HG3.out hg8); have HTe := Aside0.mk (show MapI n (needV n xs) b w8 from ⟨_, _, ho8, by rw [← HXZ.out, HX.out]; exact mapV_put HP.out hv_ (World.ownsMap.isMap ho_) HK0.out⟩); clear ho_ hv_ ho8 hg8))
      go_ret
      exact ⟨by rw [← HX.out, HXZ.out]; rfl, HGe.out, HTe.out⟩
    · have HXO : Aside0 (X = needTo n xs p q n) := ⟨by rw [hX]; exact needV_open hn hp (by rw [← hTT]; exact ht)⟩
      rw [decide_eq_false ht] at hTB
      rw [hTB] at HTO
      have hn1 := hcx.lo
      clear hTT hX ht hTB
      go_enter Try.func123, Try.ntmps123
      go_wp2_with (first | (at_lookup; rw [← hw2]; clear hw2; refine wpList_lookup_own_ok_int _ rfl _ _ 89 rfl 88 2 .i64 stKeyed Try.underlying89 Try.underlying2 (zeroI _) b 4096 D rfl HOW.out _ _ rfl HKEY.out ?_; intro c hat hwc; clear hat hwc) | (go_at_call 131; refine (HTO.out _ HK.out.read).mono ?_; rintro e w3 ⟨rfl, hb⟩; have HG3 := Aside0.mk (grown_trans HG.out (grown_below hb _)); have HT3 := Aside0.mk (HT.out.below hb); have HK3 := Aside0.mk (HK.out.below hb); replace c0 := pw_cell_below hb c0; replace c1 := pw_cell_below hb c1; replace s0 := pw_cell_below hb s0; replace s1 := pw_cell_below hb s1; clear hb))
      go_loopw [9, 33] (fun s9 s33 wr => ∃ iv : Nat, s33 = .int .i64 iv ∧ iv ≤ n ∧ s9 = .int .i64 (needTo n xs p q iv) ∧ Aside0 (w3.grownBy wr (some b)) ∧ Aside0 (MapI n (needV n xs) b wr)) (fun _ s33 _ => n - (intOf s33).toNat)
      case atStart => exact ⟨0, rfl, Nat.zero_le _, by rw [needTo_zero], ⟨grown_below (Below.refl _ _) _⟩, HT3⟩
      case round =>
        obtain ⟨iv, rfl, hi, rfl, HGr, HTr⟩ := hrel
        have c0 := grown_cell HGr.out c0 hne0
        have c1 := grown_cell HGr.out c1 hne0
        have s0 := grown_cell HGr.out s0 hne1
        have s1 := grown_cell HGr.out s1 hne1
        have HKr := Aside0.mk (HK3.out.go HGr.out)
        have HGw := Aside0.mk (grown_trans HG3.out HGr.out)
        by_cases hlt : iv < n
        · have hsh := pow_wrap iv (by omega)
          have hsh' := pow_wrap' iv (by omega)
          have hV := pow_lt64 (v := iv) (by omega)
          have HMS := Aside0.mk (fun h : (p ||| q).testBit iv = true => needTo_miss (n := n) (xs := xs) h)
          have HHT := Aside0.mk (fun h : (p ||| q).testBit iv = false => needTo_hit (n := n) (xs := xs) h)
          have HLP := Aside0.mk (fun h => lefts_p (v := iv) hn HP.out hlt h)
          have HLQ := Aside0.mk (fun h => lefts_q (v := iv) hn HP.out hlt h)
          have HPY := Aside0.mk (fun h => Pl.yes (v := iv) HP.out hlt h)
          have HPN := Aside0.mk (fun h => Pl.no (v := iv) HP.out hlt h)
          have HNA : Aside0 (needAt n xs p q iv = 1 + max (needV n xs (p ||| 2 ^ iv) q) (needV n xs p (q ||| 2 ^ iv))) := ⟨rfl⟩
          have HOP := Aside0.mk (or_p p q iv)
          have HOQ := Aside0.mk (or_q p q iv)
          have hB0 := needTo_bd n xs p q iv
          have hbit := bit_of a iv (lt_big hal)
          obtain ⟨V, hVV⟩ : ∃ V, V = 2 ^ iv := ⟨_, rfl⟩
          rw [← hVV] at hsh hsh' hV HLP HLQ HPY HPN HNA HOP HOQ
          clear hVV
          have ha := HA.out
          rw [← ha] at HMS HHT HLP HLQ HPY HPN HOP HOQ
          cases ht : a.testBit iv with
          | true =>
            have HM := Aside0.mk (HMS.out ht)
            rw [ht, if_pos rfl] at hbit
            clear ht ha HMS HHT HLP HLQ HPY HPN hsh'
            go_wp2
            go_roundw
            case rel => exact ⟨iv + 1, by go_num, by omega, by rw [HM.out], HGr, HTr⟩
            case measure => simp [intOf]; omega
          | false =>
            have HM := Aside0.mk (HHT.out ht)
            rw [ht, if_neg (by decide)] at hbit
            have hl1 := HLP.out ht
            have hl2 := HLQ.out ht
            have hp1 := HPY.out ht
            have hp2 := HPN.out ht
            have ho1 := or_i64 a V (lt_big hal) (lt_big hV)
            have ho2 := or_i64 p V (lt_big hpq.1) (lt_big hV)
            have IH1 := Aside0.mk (fun W hk hT => ih (p ||| V) q (a ||| V) W HOP.out.symm (lt_of_succ hl1) hp1 hk hT)
            have IH2 := Aside0.mk (fun W hk hT => ih p (q ||| V) (a ||| V) W HOQ.out.symm (lt_of_succ hl2) hp2 hk hT)
            have hx1 := needV_bd n xs (p ||| V) q
            have hx2 := needV_bd n xs p (q ||| V)
            obtain ⟨p1, hp1'⟩ : ∃ p1, p1 = p ||| V := ⟨_, rfl⟩
            obtain ⟨q1, hq1'⟩ : ∃ q1, q1 = q ||| V := ⟨_, rfl⟩
            obtain ⟨a1, ha1'⟩ : ∃ a1, a1 = a ||| V := ⟨_, rfl⟩
            rw [← hp1'] at ho2 IH1 hx1 HNA
            rw [← hq1'] at IH2 hx2 HNA
            rw [← ha1'] at ho1 IH1 IH2
            obtain ⟨x1, hx1'⟩ : ∃ x1, x1 = needV n xs p1 q := ⟨_, rfl⟩
            obtain ⟨x2, hx2'⟩ : ∃ x2, x2 = needV n xs p q1 := ⟨_, rfl⟩
            rw [← hx1'] at hx1 IH1 HNA
            rw [← hx2'] at hx2 IH2 HNA
            have HAM := Aside0.mk (add_max hx2.1 hx2.2 hx1.1 hx1.2 hn)
            have HXB := Aside0.mk hx1
            have HXC := Aside0.mk hx2
            have HO1 := Aside0.mk ho1
            have HO2 := Aside0.mk ho2
            have HSH := Aside0.mk hsh'
            clear hp1' hq1' ha1' hx1' hx2' ht ha hl1 hl2 hp1 hp2 ho1 ho2 hx1 hx2 HMS HHT HLP HLQ HPY HPN HOP HOQ hsh hsh'
            obtain ⟨B0, hB0'⟩ : ∃ B0, B0 = needTo n xs p q iv := ⟨_, rfl⟩
            rw [← hB0'] at hB0 HM ⊢
            have HB0 := Aside0.mk hB0
            clear hB0' hB0
            go_wp2
            have hmx : Try.prog.follows .mixedOrders = true := by kernel_rfl
            refine wp_region_g (Gm b (MapI n (needV n xs) b)) (fun w => ⟨grown_drew w _, fun h => h.below (Below.refl _ _).drew⟩) (fun _ _ _ => Gm.trans) (fun i => match i with | 0 => fun v _ => v = .pointer (some ⟨w.heap.size + 1, 0, none⟩) | 1 => fun v _ => v = .int .i64 (a : Int) | 2 => fun v _ => v = .int .i64 (iv : Int) | 3 => fun v _ => v = .int .i64 (V : Int) | 4 => fun v _ => v = .int .i64 (a1 : Int) | 5 => fun v _ => v = .int .i64 (a1 : Int) | _ => fun _ _ => True)
              [0, 1, 0, 4, 15, 31] hmx (by kernel_rfl) ?st ?steps ?rest
            case st =>
              intro i v w1_ w2_ hb
              match i with
              | 0 | 1 | 2 | 3 | 4 | 5 => exact id
              | n + 6 => exact id
            case steps =>
              refine ⟨?_, ?_, ?_, ?_, ?_, ?_, trivial⟩
              · intro s w_ hb hd hq R hR
                generalize hA : putAll _ 0 s _ = A
                clear hq
                have hR' := hR (.pointer (some ⟨w.heap.size + 1, 0, none⟩)) _ (Gm.refl _ _ _) rfl
                clear hR hd
                refine opGives_value ?_ hR'
                subst hA
                simp only [dsOf, List.map_cons, List.map_nil, Option.getD_some, putAll, Act.put, List.setIfInBounds_toArray, List.set_cons_zero, List.set_cons_succ]
                go_simp
              · intro s w_ hb hd hq R hR
                generalize hA : putAll _ 0 s _ = A
                have e0 : s 0 = _ := hd 0 (by kernel_rfl)
                clear hq
                have s0 := grown_cell hb.1 s0 hne1
                have hR' := hR (.int .i64 (a : Int)) _ (Gm.refl _ _ _) rfl
                clear hR hd
                refine opGives_value ?_ hR'
                subst hA
                simp only [dsOf, List.map_cons, List.map_nil, Option.getD_some, putAll, Act.put, List.setIfInBounds_toArray, List.set_cons_zero, List.set_cons_succ]
                go_simp
              · intro s w_ hb hd hq R hR
                generalize hA : putAll _ 0 s _ = A
                clear hq
                have hR' := hR (.int .i64 (iv : Int)) _ (Gm.refl _ _ _) rfl
                clear hR hd
                refine opGives_value ?_ hR'
                subst hA
                simp only [dsOf, List.map_cons, List.map_nil, Option.getD_some, putAll, Act.put, List.setIfInBounds_toArray, List.set_cons_zero, List.set_cons_succ]
                go_simp
              · intro s w_ hb hd hq R hR
                generalize hA : putAll _ 0 s _ = A
                have e2 : s 2 = _ := hd 2 (by kernel_rfl)
                clear hq
                have hsh := HSH.out
                have hR' := hR (.int .i64 (V : Int)) _ (Gm.refl _ _ _) rfl
                clear hR hd
                refine opGives_value ?_ hR'
                subst hA
                simp only [dsOf, List.map_cons, List.map_nil, Option.getD_some, putAll, Act.put, List.setIfInBounds_toArray, List.set_cons_zero, List.set_cons_succ]
                go_simp
              · intro s w_ hb hd hq R hR
                generalize hA : putAll _ 0 s _ = A
                have e1 : s 1 = _ := hd 1 (by kernel_rfl)
                have e3 : s 3 = _ := hd 3 (by kernel_rfl)
                clear hq
                have ho1 := HO1.out
                have hR' := hR (.int .i64 (a1 : Int)) _ (Gm.refl _ _ _) rfl
                clear hR hd
                refine opGives_value ?_ hR'
                subst hA
                simp only [dsOf, List.map_cons, List.map_nil, Option.getD_some, putAll, Act.put, List.setIfInBounds_toArray, List.set_cons_zero, List.set_cons_succ]
                go_simp
              · intro s w_ hb hd hq R hR
                generalize hA : putAll _ 0 s _ = A
                have e4 : s 4 = _ := hd 4 (by kernel_rfl)
                clear hq
                have hR' := hR (.int .i64 (a1 : Int)) _ (Gm.refl _ _ _) rfl
                clear hR hd
                refine opGives_value ?_ hR'
                subst hA
                simp only [dsOf, List.map_cons, List.map_nil, Option.getD_some, putAll, Act.put, List.setIfInBounds_toArray, List.set_cons_zero, List.set_cons_succ]
                go_simp
            case rest =>
              intro s9 w9 hb hv
              have e5_ : s9 5 = _ := hv 5 (by decide)
              simp only [dsOf, List.map_cons, List.map_nil, Option.getD_some, putAll, Act.put, List.setIfInBounds_toArray, List.set_cons_zero, List.set_cons_succ]
              rw [e5_]
              clear hv e5_
              have HGs := Aside0.mk (grown_trans HGr.out hb.1)
              have HTs := Aside0.mk (hb.2 HTr.out)
              have HKs := Aside0.mk (HKr.out.go hb.1)
              replace c0 := grown_cell hb.1 c0 hne0
              replace c1 := grown_cell hb.1 c1 hne0
              replace s0 := grown_cell hb.1 s0 hne1
              replace s1 := grown_cell hb.1 s1 hne1
              clear hb
              go_wp2
              refine wp_region_g (Gm b (MapI n (needV n xs) b)) (fun w => ⟨grown_drew w _, fun h => h.below (Below.refl _ _).drew⟩) (fun _ _ _ => Gm.trans) (fun i => match i with | 0 => fun v _ => v = .agg #[.int .i64 (n : Int), .slice A1 xs.length d1] | 1 => fun v _ => v = .int .i64 (a1 : Int) | 2 => fun v _ => v = .pointer (some ⟨w.heap.size + 1, 1, none⟩) | 3 => fun v _ => v = .int .i64 (p : Int) | 4 => fun v _ => v = .agg #[.int .i64 (a1 : Int), .int .i64 (p : Int)] | 5 => fun v _ => v = .map (some b) | 6 => fun v _ => v = .int .i64 x2 | 7 => fun v _ => v = .agg #[.int .i64 (n : Int), .slice A1 xs.length d1] | 8 => fun v _ => v = .int .i64 (a1 : Int) | 9 => fun v _ => v = .pointer (some ⟨w.heap.size + 1, 1, none⟩) | 10 => fun v _ => v = .int .i64 (p : Int) | 11 => fun v _ => v = .int .i64 (iv : Int) | 12 => fun v _ => v = .int .i64 (V : Int) | 13 => fun v _ => v = .int .i64 (p1 : Int) | 14 => fun v _ => v = .agg #[.int .i64 (a1 : Int), .int .i64 (p1 : Int)] | 15 => fun v _ => v = .map (some b) | 16 => fun v _ => v = .int .i64 x1 | 17 => fun v _ => v = .int .i64 x2 | 18 => fun v _ => v = .int .i64 x1 | _ => fun _ _ => True)
                [0, 0, 0, 4, 14, 0, 63, 0, 0, 0, 512, 0, 2048, 7680, 16128, 0, 65535, 131071, 262143] hmx (by kernel_rfl) ?st ?steps ?rest
              case st =>
                intro i v w1_ w2_ hb
                match i with
                | 0 | 1 | 2 | 3 | 4 | 5 | 6 | 7 | 8 | 9 | 10 | 11 | 12 | 13 | 14 | 15 | 16 | 17 | 18 => exact id
                | n + 19 => exact id
              case steps =>
                refine ⟨?_, ?_, ?_, ?_, ?_, ?_, ?_, ?_, ?_, ?_, ?_, ?_, ?_, ?_, ?_, ?_, ?_, ?_, ?_, trivial⟩
                · intro s w_ hb hd hq R hR
                  generalize hA : putAll _ 0 s _ = A
                  clear hq
                  have c0 := grown_cell hb.1 c0 hne0
                  have c1 := grown_cell hb.1 c1 hne0
                  have hR' := hR (.agg #[.int .i64 (n : Int), .slice A1 xs.length d1]) _ (Gm.refl _ _ _) rfl
                  clear hR hd
                  refine opGives_value ?_ hR'
                  subst hA
                  simp only [dsOf, List.map_cons, List.map_nil, Option.getD_some, putAll, Act.put, List.setIfInBounds_toArray, List.set_cons_zero, List.set_cons_succ]
                  go_simp
                · intro s w_ hb hd hq R hR
                  generalize hA : putAll _ 0 s _ = A
                  clear hq
                  have hR' := hR (.int .i64 (a1 : Int)) _ (Gm.refl _ _ _) rfl
                  clear hR hd
                  refine opGives_value ?_ hR'
                  subst hA
                  simp only [dsOf, List.map_cons, List.map_nil, Option.getD_some, putAll, Act.put, List.setIfInBounds_toArray, List.set_cons_zero, List.set_cons_succ]
                  go_simp
                · intro s w_ hb hd hq R hR
                  generalize hA : putAll _ 0 s _ = A
                  clear hq
                  have hR' := hR (.pointer (some ⟨w.heap.size + 1, 1, none⟩)) _ (Gm.refl _ _ _) rfl
                  clear hR hd
                  refine opGives_value ?_ hR'
                  subst hA
                  simp only [dsOf, List.map_cons, List.map_nil, Option.getD_some, putAll, Act.put, List.setIfInBounds_toArray, List.set_cons_zero, List.set_cons_succ]
                  go_simp
                · intro s w_ hb hd hq R hR
                  generalize hA : putAll _ 0 s _ = A
                  have e2 : s 2 = _ := hd 2 (by kernel_rfl)
                  clear hq
                  have s1 := grown_cell hb.1 s1 hne1
                  have hR' := hR (.int .i64 (p : Int)) _ (Gm.refl _ _ _) rfl
                  clear hR hd
                  refine opGives_value ?_ hR'
                  subst hA
                  simp only [dsOf, List.map_cons, List.map_nil, Option.getD_some, putAll, Act.put, List.setIfInBounds_toArray, List.set_cons_zero, List.set_cons_succ]
                  go_simp
                · intro s w_ hb hd hq R hR
                  generalize hA : putAll _ 0 s _ = A
                  have e1 : s 1 = _ := hd 1 (by kernel_rfl)
                  have e3 : s 3 = _ := hd 3 (by kernel_rfl)
                  clear hq
                  have hR' := hR (.agg #[.int .i64 (a1 : Int), .int .i64 (p : Int)]) _ (Gm.refl _ _ _) rfl
                  clear hR hd
                  refine opGives_value ?_ hR'
                  subst hA
                  simp only [dsOf, List.map_cons, List.map_nil, Option.getD_some, putAll, Act.put, List.setIfInBounds_toArray, List.set_cons_zero, List.set_cons_succ]
                  go_simp
                · intro s w_ hb hd hq R hR
                  generalize hA : putAll _ 0 s _ = A
                  clear hq
                  have hR' := hR (.map (some b)) _ (Gm.refl _ _ _) rfl
                  clear hR hd
                  refine opGives_value ?_ hR'
                  subst hA
                  simp only [dsOf, List.map_cons, List.map_nil, Option.getD_some, putAll, Act.put, List.setIfInBounds_toArray, List.set_cons_zero, List.set_cons_succ]
                  go_simp
                · intro s w_ hb hd hq R hR
                  generalize hA : putAll _ 0 s _ = A
                  have e0 : s 0 = _ := hd 0 (by kernel_rfl)
                  have e4 : s 4 = _ := hd 4 (by kernel_rfl)
                  have e5 : s 5 = _ := hd 5 (by kernel_rfl)
                  clear hq
                  refine opGives_call (f := 123) (args := #[.agg #[.int .i64 (n : Int), .slice A1 xs.length d1], .agg #[.int .i64 (a1 : Int), .int .i64 (p : Int)], .map (some b)]) ?_ ?_
                  · subst hA
                    clear hR hd
                    simp only [dsOf, List.map_cons, List.map_nil, Option.getD_some, putAll, Act.put, List.setIfInBounds_toArray, List.set_cons_zero, List.set_cons_succ]
                    go_simp
                  clear hA A hd
                  refine (IH2.out w_ (HKs.out.go hb.1) (hb.2 HTs.out)).mono ?_
                  rintro e w3_ ⟨rfl, hg, hT⟩
                  exact ⟨_, rfl, hR _ _ ⟨hg, fun _ => hT⟩ rfl⟩
                · intro s w_ hb hd hq R hR
                  generalize hA : putAll _ 0 s _ = A
                  clear hq
                  have c0 := grown_cell hb.1 c0 hne0
                  have c1 := grown_cell hb.1 c1 hne0
                  have hR' := hR (.agg #[.int .i64 (n : Int), .slice A1 xs.length d1]) _ (Gm.refl _ _ _) rfl
                  clear hR hd
                  refine opGives_value ?_ hR'
                  subst hA
                  simp only [dsOf, List.map_cons, List.map_nil, Option.getD_some, putAll, Act.put, List.setIfInBounds_toArray, List.set_cons_zero, List.set_cons_succ]
                  go_simp
                · intro s w_ hb hd hq R hR
                  generalize hA : putAll _ 0 s _ = A
                  clear hq
                  have hR' := hR (.int .i64 (a1 : Int)) _ (Gm.refl _ _ _) rfl
                  clear hR hd
                  refine opGives_value ?_ hR'
                  subst hA
                  simp only [dsOf, List.map_cons, List.map_nil, Option.getD_some, putAll, Act.put, List.setIfInBounds_toArray, List.set_cons_zero, List.set_cons_succ]
                  go_simp
                · intro s w_ hb hd hq R hR
                  generalize hA : putAll _ 0 s _ = A
                  clear hq
                  have hR' := hR (.pointer (some ⟨w.heap.size + 1, 1, none⟩)) _ (Gm.refl _ _ _) rfl
                  clear hR hd
                  refine opGives_value ?_ hR'
                  subst hA
                  simp only [dsOf, List.map_cons, List.map_nil, Option.getD_some, putAll, Act.put, List.setIfInBounds_toArray, List.set_cons_zero, List.set_cons_succ]
                  go_simp
                · intro s w_ hb hd hq R hR
                  generalize hA : putAll _ 0 s _ = A
                  have e9 : s 9 = _ := hd 9 (by kernel_rfl)
                  clear hq
                  have s1 := grown_cell hb.1 s1 hne1
                  have hR' := hR (.int .i64 (p : Int)) _ (Gm.refl _ _ _) rfl
                  clear hR hd
                  refine opGives_value ?_ hR'
                  subst hA
                  simp only [dsOf, List.map_cons, List.map_nil, Option.getD_some, putAll, Act.put, List.setIfInBounds_toArray, List.set_cons_zero, List.set_cons_succ]
                  go_simp
                · intro s w_ hb hd hq R hR
                  generalize hA : putAll _ 0 s _ = A
                  clear hq
                  have hR' := hR (.int .i64 (iv : Int)) _ (Gm.refl _ _ _) rfl
                  clear hR hd
                  refine opGives_value ?_ hR'
                  subst hA
                  simp only [dsOf, List.map_cons, List.map_nil, Option.getD_some, putAll, Act.put, List.setIfInBounds_toArray, List.set_cons_zero, List.set_cons_succ]
                  go_simp
                · intro s w_ hb hd hq R hR
                  generalize hA : putAll _ 0 s _ = A
                  have e11 : s 11 = _ := hd 11 (by kernel_rfl)
                  clear hq
                  have hsh := HSH.out
                  have hR' := hR (.int .i64 (V : Int)) _ (Gm.refl _ _ _) rfl
                  clear hR hd
                  refine opGives_value ?_ hR'
                  subst hA
                  simp only [dsOf, List.map_cons, List.map_nil, Option.getD_some, putAll, Act.put, List.setIfInBounds_toArray, List.set_cons_zero, List.set_cons_succ]
                  go_simp
                · intro s w_ hb hd hq R hR
                  generalize hA : putAll _ 0 s _ = A
                  have e10 : s 10 = _ := hd 10 (by kernel_rfl)
                  have e12 : s 12 = _ := hd 12 (by kernel_rfl)
                  clear hq
                  have ho2 := HO2.out
                  have hR' := hR (.int .i64 (p1 : Int)) _ (Gm.refl _ _ _) rfl
                  clear hR hd
                  refine opGives_value ?_ hR'
                  subst hA
                  simp only [dsOf, List.map_cons, List.map_nil, Option.getD_some, putAll, Act.put, List.setIfInBounds_toArray, List.set_cons_zero, List.set_cons_succ]
                  go_simp
                · intro s w_ hb hd hq R hR
                  generalize hA : putAll _ 0 s _ = A
                  have e8 : s 8 = _ := hd 8 (by kernel_rfl)
                  have e13 : s 13 = _ := hd 13 (by kernel_rfl)
                  clear hq
                  have hR' := hR (.agg #[.int .i64 (a1 : Int), .int .i64 (p1 : Int)]) _ (Gm.refl _ _ _) rfl
                  clear hR hd
                  refine opGives_value ?_ hR'
                  subst hA
                  simp only [dsOf, List.map_cons, List.map_nil, Option.getD_some, putAll, Act.put, List.setIfInBounds_toArray, List.set_cons_zero, List.set_cons_succ]
                  go_simp
                · intro s w_ hb hd hq R hR
                  generalize hA : putAll _ 0 s _ = A
                  clear hq
                  have hR' := hR (.map (some b)) _ (Gm.refl _ _ _) rfl
                  clear hR hd
                  refine opGives_value ?_ hR'
                  subst hA
                  simp only [dsOf, List.map_cons, List.map_nil, Option.getD_some, putAll, Act.put, List.setIfInBounds_toArray, List.set_cons_zero, List.set_cons_succ]
                  go_simp
                · intro s w_ hb hd hq R hR
                  generalize hA : putAll _ 0 s _ = A
                  have e7 : s 7 = _ := hd 7 (by kernel_rfl)
                  have e14 : s 14 = _ := hd 14 (by kernel_rfl)
                  have e15 : s 15 = _ := hd 15 (by kernel_rfl)
                  clear hq
                  refine opGives_call (f := 123) (args := #[.agg #[.int .i64 (n : Int), .slice A1 xs.length d1], .agg #[.int .i64 (a1 : Int), .int .i64 (p1 : Int)], .map (some b)]) ?_ ?_
                  · subst hA
                    clear hR hd
                    simp only [dsOf, List.map_cons, List.map_nil, Option.getD_some, putAll, Act.put, List.setIfInBounds_toArray, List.set_cons_zero, List.set_cons_succ]
                    go_simp
                  clear hA A hd
                  refine (IH1.out w_ (HKs.out.go hb.1) (hb.2 HTs.out)).mono ?_
                  rintro e w3_ ⟨rfl, hg, hT⟩
                  exact ⟨_, rfl, hR _ _ ⟨hg, fun _ => hT⟩ rfl⟩
                · intro s w_ hb hd hq R hR
                  generalize hA : putAll _ 0 s _ = A
                  have e6 : s 6 = _ := hd 6 (by kernel_rfl)
                  clear hq
                  have hR' := hR (.int .i64 x2) _ (Gm.refl _ _ _) rfl
                  clear hR hd
                  refine opGives_value ?_ hR'
                  subst hA
                  simp only [dsOf, List.map_cons, List.map_nil, Option.getD_some, putAll, Act.put, List.setIfInBounds_toArray, List.set_cons_zero, List.set_cons_succ]
                  go_simp
                · intro s w_ hb hd hq R hR
                  generalize hA : putAll _ 0 s _ = A
                  have e16 : s 16 = _ := hd 16 (by kernel_rfl)
                  clear hq
                  have hR' := hR (.int .i64 x1) _ (Gm.refl _ _ _) rfl
                  clear hR hd
                  refine opGives_value ?_ hR'
                  subst hA
                  simp only [dsOf, List.map_cons, List.map_nil, Option.getD_some, putAll, Act.put, List.setIfInBounds_toArray, List.set_cons_zero, List.set_cons_succ]
                  go_simp
              case rest =>
                intro s10 w10 hb hv
                have e17_ : s10 17 = _ := hv 17 (by decide)
                have e18_ : s10 18 = _ := hv 18 (by decide)
                simp only [dsOf, List.map_cons, List.map_nil, Option.getD_some, putAll, Act.put, List.setIfInBounds_toArray, List.set_cons_zero, List.set_cons_succ]
                rw [e17_, e18_]
                clear hv e17_ e18_
                have HGn := Aside0.mk (grown_trans HGs.out hb.1)
                have HTn := Aside0.mk (hb.2 HTs.out)
                clear hb
                have hmx := max_if x2 x1
                have ham := HAM.out
                have hmn := min_if B0 (1 + max x2 x1)
                go_wp2
                go_roundw
                case rel => exact ⟨iv + 1, by go_num, by omega, by rw [HM.out, HNA.out, Int.max_comm x1 x2], HGn, HTn⟩
                case measure => simp [intOf]; omega
        · have e : iv = n := by omega
          have HXE : Aside0 (needTo n xs p q iv = X) := ⟨by rw [HXO.out, e]⟩
          rw [HXE.out]
          clear e
          go_wp2_with (first | (at_mapUpdate; obtain ⟨k_, D_, ho_, hv_⟩ := HTr.out; refine wpList_mapUpdate_own _ rfl _ _ _ 89 rfl 88 2 stKeyed Try.underlying89 _ b 4096 _ rfl (mapV_size hn ho_ hv_) le4096 _ _ _ rfl rfl HKEY.out _ [] (plainElem_int Try.underlying2 HWX.out) ?_; intro w8 ho8 hg8; have HGe := Aside0.mk (grown_trans HGw.out hg8); have HTe := Aside0.mk (show MapI n (needV n xs) b w8 from ⟨_, _, ho8, by rw [HX.out]; exact mapV_put HP.out hv_ (World.ownsMap.isMap ho_) HK0.out⟩); clear ho_ hv_ ho8 hg8))
          go_ret
          exact ⟨by rw [HX.out]; rfl, HGe.out, HTe.out⟩

theorem questions (n : Nat) (ku : Value) (xs : List Int) (hcx : Cx n xs) (b : Nat) (f : Nat) : ∀ p q a w, a = p ||| q → lefts n p q < f → Pl n p q → RdK b w ku xs → MapI n (needV n xs) b w →
    Calls Try.prog 123 #[cx n ku, .agg #[.int .i64 (a : Nat), .int .i64 (p : Nat)], .map (some b)] w fun e w' => e = .returned (.int .i64 (needV n xs p q)) ∧ w.grownBy w' (some b) ∧ MapI n (needV n xs) b w' := by
  induction f with
  | zero => exact fun p q a w _ hl => absurd hl (Nat.not_lt_zero _)
  | succ f ih => exact fun p q a w ha hl hp hk hT => questionsS n ku xs hcx b p q a w ha (fun p' q' a' w ha' hl' => ih p' q' a' w ha' (by omega)) hp hk hT
end Go.Proofs.Ytkggchklmpmgpaa.H

namespace Go.Proofs.Ytkggchklmpmgpaa.H
open Go.RowKit Go.Proofs.YtkggchklmpmgpaaW.PrintWords Go.Proofs.YtkggchklmpmgpaaW.PrintLast Go.Proofs.YtkggchklmpmgpaaW.PrintMore
set_option linter.unusedVariables false
set_option linter.unusedSimpArgs false

/-- a function value of nothing that answers b -/
def ThunkB (w : World) (fv : Value) (b : Bool) : Prop :=
  ∃ g first caps, fv = .func (.func g) first caps ∧ Enters g ∧ ∀ w1, Below w.heap.size w w1 → Calls Try.prog g (first ++ #[] ++ caps) w1 fun e w2 => e = .returned (.bool b) ∧ Below w1.heap.size w1 w2
theorem ThunkB.below {w w' : World} {fv : Value} {b : Bool} (h : ThunkB w fv b) (hb : Below w.heap.size w w') : ThunkB w' fv b := by
  obtain ⟨g, first, caps, rfl, hent, hp⟩ := h
  exact ⟨g, first, caps, rfl, hent, fun w1 h1 => hp w1 (hb.trans (h1.mono hb.size))⟩

theorem always (w : World) : Calls Try.prog 41 #[] w fun e w' => e = .returned (.bool true) ∧ Below w.heap.size w w' := by
  go_enter Try.func41, Try.ntmps41
  go_wp2
  go_ret
  exact ⟨rfl, Below.refl _ _⟩
theorem alwaysB (w : World) : ThunkB w (.func (.func 41) #[] #[]) true :=
  ⟨_, _, _, rfl, Enters.mk' Try.func41 rfl rfl, fun w1 _ => always w1⟩

set_option maxHeartbeats 2000000 in
theorem complexCode2 (a : Int) (ku : Value) (xs : List Int) (fv : Value) (r : Bool) (w : World) (hk : ReadI w ku xs) (hf : cxOk a xs = true → ThunkB w fv r) (hfv : ∃ g first caps, fv = .func (.func g) first caps) :
    Calls Try.prog 40 #[cx a ku, fv] w fun e w' => e = .returned (.int .i64 (if cxOk a xs then (if r then 0 else 2) else 1)) ∧ Below w.heap.size w w' := by
  obtain ⟨w1, hw1⟩ : ∃ w1, w1 = w.alloc (.cells #[.int .i64 a, ku] 28) := ⟨_, rfl⟩
  have hB : Below w.heap.size w w1 := by rw [hw1]; exact Below.alloc (Below.refl _ _) (Nat.le_refl _) _
  have c0 : w1.cell? ⟨w.heap.size, 0, none⟩ = some (.int .i64 a) := by rw [hw1]; simp
  have c1 : w1.cell? ⟨w.heap.size, 1, none⟩ = some ku := by rw [hw1]; simp
  have HK := Aside0.mk (hk.below hB)
  have HB := Aside0.mk hB
  obtain ⟨g, first, caps, rfl⟩ := hfv
  have HF := Aside0.mk (fun h => (hf h).below hB)
  obtain ⟨A1, d1, rfl, -⟩ := id hk
  clear hk hf hB
  cases h1 : cxOk a xs with
  | false =>
    go_enter Try.func40, Try.ntmps40
    go_wp2_with (first | (rw [← hw1]; clear hw1; go_at_call 91; refine (isComplex _ _ xs _ HK.out).mono ?_; rintro e w2 ⟨rfl, hb⟩; rw [h1]))
    go_ret
    exact ⟨rfl, HB.out.trans (hb.mono HB.out.size)⟩
  | true =>
    obtain ⟨g', first', caps', e3, hent, hp⟩ := HF.out h1
    cases e3
    have HP := Aside0.mk hp
    clear hp HF
    unfold Enters at hent
    cases r with
    | false =>
      go_enter Try.func40, Try.ntmps40
      go_wp2_with (first | (rw [← hw1]; clear hw1; go_at_call 91; refine (isComplex _ _ xs _ HK.out).mono ?_; rintro e w2 ⟨rfl, hb⟩; rw [h1]; have HB2 := Aside0.mk hb; clear hb) | (refine (HP.out _ HB2.out).mono ?_; rintro e w3 ⟨rfl, hb⟩))
      go_ret
      exact ⟨rfl, HB.out.trans ((HB2.out.trans (hb.mono HB2.out.size)).mono HB.out.size)⟩
    | true =>
      go_enter Try.func40, Try.ntmps40
      go_wp2_with (first | (rw [← hw1]; clear hw1; go_at_call 91; refine (isComplex _ _ xs _ HK.out).mono ?_; rintro e w2 ⟨rfl, hb⟩; rw [h1]; have HB2 := Aside0.mk hb; clear hb) | (refine (HP.out _ HB2.out).mono ?_; rintro e w3 ⟨rfl, hb⟩))
      go_ret
      exact ⟨rfl, HB.out.trans ((HB2.out.trans (hb.mono HB2.out.size)).mono HB.out.size)⟩

end Go.Proofs.Ytkggchklmpmgpaa.H

namespace Go.Proofs.Ytkggchklmpmgpaa.H
open Go.RowKit Go.Proofs.YtkggchklmpmgpaaW.PrintWords Go.Proofs.YtkggchklmpmgpaaW.PrintLast Go.Proofs.YtkggchklmpmgpaaW.PrintMore
set_option linter.unusedVariables false
set_option linter.unusedSimpArgs false

/-- what QuestionNumber, and IsEvasive, answer -/
def ansQuestionNumber (a : Int) (xs : List Int) : Int × Int := if cxOk a xs then (needV a.toNat xs 0 0, 0) else (0, 1)
def ansIsEvasive (a : Int) (xs : List Int) : Bool × Int := if cxOk a xs then (needV a.toNat xs 0 0 == a, 0) else (false, 1)
theorem pl_zero (n : Nat) : Pl n 0 0 := ⟨Nat.two_pow_pos n, Nat.two_pow_pos n, rfl⟩
theorem lefts_lt {n p q : Nat} (hn : n ≤ 6) : lefts n p q < 7 := by have := frees_len (p ||| q) n; unfold lefts; omega

set_option maxRecDepth 100000 in
set_option maxHeartbeats 2000000 in
theorem questionNumber (n : Nat) (ku : Value) (xs : List Int) (w : World) (hk : ReadI w ku xs) (hc : Cx n xs) :
    Calls Try.prog 68 #[cx n ku] w fun e w' => e = .returned (.int .i64 (needV n xs 0 0)) ∧ Below w.heap.size w w' := by
  obtain ⟨wb, hwb⟩ : ∃ wb, wb = w.alloc (.cells #[.int .i64 n, ku] 28) := ⟨_, rfl⟩
  obtain ⟨w2, hw2⟩ : ∃ w2, w2 = wb.alloc (.map #[] 0) := ⟨_, rfl⟩
  have hsb : wb.heap.size = w.heap.size + 1 := by rw [hwb]; simp
  have hBb : Below w.heap.size w wb := by rw [hwb]; exact Below.alloc (Below.refl _ _) (Nat.le_refl _) _
  have hB1 : Below wb.heap.size wb w2 := by rw [hw2]; exact Below.alloc (Below.refl _ _) (Nat.le_refl _) _
  have hB : Below w.heap.size w w2 := hBb.trans (hB1.mono hBb.size)
  have HK := Aside0.mk (RdK.mk' (b := w.heap.size + 1) hk hB (Nat.le_succ _))
  have HM : Aside0 (MapI n (needV n xs) (w.heap.size + 1) w2) := ⟨by rw [hw2, ← hsb]; exact MapI.made _ _ _⟩
  have HB := Aside0.mk hB
  obtain ⟨A1, d1, rfl, -⟩ := id hk
  have HQ := Aside0.mk (questions n (.slice A1 xs.length d1) xs hc (w.heap.size + 1) 7 0 0 0 w2 rfl (lefts_lt hc.hi) (pl_zero n) HK.out HM.out)
  have hmm := @run_makeMap Try.prog
  subst hwb
  clear hk hsb hBb hB1 hB
  go_enter Try.func68, Try.ntmps68
  go_wp2_with (first | (go_at_call 123; rw [← hw2]; clear hw2; refine HQ.out.mono ?_; rintro e w3 ⟨rfl, hg, -⟩; have HG := Aside0.mk hg; clear hg))
  go_ret
  exact ⟨rfl, HB.out.trans (below_grown HG.out (Nat.le_succ _) HB.out.size)⟩

theorem cxOk_nat {a : Int} {xs : List Int} (h : cxOk a xs = true) : ∃ n : Nat, a = n ∧ Cx n xs := by
  obtain ⟨n, h1, h2, -⟩ := cxOk_cx h
  exact ⟨n, h1, h2⟩

set_option maxRecDepth 100000 in
set_option maxHeartbeats 2000000 in
theorem implQuestionNumber (a : Int) (ku : Value) (xs : List Int) (w : World) (hk : ReadI w ku xs) :
    Calls Try.prog 23 #[cx a ku] w fun e w' => e = .returned (.tuple #[.int .i64 (ansQuestionNumber a xs).1, .int .i64 (ansQuestionNumber a xs).2]) ∧ Below w.heap.size w w' := by
  obtain ⟨w1, hw1⟩ : ∃ w1, w1 = w.alloc (.cells #[.int .i64 a, ku] 28) := ⟨_, rfl⟩
  have hB : Below w.heap.size w w1 := by rw [hw1]; exact Below.alloc (Below.refl _ _) (Nat.le_refl _) _
  have c0 : w1.cell? ⟨w.heap.size, 0, none⟩ = some (.int .i64 a) := by rw [hw1]; simp
  have c1 : w1.cell? ⟨w.heap.size, 1, none⟩ = some ku := by rw [hw1]; simp
  have HB := Aside0.mk hB
  have HK := Aside0.mk (hk.below hB)
  have HM := Aside0.mk (complexCode2 a ku xs _ true w1 HK.out (fun _ => alwaysB w1) ⟨_, _, _, rfl⟩)
  obtain ⟨A1, d1, rfl, -⟩ := id hk
  clear hk hB
  cases hx : cxOk a xs with
  | false =>
    have HA : Aside0 (ansQuestionNumber a xs = (0, 1)) := ⟨by unfold ansQuestionNumber; rw [hx]; rfl⟩
    rw [hx] at HM
    clear hx
    go_enter Try.func23, Try.ntmps23
    go_wp2_with (first | (go_at_call 40; rw [← hw1]; clear hw1; refine HM.out.mono ?_; rintro e w2 ⟨rfl, hb⟩; have HB2 := Aside0.mk hb; clear hb))
    go_ret2
    exact ⟨by rw [HA.out]; rfl, HB.out.trans (HB2.out.mono HB.out.size)⟩
  | true =>
    obtain ⟨n, rfl, hc⟩ := cxOk_nat hx
    have HA : Aside0 (ansQuestionNumber (n : Int) xs = (needV n xs 0 0, 0)) := ⟨by unfold ansQuestionNumber; rw [hx]; rfl⟩
    rw [hx] at HM
    clear hx
    have HC := Aside0.mk hc
    clear hc
    go_enter Try.func23, Try.ntmps23
    go_wp2_with (first | (go_at_call 40; rw [← hw1]; clear hw1; refine HM.out.mono ?_; rintro e w2 ⟨rfl, hb⟩; have HB2 := Aside0.mk hb; replace c0 := pw_cell_below hb c0; replace c1 := pw_cell_below hb c1; clear hb) | (go_at_call 68; refine (questionNumber n _ xs _ (HK.out.below HB2.out) HC.out).mono ?_; rintro e w3 ⟨rfl, hb⟩; have HB3 := Aside0.mk (HB2.out.trans (hb.mono HB2.out.size)); clear hb))
    go_ret2
    exact ⟨by rw [HA.out]; rfl, HB.out.trans (HB3.out.mono HB.out.size)⟩

/-- the reference's own number -/
theorem specNumber (n : Nat) (ku : Value) (xs : List Int) (w wt : World) (hn : n ≤ 6) (hk : ReadI w ku xs) (u : Value) (hu : OwnI w.heap.size wt u (noneT 4096)) (hb : Below w.heap.size w wt) :
    Calls Try.prog 69 #[cx n ku, .int .i64 0, .int .i64 0, u] wt fun e w' => e = .returned (.int .i64 (needV n xs 0 0)) ∧ Below w.heap.size w w' := by
  obtain ⟨g, c, rfl, -⟩ := Kd.R_form hu (by rw [noneT_len]; decide)
  rw [noneT_len] at hu ⊢
  have h1 := hu.base g (by simp [Value.ownBlock])
  refine (specNeed n hn ku xs g c 7 0 0 wt (lefts_lt hn) (pl_zero n) (RdK.mk' hk hb h1) ⟨_, hu.lower (Nat.zero_le _), tab_none hn _⟩).mono ?_
  rintro e w' ⟨rfl, hg, -⟩
  exact ⟨rfl, hb.trans (below_grown hg h1 hb.size)⟩
end Go.Proofs.Ytkggchklmpmgpaa.H

namespace Go.Proofs.Ytkggchklmpmgpaa.H
open Go.RowKit Go.Proofs.YtkggchklmpmgpaaW.PrintWords Go.Proofs.YtkggchklmpmgpaaW.PrintLast Go.Proofs.YtkggchklmpmgpaaW.PrintMore
set_option linter.unusedVariables false
set_option linter.unusedSimpArgs false

set_option maxRecDepth 100000 in
set_option maxHeartbeats 2000000 in
theorem specQuestionNumber (a : Int) (ku : Value) (xs : List Int) (w : World) (hk : ReadI w ku xs) :
    Calls Try.prog 24 #[cx a ku] w fun e w' => e = .returned (.tuple #[.int .i64 (ansQuestionNumber a xs).1, .int .i64 (ansQuestionNumber a xs).2]) ∧ Below w.heap.size w w' := by
  obtain ⟨w1, hw1⟩ : ∃ w1, w1 = w.alloc (.cells #[.int .i64 a, ku] 28) := ⟨_, rfl⟩
  have hB : Below w.heap.size w w1 := by rw [hw1]; exact Below.alloc (Below.refl _ _) (Nat.le_refl _) _
  have c0 : w1.cell? ⟨w.heap.size, 0, none⟩ = some (.int .i64 a) := by rw [hw1]; simp
  have c1 : w1.cell? ⟨w.heap.size, 1, none⟩ = some ku := by rw [hw1]; simp
  have HB := Aside0.mk hB
  have HK := Aside0.mk (hk.below hB)
  have HM := Aside0.mk (specIs a ku xs w1 HK.out)
  obtain ⟨A1, d1, rfl, -⟩ := id hk
  clear hk hB
  cases hx : cxOk a xs with
  | false =>
    have HA : Aside0 (ansQuestionNumber a xs = (0, 1)) := ⟨by unfold ansQuestionNumber; rw [hx]; rfl⟩
    rw [hx] at HM
    clear hx
    go_enter Try.func24, Try.ntmps24
    go_wp2_with (first | (go_at_call 38; rw [← hw1]; clear hw1; refine HM.out.mono ?_; rintro e w2 ⟨rfl, hb⟩; have HB2 := Aside0.mk hb; clear hb))
    go_ret2
    exact ⟨by rw [HA.out]; rfl, HB.out.trans (HB2.out.mono HB.out.size)⟩
  | true =>
    obtain ⟨n, rfl, hc⟩ := cxOk_nat hx
    have HA : Aside0 (ansQuestionNumber (n : Int) xs = (needV n xs 0 0, 0)) := ⟨by unfold ansQuestionNumber; rw [hx]; rfl⟩
    rw [hx] at HM
    clear hx
    have HC := Aside0.mk hc
    clear hc
    go_enter Try.func24, Try.ntmps24
    go_wp2_with (first | (go_at_call 38; rw [← hw1]; clear hw1; refine HM.out.mono ?_; rintro e w2 ⟨rfl, hb⟩; have HB2 := Aside0.mk hb; replace c0 := pw_cell_below hb c0; replace c1 := pw_cell_below hb c1; clear hb))
    have hmx : Try.prog.follows .mixedOrders = true := by kernel_rfl
    have hk2 := Aside0.mk (HK.out.below HB2.out)
    have hd : Below w2.heap.size w2 w2.drew := (Below.refl _ _).drew
    have HK3 := Aside0.mk (hk2.out.below hd)
    have HB3 := Aside0.mk hd
    replace c0 := pw_cell_below hd c0
    replace c1 := pw_cell_below hd c1
    have HC0 := Aside0.mk c0
    clear hd hk2
    go_region_with (first | (go_at_call 70; refine (specTable _).mono ?_; rintro e w4 ⟨u, rfl, ho, hb⟩; have HO := Aside0.mk ho; have HB4 := Aside0.mk hb; replace c0 := pw_cell_below hb c0; replace c1 := pw_cell_below hb c1; clear ho hb) | (go_at_call 69; refine (specNumber n _ xs _ _ HC.out.hi HK3.out _ HO.out HB4.out).mono ?_; rintro e w5 ⟨rfl, hb⟩; have HB5 := Aside0.mk (HB3.out.trans (hb.mono HB3.out.size)); replace c0 := pw_cell_below hb HC0.out; clear hb))
    all_goals go_wp2
    all_goals go_ret2
    all_goals exact ⟨by rw [HA.out]; rfl, HB.out.trans ((HB2.out.trans (HB5.out.mono HB2.out.size)).mono HB.out.size)⟩
set_option maxRecDepth 100000 in
set_option maxHeartbeats 2000000 in
theorem specIsEvasive (a : Int) (ku : Value) (xs : List Int) (w : World) (hk : ReadI w ku xs) :
    Calls Try.prog 26 #[cx a ku] w fun e w' => e = .returned (.tuple #[.bool (ansIsEvasive a xs).1, .int .i64 (ansIsEvasive a xs).2]) ∧ Below w.heap.size w w' := by
  obtain ⟨w1, hw1⟩ : ∃ w1, w1 = w.alloc (.cells #[.int .i64 a, ku] 28) := ⟨_, rfl⟩
  have hB : Below w.heap.size w w1 := by rw [hw1]; exact Below.alloc (Below.refl _ _) (Nat.le_refl _) _
  have c0 : w1.cell? ⟨w.heap.size, 0, none⟩ = some (.int .i64 a) := by rw [hw1]; simp
  have c1 : w1.cell? ⟨w.heap.size, 1, none⟩ = some ku := by rw [hw1]; simp
  have HB := Aside0.mk hB
  have HK := Aside0.mk (hk.below hB)
  have HM := Aside0.mk (specIs a ku xs w1 HK.out)
  obtain ⟨A1, d1, rfl, -⟩ := id hk
  clear hk hB
  cases hx : cxOk a xs with
  | false =>
    have HA : Aside0 (ansIsEvasive a xs = (false, 1)) := ⟨by unfold ansIsEvasive; rw [hx]; rfl⟩
    rw [hx] at HM
    clear hx
    go_enter Try.func26, Try.ntmps26
    go_wp2_with (first | (go_at_call 38; rw [← hw1]; clear hw1; refine HM.out.mono ?_; rintro e w2 ⟨rfl, hb⟩; have HB2 := Aside0.mk hb; clear hb))
    go_ret2
    exact ⟨by rw [HA.out]; rfl, HB.out.trans (HB2.out.mono HB.out.size)⟩
  | true =>
    obtain ⟨n, rfl, hc⟩ := cxOk_nat hx
    have HA : Aside0 (ansIsEvasive (n : Int) xs = (needV n xs 0 0 == (n : Int), 0)) := ⟨by unfold ansIsEvasive; rw [hx]; rfl⟩
    rw [hx] at HM
    clear hx
    have HC := Aside0.mk hc
    clear hc
    go_enter Try.func26, Try.ntmps26
    go_wp2_with (first | (go_at_call 38; rw [← hw1]; clear hw1; refine HM.out.mono ?_; rintro e w2 ⟨rfl, hb⟩; have HB2 := Aside0.mk hb; replace c0 := pw_cell_below hb c0; replace c1 := pw_cell_below hb c1; clear hb))
    have hmx : Try.prog.follows .mixedOrders = true := by kernel_rfl
    have hk2 := Aside0.mk (HK.out.below HB2.out)
    have hd : Below w2.heap.size w2 w2.drew := (Below.refl _ _).drew
    have HK3 := Aside0.mk (hk2.out.below hd)
    have HB3 := Aside0.mk hd
    replace c0 := pw_cell_below hd c0
    replace c1 := pw_cell_below hd c1
    have HC0 := Aside0.mk c0
    clear hd hk2
    go_region_with (first | (go_at_call 70; refine (specTable _).mono ?_; rintro e w4 ⟨u, rfl, ho, hb⟩; have HO := Aside0.mk ho; have HB4 := Aside0.mk hb; replace c0 := pw_cell_below hb c0; replace c1 := pw_cell_below hb c1; clear ho hb) | (go_at_call 69; refine (specNumber n _ xs _ _ HC.out.hi HK3.out _ HO.out HB4.out).mono ?_; rintro e w5 ⟨rfl, hb⟩; have HB5 := Aside0.mk (HB3.out.trans (hb.mono HB3.out.size)); replace c0 := pw_cell_below hb HC0.out; clear hb))
    all_goals go_wp2
    all_goals go_ret2
    all_goals exact ⟨by rw [HA.out]; rfl, HB.out.trans ((HB2.out.trans (HB5.out.mono HB2.out.size)).mono HB.out.size)⟩
set_option maxRecDepth 100000 in
set_option maxHeartbeats 2000000 in
theorem implIsEvasive (a : Int) (ku : Value) (xs : List Int) (w : World) (hk : ReadI w ku xs) :
    Calls Try.prog 25 #[cx a ku] w fun e w' => e = .returned (.tuple #[.bool (ansIsEvasive a xs).1, .int .i64 (ansIsEvasive a xs).2]) ∧ Below w.heap.size w w' := by
  obtain ⟨w1, hw1⟩ : ∃ w1, w1 = w.alloc (.cells #[.int .i64 a, ku] 28) := ⟨_, rfl⟩
  have hB : Below w.heap.size w w1 := by rw [hw1]; exact Below.alloc (Below.refl _ _) (Nat.le_refl _) _
  have c0 : w1.cell? ⟨w.heap.size, 0, none⟩ = some (.int .i64 a) := by rw [hw1]; simp
  have c1 : w1.cell? ⟨w.heap.size, 1, none⟩ = some ku := by rw [hw1]; simp
  have HB := Aside0.mk hB
  have HK := Aside0.mk (hk.below hB)
  have HM := Aside0.mk (complexCode2 a ku xs _ true w1 HK.out (fun _ => alwaysB w1) ⟨_, _, _, rfl⟩)
  obtain ⟨A1, d1, rfl, -⟩ := id hk
  clear hk hB
  cases hx : cxOk a xs with
  | false =>
    have HA : Aside0 (ansIsEvasive a xs = (false, 1)) := ⟨by unfold ansIsEvasive; rw [hx]; rfl⟩
    rw [hx] at HM
    clear hx
    go_enter Try.func25, Try.ntmps25
    go_wp2_with (first | (go_at_call 40; rw [← hw1]; clear hw1; refine HM.out.mono ?_; rintro e w2 ⟨rfl, hb⟩; have HB2 := Aside0.mk hb; clear hb))
    go_ret2
    exact ⟨by rw [HA.out]; rfl, HB.out.trans (HB2.out.mono HB.out.size)⟩
  | true =>
    obtain ⟨n, rfl, hc⟩ := cxOk_nat hx
    have HA : Aside0 (ansIsEvasive (n : Int) xs = (needV n xs 0 0 == (n : Int), 0)) := ⟨by unfold ansIsEvasive; rw [hx]; rfl⟩
    rw [hx] at HM
    clear hx
    have HC := Aside0.mk hc
    clear hc
    go_enter Try.func25, Try.ntmps25
    go_wp2_with (first | (go_at_call 40; rw [← hw1]; clear hw1; refine HM.out.mono ?_; rintro e w2 ⟨rfl, hb⟩; have HB2 := Aside0.mk hb; replace c0 := pw_cell_below hb c0; replace c1 := pw_cell_below hb c1; clear hb))
    have hd : Below w2.heap.size w2 w2.drew := (Below.refl _ _).drew
    have HKd := Aside0.mk ((HK.out.below HB2.out).below hd)
    replace c0 := pw_cell_below hd c0
    replace c1 := pw_cell_below hd c1
    have hmx : Try.prog.follows .mixedOrders = true := by kernel_rfl
    go_region_with (first | (go_at_call 68; refine (questionNumber n _ xs _ HKd.out HC.out).mono ?_; rintro e w3 ⟨rfl, hb⟩; have HB3 := Aside0.mk (hd.trans (hb.mono hd.size)); replace c0 := pw_cell_below hb c0; clear hb))
    all_goals go_wp2
    all_goals go_ret2
    all_goals exact ⟨by rw [HA.out]; rfl, HB.out.trans ((HB2.out.trans (HB3.out.mono HB2.out.size)).mono HB.out.size)⟩

end Go.Proofs.Ytkggchklmpmgpaa.H

namespace Go.Proofs.Ytkggchklmpmgpaa.H
open Go.RowKit Go.Proofs.YtkggchklmpmgpaaW.PrintWords Go.Proofs.YtkggchklmpmgpaaW.PrintLast Go.Proofs.YtkggchklmpmgpaaW.PrintMore
set_option linter.unusedVariables false
set_option linter.unusedSimpArgs false

def Bl (w w' : World) : Prop := Below w.heap.size w w'
theorem Bl.trans {a b c : World} (h : Bl a b) (k : Bl b c) : Bl a c := Below.trans h (Below.mono k (Below.size h))
end Go.Proofs.Ytkggchklmpmgpaa.H

namespace Go.Proofs.Ytkggchklmpmgpaa.H
open Go.RowKit Go.Proofs.YtkggchklmpmgpaaW.PrintWords Go.Proofs.YtkggchklmpmgpaaW.PrintLast Go.Proofs.YtkggchklmpmgpaaW.PrintMore
set_option linter.unusedVariables false
set_option linter.unusedSimpArgs false

/-- the number of vertices -/
def ones (f : Nat) : Nat := (vs f).length
theorem ones_step : ∀ g, g < 64 → ones g = g % 2 + ones (g / 2) := by decide +kernel
theorem ones_le : ∀ g, g < 64 → ones g ≤ 6 := by decide +kernel
set_option maxRecDepth 100000 in
set_option maxHeartbeats 1000000 in
theorem specOnes (x : Nat) (hx : x < 64) (w : World) : Calls Try.prog 98 #[.int .i64 x] w fun e w' => e = .returned (.int .i64 (ones x : Nat)) ∧ Below w.heap.size w w' := by
  go_enter Try.func98, Try.ntmps98
  go_wp2
  go_loopw [0, 3] (fun s0 s3 wr => ∃ g k : Nat, s0 = .int .i64 g ∧ g < 64 ∧ s3 = .int .i64 k ∧ k ≤ 6 ∧ k + ones g = ones x ∧ wr = w) (fun s0 _ _ => (intOf s0).toNat)
  case atStart => exact ⟨x, 0, rfl, hx, rfl, by decide, by omega, rfl⟩
  case round =>
    obtain ⟨g, k, rfl, hg, rfl, hk, he, rfl⟩ := hrel
    have hox := ones_le x hx
    by_cases h0 : 0 < g
    · have hst := ones_step g hg
      have h0I : (0 : Int) < (g : Int) := by omega
      have hr1 : Int.tmod (g : Int) 2 = ((g % 2 : Nat) : Int) := by rw [Int.tmod_eq_emod_of_nonneg (by omega)]; omega
      have hq1 : Int.tdiv (g : Int) 2 = ((g / 2 : Nat) : Int) := by rw [Int.tdiv_eq_ediv_of_nonneg (by omega)]; omega
      have hr2 : (g : Int) % 2 = ((g % 2 : Nat) : Int) := by omega
      have hq2 : (g : Int) / 2 = ((g / 2 : Nat) : Int) := by omega
      obtain ⟨r, hr⟩ : ∃ r, r = g % 2 := ⟨_, rfl⟩
      obtain ⟨q, hq⟩ : ∃ q, q = g / 2 := ⟨_, rfl⟩
      have hqg : q < g := by omega
      have hr6 : r ≤ 1 := by omega
      rw [← hr] at hst hr1 hr2
      rw [← hq] at hst hq1 hq2
      clear hr hq
      go_wp2
      go_roundw
      case rel => exact ⟨q, k + r, by first | rfl | (simp [hq1, hq2]) | (simp; omega), by omega, by first | rfl | (simp [hr1, hr2]) | (simp; omega), by omega, by omega, trivial⟩
      case measure => simp [intOf] <;> omega
    · obtain rfl : g = 0 := by omega
      go_wp2
      go_ret
      have h00 : ones 0 = 0 := by decide
      exact ⟨by rw [← he, h00]; simp, Below.refl _ _⟩

end Go.Proofs.Ytkggchklmpmgpaa.H
