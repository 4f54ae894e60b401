/- Least numbers of evaders, of the program. -/
import Derived.Test.YtpcjbdkdpcgdiaaEvB
namespace Go.Proofs.Ytpcjbdkdpcgdiaa.H
open Go.RowKit Go.Proofs.YtpcjbdkdpcgdiaaW.PrintWords Go.Proofs.YtpcjbdkdpcgdiaaW.PrintLast Go.Proofs.YtpcjbdkdpcgdiaaW.PrintMore
set_option linter.unusedVariables false
set_option linter.unusedSimpArgs false

set_option maxRecDepth 100000 in
set_option maxHeartbeats 4000000 in
theorem evadersS (n : Nat) (ku : Value) (xs : List Int) (hcx : Cx n xs) (b : Nat) (p q a : Nat) (w : World) (ha : a = p ||| q)
    (ihB : ∀ vq w, vq < n → a.testBit vq = false → RdK b w ku xs → MapI n (leastV n xs) b w →
      Calls Try.prog 64 #[cx n ku, .agg #[.int .i64 (a : Nat), .int .i64 (p : Nat)], .int .i64 (vq : Nat), .map (some b)] w fun e w' => e = .returned (.int .i64 (byV n xs p q vq)) ∧ w.grownBy w' (some b) ∧ MapI n (leastV n xs) b w')
    (hp : Pl n p q) (hk : RdK b w ku xs) (hT : MapI n (leastV n xs) b w) :
    Calls Try.prog 50 #[cx n ku, .agg #[.int .i64 (a : Nat), .int .i64 (p : Nat)], .map (some b)] w fun e w' => e = .returned (.int .i64 (leastV n xs p q)) ∧ w.grownBy w' (some b) ∧ MapI n (leastV n xs) b w' := by
  have hn := hcx.hi
  have hpq := hp.lt hn
  have hal : a < 64 := by rw [ha]; exact or_lt64 hpq.1 hpq.2
  obtain ⟨wb, hwb⟩ : ∃ wb, wb = w.alloc (.cells #[.int .i64 n, ku] 28) := ⟨_, rfl⟩
  obtain ⟨w2, hw2⟩ : ∃ w2, w2 = wb.alloc (.cells #[.int .i64 (a : Nat), .int .i64 (p : Nat)] 63) := ⟨_, rfl⟩
  have hsb : wb.heap.size = w.heap.size + 1 := by rw [hwb]; simp
  have hBb : Below w.heap.size w wb := by rw [hwb]; exact Below.alloc (Below.refl _ _) (Nat.le_refl _) _
  have hB1 : Below wb.heap.size wb w2 := by rw [hw2]; exact Below.alloc (Below.refl _ _) (Nat.le_refl _) _
  have hB : Below w.heap.size w w2 := hBb.trans (hB1.mono hBb.size)
  have hbl := hT.lt
  have c0 : w2.cell? ⟨w.heap.size, 0, none⟩ = some (.int .i64 n) := pw_cell_below hB1 (by rw [hwb]; simp)
  have c1 : w2.cell? ⟨w.heap.size, 1, none⟩ = some ku := pw_cell_below hB1 (by rw [hwb]; simp)
  have s0 : w2.cell? ⟨w.heap.size + 1, 0, none⟩ = some (.int .i64 (a : Nat)) := by rw [hw2, ← hsb]; exact new_cell _ _ _ 0 _ rfl
  have s1 : w2.cell? ⟨w.heap.size + 1, 1, none⟩ = some (.int .i64 (p : Nat)) := by rw [hw2, ← hsb]; exact new_cell _ _ _ 1 _ rfl
  have hne0 : w.heap.size ≠ b := by omega
  have hne1 : w.heap.size + 1 ≠ b := by omega
  have HG := Aside0.mk (grown_below hB (some b))
  have HK := Aside0.mk (hk.below hB)
  have HT := Aside0.mk (hT.below hB)
  have HP := Aside0.mk hp
  have HA := Aside0.mk ha
  have hmx : Try.prog.follows .mixedOrders = true := by kernel_rfl
  obtain ⟨A1, d1, rfl, -⟩ := id hk.read
  obtain ⟨N, hN⟩ : ∃ N : Nat, N = 2 ^ n := ⟨_, rfl⟩
  have HN := Aside0.mk hN
  have HFU : Aside0 (∀ (u : Value) (W : World), Calls Try.prog 59 #[cx n u] W fun e w' => e = .returned (.int .i64 ((N : Int) - 1)) ∧ Below W.heap.size W w') := ⟨fun u W => by rw [hN]; exact full n hn _ W⟩
  obtain ⟨X, hX⟩ : ∃ X, X = leastV n xs p q := ⟨_, rfl⟩
  have HX := Aside0.mk hX
  have HWX : Aside0 ((Lit.int .i64 X).wf = true) := ⟨WalkArith.wf_i64 (by have := leastV_bd n xs p q; omega)⟩
  obtain ⟨l, hkey⟩ := stLit a p hal hpq.1
  have hkey' := hkey
  rw [ha] at hkey'
  have HK0 := Aside0.mk hkey'
  have HKEY : Aside0 (keyOf Try.prog 63 (.agg #[.int .i64 (a : Nat), .int .i64 (p : Nat)]) = some l) := ⟨hkey⟩
  obtain ⟨k, D, ho, hv⟩ := HT.out
  have HOW := Aside0.mk (mapV_size hn ho hv)
  have HCV := Aside0.mk (fun h => mapV_get hp hv hkey' h)
  have hfl := full_lefts hn hp ha
  rw [← hN] at hfl
  subst hwb
  by_cases h0 : lefts n p q = 0
  · have hfull := full_eq (hfl.1 h0)
    have HX0 : Aside0 (leastV n xs p q = 0) := ⟨leastV_told (told_all hp h0)⟩
    clear hk hT hB hsb hBb hB1 ha hN hX hkey hkey' ho hv hfl h0
    go_enter Try.func50, Try.ntmps50
    go_wp2
    rw [← hw2]
    clear hw2
    refine wp_region_g Bl (fun w => (Below.refl _ w).drew) (fun _ _ _ => Bl.trans) (fun i => match i with | 0 => fun v _ => v = .pointer (some ⟨w.heap.size + 1, 0, none⟩) | 1 => fun v _ => v = .int .i64 (a : Int) | 2 => fun v _ => v = .agg #[.int .i64 (n : Int), .slice A1 xs.length d1] | 3 => fun v _ => v = .int .i64 ((N : Int) - 1) | 4 => fun v _ => v = .bool ((a : Int) == (N : Int) - 1) | _ => fun _ _ => True)
      [0, 1, 0, 4, 15] hmx (by kernel_rfl) ?st ?steps ?rest
    case st =>
      intro i v w1_ w2_ hb
      match i with
      | 0 | 1 | 2 | 3 | 4 => exact id
      | n + 5 => exact id
    case steps =>
      refine ⟨?_, ?_, ?_, ?_, ?_, trivial⟩
      · intro s w_ hb hd hq R hR
        generalize hA : putAll _ 0 s _ = A
        clear hq
        have hR' := hR (.pointer (some ⟨w.heap.size + 1, 0, none⟩)) _ (Below.refl _ _) rfl
        clear hR hd
        refine opGives_value ?_ hR'
        subst hA
        simp only [dsOf, List.map_cons, List.map_nil, Option.getD_some, putAll, Act.put, List.setIfInBounds_toArray, List.set_cons_zero, List.set_cons_succ]
        go_simp
      · intro s w_ hb hd hq R hR
        generalize hA : putAll _ 0 s _ = A
        have e0 : s 0 = _ := hd 0 (by kernel_rfl)
        clear hq
        have s0 := pw_cell_below hb s0
        have hR' := hR (.int .i64 (a : Int)) _ (Below.refl _ _) rfl
        clear hR hd
        refine opGives_value ?_ hR'
        subst hA
        simp only [dsOf, List.map_cons, List.map_nil, Option.getD_some, putAll, Act.put, List.setIfInBounds_toArray, List.set_cons_zero, List.set_cons_succ]
        go_simp
      · intro s w_ hb hd hq R hR
        generalize hA : putAll _ 0 s _ = A
        clear hq
        have c0 := pw_cell_below hb c0
        have c1 := pw_cell_below hb c1
        have hR' := hR (.agg #[.int .i64 (n : Int), .slice A1 xs.length d1]) _ (Below.refl _ _) rfl
        clear hR hd
        refine opGives_value ?_ hR'
        subst hA
        simp only [dsOf, List.map_cons, List.map_nil, Option.getD_some, putAll, Act.put, List.setIfInBounds_toArray, List.set_cons_zero, List.set_cons_succ]
        go_simp
      · intro s w_ hb hd hq R hR
        generalize hA : putAll _ 0 s _ = A
        have e2 : s 2 = _ := hd 2 (by kernel_rfl)
        clear hq
        refine opGives_call (f := 59) (args := #[.agg #[.int .i64 (n : Int), .slice A1 xs.length d1]]) ?_ ?_
        · subst hA
          clear hR hd
          simp only [dsOf, List.map_cons, List.map_nil, Option.getD_some, putAll, Act.put, List.setIfInBounds_toArray, List.set_cons_zero, List.set_cons_succ]
          go_simp
        clear hA A hd
        refine (HFU.out _ w_).mono ?_
        rintro e w3_ ⟨rfl, hb3⟩
        exact ⟨_, rfl, hR _ _ hb3 rfl⟩
      · intro s w_ hb hd hq R hR
        generalize hA : putAll _ 0 s _ = A
        have e1 : s 1 = _ := hd 1 (by kernel_rfl)
        have e3 : s 3 = _ := hd 3 (by kernel_rfl)
        clear hq
        have hR' := hR (.bool ((a : Int) == (N : Int) - 1)) _ (Below.refl _ _) rfl
        clear hR hd
        refine opGives_value ?_ hR'
        subst hA
        simp only [dsOf, List.map_cons, List.map_nil, Option.getD_some, putAll, Act.put, List.setIfInBounds_toArray, List.set_cons_zero, List.set_cons_succ]
        go_simp
    case rest =>
      intro s4 w4 hb hv
      have e4_ : s4 4 = _ := hv 4 (by decide)
      simp only [dsOf, List.map_cons, List.map_nil, Option.getD_some, putAll, Act.put, List.setIfInBounds_toArray, List.set_cons_zero, List.set_cons_succ]
      rw [e4_]
      clear hv e4_
      have HG4 := Aside0.mk (grown_trans HG.out (grown_below hb _))
      have HT4 := Aside0.mk (HT.out.below hb)
      clear hb
      go_wp2
      go_ret
      exact ⟨by rw [HX0.out]; rfl, HG4.out, HT4.out⟩
  · have hfull := full_ne (fun h => h0 (hfl.2 h))
    have HBL : Aside0 (bestTo n xs p q n = X) := ⟨by rw [hX]; exact best_least hn hp h0⟩
    have hn1 := hcx.lo
    have HB00 : Aside0 (bestTo n xs p q 0 = -1) := ⟨rfl⟩
    cases hhas : Maps.has D l with
    | true =>
      have HC := Aside0.mk (HCV.out hhas)
      clear HCV hX hk hT hB hsb hBb hB1 ha hN hkey hkey' ho hv hfl h0
      go_enter Try.func50, Try.ntmps50
      go_wp2
      rw [← hw2]
      clear hw2
      refine wp_region_g Bl (fun w => (Below.refl _ w).drew) (fun _ _ _ => Bl.trans) (fun i => match i with | 0 => fun v _ => v = .pointer (some ⟨w.heap.size + 1, 0, none⟩) | 1 => fun v _ => v = .int .i64 (a : Int) | 2 => fun v _ => v = .agg #[.int .i64 (n : Int), .slice A1 xs.length d1] | 3 => fun v _ => v = .int .i64 ((N : Int) - 1) | 4 => fun v _ => v = .bool ((a : Int) == (N : Int) - 1) | _ => fun _ _ => True)
        [0, 1, 0, 4, 15] hmx (by kernel_rfl) ?st ?steps ?rest
      case st =>
        intro i v w1_ w2_ hb
        match i with
        | 0 | 1 | 2 | 3 | 4 => exact id
        | n + 5 => exact id
      case steps =>
        refine ⟨?_, ?_, ?_, ?_, ?_, trivial⟩
        · intro s w_ hb hd hq R hR
          generalize hA : putAll _ 0 s _ = A
          clear hq
          have hR' := hR (.pointer (some ⟨w.heap.size + 1, 0, none⟩)) _ (Below.refl _ _) rfl
          clear hR hd
          refine opGives_value ?_ hR'
          subst hA
          simp only [dsOf, List.map_cons, List.map_nil, Option.getD_some, putAll, Act.put, List.setIfInBounds_toArray, List.set_cons_zero, List.set_cons_succ]
          go_simp
        · intro s w_ hb hd hq R hR
          generalize hA : putAll _ 0 s _ = A
          have e0 : s 0 = _ := hd 0 (by kernel_rfl)
          clear hq
          have s0 := pw_cell_below hb s0
          have hR' := hR (.int .i64 (a : Int)) _ (Below.refl _ _) rfl
          clear hR hd
          refine opGives_value ?_ hR'
          subst hA
          simp only [dsOf, List.map_cons, List.map_nil, Option.getD_some, putAll, Act.put, List.setIfInBounds_toArray, List.set_cons_zero, List.set_cons_succ]
          go_simp
        · intro s w_ hb hd hq R hR
          generalize hA : putAll _ 0 s _ = A
          clear hq
          have c0 := pw_cell_below hb c0
          have c1 := pw_cell_below hb c1
          have hR' := hR (.agg #[.int .i64 (n : Int), .slice A1 xs.length d1]) _ (Below.refl _ _) rfl
          clear hR hd
          refine opGives_value ?_ hR'
          subst hA
          simp only [dsOf, List.map_cons, List.map_nil, Option.getD_some, putAll, Act.put, List.setIfInBounds_toArray, List.set_cons_zero, List.set_cons_succ]
          go_simp
        · intro s w_ hb hd hq R hR
          generalize hA : putAll _ 0 s _ = A
          have e2 : s 2 = _ := hd 2 (by kernel_rfl)
          clear hq
          refine opGives_call (f := 59) (args := #[.agg #[.int .i64 (n : Int), .slice A1 xs.length d1]]) ?_ ?_
          · subst hA
            clear hR hd
            simp only [dsOf, List.map_cons, List.map_nil, Option.getD_some, putAll, Act.put, List.setIfInBounds_toArray, List.set_cons_zero, List.set_cons_succ]
            go_simp
          clear hA A hd
          refine (HFU.out _ w_).mono ?_
          rintro e w3_ ⟨rfl, hb3⟩
          exact ⟨_, rfl, hR _ _ hb3 rfl⟩
        · intro s w_ hb hd hq R hR
          generalize hA : putAll _ 0 s _ = A
          have e1 : s 1 = _ := hd 1 (by kernel_rfl)
          have e3 : s 3 = _ := hd 3 (by kernel_rfl)
          clear hq
          have hR' := hR (.bool ((a : Int) == (N : Int) - 1)) _ (Below.refl _ _) rfl
          clear hR hd
          refine opGives_value ?_ hR'
          subst hA
          simp only [dsOf, List.map_cons, List.map_nil, Option.getD_some, putAll, Act.put, List.setIfInBounds_toArray, List.set_cons_zero, List.set_cons_succ]
          go_simp
      case rest =>
        intro s4 w4 hb hv
        have e4_ : s4 4 = _ := hv 4 (by decide)
        simp only [dsOf, List.map_cons, List.map_nil, Option.getD_some, putAll, Act.put, List.setIfInBounds_toArray, List.set_cons_zero, List.set_cons_succ]
        rw [e4_]
        clear hv e4_
        have HG4 := Aside0.mk (grown_trans HG.out (grown_below hb _))
        have HT4 := Aside0.mk (HT.out.below hb)
        have HK4 := Aside0.mk (HK.out.below hb)
        replace c0 := pw_cell_below hb c0
        replace c1 := pw_cell_below hb c1
        replace s0 := pw_cell_below hb s0
        replace s1 := pw_cell_below hb s1
        have HOW4 := Aside0.mk (HOW.out.kept (grown_below hb none) (by simp))
        clear hb
        go_wp2_with (first | (at_lookup; refine wpList_lookup_own_ok_int _ rfl _ _ 64 rfl 63 2 .i64 stKeyed Try.underlying64 Try.underlying2 (zeroI _) b 4096 D rfl HOW4.out _ _ rfl HKEY.out ?_; intro c hat hwc; have HE := Aside0.mk (HC.out c hat); clear hat hwc))
        go_ret
        exact ⟨by rw [HE.out]; rfl, HG4.out, HT4.out⟩
    | false =>
      have HA := Aside0.mk ha
      clear HCV hX hk hT hB hsb hBb hB1 ha hN hkey hkey' ho hv hfl h0
      go_enter Try.func50, Try.ntmps50
      go_wp2
      rw [← hw2]
      clear hw2
      refine wp_region_g Bl (fun w => (Below.refl _ w).drew) (fun _ _ _ => Bl.trans) (fun i => match i with | 0 => fun v _ => v = .pointer (some ⟨w.heap.size + 1, 0, none⟩) | 1 => fun v _ => v = .int .i64 (a : Int) | 2 => fun v _ => v = .agg #[.int .i64 (n : Int), .slice A1 xs.length d1] | 3 => fun v _ => v = .int .i64 ((N : Int) - 1) | 4 => fun v _ => v = .bool ((a : Int) == (N : Int) - 1) | _ => fun _ _ => True)
        [0, 1, 0, 4, 15] hmx (by kernel_rfl) ?st ?steps ?rest
      case st =>
        intro i v w1_ w2_ hb
        match i with
        | 0 | 1 | 2 | 3 | 4 => exact id
        | n + 5 => exact id
      case steps =>
        refine ⟨?_, ?_, ?_, ?_, ?_, trivial⟩
        · intro s w_ hb hd hq R hR
          generalize hA : putAll _ 0 s _ = A
          clear hq
          have hR' := hR (.pointer (some ⟨w.heap.size + 1, 0, none⟩)) _ (Below.refl _ _) rfl
          clear hR hd
          refine opGives_value ?_ hR'
          subst hA
          simp only [dsOf, List.map_cons, List.map_nil, Option.getD_some, putAll, Act.put, List.setIfInBounds_toArray, List.set_cons_zero, List.set_cons_succ]
          go_simp
        · intro s w_ hb hd hq R hR
          generalize hA : putAll _ 0 s _ = A
          have e0 : s 0 = _ := hd 0 (by kernel_rfl)
          clear hq
          have s0 := pw_cell_below hb s0
          have hR' := hR (.int .i64 (a : Int)) _ (Below.refl _ _) rfl
          clear hR hd
          refine opGives_value ?_ hR'
          subst hA
          simp only [dsOf, List.map_cons, List.map_nil, Option.getD_some, putAll, Act.put, List.setIfInBounds_toArray, List.set_cons_zero, List.set_cons_succ]
          go_simp
        · intro s w_ hb hd hq R hR
          generalize hA : putAll _ 0 s _ = A
          clear hq
          have c0 := pw_cell_below hb c0
          have c1 := pw_cell_below hb c1
          have hR' := hR (.agg #[.int .i64 (n : Int), .slice A1 xs.length d1]) _ (Below.refl _ _) rfl
          clear hR hd
          refine opGives_value ?_ hR'
          subst hA
          simp only [dsOf, List.map_cons, List.map_nil, Option.getD_some, putAll, Act.put, List.setIfInBounds_toArray, List.set_cons_zero, List.set_cons_succ]
          go_simp
        · intro s w_ hb hd hq R hR
          generalize hA : putAll _ 0 s _ = A
          have e2 : s 2 = _ := hd 2 (by kernel_rfl)
          clear hq
          refine opGives_call (f := 59) (args := #[.agg #[.int .i64 (n : Int), .slice A1 xs.length d1]]) ?_ ?_
          · subst hA
            clear hR hd
            simp only [dsOf, List.map_cons, List.map_nil, Option.getD_some, putAll, Act.put, List.setIfInBounds_toArray, List.set_cons_zero, List.set_cons_succ]
            go_simp
          clear hA A hd
          refine (HFU.out _ w_).mono ?_
          rintro e w3_ ⟨rfl, hb3⟩
          exact ⟨_, rfl, hR _ _ hb3 rfl⟩
        · intro s w_ hb hd hq R hR
          generalize hA : putAll _ 0 s _ = A
          have e1 : s 1 = _ := hd 1 (by kernel_rfl)
          have e3 : s 3 = _ := hd 3 (by kernel_rfl)
          clear hq
          have hR' := hR (.bool ((a : Int) == (N : Int) - 1)) _ (Below.refl _ _) rfl
          clear hR hd
          refine opGives_value ?_ hR'
          subst hA
          simp only [dsOf, List.map_cons, List.map_nil, Option.getD_some, putAll, Act.put, List.setIfInBounds_toArray, List.set_cons_zero, List.set_cons_succ]
          go_simp
      case rest =>
        intro s4 w4 hb hv
        have e4_ : s4 4 = _ := hv 4 (by decide)
        simp only [dsOf, List.map_cons, List.map_nil, Option.getD_some, putAll, Act.put, List.setIfInBounds_toArray, List.set_cons_zero, List.set_cons_succ]
        rw [e4_]
        clear hv e4_
        have HG4 := Aside0.mk (grown_trans HG.out (grown_below hb _))
        have HT4 := Aside0.mk (HT.out.below hb)
        have HK4 := Aside0.mk (HK.out.below hb)
        replace c0 := pw_cell_below hb c0
        replace c1 := pw_cell_below hb c1
        replace s0 := pw_cell_below hb s0
        replace s1 := pw_cell_below hb s1
        have HOW4 := Aside0.mk (HOW.out.kept (grown_below hb none) (by simp))
        clear hb
        go_wp2_with (first | (at_lookup; refine wpList_lookup_own_ok_int _ rfl _ _ 64 rfl 63 2 .i64 stKeyed Try.underlying64 Try.underlying2 (zeroI _) b 4096 D rfl HOW4.out _ _ rfl HKEY.out ?_; intro c hat hwc; clear hat hwc))
        go_loopw [9, 27] (fun s9 s27 wr => ∃ iv : Nat, s27 = .int .i64 iv ∧ iv ≤ n ∧ s9 = .int .i64 (bestTo n xs p q iv) ∧ Aside0 (w.grownBy wr (some b)) ∧ Aside0 (MapI n (leastV n xs) b wr) ∧ Aside0 (w4.grownBy wr (some b))) (fun _ s27 _ => n - (intOf s27).toNat)
        case atStart => exact ⟨0, rfl, Nat.zero_le _, rfl, HG4, HT4, ⟨grown_below (Below.refl _ _) _⟩⟩
        case round =>
          obtain ⟨iv, rfl, hi, rfl, HGr, HTr, HGq⟩ := hrel
          have c0 := grown_cell HGq.out c0 hne0
          have c1 := grown_cell HGq.out c1 hne0
          have s0 := grown_cell HGq.out s0 hne1
          have s1 := grown_cell HGq.out s1 hne1
          have HKr := Aside0.mk (HK4.out.go HGq.out)
          by_cases hlt : iv < n
          · have hsh := pow_wrap iv (by omega)
            have HMS := Aside0.mk (fun h : (p ||| q).testBit iv = true => bestTo_miss (n := n) (xs := xs) h)
            have HHT := Aside0.mk (fun h : (p ||| q).testBit iv = false => bestTo_hit (n := n) (xs := xs) h)
            rw [← HA.out] at HMS HHT
            have hB0 := bestTo_bd n xs p q iv
            have hY := byV_bd n xs p q iv
            have hbit := bit_of a iv (lt_big hal)
            cases ht : a.testBit iv with
            | true =>
              have HM := Aside0.mk (HMS.out ht)
              rw [ht, if_pos rfl] at hbit
              clear ht HMS HHT
              go_wp2
              go_roundw
              case rel => exact ⟨iv + 1, by go_num, by omega, by rw [HM.out], HGr, HTr, HGq⟩
              case measure => simp [intOf]; omega
            | false =>
              have HM := Aside0.mk (HHT.out ht)
              have HBY := Aside0.mk (fun W hk hT => ihB iv W hlt ht hk hT)
              rw [ht, if_neg (by decide)] at hbit
              clear ht HMS HHT
              obtain ⟨B0, hB0'⟩ : ∃ B0, B0 = bestTo n xs p q iv := ⟨_, rfl⟩
              obtain ⟨Y, hY'⟩ : ∃ Y, Y = byV n xs p q iv := ⟨_, rfl⟩
              rw [← hB0'] at hB0 HM ⊢
              rw [← hY'] at hY HM HBY
              clear hB0' hY'
              by_cases hneg : B0 < 0
              · have hd : decide (B0 < 0) = true := decide_eq_true hneg
                have HM2 := Aside0.mk (HM.out.trans (if_pos (.inl hneg)))
                clear HM
                go_wp2_with (first | (go_at_call 64; refine (HBY.out _ HKr.out HTr.out).mono ?_; rintro e w5 ⟨rfl, hg, hT⟩; have HGn := Aside0.mk (grown_trans HGr.out hg); have HGm := Aside0.mk (grown_trans HGq.out hg); have HTn := Aside0.mk hT; clear hg hT))
                go_roundw
                case rel => exact ⟨iv + 1, by go_num, by omega, by rw [HM2.out], HGn, HTn, HGm⟩
                case measure => simp [intOf]; omega
              · have hd : decide (B0 < 0) = false := decide_eq_false hneg
                by_cases hlq : Y < B0
                · have hd2 : decide (Y < B0) = true := decide_eq_true hlq
                  have HM2 := Aside0.mk (HM.out.trans (if_pos (.inr hlq)))
                  clear HM
                  go_wp2_with (first | (go_at_call 64; refine (HBY.out _ HKr.out HTr.out).mono ?_; rintro e w5 ⟨rfl, hg, hT⟩; have HGn := Aside0.mk (grown_trans HGr.out hg); have HGm := Aside0.mk (grown_trans HGq.out hg); have HTn := Aside0.mk hT; clear hg hT))
                  go_roundw
                  case rel => exact ⟨iv + 1, by go_num, by omega, by rw [HM2.out], HGn, HTn, HGm⟩
                  case measure => simp [intOf]; omega
                · have hd2 : decide (Y < B0) = false := decide_eq_false hlq
                  have HM2 := Aside0.mk (HM.out.trans (if_neg (fun h => h.elim hneg hlq)))
                  clear HM
                  go_wp2_with (first | (go_at_call 64; refine (HBY.out _ HKr.out HTr.out).mono ?_; rintro e w5 ⟨rfl, hg, hT⟩; have HGn := Aside0.mk (grown_trans HGr.out hg); have HGm := Aside0.mk (grown_trans HGq.out hg); have HTn := Aside0.mk hT; clear hg hT))
                  go_roundw
                  case rel => exact ⟨iv + 1, by go_num, by omega, by rw [HM2.out], HGn, HTn, HGm⟩
                  case measure => simp [intOf]; omega
          · have e : iv = n := by omega
            have HXE : Aside0 (bestTo n xs p q iv = X) := ⟨by rw [e]; exact HBL.out⟩
            rw [HXE.out]
            clear e
            go_wp2_with (first | (at_mapUpdate; obtain ⟨k_, D_, ho_, hv_⟩ := HTr.out; refine wpList_mapUpdate_own _ rfl _ _ _ 64 rfl 63 2 stKeyed Try.underlying64 _ b 4096 _ rfl (mapV_size hn ho_ hv_) le4096 _ _ _ rfl rfl HKEY.out _ [] (plainElem_int Try.underlying2 HWX.out) ?_; intro w8 ho8 hg8; have HGe := Aside0.mk (grown_trans HGr.out hg8); have HTe := Aside0.mk (show MapI n (leastV n xs) b w8 from ⟨_, _, ho8, by rw [HX.out]; exact mapV_put HP.out hv_ (World.ownsMap.isMap ho_) HK0.out⟩); clear ho_ hv_ ho8 hg8))
            go_ret
            exact ⟨by rw [HX.out]; rfl, HGe.out, HTe.out⟩

theorem evadersBy (n : Nat) (ku : Value) (xs : List Int) (hcx : Cx n xs) (b : Nat) (f : Nat)
    (ih : ∀ p q a w, a = p ||| q → lefts n p q < f → Pl n p q → RdK b w ku xs → MapI n (leastV n xs) b w → Calls Try.prog 50 #[cx n ku, .agg #[.int .i64 (a : Nat), .int .i64 (p : Nat)], .map (some b)] w fun e w' => e = .returned (.int .i64 (leastV n xs p q)) ∧ w.grownBy w' (some b) ∧ MapI n (leastV n xs) b w') :
    ∀ p q a vq w, a = p ||| q → lefts n p q < f + 1 → Pl n p q → vq < n → a.testBit vq = false → RdK b w ku xs → MapI n (leastV n xs) b w →
    Calls Try.prog 64 #[cx n ku, .agg #[.int .i64 (a : Nat), .int .i64 (p : Nat)], .int .i64 (vq : Nat), .map (some b)] w fun e w' => e = .returned (.int .i64 (byV n xs p q vq)) ∧ w.grownBy w' (some b) ∧ MapI n (leastV n xs) b w' :=
  fun p q a vq w ha hl hp hv hf hk hT => evadersByS n ku xs hcx b p q a vq w ha hv hf (fun p' q' a' w ha' hl' hp' hk' hT' => ih p' q' a' w ha' (by omega) hp' hk' hT') hp hk hT

theorem evaders (n : Nat) (ku : Value) (xs : List Int) (hcx : Cx n xs) (b : Nat) (f : Nat) : ∀ p q a w, a = p ||| q → lefts n p q < f → Pl n p q → RdK b w ku xs → MapI n (leastV n xs) b w →
    Calls Try.prog 50 #[cx n ku, .agg #[.int .i64 (a : Nat), .int .i64 (p : Nat)], .map (some b)] w fun e w' => e = .returned (.int .i64 (leastV n xs p q)) ∧ w.grownBy w' (some b) ∧ MapI n (leastV n xs) b w' := by
  induction f with
  | zero => exact fun p q a w _ hl => absurd hl (Nat.not_lt_zero _)
  | succ f ih => exact fun p q a w ha hl hp hk hT => evadersS n ku xs hcx b p q a w ha (fun vq w hv hf hk' hT' => evadersBy n ku xs hcx b f ih p q a vq w ha hl hp hv hf hk' hT') hp hk hT
end Go.Proofs.Ytpcjbdkdpcgdiaa.H
