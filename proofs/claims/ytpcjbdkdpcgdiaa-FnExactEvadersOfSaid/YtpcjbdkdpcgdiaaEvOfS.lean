/- EvadersOf of the reference. -/
import Derived.Test.YtpcjbdkdpcgdiaaWayS
namespace Go.Proofs.Ytpcjbdkdpcgdiaa.H
open Go.RowKit Go.Proofs.YtpcjbdkdpcgdiaaW.PrintWords Go.Proofs.YtpcjbdkdpcgdiaaW.PrintLast Go.Proofs.YtpcjbdkdpcgdiaaW.PrintMore
set_option linter.unusedVariables false
set_option linter.unusedSimpArgs false

set_option maxRecDepth 100000 in
set_option maxHeartbeats 4000000 in
theorem specEvadersOf (a : Int) (ku : Value) (xs : List Int) (v : Value) (t : List Int) (w : World) (hk : ReadI w ku xs) (hv : ReadI w v t) :
    Calls Try.prog 27 #[cx a ku, v] w fun e w' => ∃ u, e = .returned (.tuple #[u, .int .i64 (ansEvadersOf a xs t).2]) ∧ OwnI w.heap.size w' u (ansEvadersOf a xs t).1 ∧ Below w.heap.size w w' := by
  obtain ⟨w1, hw1⟩ : ∃ w1, w1 = w.alloc (.cells #[.int .i64 a, ku] 28) := ⟨_, rfl⟩
  have hB : Below w.heap.size w w1 := by rw [hw1]; exact Below.alloc (Below.refl _ _) (Nat.le_refl _) _
  have c0 : w1.cell? ⟨w.heap.size, 0, none⟩ = some (.int .i64 a) := by rw [hw1]; simp
  have c1 : w1.cell? ⟨w.heap.size, 1, none⟩ = some ku := by rw [hw1]; simp
  have HB := Aside0.mk hB
  have HK := Aside0.mk (hk.below hB)
  have HV := Aside0.mk (hv.below hB)
  have HM := Aside0.mk (specTreeCode a ku xs v t w1 HK.out HV.out)
  obtain ⟨A1, d1, rfl, -⟩ := id hk
  obtain ⟨A2, d2, rfl, -⟩ := id hv
  clear hk hv hB
  have hmx : Try.prog.follows .mixedOrders = true := by kernel_rfl
  cases hx : cxOk a xs with
  | false =>
    have HA : Aside0 (ansEvadersOf a xs t = ([], 1)) := ⟨by unfold ansEvadersOf; rw [hx]; rfl⟩
    rw [hx] at HM
    clear hx
    go_enter Try.func27, Try.ntmps27
    go_wp2_with (first | (go_at_call 51; rw [← hw1]; clear hw1; refine HM.out.mono ?_; rintro e w2 ⟨rfl, hb⟩; have HB2 := Aside0.mk hb; clear hb))
    go_ret2
    exact ⟨_, by rw [HA.out]; rfl, by rw [HA.out]; exact OwnI.nil _ _, HB.out.trans (HB2.out.mono HB.out.size)⟩
  | true =>
    obtain ⟨n, rfl, hc⟩ := cxOk_nat hx
    rw [hx] at HM
    cases hto : treeOk n t with
    | false =>
      have HA : Aside0 (ansEvadersOf n xs t = ([], 2)) := ⟨by unfold ansEvadersOf; rw [hx]; show (if treeOk n t = true then _ else _) = _; rw [hto]; rfl⟩
      rw [show treeOk (n : Int).toNat t = false from hto] at HM
      clear hx hto hc
      go_enter Try.func27, Try.ntmps27
      go_wp2_with (first | (go_at_call 51; rw [← hw1]; clear hw1; refine HM.out.mono ?_; rintro e w2 ⟨rfl, hb⟩; have HB2 := Aside0.mk hb; clear hb))
      go_ret2
      exact ⟨_, by rw [HA.out]; rfl, by rw [HA.out]; exact OwnI.nil _ _, HB.out.trans (HB2.out.mono HB.out.size)⟩
    | true =>
      have HA : Aside0 (ansEvadersOf n xs t = (evTo n xs t (2 ^ n), 0)) := ⟨by unfold ansEvadersOf; rw [hx]; show (if treeOk n t = true then _ else _) = _; rw [hto]; rfl⟩
      rw [show treeOk (n : Int).toNat t = true from hto] at HM
      have HC := Aside0.mk hc
      have HTO := Aside0.mk hto
      have hb64 := pw6 hc.hi
      have hn := hc.hi
      have hsh := pow_wrap n (by omega)
      obtain ⟨N, hN⟩ : ∃ N : Nat, N = 2 ^ n := ⟨_, rfl⟩
      rw [← hN] at HA hb64 hsh
      clear hx hto hc hN
      go_enter Try.func27, Try.ntmps27
      go_wp2_with (first | (go_at_call 51; rw [← hw1]; clear hw1; refine HM.out.mono ?_; rintro e w2 ⟨rfl, hb⟩; have HB2 := Aside0.mk hb; replace c0 := pw_cell_below hb c0; replace c1 := pw_cell_below hb c1; clear hb))
      go_loopw [7, 8] (fun s7 s8 wr => ∃ iv : Nat, s8 = .int .i64 iv ∧ iv ≤ N ∧ Aside0 (OwnI w2.heap.size wr s7 (evTo n xs t iv)) ∧ Aside0 (Below w2.heap.size w2 wr)) (fun _ s8 _ => N - (intOf s8).toNat)
      case atStart => exact ⟨0, rfl, Nat.zero_le _, ⟨OwnI.empty w2 (Nat.le_refl _)⟩, ⟨Below.alloc (Below.refl _ _) (Nat.le_refl _) _⟩⟩
      case round =>
        obtain ⟨iv, rfl, hi, HO, HBr⟩ := hrel
        have c0 := pw_cell_below HBr.out c0
        have c1 := pw_cell_below HBr.out c1
        have HBw := Aside0.mk (HB2.out.trans (HBr.out.mono HB2.out.size))
        obtain ⟨A8, d8, rfl, -⟩ := id HO.out.read
        by_cases hlt : iv < N
        · have HND := Aside0.mk (fun (W : World) hk hv => specNeeded n hn (.slice A1 xs.length d1) xs (.slice A2 t.length d2) t iv (by omega) W hk hv HTO.out)
          have HH := Aside0.mk (fun h => evTo_hit (n := n) (xs := xs) (t := t) (k := iv) h)
          have HM2 := Aside0.mk (fun h => evTo_miss (n := n) (xs := xs) (t := t) (k := iv) h)
          have hnl : neededV n xs t iv ≤ n := firstTold_le _ _ _ _ _
          obtain ⟨nd, hnd⟩ : ∃ nd, nd = neededV n xs t iv := ⟨_, rfl⟩
          rw [← hnd] at HND HH HM2 hnl
          clear hnd
          go_wp2
          refine wp_region_g Bl (fun w => (Below.refl _ w).drew) (fun _ _ _ => Bl.trans) (fun i => match i with | 0 => fun v _ => v = .agg #[.int .i64 (n : Int), .slice A1 xs.length d1] | 1 => fun v _ => v = .slice A2 t.length d2 | 2 => fun v _ => v = .int .i64 (iv : Int) | 3 => fun v _ => v = .int .i64 ((nd : Nat) : Int) | 4 => fun v _ => v = .pointer (some ⟨w.heap.size, 0, none⟩) | 5 => fun v _ => v = .int .i64 (n : Int) | 6 => fun v _ => v = .bool ((nd : Int) == (n : Int)) | _ => fun _ _ => True)
            [0, 0, 0, 7, 0, 16, 63] hmx (by kernel_rfl) ?st ?steps ?rest
          case st =>
            intro i v w1_ w2_ hb
            match i with
            | 0 | 1 | 2 | 3 | 4 | 5 | 6 => exact id
            | n + 7 => exact id
          case steps =>
            refine ⟨?_, ?_, ?_, ?_, ?_, ?_, ?_, trivial⟩
            · intro s w_ hb hd hq R hR
              generalize hA : putAll _ 0 s _ = A
              clear hq
              have c0 := pw_cell_below hb c0
              have c1 := pw_cell_below hb c1
              have hR' := hR (.agg #[.int .i64 (n : Int), .slice A1 xs.length d1]) _ (Below.refl _ _) rfl
              clear hR hd
              refine opGives_value ?_ hR'
              subst hA
              simp only [dsOf, List.map_cons, List.map_nil, Option.getD_some, putAll, Act.put, List.setIfInBounds_toArray, List.set_cons_zero, List.set_cons_succ]
              go_simp
            · intro s w_ hb hd hq R hR
              generalize hA : putAll _ 0 s _ = A
              clear hq
              have hR' := hR (.slice A2 t.length d2) _ (Below.refl _ _) rfl
              clear hR hd
              refine opGives_value ?_ hR'
              subst hA
              simp only [dsOf, List.map_cons, List.map_nil, Option.getD_some, putAll, Act.put, List.setIfInBounds_toArray, List.set_cons_zero, List.set_cons_succ]
              go_simp
            · intro s w_ hb hd hq R hR
              generalize hA : putAll _ 0 s _ = A
              clear hq
              have hR' := hR (.int .i64 (iv : Int)) _ (Below.refl _ _) rfl
              clear hR hd
              refine opGives_value ?_ hR'
              subst hA
              simp only [dsOf, List.map_cons, List.map_nil, Option.getD_some, putAll, Act.put, List.setIfInBounds_toArray, List.set_cons_zero, List.set_cons_succ]
              go_simp
            · intro s w_ hb hd hq R hR
              generalize hA : putAll _ 0 s _ = A
              have e0 : s 0 = _ := hd 0 (by kernel_rfl)
              have e1 : s 1 = _ := hd 1 (by kernel_rfl)
              have e2 : s 2 = _ := hd 2 (by kernel_rfl)
              clear hq
              refine opGives_call (f := 55) (args := #[.agg #[.int .i64 (n : Int), .slice A1 xs.length d1], .slice A2 t.length d2, .int .i64 (iv : Int)]) ?_ ?_
              · subst hA
                clear hR hd
                simp only [dsOf, List.map_cons, List.map_nil, Option.getD_some, putAll, Act.put, List.setIfInBounds_toArray, List.set_cons_zero, List.set_cons_succ]
                go_simp
              clear hA A hd
              have hbw : Below w1.heap.size w1 w_ := HBw.out.trans (Below.mono hb HBw.out.size)
              refine (HND.out w_ (HK.out.below hbw) (HV.out.below hbw)).mono ?_
              rintro e w3_ ⟨rfl, hb3⟩
              exact ⟨_, rfl, hR _ _ hb3 rfl⟩
            · intro s w_ hb hd hq R hR
              generalize hA : putAll _ 0 s _ = A
              clear hq
              have hR' := hR (.pointer (some ⟨w.heap.size, 0, none⟩)) _ (Below.refl _ _) rfl
              clear hR hd
              refine opGives_value ?_ hR'
              subst hA
              simp only [dsOf, List.map_cons, List.map_nil, Option.getD_some, putAll, Act.put, List.setIfInBounds_toArray, List.set_cons_zero, List.set_cons_succ]
              go_simp
            · intro s w_ hb hd hq R hR
              generalize hA : putAll _ 0 s _ = A
              have e4 : s 4 = _ := hd 4 (by kernel_rfl)
              clear hq
              have c0 := pw_cell_below hb c0
              have hR' := hR (.int .i64 (n : Int)) _ (Below.refl _ _) rfl
              clear hR hd
              refine opGives_value ?_ hR'
              subst hA
              simp only [dsOf, List.map_cons, List.map_nil, Option.getD_some, putAll, Act.put, List.setIfInBounds_toArray, List.set_cons_zero, List.set_cons_succ]
              go_simp
            · intro s w_ hb hd hq R hR
              generalize hA : putAll _ 0 s _ = A
              have e3 : s 3 = _ := hd 3 (by kernel_rfl)
              have e5 : s 5 = _ := hd 5 (by kernel_rfl)
              clear hq
              have hR' := hR (.bool ((nd : Int) == (n : Int))) _ (Below.refl _ _) rfl
              clear hR hd
              refine opGives_value ?_ hR'
              subst hA
              simp only [dsOf, List.map_cons, List.map_nil, Option.getD_some, putAll, Act.put, List.setIfInBounds_toArray, List.set_cons_zero, List.set_cons_succ]
              go_simp
          case rest =>
            intro s9 w9 hb hv
            have e6_ : s9 6 = _ := hv 6 (by decide)
            simp only [dsOf, List.map_cons, List.map_nil, Option.getD_some, putAll, Act.put, List.setIfInBounds_toArray, List.set_cons_zero, List.set_cons_succ]
            rw [e6_]
            clear hv e6_
            have HO5 := Aside0.mk (HO.out.below hb)
            have HB5 := Aside0.mk (HBr.out.trans (hb.mono HBr.out.size))
            clear hb
            by_cases hq : nd = n
            · have HK2 := Aside0.mk (HH.out hq)
              have hqb : ((nd : Int) == (n : Int)) = true := by rw [hq]; exact beq_self_eq_true _
              clear hq
              go_wp2_with (first | (at_builtin; refine app_own (w0 := w2) w2.heap.size rfl (.tmp 31) (.tmp 33) rfl _ (evTo n xs t iv) (iv : Int) rfl rfl HO5.out HB5.out HB5.out.size (by have := evTo_len n xs t iv; omega) ?_; intro v1 w6 ho hb hg hat; have HO6 := Aside0.mk ho; have HB6 := Aside0.mk hb; clear ho hb hg hat))
              go_roundw
              case rel => exact ⟨iv + 1, by go_num, by omega, by rw [HK2.out]; exact HO6, HB6⟩
              case measure => simp [intOf]; omega
            · have HK2 := Aside0.mk (HM2.out hq)
              have hqb : ((nd : Int) == (n : Int)) = false := by rw [beq_eq_false_iff_ne]; omega
              clear hq
              go_wp2
              go_roundw
              case rel => exact ⟨iv + 1, by go_num, by omega, by rw [HK2.out]; exact HO5, HB5⟩
              case measure => simp [intOf]; omega
        · have e : iv = N := by omega
          have HE := Aside0.mk e
          have HZ := Aside0.mk HB2.out.size
          clear e
          go_wp2
          go_ret2
          refine ⟨_, by rw [HA.out]; rfl, ?_, HB.out.trans (HBw.out.mono HB.out.size)⟩
          rw [HA.out]
          show OwnI _ _ _ (evTo n xs t N)
          rw [← HE.out]
          exact HO.out.lower (by have := HB.out.size; have := HZ.out; omega)
end Go.Proofs.Ytpcjbdkdpcgdiaa.H
