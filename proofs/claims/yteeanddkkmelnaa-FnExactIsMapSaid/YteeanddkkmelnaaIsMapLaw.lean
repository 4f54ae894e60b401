/- The law of IsMap. -/
import Derived.Test.YteeanddkkmelnaaIsMap
import Derived.Test.YteeanddkkmelnaaLawB
import Derived.Test.YteeanddkkmelnaaCarry
import Derived.Test.YteeanddkkmelnaaOpen
namespace Go.Proofs.Yteeanddkkmelnaa.H
open Go.RowKit Go.Proofs.YteeanddkkmelnaaW.PrintWords Go.Proofs.YteeanddkkmelnaaW.PrintLast Go.Proofs.YteeanddkkmelnaaW.PrintMore
set_option linter.unusedVariables false
set_option linter.unusedSimpArgs false

set_option maxHeartbeats 1000000 in
theorem lawFnExactIsMap (w : World) (a : Int) (ga : W64 a) (ku : Value) (xs : List Int) (hk : ReadI w ku xs) (gk : ∀ x ∈ xs, W64 x) (b : Int) (gb : W64 b) (lu : Value) (ys : List Int) (hl : ReadI w lu ys) (gl : ∀ x ∈ ys, W64 x) (v : Value) (f : List Int) (hv : ReadI w v f) (gv : ∀ x ∈ f, W64 x) :
    Calls Try.prog 5 #[.agg #[.int .i64 a, ku], .agg #[.int .i64 b, lu], v] w fun e w' => e = .returned (.bool true) ∧ Below w.heap.size w w' := by
  obtain ⟨w1, hw1⟩ : ∃ w1, w1 = (w.alloc (.cells #[.int .i64 a, ku] 32)).alloc (.cells #[.int .i64 b, lu] 32) := ⟨_, rfl⟩
  have hB : Below w.heap.size w w1 := by rw [hw1]; exact ((Below.refl _ w).alloc (Nat.le_refl _) _).alloc (by simp) _
  have c0 : w1.cell? ⟨w.heap.size, 0, none⟩ = some (.int .i64 a) := by rw [hw1]; simp
  have c1 : w1.cell? ⟨w.heap.size, 1, none⟩ = some ku := by rw [hw1]; simp
  have c2 : w1.cell? ⟨w.heap.size + 1, 0, none⟩ = some (.int .i64 b) := by rw [hw1]; simp
  have c3 : w1.cell? ⟨w.heap.size + 1, 1, none⟩ = some lu := by rw [hw1]; simp
  have HK := Aside0.mk (hk.below hB)
  have HL := Aside0.mk (hl.below hB)
  have HV := Aside0.mk (hv.below hB)
  have HB := Aside0.mk hB
  obtain ⟨A1, d1, rfl, -⟩ := id hk
  obtain ⟨A2, d2, rfl, -⟩ := id hl
  obtain ⟨A3, d3, rfl, -⟩ := id hv
  clear hk hl hv hB gk gl gv ga gb
  by_cases h1 : f.length ≤ 1048576
  · have h1' : (f.length : Int) ≤ 1048576 := by omega
    by_cases h2 : xs.length ≤ 1048576
    · have hz2 : szAns 1048576 xs.length = 1048576 - xs.length := by unfold szAns; rw [if_neg (by omega)]
      have h2' : (xs.length : Int) ≤ 1048576 := by omega
      by_cases h3 : xs.length + ys.length ≤ 1048576
      · have hz3 : szAns (1048576 - xs.length) ys.length = 1048576 - xs.length - ys.length := by unfold szAns; rw [if_neg (by omega)]
        have h3' : (xs.length : Int) + ys.length ≤ 1048576 := by omega
        have hmx : Try.prog.follows .mixedOrders = true := by kernel_rfl
        go_enter Try.func5, Try.ntmps5
        go_wp2_with (first | (rw [← hw1]; clear hw1; go_at_call 16; refine (szComplex _ _ xs _ _ (by known) (by omega) (by omega)).mono ?_; rintro e w2 ⟨rfl, hb⟩; rw [hz2]; carry hb) | (go_at_call 16; refine (szComplex _ _ ys _ _ (by known) (by omega) (by omega)).mono ?_; rintro e w3 ⟨rfl, hb⟩; rw [hz3]; carry hb))
        refine wp_region_phi (fun i => match i with | 0 => fun v _ => v = .agg #[.int .i64 a, .slice A1 xs.length d1] | 1 => fun v W => ∃ u, v = .agg #[.int .i64 a, u] ∧ OwnI w3.heap.size W u xs | 2 => fun v _ => v = .agg #[.int .i64 b, .slice A2 ys.length d2] | 3 => fun v W => ∃ u, v = .agg #[.int .i64 b, u] ∧ OwnI w3.heap.size W u ys | 4 => fun v _ => v = .slice A3 f.length d3 | 5 => fun v W => OwnI w3.heap.size W v f | 6 => fun v _ => v = .tuple #[.bool (ansIsMap a xs b ys f).1, .int .i64 (ansIsMap a xs b ys f).2] | 7 => fun v _ => v = .tuple #[.bool (ansIsMap a xs b ys f).1, .int .i64 (ansIsMap a xs b ys f).2] | 8 => fun v _ => v = .bool (ansIsMap a xs b ys f).1 | 9 => fun v _ => v = .int .i64 (ansIsMap a xs b ys f).2 | 10 => fun v _ => v = .bool (ansIsMap a xs b ys f).1 | 11 => fun v _ => v = .int .i64 (ansIsMap a xs b ys f).2 | _ => fun _ _ => True)
          [0, 1, 0, 7, 0, 31, 63, 127, 255, 255, 511, 2047] hmx (by kernel_rfl) ?st ?steps ?rest
        case st =>
          intro i v w1 w2 hb
          match i with
          | 0 | 2 | 4 | 6 | 7 | 8 | 9 | 10 | 11 => exact id
          | 1 | 3 => exact fun ⟨u, e, ho⟩ => ⟨u, e, ho.below hb⟩
          | 5 => exact fun ho => OwnI.below ho hb
          | n + 12 => exact id
        case steps =>
          refine ⟨?_, ?_, ?_, ?_, ?_, ?_, ?_, ?_, ?_, ?_, ?_, ?_, trivial⟩
          · intro s w4 hb hd R hR
            carry hb
            phi_value (.agg #[.int .i64 a, .slice A1 xs.length d1])
          · intro s w4 hb hd R hR
            have hs := hb.size
            carry hb
            have e0 : s 0 = _ := hd 0 (by kernel_rfl)
            phi_call 18 #[.agg #[.int .i64 a, .slice A1 xs.length d1]]
            refine (toComplex a _ xs w4 (by known) (by omega)).mono ?_
            rintro e w5 ⟨u, rfl, ho, hb5⟩
            exact ⟨_, rfl, hR _ _ hb5 ⟨u, rfl, ho.lower hs⟩⟩
          · intro s w4 hb hd R hR
            carry hb
            phi_value (.agg #[.int .i64 b, .slice A2 ys.length d2])
          · intro s w4 hb hd R hR
            have hs := hb.size
            carry hb
            have e2 : s 2 = _ := hd 2 (by kernel_rfl)
            phi_call 18 #[.agg #[.int .i64 b, .slice A2 ys.length d2]]
            refine (toComplex b _ ys w4 (by known) (by omega)).mono ?_
            rintro e w5 ⟨u, rfl, ho, hb5⟩
            exact ⟨_, rfl, hR _ _ hb5 ⟨u, rfl, ho.lower hs⟩⟩
          · intro s w4 hb hd R hR
            carry hb
            phi_value (.slice A3 f.length d3)
          · intro s w4 hb hd R hR
            have hs := hb.size
            carry hb
            have e4 : s 4 = _ := hd 4 (by kernel_rfl)
            phi_call 9 #[.slice A3 f.length d3]
            refine (toInt64S _ f w4 (by known) (by omega)).mono ?_
            rintro e w5 ⟨u, rfl, ho, hb5⟩
            exact ⟨_, rfl, hR _ _ hb5 (ho.lower hs)⟩
          · intro s w4 hb hd R hR
            carry hb
            obtain ⟨u1, e1, o1⟩ : ∃ u, s 1 = _ ∧ OwnI _ _ u xs := hd 1 (by kernel_rfl)
            obtain ⟨u3, e3, o3⟩ : ∃ u, s 3 = _ ∧ OwnI _ _ u ys := hd 3 (by kernel_rfl)
            have o5 : OwnI _ _ (s 5) f := hd 5 (by kernel_rfl)
            phi_call 17 #[cx a u1, cx b u3, s 5]
            refine (specIsMap a _ xs b _ ys _ f w4 o1.read o3.read o5.read).mono ?_
            rintro e w5 ⟨rfl, hb5⟩
            exact ⟨_, rfl, hR _ _ hb5 rfl⟩
          · intro s w4 hb hd R hR
            have e6 : s 6 = _ := hd 6 (by kernel_rfl)
            phi_value (.tuple #[.bool (ansIsMap a xs b ys f).1, .int .i64 (ansIsMap a xs b ys f).2])
          · intro s w4 hb hd R hR
            have e7 : s 7 = _ := hd 7 (by kernel_rfl)
            phi_value (.bool (ansIsMap a xs b ys f).1)
          · intro s w4 hb hd R hR
            have e7 : s 7 = _ := hd 7 (by kernel_rfl)
            phi_value (.int .i64 (ansIsMap a xs b ys f).2)
          · intro s w4 hb hd R hR
            have e8 : s 8 = _ := hd 8 (by kernel_rfl)
            phi_value (.bool (ansIsMap a xs b ys f).1)
          · intro s w4 hb hd R hR
            have e9 : s 9 = _ := hd 9 (by kernel_rfl)
            phi_value (.int .i64 (ansIsMap a xs b ys f).2)
        case rest =>
          intro s w4 hb4 hv
          have e10 : s 10 = _ := hv 10 (by decide)
          have e11 : s 11 = _ := hv 11 (by decide)
          obtain ⟨r1, hr1⟩ : ∃ r, r = (ansIsMap a xs b ys f).1 := ⟨_, rfl⟩
          obtain ⟨r2, hr2⟩ : ∃ r, r = (ansIsMap a xs b ys f).2 := ⟨_, rfl⟩
          rw [← hr1] at e10
          rw [← hr2] at e11
          phi_norm
          rw [e10, e11]
          have H1 := Aside0.mk hr1
          have H2 := Aside0.mk hr2
          clear hv e10 e11 hr1 hr2
          carry hb4
          go_wp2_with (first | (go_at_call 18; refine (toComplex _ _ xs _ (by known) (by omega)).mono ?_; rintro e w6 ⟨u6, rfl, ho6, hb6⟩; obtain ⟨A6, d6, rfl, -⟩ := ho6.read; carry hb6; have HO6 := Aside0.mk ho6; clear ho6) | (go_at_call 18; refine (toComplex _ _ ys _ (by known) (by omega)).mono ?_; rintro e w7 ⟨u7, rfl, ho7, hb7⟩; obtain ⟨A7, d7, rfl, -⟩ := ho7.read; carry hb7; have HO7 := Aside0.mk ho7; clear ho7) | (go_at_call 9; refine (toInt64S _ f _ (by known) (by omega)).mono ?_; rintro e w8 ⟨u8, rfl, ho8, hb8⟩; obtain ⟨A8, d8, rfl, -⟩ := ho8.read; carry hb8; have HO8 := Aside0.mk ho8; clear ho8) | (go_at_call 19; refine (implIsMap a _ xs b _ ys _ f _ (by known) (by known) (by known)).mono ?_; rintro e w9 ⟨rfl, hb9⟩; rw [← H1.out, ← H2.out]; carry hb9))
          refine wp_region_phi (fun i => match i with | 0 => fun v _ => v = .agg #[.int .i64 a, .slice A6 xs.length d6] | 1 => fun v _ => v = .agg #[.int .i64 a, .slice A1 xs.length d1] | 2 => fun v W => ∃ u, v = .agg #[.int .i64 a, u] ∧ OwnI w9.heap.size W u xs | 3 => fun v _ => v = .bool true | 4 => fun v _ => v = .bool false | _ => fun _ _ => True)
            [0, 0, 2, 7, 15] hmx (by kernel_rfl) ?st ?steps ?rest
          case st =>
            intro i v w1 w2 hb
            match i with
            | 0 | 1 | 3 | 4 => exact id
            | 2 => exact fun ⟨u, e, ho⟩ => ⟨u, e, ho.below hb⟩
            | n + 5 => exact id
          case steps =>
            refine ⟨?_, ?_, ?_, ?_, ?_, trivial⟩
            · intro s w4 hb hd R hR
              carry hb
              phi_value (.agg #[.int .i64 a, .slice A6 xs.length d6])
            · intro s w4 hb hd R hR
              carry hb
              phi_value (.agg #[.int .i64 a, .slice A1 xs.length d1])
            · intro s w4 hb hd R hR
              have hs := hb.size
              carry hb
              have e1 : s 1 = _ := hd 1 (by kernel_rfl)
              phi_call 18 #[.agg #[.int .i64 a, .slice A1 xs.length d1]]
              refine (toComplex a _ xs w4 (by known) (by omega)).mono ?_
              rintro e w5 ⟨u, rfl, ho, hb5⟩
              exact ⟨_, rfl, hR _ _ hb5 ⟨u, rfl, ho.lower hs⟩⟩
            · intro s w4 hb hd R hR
              carry hb
              have e0 : s 0 = _ := hd 0 (by kernel_rfl)
              obtain ⟨u2, e2, o2⟩ : ∃ u, s 2 = _ ∧ OwnI _ _ u xs := hd 2 (by kernel_rfl)
              phi_call 20 #[.agg #[.int .i64 a, .slice A6 xs.length d6], .agg #[.int .i64 a, u2]]
              refine (eqComplex a a _ _ xs xs w4 (by known) o2.read).mono ?_
              rintro e w5 ⟨rfl, hb5⟩
              rw [decide_eq_true rfl, beq_self_eq_true]
              exact ⟨_, rfl, hR _ _ hb5 rfl⟩
            · intro s w4 hb hd R hR
              have e3 : s 3 = _ := hd 3 (by kernel_rfl)
              phi_value (.bool false)
          case rest =>
            intro sa w4 hb4 hv
            have e4 : sa 4 = _ := hv 4 (by decide)
            phi_norm
            rw [e4]
            clear hv e4
            carry hb4
            go_wp2_with (first | (go_at_call 9; refine (toInt64S _ f _ (by known) (by omega)).mono ?_; rintro e w8 ⟨u8, rfl, ho8, hb8⟩; obtain ⟨A9, d9, rfl, -⟩ := ho8.read; carry hb8; have HO9 := Aside0.mk ho8; clear ho8) | (go_at_call 11; refine (eqInt64S _ _ f f _ (by known) (by known)).mono ?_; rintro e w9 ⟨rfl, hb9⟩; rw [beq_self_eq_true]; carry hb9))
            refine wp_region_phi (fun i => match i with | 0 => fun v _ => v = .agg #[.int .i64 b, .slice A7 ys.length d7] | 1 => fun v _ => v = .agg #[.int .i64 b, .slice A2 ys.length d2] | 2 => fun v W => ∃ u, v = .agg #[.int .i64 b, u] ∧ OwnI w4.heap.size W u ys | 3 => fun v _ => v = .bool true | 4 => fun v _ => v = .bool false | _ => fun _ _ => True)
              [0, 0, 2, 7, 15] hmx (by kernel_rfl) ?st ?steps ?rest
            case st =>
              intro i v w1 w2 hb
              match i with
              | 0 | 1 | 3 | 4 => exact id
              | 2 => exact fun ⟨u, e, ho⟩ => ⟨u, e, ho.below hb⟩
              | n + 5 => exact id
            case steps =>
              refine ⟨?_, ?_, ?_, ?_, ?_, trivial⟩
              · intro s w4 hb hd R hR
                carry hb
                phi_value (.agg #[.int .i64 b, .slice A7 ys.length d7])
              · intro s w4 hb hd R hR
                carry hb
                phi_value (.agg #[.int .i64 b, .slice A2 ys.length d2])
              · intro s w4 hb hd R hR
                have hs := hb.size
                carry hb
                have e1 : s 1 = _ := hd 1 (by kernel_rfl)
                phi_call 18 #[.agg #[.int .i64 b, .slice A2 ys.length d2]]
                refine (toComplex b _ ys w4 (by known) (by omega)).mono ?_
                rintro e w5 ⟨u, rfl, ho, hb5⟩
                exact ⟨_, rfl, hR _ _ hb5 ⟨u, rfl, ho.lower hs⟩⟩
              · intro s w4 hb hd R hR
                carry hb
                have e0 : s 0 = _ := hd 0 (by kernel_rfl)
                obtain ⟨u2, e2, o2⟩ : ∃ u, s 2 = _ ∧ OwnI _ _ u ys := hd 2 (by kernel_rfl)
                phi_call 20 #[.agg #[.int .i64 b, .slice A7 ys.length d7], .agg #[.int .i64 b, u2]]
                refine (eqComplex b b _ _ ys ys w4 (by known) o2.read).mono ?_
                rintro e w5 ⟨rfl, hb5⟩
                rw [decide_eq_true rfl, beq_self_eq_true]
                exact ⟨_, rfl, hR _ _ hb5 rfl⟩
              · intro s w4 hb hd R hR
                have e3 : s 3 = _ := hd 3 (by kernel_rfl)
                phi_value (.bool false)
            case rest =>
              intro sb w4 hb4 hv
              have e4 : sb 4 = _ := hv 4 (by decide)
              phi_norm
              rw [e4]
              clear hv e4
              carry hb4
              go_wp2_with (first | (go_at_call 9; refine (toInt64S _ f _ (by known) (by omega)).mono ?_; rintro e w8 ⟨u8, rfl, ho8, hb8⟩; obtain ⟨A9, d9, rfl, -⟩ := ho8.read; carry hb8; have HO9 := Aside0.mk ho8; clear ho8) | (go_at_call 11; refine (eqInt64S _ _ f f _ (by known) (by known)).mono ?_; rintro e w9 ⟨rfl, hb9⟩; rw [beq_self_eq_true]; carry hb9))
              go_ret
              exact ⟨rfl, HB.out⟩
      · have hz3 : szAns (1048576 - xs.length) ys.length = -1 := by unfold szAns; rw [if_pos (by omega)]
        go_enter Try.func5, Try.ntmps5
        go_wp2_with (first | (rw [← hw1]; clear hw1; go_at_call 16; refine (szComplex _ _ xs _ _ (by known) (by omega) (by omega)).mono ?_; rintro e w2 ⟨rfl, hb⟩; rw [hz2]; carry hb) | (go_at_call 16; refine (szComplex _ _ ys _ _ (by known) (by omega) (by omega)).mono ?_; rintro e w3 ⟨rfl, hb⟩; rw [hz3]; carry hb))
        go_ret
        exact ⟨rfl, HB.out⟩
    · have hz2 : szAns 1048576 xs.length = -1 := by unfold szAns; rw [if_pos (by omega)]
      go_enter Try.func5, Try.ntmps5
      go_wp2_with (first | (rw [← hw1]; clear hw1; go_at_call 16; refine (szComplex _ _ xs _ _ (by known) (by omega) (by omega)).mono ?_; rintro e w2 ⟨rfl, hb⟩; rw [hz2]; carry hb))
      go_ret
      exact ⟨rfl, HB.out⟩
  · have h1' : (1048576 : Int) < f.length := by omega
    go_enter Try.func5, Try.ntmps5
    go_wp2
    rw [← hw1]
    go_ret
    exact ⟨rfl, HB.out⟩
end Go.Proofs.Yteeanddkkmelnaa.H
