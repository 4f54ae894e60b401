/- Chains of the program: isChain, IsCycle. -/
import Derived.Test.YtcbkchnfjeegmaaChU
import Derived.Test.YtcbkchnfjeegmaaOnes
namespace Go.Proofs.Ytcbkchnfjeegmaa.H
open Go.RowKit Go.Proofs.YtcbkchnfjeegmaaW.PrintWords Go.Proofs.YtcbkchnfjeegmaaW.PrintLast Go.Proofs.YtcbkchnfjeegmaaW.PrintMore
set_option linter.unusedVariables false
set_option linter.unusedSimpArgs false

/-- the i-th face is as it has to be -/
def chAt (xs l : List Int) (i : Nat) : Bool := decide (l.getD i 0 ∈ xs) && (((ones (l.getD i 0).toNat : Nat) : Int) == ((ones (l.getD 0 0).toNat : Nat) : Int)) && (decide (i = 0) || decide (l.getD (i - 1) 0 < l.getD i 0))
/-- these make a chain -/
def chOk (xs l : List Int) : Bool := (List.range l.length).all (chAt xs l)
/-- the code for chains -/
def codeChn (a : Int) (xs l : List Int) : Int := if cxOk a xs then (if chOk xs l then 0 else 2) else 1
/-- what IsCycle answers -/
def ansIsCycle (a : Int) (xs l : List Int) : Bool × Int := if codeChn a xs l = 0 then (decide (bndB l = 0), 0) else (false, codeChn a xs l)

set_option maxRecDepth 100000 in
set_option maxHeartbeats 8000000 in
theorem onesC (x : Nat) (h2 : x < 64) (w : World) : Calls Try.prog 202 #[.int .u64 x] w fun e w' => e = .returned (.int .i64 (ones x : Nat)) ∧ Below w.heap.size w w' := by
  rcases (by omega : x = 0 ∨ x = 1 ∨ x = 2 ∨ x = 3 ∨ x = 4 ∨ x = 5 ∨ x = 6 ∨ x = 7 ∨ x = 8 ∨ x = 9 ∨ x = 10 ∨ x = 11 ∨ x = 12 ∨ x = 13 ∨ x = 14 ∨ x = 15 ∨ x = 16 ∨ x = 17 ∨ x = 18 ∨ x = 19 ∨ x = 20 ∨ x = 21 ∨ x = 22 ∨ x = 23 ∨ x = 24 ∨ x = 25 ∨ x = 26 ∨ x = 27 ∨ x = 28 ∨ x = 29 ∨ x = 30 ∨ x = 31 ∨ x = 32 ∨ x = 33 ∨ x = 34 ∨ x = 35 ∨ x = 36 ∨ x = 37 ∨ x = 38 ∨ x = 39 ∨ x = 40 ∨ x = 41 ∨ x = 42 ∨ x = 43 ∨ x = 44 ∨ x = 45 ∨ x = 46 ∨ x = 47 ∨ x = 48 ∨ x = 49 ∨ x = 50 ∨ x = 51 ∨ x = 52 ∨ x = 53 ∨ x = 54 ∨ x = 55 ∨ x = 56 ∨ x = 57 ∨ x = 58 ∨ x = 59 ∨ x = 60 ∨ x = 61 ∨ x = 62 ∨ x = 63) with rfl | rfl | rfl | rfl | rfl | rfl | rfl | rfl | rfl | rfl | rfl | rfl | rfl | rfl | rfl | rfl | rfl | rfl | rfl | rfl | rfl | rfl | rfl | rfl | rfl | rfl | rfl | rfl | rfl | rfl | rfl | rfl | rfl | rfl | rfl | rfl | rfl | rfl | rfl | rfl | rfl | rfl | rfl | rfl | rfl | rfl | rfl | rfl | rfl | rfl | rfl | rfl | rfl | rfl | rfl | rfl | rfl | rfl | rfl | rfl | rfl | rfl | rfl | rfl
  all_goals
    go_enter Try.func202, Try.ntmps202
    go_wp2
    go_ret
    exact ⟨by kernel_rfl, by (repeat (first | (with_reducible exact Below.refl _ _) | (with_reducible assumption) | (with_reducible refine below_step ?_ (by assumption)) | (with_reducible apply below_alloc) | (with_reducible apply below_drewN)))⟩
theorem size (x : Nat) (h2 : x < 64) (w : World) : Calls Try.prog 163 #[.int .i64 x] w fun e w' => e = .returned (.int .i64 (ones x : Nat)) ∧ Below w.heap.size w w' := by
  have hw : IntKind.u64.wrap (x : Int) = x := wrapU (by omega)
  have HX := Aside0.mk (onesC x h2)
  go_enter Try.func163, Try.ntmps163
  go_wp2_with (first | (go_at_call 202; refine (HX.out _).mono ?_; rintro e w2 ⟨rfl, hb⟩))
  go_ret
  exact ⟨rfl, hb⟩
theorem chOk_at {xs l : List Int} {i : Nat} (h : chOk xs l = true) (hi : i < l.length) : chAt xs l i = true := List.all_eq_true.1 h i (List.mem_range.2 hi)
theorem chOk_false {xs l : List Int} {i : Nat} (hi : i < l.length) (h : chAt xs l i = false) : chOk xs l = false := List.all_eq_false.2 ⟨i, List.mem_range.2 hi, by rw [h]; decide⟩
theorem chOk_true {xs l : List Int} (h : ∀ i, i < l.length → chAt xs l i = true) : chOk xs l = true := List.all_eq_true.2 (fun i hi => h i (List.mem_range.1 hi))
theorem chAt_mem {xs l : List Int} {i : Nat} (h : chAt xs l i = true) : l.getD i 0 ∈ xs := by
  unfold chAt at h
  simp only [Bool.and_eq_true, decide_eq_true_eq] at h
  exact h.1.1

set_option maxRecDepth 100000 in
set_option maxHeartbeats 4000000 in
theorem isChain (n : Nat) (ku : Value) (xs : List Int) (v : Value) (l : List Int) (w : World) (hk : ReadI w ku xs) (hv : ReadI w v l) (hc : Cx n xs) :
    Calls Try.prog 106 #[cx n ku, v] w fun e w' => e = .returned (.bool (chOk xs l)) ∧ Below w.heap.size w w' := by
  obtain ⟨w1, hw1⟩ : ∃ w1, w1 = w.alloc (.cells #[.int .i64 n, ku] 28) := ⟨_, rfl⟩
  have hB : Below w.heap.size w w1 := by rw [hw1]; exact Below.alloc (Below.refl _ _) (Nat.le_refl _) _
  have c0 : w1.cell? ⟨w.heap.size, 0, none⟩ = some (.int .i64 n) := by rw [hw1]; simp
  have c1 : w1.cell? ⟨w.heap.size, 1, none⟩ = some ku := by rw [hw1]; simp
  have HB := Aside0.mk hB
  have HK := Aside0.mk (hk.below hB)
  have l2 := hv.len
  have HN := Aside0.mk hc
  obtain ⟨A1, d1, rfl, -⟩ := id hk
  obtain ⟨A2, d2, rfl, hcv, hrv⟩ := hv.below hB
  have HR := Aside0.mk hrv
  clear hk hv hB hcv hrv hc
  go_enter Try.func106, Try.ntmps106
  go_wp2
  rw [← hw1]
  clear hw1
  go_loopw [9] (fun s wr => ∃ i : Nat, s = .int .i64 i ∧ i ≤ l.length ∧ Aside0 (∀ t, t < i → chAt xs l t = true) ∧ Aside0 (Below w1.heap.size w1 wr)) (fun s _ => l.length - (intOf s).toNat)
  case atStart => exact ⟨0, rfl, Nat.zero_le _, ⟨fun t h => absurd h (Nat.not_lt_zero _)⟩, ⟨Below.refl _ _⟩⟩
  case round =>
    obtain ⟨i, rfl, hi, HI, HBw⟩ := hrel
    have c0 := pw_cell_below HBw.out c0
    have c1 := pw_cell_below HBw.out c1
    by_cases hlt : i < l.length
    · obtain ⟨ad, y, rfl, hcell, HY⟩ := ReadI.get (Kd.C_below HR.out HBw.out) hlt
      have x0 : ∀ x : Ext wr, x.1.cell? ⟨w.heap.size, 0, none⟩ = some (.int .i64 n) := fun x => Ext.cell c0 x
      have x1 : ∀ x : Ext wr, x.1.cell? ⟨w.heap.size, 1, none⟩ = some (.slice A1 xs.length d1) := fun x => Ext.cell c1 x
      obtain ⟨b, hbm⟩ : ∃ b, b = decide (y ∈ xs) := ⟨_, rfl⟩
      have HH : Aside0 (∀ x : Ext wr, Calls Try.prog 119 #[cx n (.slice A1 xs.length d1), .int .i64 y] x.1 fun e w' => e = .returned (.bool b) ∧ Below x.1.heap.size x.1 w') := ⟨fun x => by rw [hbm]; exact has n _ xs y x.1 ((HK.out.below HBw.out).below x.2) HN.out.asc (by have := HN.out.len; omega)⟩
      cases b with
      | false =>
        have HA : Aside0 (chOk xs l = false) := ⟨chOk_false hlt (by unfold chAt; rw [HY.out, ← hbm]; rfl)⟩
        clear hbm
        go_wp2
        refine wp_region_ext (by kernel_rfl) (by kernel_rfl) ?_
        repeat (go_big_quiet_step ((first | (go_at_call 119; exact Calls.ext_of (HH.out _)))))
        refine wpQuiet_nil ?_
        rintro _ ⟨x, rfl⟩
        have hbx := x.2
        go_wp2
        go_ret
        exact ⟨by rw [HA.out]; rfl, HB.out.trans ((HBw.out.trans (hbx.mono HBw.out.size)).mono HB.out.size)⟩
      | true =>
        have hym : y ∈ xs := of_decide_eq_true hbm.symm
        obtain ⟨z, rfl, hz1, hz2⟩ := HN.out.nat hym
        have h0lt : 0 < l.length := by omega
        obtain ⟨ad', y0, e0, hcell0, HY0⟩ := ReadI.get (Kd.C_below HR.out HBw.out) h0lt
        cases e0
        obtain ⟨z0, rfl, hz01, hz02⟩ : ∃ z0 : Nat, y0 = z0 ∧ 1 ≤ z0 ∧ z0 ≤ 63 := by
          have hm0 : y0 ∈ xs := by
            by_cases h : i = 0
            · subst h; rw [← HY0.out, HY.out]; exact hym
            · have := chAt_mem (HI.out 0 (by omega)); rw [HY0.out] at this; exact this
          exact HN.out.nat hm0
        rw [show ad.add 0 = ad by cases ad; rfl] at hcell0
        have x2 : ∀ x : Ext wr, x.1.cell? ad = some (.int .i64 z0) := fun x => Ext.cell hcell0 x
        obtain ⟨s1, hs1⟩ : ∃ s, s = ones z := ⟨_, rfl⟩
        obtain ⟨s0, hs0⟩ : ∃ s, s = ones z0 := ⟨_, rfl⟩
        have HS1 : Aside0 (∀ x : Ext wr, Calls Try.prog 163 #[.int .i64 z] x.1 fun e w' => e = .returned (.int .i64 (s1 : Nat)) ∧ Below x.1.heap.size x.1 w') := ⟨fun x => by rw [hs1]; exact size z (by omega) x.1⟩
        have HS0 : Aside0 (∀ x : Ext wr, Calls Try.prog 163 #[.int .i64 z0] x.1 fun e w' => e = .returned (.int .i64 (s0 : Nat)) ∧ Below x.1.heap.size x.1 w') := ⟨fun x => by rw [hs0]; exact size z0 (by omega) x.1⟩
        have HC : Aside0 (chAt xs l i = ((((s1 : Nat) : Int) == ((s0 : Nat) : Int)) && (decide (i = 0) || decide (l.getD (i - 1) 0 < (z : Int))))) := ⟨by unfold chAt; rw [HY.out, HY0.out, ← hbm, Bool.true_and, Int.toNat_natCast, Int.toNat_natCast, ← hs1, ← hs0]⟩
        clear hbm hym hs1 hs0 hcell0
        by_cases hss : s1 = s0
        · have hse : (((s1 : Nat) : Int) != ((s0 : Nat) : Int)) = false := by simp [hss]
          have hsb : (((s1 : Nat) : Int) == ((s0 : Nat) : Int)) = true := by simp [hss]
          rw [hsb, Bool.true_and] at HC
          clear hss hsb
          by_cases h0 : i = 0
          · have HA : Aside0 (∀ t, t < i + 1 → chAt xs l t = true) := ⟨fun t ht => by
              rcases Nat.lt_succ_iff_lt_or_eq.1 ht with h | h
              · exact HI.out t h
              · rw [h, HC.out, decide_eq_true h0]; rfl⟩
            have h0' : decide (0 < i) = false := decide_eq_false (by omega)
            clear h0
            go_wp2
            refine wp_region_ext (by kernel_rfl) (by kernel_rfl) ?_
            repeat (go_big_quiet_step ((first | (go_at_call 119; exact Calls.ext_of (HH.out _)) | (go_at_call 163; with_reducible exact Calls.ext_of (HS1.out _)) | (go_at_call 163; with_reducible exact Calls.ext_of (HS0.out _)))))
            refine wpQuiet_nil ?_
            rintro _ ⟨x, rfl⟩
            have hbx := x.2
            go_wp2
            go_roundw
            case rel => exact ⟨i + 1, by go_num, by omega, HA, ⟨HBw.out.trans (hbx.mono HBw.out.size)⟩⟩
            case measure => simp [intOf]; omega
          · have h0' : decide (0 < i) = true := decide_eq_true (by omega)
            have h1i : (0 : Int) ≤ (i : Int) - 1 := by omega
            have h2i : (i : Int) - 1 < l.length := by omega
            have h3i : ((i : Int) - 1).toNat = i - 1 := by omega
            obtain ⟨ad'', y', e2, hcell2, HY2⟩ := ReadI.get (Kd.C_below HR.out HBw.out) (i := i - 1) (by omega)
            cases e2
            have hx3 : ∀ x : Ext wr, x.1.cell? (ad.add (i - 1)) = some (.int .i64 y') := fun x => Ext.cell hcell2 x
            clear hcell2
            rw [HY2.out, decide_eq_false h0, Bool.false_or] at HC
            clear h0
            by_cases hle : (z : Int) ≤ y'
            · have hled : decide ((z : Int) ≤ y') = true := decide_eq_true hle
              have HA : Aside0 (chOk xs l = false) := ⟨chOk_false hlt (by rw [HC.out]; exact decide_eq_false (by omega))⟩
              go_wp2
              refine wp_region_ext (by kernel_rfl) (by kernel_rfl) ?_
              repeat (go_big_quiet_step ((first | (go_at_call 119; exact Calls.ext_of (HH.out _)) | (go_at_call 163; with_reducible exact Calls.ext_of (HS1.out _)) | (go_at_call 163; with_reducible exact Calls.ext_of (HS0.out _)))))
              refine wpQuiet_nil ?_
              rintro _ ⟨x, rfl⟩
              have hbx := x.2
              go_wp2
              go_ret
              exact ⟨by rw [HA.out]; rfl, HB.out.trans ((HBw.out.trans (hbx.mono HBw.out.size)).mono HB.out.size)⟩
            · have hled : decide ((z : Int) ≤ y') = false := decide_eq_false hle
              have HA : Aside0 (∀ t, t < i + 1 → chAt xs l t = true) := ⟨fun t ht => by
                rcases Nat.lt_succ_iff_lt_or_eq.1 ht with h | h
                · exact HI.out t h
                · rw [h, HC.out]; exact decide_eq_true (by omega)⟩
              go_wp2
              refine wp_region_ext (by kernel_rfl) (by kernel_rfl) ?_
              repeat (go_big_quiet_step ((first | (go_at_call 119; exact Calls.ext_of (HH.out _)) | (go_at_call 163; with_reducible exact Calls.ext_of (HS1.out _)) | (go_at_call 163; with_reducible exact Calls.ext_of (HS0.out _)))))
              refine wpQuiet_nil ?_
              rintro _ ⟨x, rfl⟩
              have hbx := x.2
              go_wp2
              go_roundw
              case rel => exact ⟨i + 1, by go_num, by omega, HA, ⟨HBw.out.trans (hbx.mono HBw.out.size)⟩⟩
              case measure => simp [intOf]; omega
        · have hse : (((s1 : Nat) : Int) != ((s0 : Nat) : Int)) = true := by simp; omega
          have HA : Aside0 (chOk xs l = false) := ⟨chOk_false hlt (by rw [HC.out, show (((s1 : Nat) : Int) == ((s0 : Nat) : Int)) = false by simp; omega]; rfl)⟩
          clear hss
          go_wp2
          refine wp_region_ext (by kernel_rfl) (by kernel_rfl) ?_
          repeat (go_big_quiet_step ((first | (go_at_call 119; exact Calls.ext_of (HH.out _)) | (go_at_call 163; with_reducible exact Calls.ext_of (HS1.out _)) | (go_at_call 163; with_reducible exact Calls.ext_of (HS0.out _)))))
          refine wpQuiet_nil ?_
          rintro _ ⟨x, rfl⟩
          have hbx := x.2
          go_wp2
          go_ret
          exact ⟨by rw [HA.out]; rfl, HB.out.trans ((HBw.out.trans (hbx.mono HBw.out.size)).mono HB.out.size)⟩
    · have HA := Aside0.mk (chOk_true (xs := xs) (fun t ht => HI.out t (by omega)))
      go_wp2
      go_ret
      exact ⟨by rw [HA.out]; rfl, HB.out.trans (HBw.out.mono HB.out.size)⟩
end Go.Proofs.Ytcbkchnfjeegmaa.H
