/- TreeOfOrder of the program. -/
import Derived.Test.YteeanddkkmelnaaOrd
import Derived.Test.YteeanddkkmelnaaBits
namespace Go.Proofs.Yteeanddkkmelnaa.H
open Go.RowKit Go.Proofs.YteeanddkkmelnaaW.PrintWords Go.Proofs.YteeanddkkmelnaaW.PrintLast Go.Proofs.YteeanddkkmelnaaW.PrintMore
set_option linter.unusedVariables false
set_option linter.unusedSimpArgs false

/-- what TreeOfOrder answers -/
def ansTreeOfOrder (a : Int) (o : List Int) : List Int × Int :=
  if decide (1 ≤ a) && decide (a ≤ 6) && ordOk a.toNat o then (treeTo o (2 ^ a.toNat - 1), 0) else ([], 2)
theorem lenTreeOfOrder (a : Int) (o : List Int) : (ansTreeOfOrder a o).1.length ≤ 1073741824 := by
  unfold ansTreeOfOrder
  split
  · next h =>
    simp only [Bool.and_eq_true, decide_eq_true_eq] at h
    have h1 : 2 ^ a.toNat ≤ 2 ^ 6 := Nat.pow_le_pow_right (by decide) (by omega)
    rw [treeTo_len]
    omega
  · simp

set_option maxRecDepth 100000 in
set_option maxHeartbeats 8000000 in
theorem len64 (x : Nat) (h1 : 1 ≤ x) (h2 : x < 64) (w : World) : Calls Try.prog 30 #[.int .u64 x] w fun e w' => e = .returned (.int .i64 ((Nat.log2 x : Nat) + 1 : Int)) ∧ Below w.heap.size w w' := by
  rcases (by omega : x = 1 ∨ x = 2 ∨ x = 3 ∨ x = 4 ∨ x = 5 ∨ x = 6 ∨ x = 7 ∨ x = 8 ∨ x = 9 ∨ x = 10 ∨ x = 11 ∨ x = 12 ∨ x = 13 ∨ x = 14 ∨ x = 15 ∨ x = 16 ∨ x = 17 ∨ x = 18 ∨ x = 19 ∨ x = 20 ∨ x = 21 ∨ x = 22 ∨ x = 23 ∨ x = 24 ∨ x = 25 ∨ x = 26 ∨ x = 27 ∨ x = 28 ∨ x = 29 ∨ x = 30 ∨ x = 31 ∨ x = 32 ∨ x = 33 ∨ x = 34 ∨ x = 35 ∨ x = 36 ∨ x = 37 ∨ x = 38 ∨ x = 39 ∨ x = 40 ∨ x = 41 ∨ x = 42 ∨ x = 43 ∨ x = 44 ∨ x = 45 ∨ x = 46 ∨ x = 47 ∨ x = 48 ∨ x = 49 ∨ x = 50 ∨ x = 51 ∨ x = 52 ∨ x = 53 ∨ x = 54 ∨ x = 55 ∨ x = 56 ∨ x = 57 ∨ x = 58 ∨ x = 59 ∨ x = 60 ∨ x = 61 ∨ x = 62 ∨ x = 63) with rfl | rfl | rfl | rfl | rfl | rfl | rfl | rfl | rfl | rfl | rfl | rfl | rfl | rfl | rfl | rfl | rfl | rfl | rfl | rfl | rfl | rfl | rfl | rfl | rfl | rfl | rfl | rfl | rfl | rfl | rfl | rfl | rfl | rfl | rfl | rfl | rfl | rfl | rfl | rfl | rfl | rfl | rfl | rfl | rfl | rfl | rfl | rfl | rfl | rfl | rfl | rfl | rfl | rfl | rfl | rfl | rfl | rfl | rfl | rfl | rfl | rfl | rfl
  all_goals
    go_enter Try.func30, Try.ntmps30
    go_wp2
    go_ret
    exact ⟨by kernel_rfl, by (repeat (first | (with_reducible exact Below.refl _ _) | (with_reducible assumption) | (with_reducible refine below_step ?_ (by assumption)) | (with_reducible apply below_alloc) | (with_reducible apply below_drewN)))⟩

theorem seenTo_snoc (o : List Int) (v : Int) : seenTo (o ++ [v]) = seenTo o ||| 2 ^ v.toNat := by unfold seenTo; rw [List.foldl_append]; rfl
theorem seenTo_lt : ∀ (o : List Int), (∀ v ∈ o, v ≤ 5) → seenTo o < 64 := by
  intro o
  unfold seenTo
  have : ∀ (o : List Int) (s : Nat), s < 64 → (∀ v ∈ o, v ≤ 5) → o.foldl (fun s v => s ||| 2 ^ v.toNat) s < 64 := by
    intro o
    induction o with
    | nil => intro s hs _; exact hs
    | cons a r ih =>
      intro s hs h
      refine ih _ ?_ (fun v hv => h v (List.mem_cons_of_mem _ hv))
      have ha := h a List.mem_cons_self
      have h2 : 2 ^ a.toNat < 2 ^ 6 := Nat.pow_lt_pow_right (by decide) (by omega)
      exact Nat.or_lt_two_pow (n := 6) hs h2
  exact this o 0 (by decide)

theorem mem_of_getD {xs : List Int} {i : Nat} {x : Int} (hi : i < xs.length) (h : xs.getD i 0 = x) : x ∈ xs := by
  rw [← h, List.getD_eq_getElem?_getD, List.getElem?_eq_getElem hi]; simp
theorem take_snoc {xs : List Int} {i : Nat} {y : Int} (h : i < xs.length) (hy : xs.getD i 0 = y) : xs.take (i + 1) = xs.take i ++ [y] := take_get h hy
set_option maxRecDepth 100000 in
set_option maxHeartbeats 2000000 in
theorem isOrder (v : Value) (o : List Int) (n : Nat) (h1 : 1 ≤ n) (hn : n ≤ 6) (w : World) (hr : ReadI w v o) :
    Calls Try.prog 29 #[v, .int .i64 n] w fun e w' => e = .returned (.bool (ordOk n o)) ∧ Below w.heap.size w w' := by
  have hlen := hr.len
  obtain ⟨A1, d1, rfl, hcc, hr⟩ := hr
  have HR := Aside0.mk hr
  have hsh := pow_wrap n (by omega)
  have hb64 : 2 ≤ 2 ^ n ∧ 2 ^ n ≤ 64 := by
    rcases (by omega : n = 1 ∨ n = 2 ∨ n = 3 ∨ n = 4 ∨ n = 5 ∨ n = 6) with rfl | rfl | rfl | rfl | rfl | rfl <;> decide
  obtain ⟨N, hN⟩ : ∃ N : Nat, N = 2 ^ n := ⟨_, rfl⟩
  have HN := Aside0.mk hN
  rw [← hN] at hsh hb64
  clear hr hcc hN
  go_enter Try.func29, Try.ntmps29
  go_wp2
  go_loopw [5, 10] (fun s5 s10 wr => ∃ i : Nat, s10 = .int .i64 i ∧ i ≤ o.length ∧ s5 = .int .i64 (seenTo (o.take i) : Nat) ∧ Aside0 (∀ x ∈ o.take i, inTree n x = true) ∧ Aside0 (Below w.heap.size w wr)) (fun _ s10 _ => o.length - (intOf s10).toNat)
  case atStart => exact ⟨0, rfl, Nat.zero_le _, rfl, ⟨fun x hx => by simp at hx⟩, ⟨Below.refl _ _⟩⟩
  case round =>
    obtain ⟨i, rfl, hi, rfl, HI, HB⟩ := hrel
    have HS : Aside0 (seenTo (o.take i) < 64) := ⟨seenTo_lt _ (fun x hx => by have := HI.out x hx; unfold inTree at this; simp at this; omega)⟩
    by_cases hlt : i < o.length
    · obtain ⟨ad, y, rfl, hcell, HY⟩ := ReadI.get (Kd.C_below HR.out HB.out) hlt
      cases hin : (decide (0 ≤ y) && decide (y ≤ (n : Int) - 1)) with
      | false =>
        have HA : Aside0 (ordOk n o = false) := ⟨by
          unfold ordOk
          rw [show o.all (inTree n) = false from List.all_eq_false.2 ⟨y, mem_of_getD hlt HY.out, by unfold inTree; rw [hin]; decide⟩, Bool.false_and]⟩
        go_wp2_with (first | (go_at_call 40; refine (within _ _ _ _).mono ?_; rintro e w2 ⟨rfl, hb⟩; rw [hin]))
        go_ret
        exact ⟨by rw [HA.out]; rfl, HB.out.trans (hb.mono HB.out.size)⟩
      | true =>
        have hy := hin
        simp only [Bool.and_eq_true, decide_eq_true_eq] at hy
        obtain ⟨p, rfl⟩ : ∃ p : Nat, y = p := ⟨y.toNat, by omega⟩
        have HT : Aside0 (seenTo (o.take (i + 1)) = seenTo (o.take i) ||| 2 ^ p) := ⟨by rw [take_snoc hlt HY.out, seenTo_snoc, Int.toNat_natCast]⟩
        have HI2 : Aside0 (∀ x ∈ o.take (i + 1), inTree n x = true) := ⟨fun x hx => by
          rw [take_snoc hlt HY.out, List.mem_append, List.mem_singleton] at hx
          rcases hx with hx | rfl
          · exact HI.out x hx
          · unfold inTree; exact hin⟩
        have hp6 : p < 6 := by omega
        have hshp := pow_wrap p (by omega)
        have hpp : 2 ^ p < 64 := by have := Nat.pow_lt_pow_right (a := 2) (by decide) hp6; omega
        have hs64 := HS.out
        obtain ⟨S, hS⟩ : ∃ S, S = seenTo (o.take i) := ⟨_, rfl⟩
        rw [← hS] at HT hs64 ⊢
        obtain ⟨P, hP⟩ : ∃ P, P = 2 ^ p := ⟨_, rfl⟩
        rw [← hP] at HT hshp hpp
        have hor := or_i64 S P (by omega) (by omega)
        clear hS hP hy
        go_wp2_with (first | (go_at_call 40; refine (within _ _ _ _).mono ?_; rintro e w2 ⟨rfl, hb⟩; rw [hin]))
        go_roundw
        case rel => exact ⟨i + 1, by go_num, by omega, by rw [HT.out], HI2, ⟨HB.out.trans (hb.mono HB.out.size)⟩⟩
        case measure => simp [intOf]; omega
    · have e : i = o.length := by omega
      have hall : o.all (inTree n) = true := by
        rw [List.all_eq_true]
        have := HI.out
        rw [e, List.take_length] at this
        exact this
      have HA : Aside0 (ordOk n o = (decide (o.length = n) && decide (seenTo (o.take i) = N - 1))) := ⟨by unfold ordOk; rw [hall, Bool.true_and, e, List.take_length, HN.out]⟩
      have hs64 := HS.out
      obtain ⟨S, hS⟩ : ∃ S, S = seenTo (o.take i) := ⟨_, rfl⟩
      rw [← hS] at HA hs64 ⊢
      clear hS hall
      by_cases hl : o.length = n
      · have hlb : ((o.length : Int) == (n : Int)) = true := by rw [beq_iff_eq]; omega
        have HE : Aside0 ((((S : Nat) : Int) == (N : Int) - 1) = decide (S = N - 1)) := ⟨by rw [Bool.eq_iff_iff, beq_iff_eq, decide_eq_true_eq]; omega⟩
        have HL := Aside0.mk hl
        clear hl e
        go_wp2_with (first | (go_at_call 41; refine (length_any _ _ _ _).mono ?_; rintro e w2 ⟨rfl, hb⟩))
        go_ret
        exact ⟨by rw [HA.out, decide_eq_true HL.out, Bool.true_and, ← HE.out]; rfl, HB.out.trans (hb.mono HB.out.size)⟩
      · have hlb : ((o.length : Int) == (n : Int)) = false := by simp; omega
        have HL := Aside0.mk hl
        clear hl e
        go_wp2_with (first | (go_at_call 41; refine (length_any _ _ _ _).mono ?_; rintro e w2 ⟨rfl, hb⟩))
        go_ret
        exact ⟨by rw [HA.out, decide_eq_false HL.out, Bool.false_and]; rfl, HB.out.trans (hb.mono HB.out.size)⟩

set_option maxRecDepth 100000 in
set_option maxHeartbeats 2000000 in
theorem implTreeOfOrder (a : Int) (v : Value) (o : List Int) (w : World) (hr : ReadI w v o) :
    Calls Try.prog 13 #[.int .i64 a, v] w fun e w' => ∃ u, e = .returned (.tuple #[u, .int .i64 (ansTreeOfOrder a o).2]) ∧ OwnI w.heap.size w' u (ansTreeOfOrder a o).1 ∧ Below w.heap.size w w' := by
  have HV := Aside0.mk hr
  obtain ⟨A1, d1, rfl, hcc, hr⟩ := hr
  have HR := Aside0.mk hr
  have hlen := hr.2.1
  clear hr hcc
  cases hs : (decide (1 ≤ a) && decide (a ≤ 6)) with
  | false =>
    have HA : Aside0 (ansTreeOfOrder a o = ([], 2)) := ⟨by unfold ansTreeOfOrder; rw [hs, Bool.false_and, if_neg (by decide)]⟩
    go_enter Try.func13, Try.ntmps13
    go_wp2_with (first | (go_at_call 27; refine (isSize _ _).mono ?_; rintro e w2 ⟨rfl, hb⟩; rw [hs]; have HB2 := Aside0.mk hb; clear hb))
    go_ret2
    exact ⟨_, by rw [HA.out]; rfl, by rw [HA.out]; exact OwnI.nil _ _, HB2.out⟩
  | true =>
    have ha := hs
    simp only [Bool.and_eq_true, decide_eq_true_eq] at ha
    obtain ⟨n, rfl⟩ : ∃ n : Nat, a = n := ⟨a.toNat, by omega⟩
    have h1 : 1 ≤ n := by omega
    have hn : n ≤ 6 := by omega
    clear ha
    cases ho : ordOk n o with
    | false =>
      have HA : Aside0 (ansTreeOfOrder n o = ([], 2)) := ⟨by unfold ansTreeOfOrder; rw [Int.toNat_natCast, ho, Bool.and_false, if_neg (by decide)]⟩
      go_enter Try.func13, Try.ntmps13
      go_wp2_with (first | (go_at_call 27; refine (isSize _ _).mono ?_; rintro e w2 ⟨rfl, hb⟩; rw [hs]; have HB2 := Aside0.mk hb; clear hb) | (go_at_call 29; refine (isOrder _ o n h1 hn _ (HV.out.below HB2.out)).mono ?_; rintro e w3 ⟨rfl, hb⟩; rw [ho]; have HB3 := Aside0.mk hb; clear hb))
      go_ret2
      exact ⟨_, by rw [HA.out]; rfl, by rw [HA.out]; exact OwnI.nil _ _, HB2.out.trans (HB3.out.mono HB2.out.size)⟩
    | true =>
      have HA : Aside0 (ansTreeOfOrder n o = (treeTo o (2 ^ n - 1), 0)) := ⟨by unfold ansTreeOfOrder; rw [Int.toNat_natCast, ho, hs, Bool.and_true, if_pos rfl]⟩
      have hol : o.length = n := by
        unfold ordOk at ho
        simp only [Bool.and_eq_true, decide_eq_true_eq] at ho
        exact ho.2.1
      have HLG : Aside0 (∀ p, 1 ≤ p → p < 2 ^ n → Nat.log2 p < o.length) := ⟨fun p hp1 hp2 => by rw [hol]; exact log2_lt hn hp1 hp2⟩
      have hb64 : 2 ≤ 2 ^ n ∧ 2 ^ n ≤ 64 := by
        rcases (by omega : n = 1 ∨ n = 2 ∨ n = 3 ∨ n = 4 ∨ n = 5 ∨ n = 6) with rfl | rfl | rfl | rfl | rfl | rfl <;> decide
      have hsh : IntKind.u64.wrap ((2 : Int) ^ n) = ((2 ^ n : Nat) : Int) := by
        rcases (by omega : n = 1 ∨ n = 2 ∨ n = 3 ∨ n = 4 ∨ n = 5 ∨ n = 6) with rfl | rfl | rfl | rfl | rfl | rfl <;> decide
      obtain ⟨N, hN⟩ : ∃ N : Nat, N = 2 ^ n := ⟨_, rfl⟩
      rw [← hN] at hb64 hsh HLG HA
      clear hN hol
      go_enter Try.func13, Try.ntmps13
      go_wp2_with (first | (go_at_call 27; refine (isSize _ _).mono ?_; rintro e w2 ⟨rfl, hb⟩; rw [hs]; have HB2 := Aside0.mk hb; clear hb) | (go_at_call 29; refine (isOrder _ o n h1 hn _ (HV.out.below HB2.out)).mono ?_; rintro e w3 ⟨rfl, hb⟩; rw [ho]; have HB3 := Aside0.mk (HB2.out.trans (hb.mono HB2.out.size)); clear hb))
      go_loopw [6, 7] (fun s6 s7 wr => ∃ i : Nat, s7 = .int .u64 (i : Int) ∧ 1 ≤ i ∧ i ≤ N ∧ Aside0 (OwnI w.heap.size wr s6 (treeTo o (i - 1))) ∧ Aside0 (Below w.heap.size w wr)) (fun _ s7 _ => N - (intOf s7).toNat)
      case atStart => exact ⟨1, rfl, Nat.le_refl _, by omega, ⟨OwnI.nil _ _⟩, HB3⟩
      case round =>
        obtain ⟨i, rfl, hi1, hiN, HO, HBw⟩ := hrel
        by_cases hlt : i < N
        · have hL := HLG.out i hi1 hlt
          obtain ⟨L, hLe⟩ : ∃ L, L = Nat.log2 i := ⟨_, rfl⟩
          have HLN := Aside0.mk (len64 i hi1 (by omega))
          have HT : Aside0 (treeTo o i = treeTo o (i - 1) ++ [o.getD L 0]) := ⟨by have := treeTo_succ o (i - 1); rw [show i - 1 + 1 = i by omega] at this; rw [hLe]; exact this⟩
          rw [← hLe] at hL HLN
          obtain ⟨ad, y, rfl, hcell, HY⟩ := ReadI.get (Kd.C_below HR.out HBw.out) hL
          have hll : (treeTo o (i - 1)).length ≤ 63 := by rw [treeTo_len]; omega
          clear hLe
          go_wp2_with (first | (go_at_call 30; refine (HLN.out _).mono ?_; rintro e w5 ⟨rfl, hb⟩; have HO5 := Aside0.mk (OwnI.below HO.out hb); have HB5 := Aside0.mk (HBw.out.trans (hb.mono HBw.out.size)); have hcell := pw_cell_below hb hcell; clear hb) | (at_builtin; refine app_own (w0 := w) w.heap.size rfl (.tmp 23) (.tmp 30) rfl _ (treeTo o (i - 1)) y rfl rfl HO5.out HB5.out HB5.out.size ?hl ?_; (case hl => omega); intro v1 w6 ho hb hg hat; have HO1 := Aside0.mk ho; have HB1 := Aside0.mk hb; clear ho hb hg hat))
          go_roundw
          case rel => exact ⟨i + 1, by simp, by omega, by omega, ⟨by rw [Nat.add_sub_cancel, HT.out, HY.out]; exact HO1.out⟩, HB1⟩
          case measure => simp [intOf]; omega
        · have e : i = N := by omega
          have HE := Aside0.mk e
          clear e
          go_wp2
          go_ret2
          exact ⟨_, by rw [HA.out]; rfl, by rw [HA.out, ← HE.out]; exact HO.out, HBw.out⟩
end Go.Proofs.Yteeanddkkmelnaa.H
