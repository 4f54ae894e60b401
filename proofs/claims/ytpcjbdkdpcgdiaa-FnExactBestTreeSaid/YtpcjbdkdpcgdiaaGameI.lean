/- Games of the program: what counts, what is told. -/
import Derived.Test.YtpcjbdkdpcgdiaaGame
namespace Go.Proofs.Ytpcjbdkdpcgdiaa.H
open Go.RowKit Go.Proofs.YtpcjbdkdpcgdiaaW.PrintWords Go.Proofs.YtpcjbdkdpcgdiaaW.PrintLast Go.Proofs.YtpcjbdkdpcgdiaaW.PrintMore
set_option linter.unusedVariables false
set_option linter.unusedSimpArgs false

theorem doesCount (n : Nat) (ku : Value) (xs : List Int) (h : Int) (w : World) (hk : ReadI w ku xs) (hc : Cx n xs) :
    Calls Try.prog 105 #[cx n ku, .int .i64 h] w fun e w' => e = .returned (.bool (countB xs h)) ∧ Below w.heap.size w w' := by
  obtain ⟨w1, hw1⟩ : ∃ w1, w1 = w.alloc (.cells #[.int .i64 n, ku] 28) := ⟨_, rfl⟩
  have hB : Below w.heap.size w w1 := by rw [hw1]; exact Below.alloc (Below.refl _ _) (Nat.le_refl _) _
  have HK := Aside0.mk (hk.below hB)
  have HB := Aside0.mk hB
  have HC := Aside0.mk hc
  obtain ⟨A1, d1, rfl, -⟩ := id hk
  clear hk hB hc
  have HX : Aside0 (countB xs h = ((h == 0) || decide (h ∈ xs))) := ⟨rfl⟩
  cases h0 : (h == 0) with
  | true =>
    go_enter Try.func105, Try.ntmps105
    go_wp2
    rw [← hw1]
    go_ret
    exact ⟨by rw [HX.out, h0]; rfl, HB.out⟩
  | false =>
    go_enter Try.func105, Try.ntmps105
    go_wp2_with (first | (go_at_call 68; rw [← hw1]; clear hw1; refine (has n _ xs h _ HK.out HC.out.asc (by have := HC.out.len; omega)).mono ?_; rintro e w2 ⟨rfl, hb⟩))
    go_ret
    exact ⟨by rw [HX.out, h0]; rfl, HB.out.trans (hb.mono HB.out.size)⟩

/-- the hidden sets below k that answer so -/
def ansTo (p q k : Nat) : List Nat := (List.range k).filter fun h => h &&& p == q
theorem ansTo_hit {p q k : Nat} (h : (k &&& p == q) = true) : ansTo p q (k + 1) = ansTo p q k ++ [k] := by
  unfold ansTo; rw [List.range_succ, List.filter_append]; simp only [List.filter_cons, List.filter_nil]; rw [if_pos h]
theorem ansTo_miss {p q k : Nat} (h : (k &&& p == q) = false) : ansTo p q (k + 1) = ansTo p q k := by
  unfold ansTo; rw [List.range_succ, List.filter_append]; simp only [List.filter_cons, List.filter_nil]; rw [if_neg (by rw [h]; decide), List.append_nil]
/-- all count or none does -/
def toldB (n : Nat) (xs : List Int) (p q : Nat) : Bool := ((ansTo p q (2 ^ n)).any fun h => countB xs (h : Int)) == ((ansTo p q (2 ^ n)).all fun h => countB xs (h : Int))

set_option maxRecDepth 100000 in
set_option maxHeartbeats 2000000 in
theorem isTold (n : Nat) (ku : Value) (xs : List Int) (p q : Nat) (hp : p < 64) (hq : q < 64) (w : World) (hk : ReadI w ku xs) (hc : Cx n xs) :
    Calls Try.prog 87 #[cx n ku, .int .i64 p, .int .i64 q] w fun e w' => e = .returned (.bool (toldB n xs p q)) ∧ Below w.heap.size w w' := by
  obtain ⟨w1, hw1⟩ : ∃ w1, w1 = w.alloc (.cells #[.int .i64 n, ku] 28) := ⟨_, rfl⟩
  have hB : Below w.heap.size w w1 := by rw [hw1]; exact Below.alloc (Below.refl _ _) (Nat.le_refl _) _
  have c0 : w1.cell? ⟨w.heap.size, 0, none⟩ = some (.int .i64 n) := by rw [hw1]; simp
  have c1 : w1.cell? ⟨w.heap.size, 1, none⟩ = some ku := by rw [hw1]; simp
  have HK := Aside0.mk (hk.below hB)
  have HB := Aside0.mk hB
  have HC := Aside0.mk hc
  obtain ⟨A1, d1, rfl, -⟩ := id hk
  have hn := hc.hi
  clear hk hB hc
  have hb64 : 1 ≤ 2 ^ n ∧ 2 ^ n ≤ 64 := by
    rcases (by omega : n = 0 ∨ n = 1 ∨ n = 2 ∨ n = 3 ∨ n = 4 ∨ n = 5 ∨ n = 6) with rfl | rfl | rfl | rfl | rfl | rfl | rfl <;> decide
  have HT : Aside0 (toldB n xs p q = (((ansTo p q (2 ^ n)).any fun h => countB xs (h : Int)) == ((ansTo p q (2 ^ n)).all fun h => countB xs (h : Int)))) := ⟨rfl⟩
  obtain ⟨N, hN⟩ : ∃ N : Nat, N = 2 ^ n := ⟨_, rfl⟩
  have HFU : Aside0 (∀ W : World, Calls Try.prog 59 #[cx n (.slice A1 xs.length d1)] W fun e w' => e = .returned (.int .i64 ((N : Int) - 1)) ∧ Below W.heap.size W w') := ⟨fun W => by rw [hN]; exact full n hn _ W⟩
  rw [← hN] at hb64 HT
  clear hN
  go_enter Try.func87, Try.ntmps87
  go_wp2_with (first | (go_at_call 59; rw [← hw1]; clear hw1; refine (HFU.out _).mono ?_; rintro e w2 ⟨rfl, hb⟩; have HB2 := Aside0.mk hb; have c0 := pw_cell_below hb c0; have c1 := pw_cell_below hb c1; clear hb))
  go_loopw [7, 8, 14] (fun s7 s8 s14 wr => ∃ i : Nat, s14 = .int .i64 i ∧ i ≤ N ∧ s7 = .bool ((ansTo p q i).any fun h => countB xs (h : Int)) ∧ s8 = .bool ((ansTo p q i).all fun h => countB xs (h : Int)) ∧ Aside0 (Below w2.heap.size w2 wr)) (fun _ _ s14 _ => N - (intOf s14).toNat)
  case atStart => exact ⟨0, rfl, Nat.zero_le _, rfl, rfl, ⟨Below.refl _ _⟩⟩
  case round =>
    obtain ⟨i, rfl, hi, rfl, rfl, HBi⟩ := hrel
    have HBw := Aside0.mk (HB2.out.trans (HBi.out.mono HB2.out.size))
    have c0 := pw_cell_below HBi.out c0
    have c1 := pw_cell_below HBi.out c1
    by_cases hlt : i < N
    · have h1 := and_i64 i p (by omega) (by omega)
      obtain ⟨u1, hu1⟩ : ∃ u, u = i &&& p := ⟨_, rfl⟩
      rw [← hu1] at h1
      have HH := Aside0.mk (fun h : (u1 == q) = true => ansTo_hit (p := p) (q := q) (k := i) (by rw [← hu1]; exact h))
      have HM := Aside0.mk (fun h : (u1 == q) = false => ansTo_miss (p := p) (q := q) (k := i) (by rw [← hu1]; exact h))
      clear hu1
      by_cases e1 : u1 = q
      · have b1 : ((u1 : Int) == (q : Int)) = true := by simp [e1]
        have HE := Aside0.mk (HH.out (by simp [e1]))
        have HA1 : Aside0 ((ansTo p q (i + 1)).any (fun h => countB xs (h : Int)) = ((ansTo p q i).any (fun h => countB xs (h : Int)) || countB xs (i : Int))) := ⟨by rw [HE.out, List.any_append]; simp⟩
        have HA2 : Aside0 ((ansTo p q (i + 1)).all (fun h => countB xs (h : Int)) = ((ansTo p q i).all (fun h => countB xs (h : Int)) && countB xs (i : Int))) := ⟨by rw [HE.out, List.all_append]; simp⟩
        clear e1
        generalize ((ansTo p q i).any fun h => countB xs (h : Int)) = A at HA1 ⊢
        generalize ((ansTo p q i).all fun h => countB xs (h : Int)) = B at HA2 ⊢
        cases hcc : countB xs (i : Int) <;> cases A <;> cases B
        all_goals
          go_wp2_with (first | (go_at_call 105; refine (doesCount n _ xs _ _ (HK.out.below HBw.out) HC.out).mono ?_; rintro e w5 ⟨rfl, hb⟩; rw [hcc]))
          go_roundw
          case rel => exact ⟨i + 1, by go_num, by omega, by rw [HA1.out, hcc]; rfl, by rw [HA2.out, hcc]; rfl, ⟨HBi.out.trans (hb.mono HBi.out.size)⟩⟩
          case measure => simp [intOf]; omega
      · have b1 : ((u1 : Int) == (q : Int)) = false := by rw [beq_eq_false_iff_ne]; omega
        have HE := Aside0.mk (HM.out (by simp [e1]))
        clear e1
        go_wp2
        go_roundw
        case rel => exact ⟨i + 1, by go_num, by omega, by rw [HE.out], by rw [HE.out], HBi⟩
        case measure => simp [intOf]; omega
    · have e : i = N := by omega
      rw [← e] at HT
      clear e
      go_wp2
      go_ret
      exact ⟨by rw [HT.out]; rfl, HB.out.trans (HBw.out.mono HB.out.size)⟩
end Go.Proofs.Ytpcjbdkdpcgdiaa.H
