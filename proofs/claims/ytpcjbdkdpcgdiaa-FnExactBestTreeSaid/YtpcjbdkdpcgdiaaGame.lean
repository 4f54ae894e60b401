/- Games of the reference: places, the table, what counts. -/
import Derived.Test.YtpcjbdkdpcgdiaaLawB
import Derived.Test.YtpcjbdkdpcgdiaaCxS
namespace Go.Proofs.Ytpcjbdkdpcgdiaa.H
open Go.RowKit Go.Proofs.YtpcjbdkdpcgdiaaW.PrintWords Go.Proofs.YtpcjbdkdpcgdiaaW.PrintLast Go.Proofs.YtpcjbdkdpcgdiaaW.PrintMore
set_option linter.unusedVariables false
set_option linter.unusedSimpArgs false

/-- hidden sets that count -/
def countB (xs : List Int) (h : Int) : Bool := (h == 0) || decide (h ∈ xs)

theorem specPlace (p q : Nat) (hp : p < 64) (hq : q < 64) (w : World) : Calls Try.prog 79 #[.int .i64 p, .int .i64 q] w fun e w' => e = .returned (.int .i64 ((p * 64 + q : Nat) : Int)) ∧ Below w.heap.size w w' := by
  go_enter Try.func79, Try.ntmps79
  go_wp2
  go_ret
  exact ⟨by simp, Below.refl _ _⟩

theorem specCounts (a : Int) (ku : Value) (xs : List Int) (h : Int) (w : World) (hk : ReadI w ku xs) :
    Calls Try.prog 99 #[cx a ku, .int .i64 h] w fun e w' => e = .returned (.bool (countB xs h)) ∧ Below w.heap.size w w' := by
  obtain ⟨w1, hw1⟩ : ∃ w1, w1 = w.alloc (.cells #[.int .i64 a, ku] 28) := ⟨_, rfl⟩
  have hB : Below w.heap.size w w1 := by rw [hw1]; exact Below.alloc (Below.refl _ _) (Nat.le_refl _) _
  have HK := Aside0.mk (hk.below hB)
  have HB := Aside0.mk hB
  obtain ⟨A1, d1, rfl, -⟩ := id hk
  clear hk hB
  have HX : Aside0 (countB xs h = ((h == 0) || decide (h ∈ xs))) := ⟨rfl⟩
  cases h0 : (h == 0) with
  | true =>
    go_enter Try.func99, Try.ntmps99
    go_wp2
    rw [← hw1]
    go_ret
    exact ⟨by rw [HX.out, h0]; rfl, HB.out⟩
  | false =>
    go_enter Try.func99, Try.ntmps99
    go_wp2_with (first | (go_at_call 65; rw [← hw1]; clear hw1; refine (specHas a _ xs h _ HK.out).mono ?_; rintro e w2 ⟨rfl, hb⟩))
    go_ret
    exact ⟨by rw [HX.out, h0]; rfl, HB.out.trans (hb.mono HB.out.size)⟩

/-- a table without known numbers -/
def noneT (n : Nat) : List Int := List.replicate n (-1)
theorem noneT_set {L : List Int} {i : Nat} (hi : i < L.length) : (noneT i ++ L.drop i).set i (-1) = noneT (i + 1) ++ L.drop (i + 1) := by
  unfold noneT
  rw [List.set_append_right _ _ (by simp), List.length_replicate, Nat.sub_self, List.drop_eq_getElem_cons hi, List.set_cons_zero, List.replicate_succ', List.append_assoc]
  rfl
theorem noneT_len (n : Nat) : (noneT n).length = n := by unfold noneT; simp

set_option maxRecDepth 100000 in
set_option maxHeartbeats 1000000 in
theorem specTable (w : World) : Calls Try.prog 45 #[] w fun e w' => ∃ u, e = .returned u ∧ OwnI w.heap.size w' u (noneT 4096) ∧ Below w.heap.size w w' := by
  obtain ⟨N, hN⟩ : ∃ N : Nat, N = 4096 := ⟨_, rfl⟩
  rw [← hN]
  go_enter Try.func45, Try.ntmps45
  go_wp2_with (first | (refine make_own (w0 := w) w.heap.size rfl (N := 3) rfl _ _ rfl N (by rw [hN]; rfl) (by rw [hN]; rfl) (by omega) (Below.refl _ _) (Nat.le_refl _) ?_; intro v1 w1 ho hb hg hat; obtain ⟨L, hL⟩ : ∃ L, L = List.replicate N (0 : Int) := ⟨_, rfl⟩; rw [← hL] at ho; have hLl : L.length = N := (by rw [hL, List.length_replicate]); clear hL; have HO := Aside0.mk ho; have HB := Aside0.mk hb; obtain ⟨A1, d1, rfl, -⟩ := ho.read; clear ho hb hg hat))
  go_loopw [2] (fun s wr => ∃ i : Nat, s = .int .i64 i ∧ i ≤ L.length ∧ Aside0 (OwnI w.heap.size wr (.slice A1 L.length d1) (noneT i ++ L.drop i)) ∧ Aside0 (Below w.heap.size w wr)) (fun s _ => L.length - (intOf s).toNat)
  case atStart => exact ⟨0, rfl, Nat.zero_le _, ⟨by simpa [noneT] using HO.out⟩, HB⟩
  case round =>
    obtain ⟨i, rfl, hi, HI, HBw⟩ := hrel
    by_cases hlt : i < L.length
    · obtain ⟨g, cap, e2, -⟩ := Kd.R_form HI.out (by simp [noneT_len]; omega)
      have el : (noneT i ++ L.drop i).length = L.length := by rw [List.length_append, noneT_len, List.length_drop]; omega
      rw [el] at e2
      cases e2
      have HM := Aside0.mk (noneT_set hlt)
      clear el
      go_wp2_with (first | ((with_reducible refine gate_store (t := 2) (p := 12) rfl ?_); refine store_own (w0 := w) rfl (p := 12) rfl rfl i (-1) HI.out ?ha ?hb ?hc ?_; (case ha => omega); (case hb => rfl); (case hc => rfl); intro w' ho hg hb; have HO2 := Aside0.mk ho; have HB3 := Aside0.mk (HBw.out.trans hb); clear ho hg hb))
      go_roundw
      case rel => exact ⟨i + 1, by go_num, by omega, ⟨by rw [← HM.out]; exact HO2.out⟩, HB3⟩
      case measure => simp [intOf]; omega
    · have e : i = L.length := by omega
      have HE := Aside0.mk (e.trans hLl)
      have hd : L.drop i = [] := List.drop_eq_nil_of_le (by omega)
      clear e
      go_wp2
      go_ret
      exact ⟨_, rfl, by have := HI.out; rw [hd, List.append_nil, HE.out, hLl] at this; subst hN; exact this, HBw.out⟩

/-- the hidden sets below k with these answers -/
def hidTo (p q k : Nat) : List Nat := (List.range k).filter fun h => (h &&& p == p) && (h &&& q == 0)
/-- told: 1 if all count, 0 if none, -1 for others -/
def toldV (n : Nat) (xs : List Int) (p q : Nat) : Int :=
  if (hidTo p q (2 ^ n)).all (fun h => countB xs (h : Int)) then 1 else if !(hidTo p q (2 ^ n)).any (fun h => countB xs (h : Int)) then 0 else -1
theorem hidTo_hit {p q k : Nat} (h : ((k &&& p == p) && (k &&& q == 0)) = true) : hidTo p q (k + 1) = hidTo p q k ++ [k] := by
  unfold hidTo; rw [List.range_succ, List.filter_append]; simp only [List.filter_cons, List.filter_nil]; rw [if_pos h]
theorem hidTo_miss {p q k : Nat} (h : ((k &&& p == p) && (k &&& q == 0)) = false) : hidTo p q (k + 1) = hidTo p q k := by
  unfold hidTo; rw [List.range_succ, List.filter_append]; simp only [List.filter_cons, List.filter_nil]; rw [if_neg (by rw [h]; decide), List.append_nil]

set_option maxRecDepth 100000 in
set_option maxHeartbeats 2000000 in
theorem specTold (n : Nat) (hn : n ≤ 6) (ku : Value) (xs : List Int) (p q : Nat) (hp : p < 64) (hq : q < 64) (w : World) (hk : ReadI w ku xs) :
    Calls Try.prog 80 #[cx n ku, .int .i64 p, .int .i64 q] w fun e w' => e = .returned (.int .i64 (toldV n xs p q)) ∧ Below w.heap.size w w' := by
  obtain ⟨w1, hw1⟩ : ∃ w1, w1 = w.alloc (.cells #[.int .i64 n, ku] 28) := ⟨_, rfl⟩
  have hB : Below w.heap.size w w1 := by rw [hw1]; exact Below.alloc (Below.refl _ _) (Nat.le_refl _) _
  have c0 : w1.cell? ⟨w.heap.size, 0, none⟩ = some (.int .i64 n) := by rw [hw1]; simp
  have c1 : w1.cell? ⟨w.heap.size, 1, none⟩ = some ku := by rw [hw1]; simp
  have HK := Aside0.mk (hk.below hB)
  have HB := Aside0.mk hB
  obtain ⟨A1, d1, rfl, -⟩ := id hk
  clear hk hB
  have hsh := pow_wrap n (by omega)
  have hb64 : 1 ≤ 2 ^ n ∧ 2 ^ n ≤ 64 := by
    rcases (by omega : n = 0 ∨ n = 1 ∨ n = 2 ∨ n = 3 ∨ n = 4 ∨ n = 5 ∨ n = 6) with rfl | rfl | rfl | rfl | rfl | rfl | rfl <;> decide
  have HT : Aside0 (toldV n xs p q = (if (hidTo p q (2 ^ n)).all (fun h => countB xs (h : Int)) then 1 else if !(hidTo p q (2 ^ n)).any (fun h => countB xs (h : Int)) then 0 else -1)) := ⟨rfl⟩
  obtain ⟨N, hN⟩ : ∃ N : Nat, N = 2 ^ n := ⟨_, rfl⟩
  rw [← hN] at hsh hb64 HT
  clear hN
  go_enter Try.func80, Try.ntmps80
  go_wp2
  rw [← hw1]
  clear hw1
  go_loopw [7, 8, 9] (fun s7 s8 s9 wr => ∃ i : Nat, s9 = .int .i64 i ∧ i ≤ N ∧ s7 = .bool ((hidTo p q i).any fun h => countB xs (h : Int)) ∧ s8 = .bool ((hidTo p q i).all fun h => countB xs (h : Int)) ∧ Aside0 (Below w1.heap.size w1 wr)) (fun _ _ s9 _ => N - (intOf s9).toNat)
  case atStart => exact ⟨0, rfl, Nat.zero_le _, rfl, rfl, ⟨Below.refl _ _⟩⟩
  case round =>
    obtain ⟨i, rfl, hi, rfl, rfl, HBw⟩ := hrel
    have c0 := pw_cell_below HBw.out c0
    have c1 := pw_cell_below HBw.out c1
    by_cases hlt : i < N
    · have h1 := and_i64 i p (by omega) (by omega)
      have h2 := and_i64 i q (by omega) (by omega)
      obtain ⟨u1, hu1⟩ : ∃ u, u = i &&& p := ⟨_, rfl⟩
      obtain ⟨u2, hu2⟩ : ∃ u, u = i &&& q := ⟨_, rfl⟩
      rw [← hu1] at h1
      rw [← hu2] at h2
      have HH := Aside0.mk (fun h : ((u1 == p) && (u2 == 0)) = true => hidTo_hit (p := p) (q := q) (k := i) (by rw [← hu1, ← hu2]; exact h))
      have HM := Aside0.mk (fun h : ((u1 == p) && (u2 == 0)) = false => hidTo_miss (p := p) (q := q) (k := i) (by rw [← hu1, ← hu2]; exact h))
      clear hu1 hu2
      by_cases e1 : u1 = p
      · have b1 : ((u1 : Int) != (p : Int)) = false := by simp [e1]
        by_cases e2 : u2 = 0
        · have b2 : ((u2 : Int) != 0) = false := by simp [e2]
          have HE := Aside0.mk (HH.out (by simp [e1, e2]))
          have HA1 : Aside0 ((hidTo p q (i + 1)).any (fun h => countB xs (h : Int)) = ((hidTo p q i).any (fun h => countB xs (h : Int)) || countB xs (i : Int))) := ⟨by rw [HE.out, List.any_append]; simp⟩
          have HA2 : Aside0 ((hidTo p q (i + 1)).all (fun h => countB xs (h : Int)) = ((hidTo p q i).all (fun h => countB xs (h : Int)) && countB xs (i : Int))) := ⟨by rw [HE.out, List.all_append]; simp⟩
          clear e1 e2
          cases hc : countB xs (i : Int) with
          | true =>
            go_wp2_with (first | (go_at_call 99; refine (specCounts n _ xs _ _ (HK.out.below HBw.out)).mono ?_; rintro e w5 ⟨rfl, hb⟩; rw [hc]))
            go_roundw
            case rel => exact ⟨i + 1, by go_num, by omega, by rw [HA1.out, hc, Bool.or_true], by rw [HA2.out, hc, Bool.and_true], ⟨HBw.out.trans (hb.mono HBw.out.size)⟩⟩
            case measure => simp [intOf]; omega
          | false =>
            go_wp2_with (first | (go_at_call 99; refine (specCounts n _ xs _ _ (HK.out.below HBw.out)).mono ?_; rintro e w5 ⟨rfl, hb⟩; rw [hc]))
            go_roundw
            case rel => exact ⟨i + 1, by go_num, by omega, by rw [HA1.out, hc, Bool.or_false], by rw [HA2.out, hc, Bool.and_false], ⟨HBw.out.trans (hb.mono HBw.out.size)⟩⟩
            case measure => simp [intOf]; omega
        · have b2 : ((u2 : Int) != 0) = true := by simp; omega
          have HE := Aside0.mk (HM.out (by simp [e2]))
          clear e1 e2
          go_wp2
          go_roundw
          case rel => exact ⟨i + 1, by go_num, by omega, by rw [HE.out], by rw [HE.out], HBw⟩
          case measure => simp [intOf]; omega
      · have b1 : ((u1 : Int) != (p : Int)) = true := by simp; omega
        have HE := Aside0.mk (HM.out (by simp [e1]))
        clear e1
        go_wp2
        go_roundw
        case rel => exact ⟨i + 1, by go_num, by omega, by rw [HE.out], by rw [HE.out], HBw⟩
        case measure => simp [intOf]; omega
    · have e : i = N := by omega
      rw [← e] at HT
      clear e
      cases ha : (hidTo p q i).all (fun h => countB xs (h : Int)) with
      | true =>
        rw [ha, if_pos rfl] at HT
        go_wp2
        go_ret
        exact ⟨by rw [HT.out]; rfl, HB.out.trans (HBw.out.mono HB.out.size)⟩
      | false =>
        rw [ha, if_neg (by decide)] at HT
        cases hs : (hidTo p q i).any (fun h => countB xs (h : Int)) with
        | true =>
          rw [hs, if_neg (by decide)] at HT
          go_wp2
          go_ret
          exact ⟨by rw [HT.out]; rfl, HB.out.trans (HBw.out.mono HB.out.size)⟩
        | false =>
          rw [hs, if_pos (by decide)] at HT
          go_wp2
          go_ret
          exact ⟨by rw [HT.out]; rfl, HB.out.trans (HBw.out.mono HB.out.size)⟩
end Go.Proofs.Ytpcjbdkdpcgdiaa.H
