/- FundamentalChain of the program and of the reference. -/
import Derived.Test.YtcbkchnfjeegmaaOf
import Derived.Test.YtcbkchnfjeegmaaBnd
namespace Go.Proofs.Ytcbkchnfjeegmaa.H
open Go.RowKit Go.Proofs.YtcbkchnfjeegmaaW.PrintWords Go.Proofs.YtcbkchnfjeegmaaW.PrintLast Go.Proofs.YtcbkchnfjeegmaaW.PrintMore
set_option linter.unusedVariables false
set_option linter.unusedSimpArgs false

set_option maxRecDepth 100000 in
set_option maxHeartbeats 2000000 in
theorem specDim (n : Nat) (ku : Value) (xs : List Int) (w : World) (hk : ReadI w ku xs) (hc : Cx n xs) :
    Calls Try.prog 58 #[cx n ku] w fun e w' => e = .returned (.int .i64 (dimOf xs)) ∧ Below w.heap.size w w' := by
  obtain ⟨w1, hw1⟩ : ∃ w1, w1 = w.alloc (.cells #[.int .i64 n, ku] 28) := ⟨_, rfl⟩
  have hB : Below w.heap.size w w1 := by rw [hw1]; exact Below.alloc (Below.refl _ _) (Nat.le_refl _) _
  have c0 : w1.cell? ⟨w.heap.size, 0, none⟩ = some (.int .i64 n) := by rw [hw1]; simp
  have c1 : w1.cell? ⟨w.heap.size, 1, none⟩ = some ku := by rw [hw1]; simp
  have HB := Aside0.mk hB
  have hlen := hc.len
  have HD : Aside0 (∀ x ∈ xs, 1 ≤ x ∧ x ≤ 63) := ⟨fun x hx => by obtain ⟨f, h1, h2, h3⟩ := hc.nat hx; omega⟩
  obtain ⟨A1, d1, rfl, hd1, hr⟩ := hk.below hB
  have HR := Aside0.mk hr
  clear hk hc hB hr
  go_enter Try.func58, Try.ntmps58
  go_wp2
  rw [← hw1]
  clear hw1
  go_loopw [3, 4] (fun s3 s4 wr => ∃ iv : Nat, s4 = .int .i64 iv ∧ iv ≤ xs.length ∧ s3 = .int .i64 (dimTo xs iv) ∧ Aside0 (Below w1.heap.size w1 wr)) (fun _ s4 _ => xs.length - (intOf s4).toNat)
  case atStart => exact ⟨0, rfl, Nat.zero_le _, rfl, ⟨Below.refl _ _⟩⟩
  case round =>
    obtain ⟨iv, rfl, hi, rfl, HBr⟩ := hrel
    have hbd := dimTo_bd HD.out iv hi
    have c1 := pw_cell_below HBr.out c1
    by_cases hlt : iv < xs.length
    · obtain ⟨ad, y, rfl, hcell, HY⟩ := ReadI.get (Kd.C_below HR.out HBr.out) hlt
      have hyb := HD.out y (mem_at hlt HY.out)
      have HS := Aside0.mk (dimTo_succ hlt HY.out)
      obtain ⟨f, rfl⟩ : ∃ f : Nat, y = f := ⟨y.toNat, by omega⟩
      have hf : f < 64 := by omega
      clear hyb
      have hof := ones_le f hf
      have HS2 : Aside0 (dimTo xs (iv + 1) = max (dimTo xs iv) (((ones f : Nat) : Int) - 1)) := ⟨HS.out⟩
      clear HS
      have HDM := Aside0.mk (fun W => specOnes f hf W)
      obtain ⟨o, ho⟩ : ∃ o : Nat, o = ones f := ⟨_, rfl⟩
      have hob : o ≤ 6 := by omega
      rw [← ho] at HDM HS2
      clear ho hof
      obtain ⟨D0, hD0⟩ : ∃ D0, D0 = dimTo xs iv := ⟨_, rfl⟩
      rw [← hD0] at hbd HS2 ⊢
      clear hD0
      have hmx := max_if D0 ((o : Int) - 1)
      go_wp2_with (first | (go_at_call 101; refine (HDM.out _).mono ?_; rintro e w3 ⟨rfl, hb⟩; have HB3 := Aside0.mk (HBr.out.trans (hb.mono HBr.out.size)); clear hb))
      go_roundw
      case rel => exact ⟨iv + 1, by go_num, by omega, by rw [HS2.out], HB3⟩
      case measure => simp [intOf]; omega
    · have e : iv = xs.length := by omega
      have HE := Aside0.mk e
      clear e
      go_wp2
      go_ret
      exact ⟨by rw [HE.out]; rfl, HB.out.trans (HBr.out.mono HB.out.size)⟩

theorem dim_yes {o : Nat} {d : Int} (h : (o : Int) = d + 1) : ((o : Int) == d + 1) = true ∧ ((o : Int) - 1 != d) = false := by
  refine ⟨by rw [beq_iff_eq]; exact h, ?_⟩
  have : (o : Int) - 1 = d := by omega
  rw [this]; simp
theorem dim_no {o : Nat} {d : Int} (h : ¬ (o : Int) = d + 1) : ((o : Int) == d + 1) = false ∧ ((o : Int) - 1 != d) = true := by
  refine ⟨by rw [beq_eq_false_iff_ne]; exact h, ?_⟩
  rw [bne_iff_ne]; omega

set_option maxRecDepth 100000 in
set_option maxHeartbeats 2000000 in
theorem specOf (n : Nat) (ku : Value) (xs : List Int) (d : Int) (w : World) (hk : ReadI w ku xs) (hc : Cx n xs) (hd1 : -1 ≤ d) (hd2 : d ≤ 100) :
    Calls Try.prog 57 #[cx n ku, .int .i64 d] w fun e w' => ∃ u, e = .returned u ∧ OwnI w.heap.size w' u (facesOf xs d) ∧ Below w.heap.size w w' := by
  obtain ⟨wb, hwb⟩ : ∃ wb, wb = w.alloc (.cells #[.int .i64 n, ku] 28) := ⟨_, rfl⟩
  obtain ⟨w1, hw1⟩ : ∃ w1, w1 = wb.alloc (.cells #[] 2) := ⟨_, rfl⟩
  have hsb : wb.heap.size = w.heap.size + 1 := by rw [hwb]; simp
  have hBb : Below w.heap.size w wb := by rw [hwb]; exact Below.alloc (Below.refl _ _) (Nat.le_refl _) _
  have hB1 : Below wb.heap.size wb w1 := by rw [hw1]; exact Below.alloc (Below.refl _ _) (Nat.le_refl _) _
  have hB : Below w.heap.size w w1 := hBb.trans (hB1.mono hBb.size)
  have c1 : w1.cell? ⟨w.heap.size, 1, none⟩ = some ku := pw_cell_below hB1 (by rw [hwb]; simp)
  have HB := Aside0.mk hB
  have HW : Aside0 (Below wb.heap.size wb w1) := ⟨hB1⟩
  have HO := Aside0.mk (show OwnI (w.heap.size + 1) w1 (.slice (some ⟨w.heap.size + 1, 0, none⟩) 0 0) [] by rw [hw1, ← hsb]; exact OwnI.empty wb (Nat.le_refl _))
  have hz1 : w.heap.size + 1 ≤ w1.heap.size := by rw [← hsb]; exact hB1.size
  have hlen := hc.len
  have HD : Aside0 (∀ x ∈ xs, 1 ≤ x ∧ x ≤ 63) := ⟨fun x hx => by obtain ⟨f, h1, h2, h3⟩ := hc.nat hx; omega⟩
  obtain ⟨A1, d1, rfl, hdd, hr⟩ := id hk
  have HR0 := Aside0.mk hr
  subst hwb
  clear hk hc hB hr hsb hBb hB1
  go_enter Try.func57, Try.ntmps57
  go_wp2
  rw [← hw1]
  clear hw1
  go_loopw [5, 6] (fun s5 s6 wr => ∃ iv : Nat, s6 = .int .i64 iv ∧ iv ≤ xs.length ∧ Aside0 (OwnI (w.heap.size + 1) wr s5 (keptTo (notDim d) xs iv)) ∧ Aside0 (Below (w.heap.size + 1) w1 wr)) (fun _ s6 _ => xs.length - (intOf s6).toNat)
  case atStart => exact ⟨0, rfl, Nat.zero_le _, HO, ⟨Below.refl _ _⟩⟩
  case round =>
    obtain ⟨iv, rfl, hi, HOr, HBr⟩ := hrel
    have c1 : wr.cell? ⟨w.heap.size, 1, none⟩ = some (.slice A1 xs.length d1) := by rw [HBr.out.cell (p := ⟨w.heap.size, 1, none⟩) (by simp)]; exact c1
    have HBw := Aside0.mk (HB.out.trans (HBr.out.mono (Nat.le_succ _)))
    by_cases hlt : iv < xs.length
    · obtain ⟨ad, y, rfl, hcell, HY⟩ := ReadI.get (Kd.C_below HR0.out HBw.out) hlt
      have hyb := HD.out y (mem_at hlt HY.out)
      have HH := Aside0.mk (fun h => kept_hit (p := notDim d) hlt HY.out h)
      have HM := Aside0.mk (fun h => kept_miss (p := notDim d) hlt HY.out h)
      obtain ⟨f, rfl⟩ : ∃ f : Nat, y = f := ⟨y.toNat, by omega⟩
      have hf : f < 64 := by omega
      clear hyb
      have hof := ones_le f hf
      have HDM := Aside0.mk (fun W => specOnes f hf W)
      have HN : Aside0 (notDim d (f : Int) = (((ones f : Nat) : Int) - 1 != d)) := ⟨rfl⟩
      obtain ⟨o, ho⟩ : ∃ o : Nat, o = ones f := ⟨_, rfl⟩
      rw [← ho] at HDM HN
      clear ho
      by_cases hod : (o : Int) = d + 1
      · obtain ⟨hb1, hb2⟩ := dim_yes hod
        have HK := Aside0.mk (HH.out (by rw [HN.out, hb2]))
        clear hb2 hod
        go_wp2_with (first | (go_at_call 101; refine (HDM.out _).mono ?_; rintro e w3 ⟨rfl, hb⟩; have HB3 := Aside0.mk (HBr.out.trans (hb.mono (by have := HBr.out.size; omega))); have HO3 := Aside0.mk (HOr.out.below hb); replace c1 := pw_cell_below hb c1; replace hcell := pw_cell_below hb hcell; clear hb) | (at_builtin; refine app_own (w0 := w1) (w.heap.size + 1) rfl (.tmp 24) (.tmp 30) rfl _ (keptTo (notDim d) xs iv) (f : Int) rfl rfl HO3.out HB3.out (by have := HB3.out.size; omega) (by have := kept_len (notDim d) xs iv; omega) ?_; intro v1 w4 ho hb hg hat; have HO4 := Aside0.mk ho; have HB4 := Aside0.mk hb; clear ho hb hg hat))
        go_roundw
        case rel => exact ⟨iv + 1, by go_num, by omega, by rw [HK.out]; exact HO4, HB4⟩
        case measure => simp [intOf]; omega
      · obtain ⟨hb1, hb2⟩ := dim_no hod
        have HK := Aside0.mk (HM.out (by rw [HN.out, hb2]))
        clear hb2 hod
        go_wp2_with (first | (go_at_call 101; refine (HDM.out _).mono ?_; rintro e w3 ⟨rfl, hb⟩; have HB3 := Aside0.mk (HBr.out.trans (hb.mono (by have := HBr.out.size; omega))); have HO3 := Aside0.mk (HOr.out.below hb); clear hb))
        go_roundw
        case rel => exact ⟨iv + 1, by go_num, by omega, by rw [HK.out]; exact HO3, HB3⟩
        case measure => simp [intOf]; omega
    · have e : iv = xs.length := by omega
      have HE := Aside0.mk e
      clear e
      go_wp2
      go_ret
      refine ⟨_, rfl, ?_, HBw.out⟩
      have := HOr.out
      rw [HE.out, kept_all] at this
      exact this.lower (Nat.le_succ _)
end Go.Proofs.Ytcbkchnfjeegmaa.H
