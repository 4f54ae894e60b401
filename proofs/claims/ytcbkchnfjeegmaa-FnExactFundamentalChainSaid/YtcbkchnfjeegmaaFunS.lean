/- FundamentalChain: both answers. -/
import Derived.Test.YtcbkchnfjeegmaaFund
namespace Go.Proofs.Ytcbkchnfjeegmaa.H
open Go.RowKit Go.Proofs.YtcbkchnfjeegmaaW.PrintWords Go.Proofs.YtcbkchnfjeegmaaW.PrintLast Go.Proofs.YtcbkchnfjeegmaaW.PrintMore
set_option linter.unusedVariables false
set_option linter.unusedSimpArgs false

/-- the faces of the greatest dimension -/
def topOf (xs : List Int) : List Int := facesOf xs (dimOf xs)
/-- what FundamentalChain answers -/
def ansFundamentalChain (a : Int) (xs : List Int) : List Int × Int := if cxOk a xs then (if topOf xs = [] ∨ bndB (topOf xs) ≠ 0 then ([], 5) else (topOf xs, 0)) else ([], 1)
theorem facesOf_mem {xs : List Int} {d x : Int} (h : x ∈ facesOf xs d) : x ∈ xs := (List.mem_filter.1 h).1
theorem facesOf_asc {xs : List Int} (d : Int) (h : xs.Pairwise (· < ·)) : (facesOf xs d).Pairwise (· < ·) := h.filter _
theorem facesOf_len (xs : List Int) (d : Int) : (facesOf xs d).length ≤ xs.length := List.length_filter_le _ _
theorem lenFundamentalChain (a : Int) (xs : List Int) : (ansFundamentalChain a xs).1.length ≤ 1073741824 := by
  unfold ansFundamentalChain
  split
  · next h =>
    obtain ⟨n, -, hc, -⟩ := cxOk_cx h
    split
    · simp
    · have := facesOf_len xs (dimOf xs)
      have := hc.len
      show (facesOf xs (dimOf xs)).length ≤ _
      omega
  · simp
theorem dimOf_bd {xs : List Int} (h : ∀ x ∈ xs, 1 ≤ x ∧ x ≤ 63) : -1 ≤ dimOf xs ∧ dimOf xs ≤ 5 := dimTo_bd h _ (Nat.le_refl _)

set_option maxRecDepth 100000 in
set_option maxHeartbeats 4000000 in
theorem implFundamentalChain (a : Int) (ku : Value) (xs : List Int) (w : World) (hk : ReadI w ku xs) :
    Calls Try.prog 24 #[cx a ku] w fun e w' => ∃ u, e = .returned (.tuple #[u, .int .i64 (ansFundamentalChain a xs).2]) ∧ OwnI w.heap.size w' u (ansFundamentalChain a xs).1 ∧ Below w.heap.size w w' := by
  obtain ⟨w1, hw1⟩ : ∃ w1, w1 = w.alloc (.cells #[.int .i64 a, ku] 28) := ⟨_, rfl⟩
  have hB : Below w.heap.size w w1 := by rw [hw1]; exact Below.alloc (Below.refl _ _) (Nat.le_refl _) _
  have c0 : w1.cell? ⟨w.heap.size, 0, none⟩ = some (.int .i64 a) := by rw [hw1]; simp
  have c1 : w1.cell? ⟨w.heap.size, 1, none⟩ = some ku := by rw [hw1]; simp
  have HB := Aside0.mk hB
  have HK := Aside0.mk (hk.below hB)
  have HM := Aside0.mk (complexCode2 a ku xs _ true w1 HK.out (fun _ => alwaysB w1) ⟨_, _, _, rfl⟩)
  obtain ⟨A1, d1, rfl, -⟩ := id hk
  clear hk hB
  cases hx : cxOk a xs with
  | false =>
    have HA : Aside0 (ansFundamentalChain a xs = ([], 1)) := ⟨by unfold ansFundamentalChain; rw [hx]; rfl⟩
    rw [hx] at HM
    clear hx
    go_enter Try.func24, Try.ntmps24
    go_wp2_with (first | (go_at_call 59; rw [← hw1]; clear hw1; refine HM.out.mono ?_; rintro e w2 ⟨rfl, hb⟩; have HB2 := Aside0.mk hb; clear hb))
    go_ret2
    exact ⟨_, by rw [HA.out]; rfl, by rw [HA.out]; exact OwnI.nil _ _, HB.out.trans (HB2.out.mono HB.out.size)⟩
  | true =>
    obtain ⟨n, rfl, hc, -⟩ := cxOk_cx hx
    have HC := Aside0.mk hc
    have hbd : ∀ x ∈ xs, 1 ≤ x ∧ x ≤ 63 := fun x hx => by obtain ⟨f, h1, h2, h3⟩ := hc.nat hx; omega
    have HTB : Aside0 (∀ x ∈ topOf xs, 1 ≤ x ∧ x ≤ 63) := ⟨fun x hx => hbd x (facesOf_mem hx)⟩
    have HTD : Aside0 (∀ x ∈ topOf xs, 0 ≤ x ∧ x ≤ 63) := ⟨fun x hx => by have := HTB.out x hx; omega⟩
    have HLB := Aside0.mk (list_bits (l := topOf xs) (facesOf_asc _ hc.asc) HTD.out)
    have HA : Aside0 (ansFundamentalChain (n : Int) xs = if topOf xs = [] ∨ bndB (topOf xs) ≠ 0 then ([], 5) else (topOf xs, 0)) := ⟨by unfold ansFundamentalChain; rw [hx]; rfl⟩
    have hln : (topOf xs).length ≤ 63 := Nat.le_trans (facesOf_len _ _) hc.len
    rw [hx] at HM
    obtain ⟨d, hd⟩ : ∃ d, d = dimOf xs := ⟨_, rfl⟩
    have HD1 := Aside0.mk (fun (W : World) (hk : ReadI W (.slice A1 xs.length d1) xs) => dimensionK n (.slice A1 xs.length d1) xs W hk hc)
    have HD2 := Aside0.mk (fun (W : World) (hk : ReadI W (.slice A1 xs.length d1) xs) => ofK n (.slice A1 xs.length d1) xs d W hk hc)
    have hto : topOf xs = facesOf xs d := by rw [hd]; rfl
    rw [← hd] at HD1
    rw [← hto] at HD2
    clear hx hc hbd hd hto
    obtain ⟨T, hT⟩ : ∃ T, T = topOf xs := ⟨_, rfl⟩
    rw [← hT] at HTB HTD HLB HA hln HD2
    clear hT
    have hmx : Try.prog.follows .mixedOrders = true := by kernel_rfl
    go_enter Try.func24, Try.ntmps24
    go_wp2_with (first | (go_at_call 59; rw [← hw1]; clear hw1; refine HM.out.mono ?_; rintro e w2 ⟨rfl, hb⟩; have HB2 := Aside0.mk hb; replace c0 := pw_cell_below hb c0; replace c1 := pw_cell_below hb c1; clear hb))
    have hdw : Below w2.heap.size w2 w2.drew := (Below.refl _ _).drew
    have HB3 := Aside0.mk (HB2.out.trans (hdw.mono HB2.out.size))
    replace c0 := pw_cell_below hdw c0
    replace c1 := pw_cell_below hdw c1
    clear hdw
    go_region_with (first | (go_at_call 62; refine (HD1.out _ (HK.out.below HB3.out)).mono ?_; rintro e w4 ⟨rfl, hb⟩; have HB4 := Aside0.mk (HB3.out.trans (hb.mono HB3.out.size)); replace c0 := pw_cell_below hb c0; replace c1 := pw_cell_below hb c1; clear hb) | (go_at_call 61; refine (HD2.out _ (HK.out.below HB4.out)).mono ?_; rintro e w5 ⟨u, rfl, ho, hb⟩; have HO := Aside0.mk ho; have HB5 := Aside0.mk (HB4.out.trans (hb.mono HB4.out.size)); have HZ := Aside0.mk HB4.out.size; obtain ⟨A2, d2, rfl, -⟩ := ho.read; clear ho hb))
    all_goals
      cases hT0 : T with
      | nil =>
        subst hT0
        have HA2 := Aside0.mk (HA.out.trans (if_pos (.inl rfl)))
        go_wp2
        go_ret2
        exact ⟨_, by rw [HA2.out]; rfl, by rw [HA2.out]; exact OwnI.nil _ _, HB.out.trans (HB5.out.mono HB.out.size)⟩
      | cons t0 tr =>
        have hT1 : T ≠ [] := by rw [hT0]; simp
        have hlz : ((T.length : Int) == 0) = false := by rw [hT0, beq_eq_false_iff_ne, List.length_cons]; omega
        have HT1 := Aside0.mk hT1
        rw [← hT0]
        clear hT0 hT1
        by_cases hz : bndB T = 0
        · have HA2 := Aside0.mk (HA.out.trans (if_neg (fun h => h.elim HT1.out (fun h => h hz))))
          have hzb : (((bndB T : Nat) : Int) != 0) = false := by rw [hz]; rfl
          have HBN := Aside0.mk (fun W => boundary (bitsI T) T HLB.out (bitsI_lt HTD.out) HTB.out W)
          rw [hz] at HBN
          clear hz hzb
          go_wp2_with (first | (go_at_call 53; refine (chainOf _ T _ HO.out.read HTD.out).mono ?_; rintro e w6 ⟨rfl, hb⟩; have HB6 := Aside0.mk (HB5.out.trans (hb.mono HB5.out.size)); have HO6 := Aside0.mk (HO.out.below hb); clear hb) | (go_at_call 54; refine (HBN.out _).mono ?_; rintro e w7 ⟨rfl, hb⟩; have HB7 := Aside0.mk (HB6.out.trans (hb.mono HB6.out.size)); have HO7 := Aside0.mk (HO6.out.below hb); clear hb))
          go_ret2
          exact ⟨_, by rw [HA2.out]; rfl, by rw [HA2.out]; exact OwnI.lower HO7.out (by have := HB.out.size; have := HZ.out; omega), HB.out.trans (HB7.out.mono HB.out.size)⟩
        · have HA2 := Aside0.mk (HA.out.trans (if_pos (.inr hz)))
          have hzb : (((bndB T : Nat) : Int) != 0) = true := by rw [bne_iff_ne]; omega
          have HBN := Aside0.mk (fun W => boundary (bitsI T) T HLB.out (bitsI_lt HTD.out) HTB.out W)
          obtain ⟨z, hz'⟩ : ∃ z, z = bndB T := ⟨_, rfl⟩
          rw [← hz'] at HBN hzb
          clear hz hz'
          go_wp2_with (first | (go_at_call 53; refine (chainOf _ T _ HO.out.read HTD.out).mono ?_; rintro e w6 ⟨rfl, hb⟩; have HB6 := Aside0.mk (HB5.out.trans (hb.mono HB5.out.size)); have HO6 := Aside0.mk (HO.out.below hb); clear hb) | (go_at_call 54; refine (HBN.out _).mono ?_; rintro e w7 ⟨rfl, hb⟩; have HB7 := Aside0.mk (HB6.out.trans (hb.mono HB6.out.size)); have HO7 := Aside0.mk (HO6.out.below hb); clear hb))
          go_ret2
          exact ⟨_, by rw [HA2.out]; rfl, by rw [HA2.out]; exact OwnI.nil _ _, HB.out.trans (HB7.out.mono HB.out.size)⟩
set_option maxRecDepth 100000 in
set_option maxHeartbeats 4000000 in
theorem specFundamentalChain (a : Int) (ku : Value) (xs : List Int) (w : World) (hk : ReadI w ku xs) :
    Calls Try.prog 23 #[cx a ku] w fun e w' => ∃ u, e = .returned (.tuple #[u, .int .i64 (ansFundamentalChain a xs).2]) ∧ OwnI w.heap.size w' u (ansFundamentalChain a xs).1 ∧ Below w.heap.size w w' := by
  obtain ⟨w1, hw1⟩ : ∃ w1, w1 = w.alloc (.cells #[.int .i64 a, ku] 28) := ⟨_, rfl⟩
  have hB : Below w.heap.size w w1 := by rw [hw1]; exact Below.alloc (Below.refl _ _) (Nat.le_refl _) _
  have c0 : w1.cell? ⟨w.heap.size, 0, none⟩ = some (.int .i64 a) := by rw [hw1]; simp
  have c1 : w1.cell? ⟨w.heap.size, 1, none⟩ = some ku := by rw [hw1]; simp
  have HB := Aside0.mk hB
  have HK := Aside0.mk (hk.below hB)
  have HM := Aside0.mk (specIs a ku xs w1 HK.out)
  obtain ⟨A1, d1, rfl, -⟩ := id hk
  clear hk hB
  cases hx : cxOk a xs with
  | false =>
    have HA : Aside0 (ansFundamentalChain a xs = ([], 1)) := ⟨by unfold ansFundamentalChain; rw [hx]; rfl⟩
    rw [hx] at HM
    clear hx
    go_enter Try.func23, Try.ntmps23
    go_wp2_with (first | (go_at_call 56; rw [← hw1]; clear hw1; refine HM.out.mono ?_; rintro e w2 ⟨rfl, hb⟩; have HB2 := Aside0.mk hb; clear hb))
    go_ret2
    exact ⟨_, by rw [HA.out]; rfl, by rw [HA.out]; exact OwnI.nil _ _, HB.out.trans (HB2.out.mono HB.out.size)⟩
  | true =>
    obtain ⟨n, rfl, hc, -⟩ := cxOk_cx hx
    have HC := Aside0.mk hc
    have hbd : ∀ x ∈ xs, 1 ≤ x ∧ x ≤ 63 := fun x hx => by obtain ⟨f, h1, h2, h3⟩ := hc.nat hx; omega
    have HTB : Aside0 (∀ x ∈ topOf xs, 1 ≤ x ∧ x ≤ 63) := ⟨fun x hx => hbd x (facesOf_mem hx)⟩
    have HTD : Aside0 (∀ x ∈ topOf xs, 0 ≤ x ∧ x ≤ 63) := ⟨fun x hx => by have := HTB.out x hx; omega⟩
    have HLB := Aside0.mk (list_bits (l := topOf xs) (facesOf_asc _ hc.asc) HTD.out)
    have HA : Aside0 (ansFundamentalChain (n : Int) xs = if topOf xs = [] ∨ bndB (topOf xs) ≠ 0 then ([], 5) else (topOf xs, 0)) := ⟨by unfold ansFundamentalChain; rw [hx]; rfl⟩
    have hln : (topOf xs).length ≤ 63 := Nat.le_trans (facesOf_len _ _) hc.len
    rw [hx] at HM
    obtain ⟨d, hd⟩ : ∃ d, d = dimOf xs := ⟨_, rfl⟩
    have hdb : -1 ≤ d ∧ d ≤ 5 := by rw [hd]; exact dimOf_bd hbd
    have HD1 := Aside0.mk (fun (W : World) (hk : ReadI W (.slice A1 xs.length d1) xs) => specDim n (.slice A1 xs.length d1) xs W hk hc)
    have HD2 := Aside0.mk (fun (W : World) (hk : ReadI W (.slice A1 xs.length d1) xs) => specOf n (.slice A1 xs.length d1) xs d W hk hc hdb.1 (by omega))
    have hto : topOf xs = facesOf xs d := by rw [hd]; rfl
    rw [← hd] at HD1
    rw [← hto] at HD2
    clear hx hc hbd hd hto
    obtain ⟨T, hT⟩ : ∃ T, T = topOf xs := ⟨_, rfl⟩
    rw [← hT] at HTB HTD HLB HA hln HD2
    clear hT
    have hmx : Try.prog.follows .mixedOrders = true := by kernel_rfl
    go_enter Try.func23, Try.ntmps23
    go_wp2_with (first | (go_at_call 56; rw [← hw1]; clear hw1; refine HM.out.mono ?_; rintro e w2 ⟨rfl, hb⟩; have HB2 := Aside0.mk hb; replace c0 := pw_cell_below hb c0; replace c1 := pw_cell_below hb c1; clear hb))
    have hdw : Below w2.heap.size w2 w2.drew := (Below.refl _ _).drew
    have HB3 := Aside0.mk (HB2.out.trans (hdw.mono HB2.out.size))
    replace c0 := pw_cell_below hdw c0
    replace c1 := pw_cell_below hdw c1
    clear hdw
    go_region_with (first | (go_at_call 58; refine (HD1.out _ (HK.out.below HB3.out)).mono ?_; rintro e w4 ⟨rfl, hb⟩; have HB4 := Aside0.mk (HB3.out.trans (hb.mono HB3.out.size)); replace c0 := pw_cell_below hb c0; replace c1 := pw_cell_below hb c1; clear hb) | (go_at_call 57; refine (HD2.out _ (HK.out.below HB4.out)).mono ?_; rintro e w5 ⟨u, rfl, ho, hb⟩; have HO := Aside0.mk ho; have HB5 := Aside0.mk (HB4.out.trans (hb.mono HB4.out.size)); have HZ := Aside0.mk HB4.out.size; obtain ⟨A2, d2, rfl, -⟩ := ho.read; clear ho hb))
    all_goals
      cases hT0 : T with
      | nil =>
        subst hT0
        have HA2 := Aside0.mk (HA.out.trans (if_pos (.inl rfl)))
        go_wp2
        go_ret2
        exact ⟨_, by rw [HA2.out]; rfl, by rw [HA2.out]; exact OwnI.nil _ _, HB.out.trans (HB5.out.mono HB.out.size)⟩
      | cons t0 tr =>
        have hT1 : T ≠ [] := by rw [hT0]; simp
        have hlz : ((T.length : Int) == 0) = false := by rw [hT0, beq_eq_false_iff_ne, List.length_cons]; omega
        have HT1 := Aside0.mk hT1
        rw [← hT0]
        clear hT0 hT1
        have hbl := bnd_law HTD.out
        have hnl := listI_nil (bnd_lt T HTD.out 0 (by decide))
        have HSB := Aside0.mk (fun (W : World) hr => specBoundary (.slice A2 T.length d2) T W hr HTB.out)
        by_cases hz : bndB T = 0
        · have HA2 := Aside0.mk (HA.out.trans (if_neg (fun h => h.elim HT1.out (fun h => h hz))))
          have hL : (bndL T).length = 0 := by rw [hbl]; exact hnl.2 hz
          have HL := Aside0.mk hL
          clear hz hbl hnl hL
          go_wp2_with (first | (go_at_call 51; refine (HSB.out _ HO.out.read).mono ?_; rintro e w6 ⟨u, rfl, ho, hb⟩; obtain ⟨A6, d6, rfl, -⟩ := ho.read; rw [HL.out]; have HB6 := Aside0.mk (HB5.out.trans (hb.mono HB5.out.size)); have HO6 := Aside0.mk (HO.out.below hb); clear hb ho))
          go_ret2
          exact ⟨_, by rw [HA2.out]; rfl, by rw [HA2.out]; exact OwnI.lower HO6.out (by have := HB.out.size; have := HZ.out; omega), HB.out.trans (HB6.out.mono HB.out.size)⟩
        · have HA2 := Aside0.mk (HA.out.trans (if_pos (.inr hz)))
          have hL : (bndL T).length ≠ 0 := by rw [hbl]; exact fun h => hz (hnl.1 h)
          obtain ⟨L, hLL⟩ : ∃ L, L = (bndL T).length := ⟨_, rfl⟩
          rw [← hLL] at hL
          have hL0 : 0 < L := by omega
          have HL := Aside0.mk hLL
          clear hz hbl hnl hL hLL
          go_wp2_with (first | (go_at_call 51; refine (HSB.out _ HO.out.read).mono ?_; rintro e w6 ⟨u, rfl, ho, hb⟩; obtain ⟨A6, d6, rfl, -⟩ := ho.read; rw [← HL.out]; have HB6 := Aside0.mk (HB5.out.trans (hb.mono HB5.out.size)); have HO6 := Aside0.mk (HO.out.below hb); clear hb ho))
          go_ret2
          exact ⟨_, by rw [HA2.out]; rfl, by rw [HA2.out]; exact OwnI.nil _ _, HB.out.trans (HB6.out.mono HB.out.size)⟩
end Go.Proofs.Ytcbkchnfjeegmaa.H
