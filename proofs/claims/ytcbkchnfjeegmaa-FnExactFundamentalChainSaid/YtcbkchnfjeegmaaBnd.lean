/- BoundaryOf of the program and of the reference. -/
import Derived.Test.YtcbkchnfjeegmaaChT
import Derived.Test.YtcbkchnfjeegmaaOne
namespace Go.Proofs.Ytcbkchnfjeegmaa.H
open Go.RowKit Go.Proofs.YtcbkchnfjeegmaaW.PrintWords Go.Proofs.YtcbkchnfjeegmaaW.PrintLast Go.Proofs.YtcbkchnfjeegmaaW.PrintMore
set_option linter.unusedVariables false
set_option linter.unusedSimpArgs false

/-- what BoundaryOf answers -/
def ansBoundaryOf (a : Int) (xs l : List Int) : List Int × Int := if codeChn a xs l = 0 then (bndL l, 0) else ([], codeChn a xs l)
theorem below_pos : ∀ f, f < 64 → ∀ x ∈ below f, 1 ≤ x := by decide +kernel
theorem bnd_zero {l : List Int} (h : ∀ x ∈ l, 0 ≤ x ∧ x ≤ 63) : (bndB l).testBit 0 = false := by
  have key : ∀ (l : List Int) (m : Nat), (∀ x ∈ l, 0 ≤ x ∧ x ≤ 63) → m.testBit 0 = false → (l.foldl (fun m x => m ^^^ bitsI (below x.toNat)) m).testBit 0 = false := by
    intro l
    induction l with
    | nil => intro m _ hm; exact hm
    | cons a r ih =>
      intro m h hm
      have ha := h a List.mem_cons_self
      rw [List.foldl_cons]
      refine ih _ (fun x hx => h x (List.mem_cons_of_mem _ hx)) ?_
      have hb := below_bd a.toNat (by omega)
      rw [Nat.testBit_xor, hm, bits_test (below_asc _ (by omega)) (fun x hx => (hb x hx).1)]
      have : ¬ ((0 : Nat) : Int) ∈ below a.toNat := fun h0 => by have := below_pos a.toNat (by omega) _ h0; omega
      rw [decide_eq_false this]; rfl
  exact key l 0 h (by simp)
theorem lenBoundaryOf (a : Int) (xs l : List Int) : (ansBoundaryOf a xs l).1.length ≤ 1073741824 := by
  unfold ansBoundaryOf
  split
  · next h =>
    obtain ⟨n, -, hn, hch⟩ := codeChn_zero h
    obtain ⟨-, hbd⟩ := chain_dom hn hch
    rw [bnd_law (fun x hx => by have := hbd x hx; omega)]
    exact Nat.le_trans (listI_len _) (by decide)
  · simp

set_option maxRecDepth 100000 in
set_option maxHeartbeats 2000000 in
theorem implBoundaryOf (a : Int) (ku : Value) (xs : List Int) (v : Value) (l : List Int) (w : World) (hk : ReadI w ku xs) (hv : ReadI w v l) :
    Calls Try.prog 17 #[cx a ku, v] w fun e w' => ∃ u, e = .returned (.tuple #[u, .int .i64 (ansBoundaryOf a xs l).2]) ∧ OwnI w.heap.size w' u (ansBoundaryOf a xs l).1 ∧ Below w.heap.size w w' := by
  obtain ⟨wb, hwb⟩ : ∃ wb, wb = w.alloc (.cells #[.int .i64 a, ku] 28) := ⟨_, rfl⟩
  obtain ⟨w1, hw1⟩ : ∃ w1, w1 = wb.alloc (.cells #[v] 22) := ⟨_, rfl⟩
  have hsb : wb.heap.size = w.heap.size + 1 := by rw [hwb]; simp
  have hBb : Below w.heap.size w wb := by rw [hwb]; exact Below.alloc (Below.refl _ _) (Nat.le_refl _) _
  have hB1 : Below wb.heap.size wb w1 := by rw [hw1]; exact Below.alloc (Below.refl _ _) (Nat.le_refl _) _
  have hB : Below w.heap.size w w1 := hBb.trans (hB1.mono hBb.size)
  have HB := Aside0.mk hB
  have HK := Aside0.mk (hk.below hB)
  have HV := Aside0.mk (hv.below hB)
  have HS := Aside0.mk (ReadS.one' (hv.below hBb))
  rw [← hw1, hsb] at HS
  obtain ⟨A1, d1, rfl, -⟩ := id hk
  obtain ⟨A2, d2, rfl, -⟩ := id hv
  clear hk hv hB hBb hB1 hsb
  subst hwb
  obtain ⟨q, hq⟩ : ∃ q, q = codeChn a xs l := ⟨_, rfl⟩
  have HQ := Aside0.mk hq
  by_cases h0 : q = 0
  · have h0' := hq.symm.trans h0
    obtain ⟨n, rfl, hcn, hch⟩ := codeChn_zero h0'
    obtain ⟨hasc, hbd⟩ := chain_dom hcn hch
    have hbd0 : ∀ x ∈ l, 0 ≤ x ∧ x ≤ 63 := fun x hx => by have := hbd x hx; omega
    have HA : Aside0 (ansBoundaryOf n xs l = (listI (bndB l), 0)) := ⟨by unfold ansBoundaryOf; rw [if_pos h0', bnd_law hbd0]⟩
    have HD := Aside0.mk hbd0
    have HLB := Aside0.mk (list_bits hasc hbd0)
    have HBD := Aside0.mk hbd
    have HZ := Aside0.mk (bnd_zero hbd0)
    subst h0
    clear hcn hch hasc hbd hbd0 h0' hq
    go_enter Try.func17, Try.ntmps17
    go_wp2_with (first | (go_at_call 52; rw [← hw1]; clear hw1; refine (chainCode n _ xs _ l _ HK.out HS.out).mono ?_; rintro e w2 ⟨rfl, hb⟩; rw [← HQ.out]; have HB2 := Aside0.mk hb; clear hb) | (go_at_call 53; refine (chainOf _ l _ (HV.out.below HB2.out) HD.out).mono ?_; rintro e w3 ⟨rfl, hb⟩; have HB3 := Aside0.mk (HB2.out.trans (hb.mono HB2.out.size)); clear hb) | (go_at_call 54; refine (boundary (bitsI l) l HLB.out (bitsI_lt HD.out) HBD.out _).mono ?_; rintro e w4 ⟨rfl, hb⟩; have HB4 := Aside0.mk (HB3.out.trans (hb.mono HB3.out.size)); clear hb) | (go_at_call 55; refine (chainList (bndB l) (bndB_lt HD.out) HZ.out _).mono ?_; rintro e w5 ⟨u, rfl, ho, hb⟩; have HO := Aside0.mk ho; obtain ⟨A5, d5, rfl, -⟩ := ho.read; have HB5 := Aside0.mk (HB4.out.trans (hb.mono HB4.out.size)); clear ho hb))
    go_ret2
    have h1 := HB.out.size
    have h2 := HB4.out.size
    exact ⟨_, by rw [HA.out]; rfl, by rw [HA.out]; exact HO.out.lower (by omega), HB.out.trans (HB5.out.mono HB.out.size)⟩
  · have HA : Aside0 (ansBoundaryOf a xs l = ([], q)) := ⟨by unfold ansBoundaryOf; rw [← hq, if_neg h0]⟩
    have hqb : (q != 0) = true := by simpa using h0
    clear h0 hq
    go_enter Try.func17, Try.ntmps17
    go_wp2_with (first | (go_at_call 52; rw [← hw1]; clear hw1; refine (chainCode a _ xs _ l _ HK.out HS.out).mono ?_; rintro e w2 ⟨rfl, hb⟩; rw [← HQ.out]; have HB2 := Aside0.mk hb; clear hb))
    go_ret2
    exact ⟨_, by rw [HA.out]; rfl, by rw [HA.out]; exact OwnI.nil _ _, HB.out.trans (HB2.out.mono HB.out.size)⟩

set_option maxRecDepth 100000 in
set_option maxHeartbeats 1000000 in
theorem specBoundaryOf (a : Int) (ku : Value) (xs : List Int) (v : Value) (l : List Int) (w : World) (hk : ReadI w ku xs) (hv : ReadI w v l) :
    Calls Try.prog 14 #[cx a ku, v] w fun e w' => ∃ u, e = .returned (.tuple #[u, .int .i64 (ansBoundaryOf a xs l).2]) ∧ OwnI w.heap.size w' u (ansBoundaryOf a xs l).1 ∧ Below w.heap.size w w' := by
  obtain ⟨w1, hw1⟩ : ∃ w1, w1 = w.alloc (.cells #[.int .i64 a, ku] 28) := ⟨_, rfl⟩
  have hB : Below w.heap.size w w1 := by rw [hw1]; exact Below.alloc (Below.refl _ _) (Nat.le_refl _) _
  have HB := Aside0.mk hB
  have HK := Aside0.mk (hk.below hB)
  have HV := Aside0.mk (hv.below hB)
  obtain ⟨A1, d1, rfl, -⟩ := id hk
  obtain ⟨A2, d2, rfl, -⟩ := id hv
  clear hk hv hB
  obtain ⟨q, hq⟩ : ∃ q, q = codeChn a xs l := ⟨_, rfl⟩
  have HQ := Aside0.mk hq
  by_cases h0 : q = 0
  · have h0' := hq.symm.trans h0
    obtain ⟨n, rfl, hcn, hch⟩ := codeChn_zero h0'
    obtain ⟨hasc, hbd⟩ := chain_dom hcn hch
    have HA : Aside0 (ansBoundaryOf n xs l = (bndL l, 0)) := ⟨by unfold ansBoundaryOf; rw [if_pos h0']⟩
    have HBD := Aside0.mk hbd
    subst h0
    clear hcn hch hasc hbd h0' hq
    go_enter Try.func14, Try.ntmps14
    go_wp2_with (first | (go_at_call 50; rw [← hw1]; clear hw1; refine (specChain n _ xs _ l _ HK.out HV.out).mono ?_; rintro e w2 ⟨rfl, hb⟩; rw [← HQ.out]; have HB2 := Aside0.mk hb; clear hb) | (go_at_call 51; refine (specBoundary _ l _ (HV.out.below HB2.out) HBD.out).mono ?_; rintro e w3 ⟨u, rfl, ho, hb⟩; have HO := Aside0.mk ho; obtain ⟨A3, d3, rfl, -⟩ := ho.read; have HB3 := Aside0.mk (HB2.out.trans (hb.mono HB2.out.size)); clear ho hb))
    go_ret2
    have h1 := HB.out.size
    have h2 := HB2.out.size
    exact ⟨_, by rw [HA.out]; rfl, by rw [HA.out]; exact HO.out.lower (by omega), HB.out.trans (HB3.out.mono HB.out.size)⟩
  · have HA : Aside0 (ansBoundaryOf a xs l = ([], q)) := ⟨by unfold ansBoundaryOf; rw [← hq, if_neg h0]⟩
    have hqb : (q != 0) = true := by simpa using h0
    clear h0 hq
    go_enter Try.func14, Try.ntmps14
    go_wp2_with (first | (go_at_call 50; rw [← hw1]; clear hw1; refine (specChain a _ xs _ l _ HK.out HV.out).mono ?_; rintro e w2 ⟨rfl, hb⟩; rw [← HQ.out]; have HB2 := Aside0.mk hb; clear hb))
    go_ret2
    exact ⟨_, by rw [HA.out]; rfl, by rw [HA.out]; exact OwnI.nil _ _, HB.out.trans (HB2.out.mono HB.out.size)⟩
end Go.Proofs.Ytcbkchnfjeegmaa.H
