/- slices.Clone; dimensions; the faces of a dimension. -/
import Derived.Test.YtcbkchnfjeegmaaDel
import Derived.Test.YtcbkchnfjeegmaaChI
import Derived.Test.YtcbkchnfjeegmaaLawC
import Derived.WalkSpells
namespace Go.Proofs.Ytcbkchnfjeegmaa.H
open Go.RowKit Go.Proofs.YtcbkchnfjeegmaaW.PrintWords Go.Proofs.YtcbkchnfjeegmaaW.PrintLast Go.Proofs.YtcbkchnfjeegmaaW.PrintMore
set_option linter.unusedVariables false
set_option linter.unusedSimpArgs false

set_option maxRecDepth 100000 in
set_option maxHeartbeats 1000000 in
theorem cloneI (v : Value) (xs : List Int) (w : World) (hv : ReadI w v xs) (hl : xs.length ≤ 1000000) :
    Calls Try.prog 111 #[v] w fun e w' => ∃ u, e = .returned u ∧ OwnI w.heap.size w' u xs ∧ Below w.heap.size w w' := by
  obtain ⟨A, c, rfl, hc, hr⟩ := id hv
  cases A with
  | none =>
    have hx : xs = [] := by
      cases xs with
      | nil => rfl
      | cons a r =>
        obtain ⟨ad, e, -⟩ := hr.2.2 (by simp)
        cases e
    subst hx
    have hnil : ∀ W : World, (binOp .eql 22 (.slice none 0 c) (.slice none 0 0)).run Try.prog W = .ok (.bool true) W := fun W => Lib.run_eql_slice_nil W 22 2 none 0 c 0 0 Try.underlying22
    clear hr hv
    go_enter Try.func111, Try.ntmps111
    go_wp2
    go_ret
    exact ⟨_, rfl, OwnI.nil _ _, Below.refl _ _⟩
  | some ad =>
    have hnil : ∀ W : World, (binOp .eql 22 (.slice (some ad) xs.length c) (.slice none 0 0)).run Try.prog W = .ok (.bool false) W := fun W => Lib.run_eql_slice_nil W 22 2 (some ad) xs.length c 0 0 Try.underlying22
    obtain ⟨w1, hw1⟩ : ∃ w1, w1 = w.alloc (.cells #[] 2) := ⟨_, rfl⟩
    have hB : Below w.heap.size w w1 := by rw [hw1]; exact Below.alloc (Below.refl _ _) (Nat.le_refl _) _
    have hs1 : w.heap.size ≤ w1.heap.size := hB.size
    have HO := Aside0.mk (show OwnI w.heap.size w1 (.slice (some ⟨w.heap.size, 0, none⟩) 0 0) [] by rw [hw1]; exact OwnI.empty w (Nat.le_refl _))
    have HB := Aside0.mk hB
    have HR := Aside0.mk (Kd.C_below hr hB)
    clear hr hv hB
    go_enter Try.func111, Try.ntmps111
    go_wp2_with (first | ((with_reducible refine gate_builtin (b := .append) (xs := #[.tmp 5, .tmp 6]) rfl ?_); rw [← hw1]; clear hw1; refine Kd.R_append_row (Value.int .i64) (0 : Int) (w0 := w) w.heap.size rfl (.tmp 5) (.tmp 6) 22 2 (.int .i64 0) 8 rfl Try.underlying22 info64 rfl (by decide) _ [] xs (some ad) xs.length c (fun _ => True) rfl rfl (fun _ _ => trivial) HO.out HR.out HB.out hs1 (by simp; omega) ?_; intro v1 w2 ho hb hg hat; have HO2 := Aside0.mk ho; have HB2 := Aside0.mk hb; clear ho hb hg hat))
    go_ret
    exact ⟨_, rfl, HO2.out, HB2.out⟩

theorem max_if (a b : Int) : (if a < b then b else a) = max a b := by split <;> omega
theorem dimension1 (x : Nat) (h2 : x < 64) (w : World) : Calls Try.prog 113 #[.int .i64 x] w fun e w' => e = .returned (.int .i64 ((ones x : Nat) - 1 : Int)) ∧ Below w.heap.size w w' := by
  have hox := ones_le x h2
  go_enter Try.func113, Try.ntmps113
  go_wp2_with (first | (go_at_call 163; refine (size x h2 _).mono ?_; rintro e w2 ⟨rfl, hb⟩))
  go_ret
  exact ⟨rfl, hb⟩

/-- of another dimension -/
def notDim (d f : Int) : Bool := (((ones f.toNat : Nat) : Int) - 1) != d
def facesOf (xs : List Int) (d : Int) : List Int := xs.filter fun f => !notDim d f

set_option maxRecDepth 100000 in
set_option maxHeartbeats 1000000 in
theorem of1 (w : World) (bd : Nat) (d : Int) (h0 : w.cell? ⟨bd, 0, none⟩ = some (.int .i64 d)) :
    PredI w (.func (.func 112) #[] #[.pointer (some ⟨bd, 0, none⟩)]) (notDim d) (fun f => 1 ≤ f ∧ f ≤ 63) := by
  refine ⟨_, _, _, rfl, Enters.mk' Try.func112 rfl rfl, fun w1 x hb hx => ?_⟩
  obtain ⟨f, rfl⟩ : ∃ f : Nat, x = f := ⟨x.toNat, by omega⟩
  have hf : f < 64 := by omega
  have c0 := pw_cell_below hb h0
  have HN : Aside0 (notDim d f = (((ones f : Nat) : Int) - 1 != d)) := ⟨rfl⟩
  clear hb h0 hx
  have hD : Below w1.heap.size w1 w1.drew := (Below.refl _ _).drew
  have c0' := pw_cell_below hD c0
  show Calls _ _ #[_, _] _ _
  go_enter Try.func112, Try.ntmps112
  go_wp2
  have hmx : Try.prog.follows .mixedOrders = true := by kernel_rfl
  go_region_with (first | (go_at_call 113; refine (dimension1 f hf _).mono ?_; rintro e w3 ⟨rfl, hb⟩; have c0'' := pw_cell_below hb c0'; have HB3 := Aside0.mk (hD.trans (hb.mono hD.size)); clear hb))
  all_goals go_wp2
  all_goals go_ret
  all_goals exact ⟨by rw [HN.out]; rfl, HB3.out⟩

set_option maxRecDepth 100000 in
set_option maxHeartbeats 1000000 in
theorem ofK (n : Nat) (ku : Value) (xs : List Int) (d : Int) (w : World) (hk : ReadI w ku xs) (hc : Cx n xs) :
    Calls Try.prog 61 #[cx n ku, .int .i64 d] w fun e w' => ∃ u, e = .returned u ∧ OwnI w.heap.size w' u (facesOf xs d) ∧ Below w.heap.size w w' := by
  obtain ⟨wb, hwb⟩ : ∃ wb, wb = w.alloc (.cells #[.int .i64 n, ku] 28) := ⟨_, rfl⟩
  obtain ⟨w1, hw1⟩ : ∃ w1, w1 = wb.alloc (.cells #[.int .i64 d] 2) := ⟨_, rfl⟩
  have hsb : wb.heap.size = w.heap.size + 1 := by rw [hwb]; simp
  have hBb : Below w.heap.size w wb := by rw [hwb]; exact Below.alloc (Below.refl _ _) (Nat.le_refl _) _
  have hB1 : Below wb.heap.size wb w1 := by rw [hw1]; exact Below.alloc (Below.refl _ _) (Nat.le_refl _) _
  have hB : Below w.heap.size w w1 := hBb.trans (hB1.mono hBb.size)
  have c0 : w1.cell? ⟨w.heap.size, 0, none⟩ = some (.int .i64 n) := pw_cell_below hB1 (by rw [hwb]; simp)
  have c1 : w1.cell? ⟨w.heap.size, 1, none⟩ = some ku := pw_cell_below hB1 (by rw [hwb]; simp)
  have cd : w1.cell? ⟨w.heap.size + 1, 0, none⟩ = some (.int .i64 d) := by rw [hw1, ← hsb]; exact new_cell _ _ _ 0 _ rfl
  have HB := Aside0.mk hB
  have hlen := hc.len
  have HCL := Aside0.mk (cloneI ku xs w1 (hk.below hB) (by omega))
  have HP := Aside0.mk (of1 w1 (w.heap.size + 1) d cd)
  have HD : Aside0 (∀ x ∈ xs, 1 ≤ x ∧ x ≤ 63) := ⟨fun x hx => by obtain ⟨f, h1, h2, h3⟩ := hc.nat hx; omega⟩
  obtain ⟨A1, d1, rfl, -⟩ := id hk
  subst hwb
  clear hk hc hsb hBb hB1 hB
  go_enter Try.func61, Try.ntmps61
  go_wp2_with (first | (go_at_call 111; rw [← hw1]; clear hw1; refine HCL.out.mono ?_; rintro e w2 ⟨u, rfl, ho, hb⟩; have HO := Aside0.mk ho; have HB2 := Aside0.mk hb; obtain ⟨A2, d2, rfl, -⟩ := ho.read; clear ho hb) | (go_at_call 110; refine (deleteFunc w1 _ _ xs _ (notDim d) _ HB2.out HO.out HP.out HD.out (by omega)).mono ?_; rintro e w3 ⟨u, rfl, ho, hb⟩; have HO3 := Aside0.mk ho; have HB3 := Aside0.mk hb; obtain ⟨A3, d3, rfl, -⟩ := ho.read; clear ho hb))
  go_ret
  exact ⟨_, rfl, OwnI.lower HO3.out HB.out.size, HB.out.trans (HB3.out.mono HB.out.size)⟩

/-- the greatest dimension of the first faces -/
def dimTo (xs : List Int) (i : Nat) : Int := (xs.take i).foldl (fun m f => max m (((ones f.toNat : Nat) : Int) - 1)) (-1)
def dimOf (xs : List Int) : Int := dimTo xs xs.length
theorem dimTo_succ {xs : List Int} {i : Nat} {y : Int} (hi : i < xs.length) (hy : xs.getD i 0 = y) : dimTo xs (i + 1) = max (dimTo xs i) (((ones y.toNat : Nat) : Int) - 1) := by
  unfold dimTo; rw [take_get hi hy, List.foldl_append]; rfl
theorem dimTo_bd {xs : List Int} (h : ∀ x ∈ xs, 1 ≤ x ∧ x ≤ 63) : ∀ i, i ≤ xs.length → -1 ≤ dimTo xs i ∧ dimTo xs i ≤ 5
  | 0, _ => by unfold dimTo; simp
  | i + 1, hi => by
    have ih := dimTo_bd h i (by omega)
    rw [dimTo_succ (by omega) rfl]
    have := h _ (mem_at (i := i) (by omega) rfl)
    have := ones_le (xs.getD i 0).toNat (by omega)
    omega

set_option maxRecDepth 100000 in
set_option maxHeartbeats 1000000 in
theorem dimensionK (n : Nat) (ku : Value) (xs : List Int) (w : World) (hk : ReadI w ku xs) (hc : Cx n xs) :
    Calls Try.prog 62 #[cx n ku] w fun e w' => e = .returned (.int .i64 (dimOf xs)) ∧ Below w.heap.size w w' := by
  obtain ⟨w1, hw1⟩ : ∃ w1, w1 = w.alloc (.cells #[.int .i64 n, ku] 28) := ⟨_, rfl⟩
  have hB : Below w.heap.size w w1 := by rw [hw1]; exact Below.alloc (Below.refl _ _) (Nat.le_refl _) _
  have c0 : w1.cell? ⟨w.heap.size, 0, none⟩ = some (.int .i64 n) := by rw [hw1]; simp
  have c1 : w1.cell? ⟨w.heap.size, 1, none⟩ = some ku := by rw [hw1]; simp
  have HB := Aside0.mk hB
  have hlen := hc.len
  have HD : Aside0 (∀ x ∈ xs, 1 ≤ x ∧ x ≤ 63) := ⟨fun x hx => by obtain ⟨f, h1, h2, h3⟩ := hc.nat hx; omega⟩
  obtain ⟨A1, d1, rfl, hd1, hr⟩ := hk.below hB
  have HR := Aside0.mk hr
  clear hk hc hB hr
  go_enter Try.func62, Try.ntmps62
  go_wp2
  rw [← hw1]
  clear hw1
  go_loopw [3, 9] (fun s3 s9 wr => ∃ iv : Nat, s9 = .int .i64 iv ∧ iv ≤ xs.length ∧ s3 = .int .i64 (dimTo xs iv) ∧ Aside0 (Below w1.heap.size w1 wr)) (fun _ s9 _ => xs.length - (intOf s9).toNat)
  case atStart => exact ⟨0, rfl, Nat.zero_le _, rfl, ⟨Below.refl _ _⟩⟩
  case round =>
    obtain ⟨iv, rfl, hi, rfl, HBr⟩ := hrel
    have hbd := dimTo_bd HD.out iv hi
    by_cases hlt : iv < xs.length
    · obtain ⟨ad, y, rfl, hcell, HY⟩ := ReadI.get (Kd.C_below HR.out HBr.out) hlt
      have hyb := HD.out y (mem_at hlt HY.out)
      have HS := Aside0.mk (dimTo_succ hlt HY.out)
      obtain ⟨f, rfl⟩ : ∃ f : Nat, y = f := ⟨y.toNat, by omega⟩
      have hf : f < 64 := by omega
      clear hyb
      have hof := ones_le f hf
      have HS2 : Aside0 (dimTo xs (iv + 1) = max (dimTo xs iv) (((ones f : Nat) : Int) - 1)) := ⟨HS.out⟩
      clear HS
      have HDM := Aside0.mk (fun W => dimension1 f hf W)
      obtain ⟨o, ho⟩ : ∃ o : Int, o = ((ones f : Nat) : Int) - 1 := ⟨_, rfl⟩
      have hob : -1 ≤ o ∧ o ≤ 5 := by omega
      rw [← ho] at HDM HS2
      clear ho hof
      obtain ⟨D0, hD0⟩ : ∃ D0, D0 = dimTo xs iv := ⟨_, rfl⟩
      rw [← hD0] at hbd HS2 ⊢
      clear hD0
      have hmx := max_if D0 o
      go_wp2_with (first | (go_at_call 113; refine (HDM.out _).mono ?_; rintro e w3 ⟨rfl, hb⟩; have HB3 := Aside0.mk (HBr.out.trans (hb.mono HBr.out.size)); clear hb))
      go_roundw
      case rel => exact ⟨iv + 1, by go_num, by omega, by rw [HS2.out], HB3⟩
      case measure => simp [intOf]; omega
    · have e : iv = xs.length := by omega
      have HE := Aside0.mk e
      clear e
      go_wp2
      go_ret
      exact ⟨by rw [HE.out]; rfl, HB.out.trans (HBr.out.mono HB.out.size)⟩
end Go.Proofs.Ytcbkchnfjeegmaa.H
