/- Simplicial maps. -/
import Derived.Test.YtllmbbaffhpheaaMapC
import Derived.Test.YtllmbbaffhpheaaImg
namespace Go.Proofs.Ytllmbbaffhpheaa.H
open Go.RowKit Go.Proofs.YtllmbbaffhpheaaW.PrintWords Go.Proofs.YtllmbbaffhpheaaW.PrintLast Go.Proofs.YtllmbbaffhpheaaW.PrintMore
set_option linter.unusedVariables false
set_option linter.unusedSimpArgs false

/-- the image of a face is one -/
def simpAt (ys p : List Int) (f : Int) : Bool := decide (((img f.toNat p : Nat) : Int) ∈ ys)
def simpOk (xs ys p : List Int) : Bool := xs.all (simpAt ys p)
/-- what is known of a map -/
structure Mp (n m : Nat) (p : List Int) : Prop where
  len : p.length = n
  bd : ∀ x ∈ p, 0 ≤ x ∧ x ≤ (m : Int) - 1
theorem mapOk_mp {n m : Nat} {p : List Int} (h : mapOk n m p = true) : Mp n m p := by
  unfold mapOk at h
  rw [Bool.and_eq_true, decide_eq_true_eq, List.all_eq_true] at h
  refine ⟨h.1, fun x hx => ?_⟩
  have := h.2 x hx
  unfold inMap at this
  simpa using this
theorem Mp.bd5 {n m : Nat} {p : List Int} (h : Mp n m p) (hm : m ≤ 6) : ∀ x ∈ p, 0 ≤ x ∧ x ≤ 5 := fun x hx => by have := h.bd x hx; omega
theorem Cx.lt {n : Nat} {l : List Int} (h : Cx n l) {x : Int} (hx : x ∈ l) : ∃ f : Nat, x = f ∧ 1 ≤ f ∧ f < 2 ^ n := by
  have := h.bd x hx
  exact ⟨x.toNat, by omega, by omega, by omega⟩

set_option maxHeartbeats 2000000 in
theorem isSimplicial1 (w : World) (bl bp : Nat) (n m : Nat) (lu v : Value) (ys p : List Int) (hn : n ≤ 6) (hl : ReadI w lu ys) (hv : ReadI w v p) (hc : Cx m ys) (hp : Mp n m p) (h0 : w.cell? ⟨bl, 0, none⟩ = some (.int .i64 m)) (h1 : w.cell? ⟨bl, 1, none⟩ = some lu) (h2 : w.cell? ⟨bp, 0, none⟩ = some v) :
    PredI w (.func (.func 114) #[] #[.pointer (some ⟨bl, 0, none⟩), .pointer (some ⟨bp, 0, none⟩)]) (simpAt ys p) (fun f => 0 ≤ f ∧ f < ((2 ^ n : Nat) : Int)) := by
  refine ⟨_, _, _, rfl, Enters.mk' Try.func114 rfl rfl, fun w1 x hb hx => ?_⟩
  obtain ⟨f, rfl⟩ : ∃ f : Nat, x = f := ⟨x.toNat, by omega⟩
  have hf : f < 2 ^ p.length := by rw [hp.len]; omega
  have c0 := pw_cell_below hb h0
  have c1 := pw_cell_below hb h1
  have c2 := pw_cell_below hb h2
  have HL := Aside0.mk (hl.below hb)
  have HV := Aside0.mk (hv.below hb)
  obtain ⟨A1, d1, rfl, -⟩ := id hl
  obtain ⟨A2, d2, rfl, -⟩ := id hv
  have hlen : p.length ≤ 6 := by rw [hp.len]; exact hn
  have HI : Aside0 (∀ x : Ext w1, Calls Try.prog 60 #[.int .i64 f, .slice A2 p.length d2] x.1 fun e w' => e = .returned (.int .i64 (img f p : Nat)) ∧ Below x.1.heap.size x.1 w') := ⟨fun x => imageOf f _ p x.1 (HV.out.below x.2) hlen hf (hp.bd5 hc.hi)⟩
  have HH : Aside0 (∀ x : Ext w1, Calls Try.prog 59 #[cx m (.slice A1 ys.length d1), .int .i64 (img f p : Nat)] x.1 fun e w' => e = .returned (.bool (simpAt ys p f)) ∧ Below x.1.heap.size x.1 w') := ⟨fun x => has m _ ys _ x.1 (HL.out.below x.2) hc.asc (by have := hc.len; omega)⟩
  have x0 : ∀ x : Ext w1, x.1.cell? ⟨bl, 0, none⟩ = some (.int .i64 m) := fun x => Ext.cell c0 x
  have x1 : ∀ x : Ext w1, x.1.cell? ⟨bl, 1, none⟩ = some (.slice A1 ys.length d1) := fun x => Ext.cell c1 x
  have x2 : ∀ x : Ext w1, x.1.cell? ⟨bp, 0, none⟩ = some (.slice A2 p.length d2) := fun x => Ext.cell c2 x
  clear hb h0 h1 h2 hx hl hv hc hp c0 c1 c2 hf hlen HL HV
  generalize simpAt ys p f = r at *
  generalize img f p = g at *
  show Calls _ _ #[_, _, _] _ _
  go_enter Try.func114, Try.ntmps114
  go_wp2
  refine wp_region_ext (by kernel_rfl) (by kernel_rfl) ?_
  repeat (go_big_quiet_step ((first | (go_at_call 60; exact Calls.ext_of (HI.out _)) | (go_at_call 59; exact Calls.ext_of (HH.out _)))))
  refine wpQuiet_nil ?_
  rintro _ ⟨x, rfl⟩
  have hbx := x.2
  go_wp2
  go_ret
  exact ⟨rfl, by (repeat (first | (with_reducible exact Below.refl _ _) | (with_reducible assumption) | (with_reducible refine below_step ?_ (by assumption)) | (with_reducible apply below_alloc) | (with_reducible apply below_drewN)))⟩

set_option maxHeartbeats 1000000 in
theorem isSimplicial (n m : Nat) (ku lu v : Value) (xs ys p : List Int) (w : World) (hk : ReadI w ku xs) (hl : ReadI w lu ys) (hv : ReadI w v p) (hck : Cx n xs) (hcl : Cx m ys) (hp : Mp n m p) :
    Calls Try.prog 63 #[cx n ku, cx m lu, v] w fun e w' => e = .returned (.bool (simpOk xs ys p)) ∧ Below w.heap.size w w' := by
  obtain ⟨w0, hw0⟩ : ∃ w0, w0 = (w.alloc (.cells #[.int .i64 n, ku] 28)).alloc (.cells #[.int .i64 m, lu] 28) := ⟨_, rfl⟩
  obtain ⟨w1, hw1⟩ : ∃ w1, w1 = w0.alloc (.cells #[v] 22) := ⟨_, rfl⟩
  have hs0 : w0.heap.size = w.heap.size + 1 + 1 := by rw [hw0]; simp
  have hB0 : Below w.heap.size w w0 := by rw [hw0]; exact ((Below.refl _ w).alloc (Nat.le_refl _) _).alloc (by simp) _
  have hB01 : Below w0.heap.size w0 w1 := by rw [hw1]; exact Below.alloc (Below.refl _ _) (Nat.le_refl _) _
  have hB : Below w.heap.size w w1 := hB0.trans (hB01.mono hB0.size)
  have c1 : w1.cell? ⟨w.heap.size, 1, none⟩ = some ku := pw_cell_below hB01 (by rw [hw0]; simp)
  have c2 : w1.cell? ⟨w.heap.size + 1, 0, none⟩ = some (.int .i64 m) := pw_cell_below hB01 (by rw [hw0]; simp)
  have c3 : w1.cell? ⟨w.heap.size + 1, 1, none⟩ = some lu := pw_cell_below hB01 (by rw [hw0]; simp)
  have c4 : w1.cell? ⟨w.heap.size + 1 + 1, 0, none⟩ = some v := by rw [hw1, ← hs0]; simp
  have HK := Aside0.mk (hk.below hB)
  have HP := Aside0.mk (isSimplicial1 w1 (w.heap.size + 1) (w.heap.size + 1 + 1) n m lu v ys p hck.hi (hl.below hB) (hv.below hB) hcl hp c2 c3 c4)
  have HD : Aside0 (∀ x ∈ xs, 0 ≤ x ∧ x < ((2 ^ n : Nat) : Int)) := ⟨fun x hx => by have := hck.bd x hx; omega⟩
  have HB := Aside0.mk hB
  obtain ⟨A1, d1, rfl, -⟩ := id hk
  obtain ⟨A2, d2, rfl, -⟩ := id hl
  obtain ⟨A3, d3, rfl, -⟩ := id hv
  clear hk hl hv hB hck hcl hp c2 c3 c4 hB0 hB01 hs0
  subst hw0
  go_enter Try.func63, Try.ntmps63
  go_wp2_with (first | (rw [← hw1]; clear hw1; go_at_call 57; refine (areAll _ _ _ _ _ _ HK.out HP.out HD.out).mono ?_; rintro e w2 ⟨rfl, hb⟩))
  go_ret
  exact ⟨rfl, by have := HB.out; (repeat (first | (with_reducible exact Below.refl _ _) | (with_reducible assumption) | (with_reducible refine below_step ?_ (by assumption)) | (with_reducible apply below_alloc) | (with_reducible apply below_drewN)))⟩

set_option maxHeartbeats 2000000 in
theorem specSimplicial (n m : Nat) (ku lu v : Value) (xs ys p : List Int) (w : World) (hk : ReadI w ku xs) (hl : ReadI w lu ys) (hv : ReadI w v p) (hck : Cx n xs) (hcl : Cx m ys) (hp : Mp n m p) :
    Calls Try.prog 101 #[cx n ku, cx m lu, v] w fun e w' => e = .returned (.bool (simpOk xs ys p)) ∧ Below w.heap.size w w' := by
  obtain ⟨w1, hw1⟩ : ∃ w1, w1 = (w.alloc (.cells #[.int .i64 n, ku] 28)).alloc (.cells #[.int .i64 m, lu] 28) := ⟨_, rfl⟩
  have hB : Below w.heap.size w w1 := by rw [hw1]; exact ((Below.refl _ w).alloc (Nat.le_refl _) _).alloc (by simp) _
  have c0 : w1.cell? ⟨w.heap.size, 0, none⟩ = some (.int .i64 n) := by rw [hw1]; simp
  have c1 : w1.cell? ⟨w.heap.size, 1, none⟩ = some ku := by rw [hw1]; simp
  have c2 : w1.cell? ⟨w.heap.size + 1, 0, none⟩ = some (.int .i64 m) := by rw [hw1]; simp
  have c3 : w1.cell? ⟨w.heap.size + 1, 1, none⟩ = some lu := by rw [hw1]; simp
  have HL := Aside0.mk (hl.below hB)
  have HV := Aside0.mk (hv.below hB)
  have HB := Aside0.mk hB
  have hk1 := hk.below hB
  obtain ⟨A1, d1, rfl, -⟩ := id hl
  obtain ⟨A2, d2, rfl, -⟩ := id hv
  obtain ⟨A, c, rfl, hc, hr⟩ := hk1
  have HR := Aside0.mk hr
  have hlen := hr.2.1
  have HCK := Aside0.mk hck
  have HCL := Aside0.mk hcl
  have HMP := Aside0.mk hp
  clear hk hl hv hB hck hcl hp hr
  go_enter Try.func101, Try.ntmps101
  go_wp2
  rw [← hw1]
  clear hw1
  go_loopw [7] (fun v wr => ∃ i : Nat, v = .int .i64 i ∧ i ≤ xs.length ∧ Aside0 (∀ k, k < i → simpAt ys p (xs.getD k 0) = true) ∧ Below w1.heap.size w1 wr) (fun v _ => xs.length - (intOf v).toNat)
  case atStart => exact ⟨0, rfl, Nat.zero_le _, ⟨fun j hj => absurd hj (Nat.not_lt_zero _)⟩, Below.refl _ _⟩
  case round =>
    obtain ⟨i, rfl, hi, HU, hb⟩ := hrel
    have c0 := pw_cell_below hb c0
    have c1 := pw_cell_below hb c1
    have c2 := pw_cell_below hb c2
    have c3 := pw_cell_below hb c3
    have HBr := Aside0.mk hb
    by_cases hlt : i < xs.length
    · obtain ⟨ad, y, rfl, hcell, HY⟩ := ReadI.get (Kd.C_below HR.out hb) hlt
      obtain ⟨f, rfl, hf1, hf2⟩ := HCK.out.nat (mem_at hlt HY.out)
      clear hb
      have x1 : ∀ x : Ext wr, x.1.cell? ⟨w.heap.size, 1, none⟩ = some (.slice (some ad) xs.length c) := fun x => Ext.cell c1 x
      have x2 : ∀ x : Ext wr, x.1.cell? ⟨w.heap.size + 1, 0, none⟩ = some (.int .i64 m) := fun x => Ext.cell c2 x
      have x3 : ∀ x : Ext wr, x.1.cell? ⟨w.heap.size + 1, 1, none⟩ = some (.slice A1 ys.length d1) := fun x => Ext.cell c3 x
      have x4 : ∀ x : Ext wr, x.1.cell? (ad.add i) = some (.int .i64 f) := fun x => Ext.cell hcell x
      clear hcell
      have hj1 : (0 : Int) ≤ (i : Int) := by omega
      have hj2 : (i : Int) < (xs.length : Int) := by omega
      have HI : Aside0 (∀ x : Ext wr, Calls Try.prog 54 #[.int .i64 f, .slice A2 p.length d2] x.1 fun e w' => e = .returned (.int .i64 (img f p : Nat)) ∧ Below x.1.heap.size x.1 w') := ⟨fun x => specMoved f hf2 _ p x.1 (HV.out.below (HBr.out.trans (x.2.mono HBr.out.size))) (by rw [HMP.out.len]; exact HCK.out.hi) (HMP.out.bd5 HCL.out.hi)⟩
      have HH : Aside0 (∀ x : Ext wr, Calls Try.prog 53 #[cx m (.slice A1 ys.length d1), .int .i64 (img f p : Nat)] x.1 fun e w' => e = .returned (.bool (simpAt ys p f)) ∧ Below x.1.heap.size x.1 w') := ⟨fun x => specHas m _ ys _ x.1 (HL.out.below (HBr.out.trans (x.2.mono HBr.out.size)))⟩
      have HS : Aside0 (simpAt ys p (xs.getD i 0) = simpAt ys p f) := ⟨by rw [HY.out]⟩
      have HALL : Aside0 (simpAt ys p (f : Int) = false → simpOk xs ys p = false) := ⟨fun h => all_false hlt HY.out h⟩
      generalize simpAt ys p (f : Int) = r at *
      generalize img f p = g at *
      cases r with
      | false =>
        go_wp2
        refine wp_region_ext (by kernel_rfl) (by kernel_rfl) ?_
        repeat (go_big_quiet_step ((first | (go_at_call 54; exact Calls.ext_of (HI.out _)) | (go_at_call 53; exact Calls.ext_of (HH.out _)))))
        refine wpQuiet_nil ?_
        rintro _ ⟨x, rfl⟩
        have hbx := x.2
        go_wp2
        go_ret
        exact ⟨by rw [HALL.out (by trivial)]; rfl, by have := HB.out; have := HBr.out; (repeat (first | (with_reducible exact Below.refl _ _) | (with_reducible assumption) | (with_reducible refine below_step ?_ (by assumption)) | (with_reducible apply below_alloc) | (with_reducible apply below_drewN)))⟩
      | true =>
        go_wp2
        refine wp_region_ext (by kernel_rfl) (by kernel_rfl) ?_
        repeat (go_big_quiet_step ((first | (go_at_call 54; exact Calls.ext_of (HI.out _)) | (go_at_call 53; exact Calls.ext_of (HH.out _)))))
        refine wpQuiet_nil ?_
        rintro _ ⟨x, rfl⟩
        have hbx := x.2
        go_wp2
        go_roundw
        case rel =>
          refine ⟨i + 1, by go_num, by omega, ⟨fun k hk => ?_⟩, by have := HBr.out; (repeat (first | (with_reducible exact Below.refl _ _) | (with_reducible assumption) | (with_reducible refine below_step ?_ (by assumption)) | (with_reducible apply below_alloc) | (with_reducible apply below_drewN)))⟩
          rcases Nat.lt_succ_iff_lt_or_eq.1 hk with h | rfl
          · exact HU.out k h
          · exact HS.out
        case measure => simp [intOf]; omega
    · have HE : Aside0 (simpOk xs ys p = true) := ⟨all_true (fun k hk => HU.out k (by omega))⟩
      clear hb
      go_wp2
      go_ret
      exact ⟨by rw [HE.out]; rfl, by have := HB.out; have := HBr.out; (repeat (first | (with_reducible exact Below.refl _ _) | (with_reducible assumption) | (with_reducible refine below_step ?_ (by assumption)) | (with_reducible apply below_alloc) | (with_reducible apply below_drewN)))⟩
end Go.Proofs.Ytllmbbaffhpheaa.H
