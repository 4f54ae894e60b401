/- OpenFibre of the program and of the reference. -/
import Derived.Test.YtllmbbaffhpheaaFixed
namespace Go.Proofs.Ytllmbbaffhpheaa.H
open Go.RowKit Go.Proofs.YtllmbbaffhpheaaW.PrintWords Go.Proofs.YtllmbbaffhpheaaW.PrintLast Go.Proofs.YtllmbbaffhpheaaW.PrintMore
set_option linter.unusedVariables false
set_option linter.unusedSimpArgs false

/-- its image is g -/
def opAt (f : List Int) (g : Int) (x : Int) : Bool := ((img x.toNat f : Nat) : Int) == g
/-- what OpenFibre answers -/
def ansOpenFibre (a : Int) (xs : List Int) (b : Int) (ys f : List Int) (g : Int) : List Int × Int :=
  if codeSimp a b xs ys [f] (decide (g ∈ ys)) = 0 then (xs.filter (opAt f g), 0) else ([], codeSimp a b xs ys [f] (decide (g ∈ ys)))

set_option maxRecDepth 100000 in
set_option maxHeartbeats 1000000 in
theorem openThunk (w : World) (bl bg : Nat) (m : Nat) (lu : Value) (ys : List Int) (g : Int) (hl : ReadI w lu ys) (hc : Cx m ys) (h0 : w.cell? ⟨bl, 0, none⟩ = some (.int .i64 m)) (h1 : w.cell? ⟨bl, 1, none⟩ = some lu) (h2 : w.cell? ⟨bg, 0, none⟩ = some (.int .i64 g)) :
    ThunkB w (.func (.func 90) #[] #[.pointer (some ⟨bl, 0, none⟩), .pointer (some ⟨bg, 0, none⟩)]) (decide (g ∈ ys)) := by
  refine ⟨_, _, _, rfl, Enters.mk' Try.func90 rfl rfl, fun w1 hb => ?_⟩
  have c0 := pw_cell_below hb h0
  have c1 := pw_cell_below hb h1
  have c2 := pw_cell_below hb h2
  have HI := Aside0.mk (has m lu ys g w1 (hl.below hb) hc.asc (by have := hc.len; omega))
  obtain ⟨A1, d1, rfl, -⟩ := id hl
  clear hb h0 h1 h2 hl hc
  show Calls _ _ #[_, _] _ _
  go_enter Try.func90, Try.ntmps90
  go_wp2_with (first | (go_at_call 59; refine HI.out.mono ?_; rintro e w2 ⟨rfl, hb2⟩))
  go_ret
  exact ⟨rfl, hb2⟩

set_option maxRecDepth 100000 in
set_option maxHeartbeats 1000000 in
theorem openFibre1 (w : World) (bf bg : Nat) (n m : Nat) (u : Value) (xs f : List Int) (g : Int) (hu : ReadI w u f) (hc : Cx n xs) (hm : m ≤ 6) (hf : Mp n m f) (h0 : w.cell? ⟨bf, 0, none⟩ = some u) (h1 : w.cell? ⟨bg, 0, none⟩ = some (.int .i64 g)) :
    PredI w (.func (.func 132) #[] #[.pointer (some ⟨bf, 0, none⟩), .pointer (some ⟨bg, 0, none⟩)]) (opAt f g) (fun x => x ∈ xs) := by
  refine ⟨_, _, _, rfl, Enters.mk' Try.func132 rfl rfl, fun w1 x hb hx => ?_⟩
  obtain ⟨z, rfl, hz, -⟩ := cx_dom hc hf hx
  have c0 := pw_cell_below hb h0
  have c1 := pw_cell_below hb h1
  have HU := Aside0.mk (hu.below hb)
  have hlf : f.length ≤ 6 := by rw [hf.len]; exact hc.hi
  obtain ⟨A1, d1, rfl, -⟩ := id hu
  have HI : Aside0 (∀ x : Ext w1, Calls Try.prog 60 #[.int .i64 z, .slice A1 f.length d1] x.1 fun e w' => e = .returned (.int .i64 (img z f : Nat)) ∧ Below x.1.heap.size x.1 w') := ⟨fun x => imageOf z _ f x.1 (HU.out.below x.2) hlf hz (hf.bd5 hm)⟩
  have x0 : ∀ x : Ext w1, x.1.cell? ⟨bf, 0, none⟩ = some (.slice A1 f.length d1) := fun x => Ext.cell c0 x
  have x1 : ∀ x : Ext w1, x.1.cell? ⟨bg, 0, none⟩ = some (.int .i64 g) := fun x => Ext.cell c1 x
  have HO : Aside0 (opAt f g (z : Int) = (((img z f : Nat) : Int) == g)) := ⟨rfl⟩
  clear hb h0 h1 hx hu hc hf hz hlf HU c0 c1
  generalize img z f = t at *
  show Calls _ _ #[_, _, _] _ _
  go_enter Try.func132, Try.ntmps132
  go_wp2
  refine wp_region_ext (by kernel_rfl) (by kernel_rfl) ?_
  repeat (go_big_quiet_step ((first | (go_at_call 60; exact Calls.ext_of (HI.out _)))))
  refine wpQuiet_nil ?_
  rintro _ ⟨x, rfl⟩
  have hbx := x.2
  go_wp2
  go_ret
  exact ⟨by rw [HO.out]; rfl, by (repeat (first | (with_reducible exact Below.refl _ _) | (with_reducible assumption) | (with_reducible refine below_step ?_ (by assumption)) | (with_reducible apply below_alloc) | (with_reducible apply below_drewN)))⟩

set_option maxRecDepth 100000 in
set_option maxHeartbeats 1000000 in
theorem openFibre (n m : Nat) (ku : Value) (xs : List Int) (v : Value) (f : List Int) (g : Int) (w : World) (hk : ReadI w ku xs) (hv : ReadI w v f) (hc : Cx n xs) (hm : m ≤ 6) (hf : Mp n m f) :
    Calls Try.prog 91 #[cx n ku, v, .int .i64 g] w fun e w' => ∃ u, e = .returned u ∧ OwnI w.heap.size w' u (xs.filter (opAt f g)) ∧ Below w.heap.size w w' := by
  obtain ⟨w0, hw0⟩ : ∃ w0, w0 = (w.alloc (.cells #[.int .i64 n, ku] 28)).alloc (.cells #[v] 22) := ⟨_, rfl⟩
  obtain ⟨w1, hw1⟩ : ∃ w1, w1 = w0.alloc (.cells #[.int .i64 g] 2) := ⟨_, rfl⟩
  have hs0 : w0.heap.size = w.heap.size + 1 + 1 := by rw [hw0]; simp
  have hB0 : Below w.heap.size w w0 := by rw [hw0]; exact ((Below.refl _ w).alloc (Nat.le_refl _) _).alloc (by simp) _
  have hB1 : Below w0.heap.size w0 w1 := by rw [hw1]; exact Below.alloc (Below.refl _ _) (Nat.le_refl _) _
  have hB : Below w.heap.size w w1 := hB0.trans (hB1.mono hB0.size)
  have c0 : w1.cell? ⟨w.heap.size, 0, none⟩ = some (.int .i64 n) := pw_cell_below hB1 (by rw [hw0]; simp)
  have c1 : w1.cell? ⟨w.heap.size, 1, none⟩ = some ku := pw_cell_below hB1 (by rw [hw0]; simp)
  have c2 : w1.cell? ⟨w.heap.size + 1, 0, none⟩ = some v := pw_cell_below hB1 (by rw [hw0]; simp)
  have c3 : w1.cell? ⟨w.heap.size + 1 + 1, 0, none⟩ = some (.int .i64 g) := by rw [hw1, ← hs0]; simp
  have HK := Aside0.mk (hk.below hB)
  have HP := Aside0.mk (openFibre1 w1 _ _ n m v xs f g (hv.below hB) hc hm hf c2 c3)
  have HB := Aside0.mk hB
  have HN := Aside0.mk hc
  have hsz := hB.size
  have hfd := field_faces (n : Int)
  obtain ⟨A1, d1, rfl, -⟩ := id hk
  obtain ⟨A2, d2, rfl, -⟩ := id hv
  clear hk hv hc hf hB hB0 hB1 hs0
  subst hw0
  go_enter Try.func91, Try.ntmps91
  go_wp2_with (first | (go_at_call 79; rw [← hw1]; clear hw1; refine (part n _ xs _ _ _ HK.out HN.out HP.out).mono ?_; rintro e w4 ⟨u, rfl, ho, hb4⟩; have HO := Aside0.mk ho; obtain ⟨A4, d4, rfl, -⟩ := ho.read; clear ho))
  go_ret
  exact ⟨_, rfl, HO.out.lower hsz, by have := HB.out; (repeat (first | (with_reducible exact Below.refl _ _) | (with_reducible assumption) | (with_reducible refine below_step ?_ (by assumption)) | (with_reducible apply below_alloc) | (with_reducible apply below_drewN)))⟩
end Go.Proofs.Ytllmbbaffhpheaa.H
