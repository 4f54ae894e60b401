/- Memory in which one block alone is turned; tables and maps of known numbers. -/
import Derived.Test.YtpcjbdkdpcgdiaaWay
import Derived.Test.YtpcjbdkdpcgdiaaGReg
import Derived.Maps.Own
import Derived.Maps.OwnOps
import Derived.Maps.OwnSet
import Derived.Maps.Views
import Derived.DeepKeys4
namespace Go.Proofs.Ytpcjbdkdpcgdiaa.H
open Go.RowKit Go.Proofs.YtpcjbdkdpcgdiaaW.PrintWords Go.Proofs.YtpcjbdkdpcgdiaaW.PrintLast Go.Proofs.YtpcjbdkdpcgdiaaW.PrintMore
set_option linter.unusedVariables false
set_option linter.unusedSimpArgs false

theorem grown_below {w w' : World} (h : Below w.heap.size w w') (row : Option Nat) : w.grownBy w' row := ⟨h.os, h.tape, h.output, h.size, fun k hk _ => h.block k hk⟩
theorem grown_drew (w : World) (row : Option Nat) : w.grownBy w.drew row := grown_below (Below.refl _ _).drew row
theorem grown_cell {w w' : World} {b : Nat} (hg : w.grownBy w' (some b)) {a : Addr} {v : Value} (h : w.cell? a = some v) (hne : a.block ≠ b) : w'.cell? a = some v := hg.cell h (fun e => hne (by injection e))
/-- what lay below a block that is turned -/
theorem below_grown {B b : Nat} {w w' : World} (hg : w.grownBy w' (some b)) (h1 : B ≤ b) (h2 : B ≤ w.heap.size) : Below B w w' :=
  ⟨hg.os, hg.tape, hg.output, hg.size, fun k hk => hg.block k (by omega) (fun e => by injection e; omega)⟩
/-- reads, whatever becomes of block b -/
def RdK (b : Nat) (w : World) (v : Value) (xs : List Int) : Prop := ∀ w', w.grownBy w' (some b) → ReadI w' v xs
theorem RdK.read {b : Nat} {w : World} {v : Value} {xs : List Int} (h : RdK b w v xs) : ReadI w v xs := h w (grown_below (Below.refl _ _) _)
theorem RdK.go {b : Nat} {w w' : World} {v : Value} {xs : List Int} (h : RdK b w v xs) (hg : w.grownBy w' (some b)) : RdK b w' v xs := fun w2 h2 => h w2 (grown_trans hg h2)
theorem RdK.below {b : Nat} {w w' : World} {v : Value} {xs : List Int} (h : RdK b w v xs) (hb : Below w.heap.size w w') : RdK b w' v xs := h.go (grown_below hb _)
theorem RdK.mk' {b : Nat} {w0 w : World} {v : Value} {xs : List Int} (h : ReadI w0 v xs) (hb : Below w0.heap.size w0 w) (h1 : w0.heap.size ≤ b) : RdK b w v xs :=
  fun w' hg => h.below (hb.trans (below_grown hg h1 hb.size))
theorem Aside0.rdk {b : Nat} {w w' : World} {v : Value} {xs : List Int} (h : Aside0 (RdK b w v xs)) (hg : w.grownBy w' (some b)) : Aside0 (RdK b w' v xs) := ⟨h.out.go hg⟩

/-- block b alone is turned, and what is known of it stays -/
def Gm (b : Nat) (I : World → Prop) (w w' : World) : Prop := w.grownBy w' (some b) ∧ (I w → I w')
theorem Gm.refl (b : Nat) (I : World → Prop) (w : World) : Gm b I w w := ⟨grown_below (Below.refl _ _) _, id⟩
theorem Gm.trans {b : Nat} {I : World → Prop} {w1 w2 w3 : World} (h : Gm b I w1 w2) (k : Gm b I w2 w3) : Gm b I w1 w3 := ⟨grown_trans h.1 k.1, fun x => k.2 (h.2 x)⟩

/-! a table of numbers: place p * 64 + q -/
def TabV (n : Nat) (val : Nat → Nat → Int) (L : List Int) : Prop := L.length = 4096 ∧ ∀ p q, Pl n p q → 0 ≤ L.getD (p * 64 + q) 0 → L.getD (p * 64 + q) 0 = val p q
def TabI (n : Nat) (val : Nat → Nat → Int) (b c : Nat) (w : World) : Prop := ∃ L, OwnI 0 w (.slice (some ⟨b, 0, none⟩) 4096 c) L ∧ TabV n val L
theorem TabI.below {n : Nat} {val : Nat → Nat → Int} {b c : Nat} {w w' : World} (h : TabI n val b c w) (hb : Below w.heap.size w w') : TabI n val b c w' := by
  obtain ⟨L, ho, hv⟩ := h
  exact ⟨L, ho.below hb, hv⟩
theorem tab_none {n : Nat} (hn : n ≤ 6) (val : Nat → Nat → Int) : TabV n val (noneT 4096) := by
  refine ⟨noneT_len _, fun p q hp h => ?_⟩
  exfalso
  unfold noneT at h
  rw [List.getD_eq_getElem?_getD, List.getElem?_replicate] at h
  split at h
  · exact absurd h (by decide)
  · next h2 => exact h2 (by have := hp.lt hn; omega)
theorem tab_place {n p q p' q' : Nat} (hn : n ≤ 6) (h : Pl n p q) (h' : Pl n p' q') (e : p * 64 + q = p' * 64 + q') : p = p' ∧ q = q' := by
  have h1 := h.lt hn
  have h2 := h'.lt hn
  omega
theorem tab_set {n : Nat} (hn : n ≤ 6) {val : Nat → Nat → Int} {L : List Int} (h : TabV n val L) {p q : Nat} (hp : Pl n p q) : TabV n val (L.set (p * 64 + q) (val p q)) := by
  refine ⟨by rw [List.length_set]; exact h.1, fun p' q' hp' h0 => ?_⟩
  have hl := h.1
  have h1 := hp.lt hn
  have h2 := hp'.lt hn
  by_cases e : p * 64 + q = p' * 64 + q'
  · obtain ⟨rfl, rfl⟩ := tab_place hn hp hp' e
    rw [List.getD_eq_getElem?_getD, List.getElem?_set_self (by omega)]; rfl
  · have e2 : (L.set (p * 64 + q) (val p q)).getD (p' * 64 + q') 0 = L.getD (p' * 64 + q') 0 := by
      rw [List.getD_eq_getElem?_getD, List.getElem?_set_ne e, List.getD_eq_getElem?_getD]
    rw [e2] at h0 ⊢
    exact h.2 p' q' hp' h0
end Go.Proofs.Ytpcjbdkdpcgdiaa.H
