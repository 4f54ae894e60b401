/- Memory in which one block alone is turned. -/
import Derived.Test.YtcbkchnfjeegmaaLawB
namespace Go.Proofs.Ytcbkchnfjeegmaa.H
open Go.RowKit Go.Proofs.YtcbkchnfjeegmaaW.PrintWords Go.Proofs.YtcbkchnfjeegmaaW.PrintLast Go.Proofs.YtcbkchnfjeegmaaW.PrintMore
set_option linter.unusedVariables false
set_option linter.unusedSimpArgs false

theorem grown_below {w w' : World} (h : Below w.heap.size w w') (row : Option Nat) : w.grownBy w' row := ⟨h.os, h.tape, h.output, h.size, fun k hk _ => h.block k hk⟩
theorem grown_drew (w : World) (row : Option Nat) : w.grownBy w.drew row := grown_below (Below.refl _ _).drew row
theorem grown_cell {w w' : World} {b : Nat} (hg : w.grownBy w' (some b)) {a : Addr} {v : Value} (h : w.cell? a = some v) (hne : a.block ≠ b) : w'.cell? a = some v := hg.cell h (fun e => hne (by injection e))
/-- what lay below a block that is turned -/
theorem below_grown {B b : Nat} {w w' : World} (hg : w.grownBy w' (some b)) (h1 : B ≤ b) (h2 : B ≤ w.heap.size) : Below B w w' :=
  ⟨hg.os, hg.tape, hg.output, hg.size, fun k hk => hg.block k (by omega) (fun e => by injection e; omega)⟩
/-- reads, whatever becomes of block b -/
def RdK (b : Nat) (w : World) (v : Value) (xs : List Int) : Prop := ∀ w', w.grownBy w' (some b) → ReadI w' v xs
theorem RdK.read {b : Nat} {w : World} {v : Value} {xs : List Int} (h : RdK b w v xs) : ReadI w v xs := h w (grown_below (Below.refl _ _) _)
theorem RdK.go {b : Nat} {w w' : World} {v : Value} {xs : List Int} (h : RdK b w v xs) (hg : w.grownBy w' (some b)) : RdK b w' v xs := fun w2 h2 => h w2 (grown_trans hg h2)
theorem RdK.below {b : Nat} {w w' : World} {v : Value} {xs : List Int} (h : RdK b w v xs) (hb : Below w.heap.size w w') : RdK b w' v xs := h.go (grown_below hb _)
theorem RdK.mk' {b : Nat} {w0 w : World} {v : Value} {xs : List Int} (h : ReadI w0 v xs) (hb : Below w0.heap.size w0 w) (h1 : w0.heap.size ≤ b) : RdK b w v xs :=
  fun w' hg => h.below (hb.trans (below_grown hg h1 hb.size))
theorem Aside0.rdk {b : Nat} {w w' : World} {v : Value} {xs : List Int} (h : Aside0 (RdK b w v xs)) (hg : w.grownBy w' (some b)) : Aside0 (RdK b w' v xs) := ⟨h.out.go hg⟩

/-- block b alone is turned, and what is known of it stays -/
def Gm (b : Nat) (I : World → Prop) (w w' : World) : Prop := w.grownBy w' (some b) ∧ (I w → I w')
theorem Gm.refl (b : Nat) (I : World → Prop) (w : World) : Gm b I w w := ⟨grown_below (Below.refl _ _) _, id⟩
theorem Gm.trans {b : Nat} {I : World → Prop} {w1 w2 w3 : World} (h : Gm b I w1 w2) (k : Gm b I w2 w3) : Gm b I w1 w3 := ⟨grown_trans h.1 k.1, fun x => k.2 (h.2 x)⟩

end Go.Proofs.Ytcbkchnfjeegmaa.H
