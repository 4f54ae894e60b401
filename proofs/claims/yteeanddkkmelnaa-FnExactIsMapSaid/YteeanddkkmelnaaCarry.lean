/- What is known of a world is carried to the next one. -/
import Derived.Test.YteeanddkkmelnaaPhi
import Derived.Test.YteeanddkkmelnaaHofS
namespace Go.Proofs.Yteeanddkkmelnaa.H
open Go.RowKit Go.Proofs.YteeanddkkmelnaaW.PrintWords Go.Proofs.YteeanddkkmelnaaW.PrintLast Go.Proofs.YteeanddkkmelnaaW.PrintMore
set_option linter.unusedVariables false
set_option linter.unusedSimpArgs false

theorem new_cell (W : World) (cs : Array Value) (t : TypeId) (i : Nat) (v : Value) (h : cs[i]? = some v) : (W.alloc (.cells cs t)).cell? ⟨W.heap.size, i, none⟩ = some v := by
  rw [blk_cell (blk_new W _) i, h]
theorem below_unalloc {W W' : World} {o : Obj} (h : Below (W.alloc o).heap.size (W.alloc o) W') : Below W.heap.size W W' :=
  (Below.alloc (Below.refl _ _) (Nat.le_refl _) o).trans (h.mono (by simp))
theorem below_undrew {W W' : World} (h : Below W.drew.heap.size W.drew W') : Below W.heap.size W W' := (Below.refl _ W).drew.trans h
theorem Aside0.read {w w' : World} {v : Value} {xs : List Int} (h : Aside0 (ReadI w v xs)) (hb : Below w.heap.size w w') : Aside0 (ReadI w' v xs) := ⟨h.out.below hb⟩
theorem Aside0.own {b : Nat} {w w' : World} {v : Value} {xs : List Int} (h : Aside0 (OwnI b w v xs)) (hb : Below w.heap.size w w') : Aside0 (OwnI b w' v xs) := ⟨OwnI.below h.out hb⟩
theorem Aside0.reads {w w' : World} {v : Value} {xss : List (List Int)} (h : Aside0 (ReadS w v xss)) (hb : Below w.heap.size w w') : Aside0 (ReadS w' v xss) := ⟨h.out.below hb⟩
theorem Aside0.belowC {w w1 w' : World} (h : Aside0 (Below w.heap.size w w1)) (hb : Below w1.heap.size w1 w') : Aside0 (Below w.heap.size w w') := ⟨h.out.trans (hb.mono h.out.size)⟩
theorem Aside0.predI {w w' : World} {v : Value} {p : Int → Bool} {dom : Int → Prop} (h : Aside0 (PredI w v p dom)) (hb : Below w.heap.size w w') : Aside0 (PredI w' v p dom) := ⟨h.out.below hb⟩
theorem Aside0.predS {w w' : World} {v : Value} {p : List Int → Bool} (h : Aside0 (PredS w v p)) (hb : Below w.heap.size w w') : Aside0 (PredS w' v p) := ⟨h.out.below hb⟩
theorem cell_ahead {W : World} {a : Addr} {v : Value} (h : W.cell? a = some v) (o : Obj) : (W.alloc o).cell? a = some v := pw_cell_below (Below.alloc (Below.refl _ _) (Nat.le_refl _) o) h
theorem cell_ahead2 {W : World} {a : Addr} {v : Value} (h : W.cell? a = some v) (o o' : Obj) : ((W.alloc o).alloc o').cell? a = some v := cell_ahead (cell_ahead h o) o'

open Lean Elab Tactic Meta in
/-- a name that isn't used yet -/
def freshC (pre : String) : TacticM Name := do
  let lctx ← getLCtx
  let mut i := 0
  while (lctx.findFromUserName? (Name.mkSimple s!"{pre}{i}")).isSome do i := i + 1
  return Name.mkSimple s!"{pre}{i}"

open Lean Elab Tactic Meta in
/-- hb : Below W.heap.size W W': all that is known of W is told of W' -/
elab "carry " h:ident : tactic => withMainContext do
  let tyOf : TacticM Lean.Expr := withMainContext do
    let some d := (← getLCtx).findFromUserName? h.getId | throwError "carry: no such name"
    return (← instantiateMVars d.type).consumeMData
  let mut go := true
  while go do
    let ty ← tyOf
    unless ty.getAppFn.isConst && ty.getAppNumArgs ≥ 3 do throwError "carry: not 'Below'"
    let W := ty.getAppArgs[1]!
    if W.isAppOfArity ``World.alloc 2 then
      let o := W.appArg!
      if o.isAppOf ``Obj.cells then
        let arr := o.getAppArgs[0]!
        let n := match arr.isAppOf ``List.toArray with
          | true => (match arr.appArg!.listLit? with | some (_, l) => l.length | none => 0)
          | false => 0
        for i in [0:n] do
          withMainContext do
            let nm := mkIdent (← freshC "cb")
            let iS := Syntax.mkNumLit (toString i)
            evalTactic (← `(tactic| have $nm := pw_cell_below $h (new_cell _ _ _ $iS _ rfl)))
      evalTactic (← `(tactic| replace $h := below_unalloc $h))
    else if W.isAppOf ``World.drew then
      evalTactic (← `(tactic| replace $h := below_undrew $h))
    else go := false
  withMainContext do
    let ty ← tyOf
    let W := ty.getAppArgs[1]!
    let mut todo : Array (Name × Name) := #[]
    let mut gone : Array Name := #[]
    for d in ← getLCtx do
      if d.isImplementationDetail then continue
      if d.userName == h.getId then continue
      let t := (← instantiateMVars d.type).consumeMData
      if t.isAppOfArity ``Eq 3 then
        let l := t.getAppArgs[1]!
        if l.isAppOf ``World.cell? && l.getAppArgs[0]! == W then todo := todo.push (d.userName, `cell)
      else if t.isForall then
        let b := t.getForallBody
        if b.isAppOfArity ``Eq 3 then
          let l := b.getAppArgs[1]!
          if l.isAppOf ``World.cell? then
            let w0 := l.getAppArgs[0]!
            if w0.isAppOfArity ``World.alloc 2 then
              let w1 := w0.appFn!.appArg!
              if w1 == W || (w1.isAppOfArity ``World.alloc 2 && w1.appFn!.appArg! == W) then gone := gone.push d.userName
      else if t.isAppOf ``Aside0 then
        let x := t.appArg!.consumeMData
        let f := x.getAppFn.constName?.getD .anonymous
        let a := x.getAppArgs
        if f == ``ReadI && a[0]! == W then todo := todo.push (d.userName, `read)
        else if f == ``OwnI && a[1]! == W then todo := todo.push (d.userName, `own)
        else if f == ``ReadS && a[0]! == W then todo := todo.push (d.userName, `reads)
        else if f == ``PredI && a[0]! == W then todo := todo.push (d.userName, `predI)
        else if f == ``PredS && a[0]! == W then todo := todo.push (d.userName, `predS)
        else if f == ty.getAppFn.constName?.getD .anonymous && a.size ≥ 3 && a[2]! == W then todo := todo.push (d.userName, `below)
    for g in gone do
      let gi := mkIdent g
      evalTactic (← `(tactic| clear $gi))
    for (n, k) in todo do
      let i := mkIdent n
      match k with
      | `cell => evalTactic (← `(tactic| replace $i := pw_cell_below $h $i)); withMainContext do
          let n1 := mkIdent (← freshC "ca")
          evalTactic (← `(tactic| have $n1 := cell_ahead $i))
          withMainContext do
            let n2 := mkIdent (← freshC "ca")
            evalTactic (← `(tactic| have $n2 := cell_ahead2 $i))
      | `read => evalTactic (← `(tactic| replace $i := Aside0.read $i $h))
      | `own => evalTactic (← `(tactic| replace $i := Aside0.own $i $h))
      | `reads => evalTactic (← `(tactic| replace $i := Aside0.reads $i $h))
      | `predI => evalTactic (← `(tactic| replace $i := Aside0.predI $i $h))
      | `predS => evalTactic (← `(tactic| replace $i := Aside0.predS $i $h))
      | _ => evalTactic (← `(tactic| replace $i := Aside0.belowC $i $h))
    evalTactic (← `(tactic| clear $h))

/-- what is known stands aside -/
macro "known" : tactic => `(tactic| first
  | (apply Aside0.out; with_reducible assumption)
  | (apply OwnI.read; apply Aside0.out; with_reducible assumption)
  | (refine ReadI.below (Aside0.out ?_) (Below.alloc (Below.refl _ _) (Nat.le_refl _) _); with_reducible assumption)
  | (refine ReadI.below ?_ (Below.alloc (Below.refl _ _) (Nat.le_refl _) _); apply OwnI.read; apply Aside0.out; with_reducible assumption))

macro "phi_norm" : tactic => `(tactic| simp only [dsOf, List.map_cons, List.map_nil, Option.getD_some, putAll, Act.put, List.setIfInBounds_toArray, List.set_cons_zero, List.set_cons_succ])
macro "phi_value " v:term : tactic => `(tactic| (
  have hR' := $(Lean.mkIdent `hR) $v _ (Below.refl _ _) rfl
  clear $(Lean.mkIdent `hR) $(Lean.mkIdent `hd)
  generalize hA : putAll _ 0 $(Lean.mkIdent `s) _ = A
  refine opGives_value ?_ hR'
  subst hA
  phi_norm
  go_simp))
macro "phi_call " f:term:max v:term : tactic => `(tactic| (
  generalize hA : putAll _ 0 $(Lean.mkIdent `s) _ = A
  refine opGives_call (f := $f) (args := $v) ?_ ?_
  · subst hA
    clear $(Lean.mkIdent `hR) $(Lean.mkIdent `hd)
    phi_norm
    go_simp
  clear hA A))
end Go.Proofs.Yteeanddkkmelnaa.H
