/- Maps of known numbers, by states. -/
import Derived.Test.YtpcjbdkdpcgdiaaNeedS
namespace Go.Proofs.Ytpcjbdkdpcgdiaa.H
open Go.RowKit Go.Proofs.YtpcjbdkdpcgdiaaW.PrintWords Go.Proofs.YtpcjbdkdpcgdiaaW.PrintLast Go.Proofs.YtpcjbdkdpcgdiaaW.PrintMore
set_option linter.unusedVariables false
set_option linter.unusedSimpArgs false

theorem progLaid : laidOutB Try.prog = true := by kernel_rfl
theorem stRow : (63 : TypeId) < Try.prog.types.size := of_decide_eq_true (by kernel_rfl)
theorem stKey2 : Try.prog.keyTypeAt 2 63 = true := by kernel_rfl
theorem le2 : 2 + 1 ≤ 10000 := by decide +kernel
theorem stKeyed : Go.Maps.Keyed Try.prog 63 := Go.Maps.Keyed.of_law (deep_law_laid progLaid le2 stRow stKey2 (by rw [Try.underlying63]))
theorem zeroI (w : World) : (zeroValue 2).run Try.prog w = .ok (.int .i64 0) w := by kernel_rfl
def stV (a y : Nat) : Value := .agg #[.int .i64 a, .int .i64 y]
theorem wf_nat {a : Nat} (h : a < 64) : (Lit.int .i64 (a : Int)).wf = true := WalkArith.wf_i64 (by omega)
theorem stTypes : ∃ m, Try.prog.types.size = m + 1 := ⟨Try.prog.types.size - 1, by kernel_rfl⟩
theorem stKT : Try.prog.keyType 63 = true := by kernel_rfl
theorem stCells : Try.prog.cellsOf 63 = 2 := by kernel_rfl
theorem i64Cells : Try.prog.cellsOf 2 = 1 := by kernel_rfl
theorem stLit (a y : Nat) (ha : a < 64) (hy : y < 64) : ∃ l, keyOf Try.prog 63 (stV a y) = some l := by
  obtain ⟨m, hm⟩ := stTypes
  have h1 := wf_nat ha
  have h2 := wf_nat hy
  have hf : (stV a y).formed Try.prog 63 = true := by simp [stV, Value.formed, Try.underlying63, stCells]
  refine ⟨.string (keyBytes [.int .i64 a, .int .i64 y]), ?_⟩
  unfold keyOf
  rw [Try.underlying63]
  simp only
  rw [stKT, hf, hm]
  simp [stV, Value.cells, Program.keyLits, Try.underlying63, Try.underlying2, stCells, i64Cells, h1, h2]

/-- the map's entries are right -/
def MapV (n : Nat) (val : Nat → Nat → Int) (D : DataW Unit) : Prop :=
  ∀ l, Maps.has D l = true → ∃ p q : Nat, Pl n p q ∧ keyOf Try.prog 63 (stV (p ||| q) p) = some l ∧ ∀ z, D.atKey l z = .lit (.int .i64 (val p q))
def MapI (n : Nat) (val : Nat → Nat → Int) (b : Nat) (w : World) : Prop :=
  ∃ (k : Nat) (D : DataW Unit), w.ownsMap Try.prog 63 (plainElem Try.prog 2) b k D ∧ MapV n val D
theorem MapI.lt {n : Nat} {val : Nat → Nat → Int} {b : Nat} {w : World} (h : MapI n val b w) : b < w.heap.size := by
  obtain ⟨k, D, h, -⟩ := h
  exact h.lt
theorem MapI.grown {n : Nat} {val : Nat → Nat → Int} {b : Nat} {w w' : World} {row : Option Nat} (h : MapI n val b w) (hg : w.grownBy w' row) (hne : some b ≠ row) : MapI n val b w' := by
  obtain ⟨k, D, h, hv⟩ := h
  exact ⟨k, D, h.kept hg hne, hv⟩
theorem MapI.below {n : Nat} {val : Nat → Nat → Int} {b : Nat} {w w' : World} (h : MapI n val b w) (hb : Below w.heap.size w w') : MapI n val b w' :=
  h.grown (grown_below hb none) (by simp)
theorem MapI.made (n : Nat) (val : Nat → Nat → Int) (w : World) : MapI n val w.heap.size (w.alloc (.map #[] 0)) :=
  ⟨0, _, World.ownsMap_made _ _ _ _, fun l h => by cases h⟩
theorem pl_eq {n p q p' q' : Nat} (h : Pl n p q) (h' : Pl n p' q') (e : stV (p ||| q) p = stV (p' ||| q') p') : p = p' ∧ q = q' := by
  unfold stV at e
  injection e with e
  have e1 := congrArg Array.toList e
  simp only at e1
  injection e1 with e2 e3
  injection e3 with e3 _
  injection e2 with _ e2
  injection e3 with _ e3
  have hp : p = p' := by omega
  subst hp
  refine ⟨rfl, ?_⟩
  have e2 : p ||| q = p ||| q' := by omega
  apply Nat.eq_of_testBit_eq
  intro i
  have a1 := congrArg (fun m : Nat => m.testBit i) e2
  have a2 := congrArg (fun m : Nat => m.testBit i) h.d
  have a3 := congrArg (fun m : Nat => m.testBit i) h'.d
  simp only [Nat.testBit_or, Nat.testBit_and, Nat.zero_testBit] at a1 a2 a3
  cases ha : p.testBit i <;> cases hb : q.testBit i <;> cases hc : q'.testBit i <;> simp_all
/-- at most 4096 entries -/
theorem sub_len {α : Type} : ∀ (l L : List α), l.Nodup → (∀ x ∈ l, x ∈ L) → l.length ≤ L.length
  | [], L, _, _ => Nat.zero_le _
  | a :: r, L, hn, hs => by
    rw [List.nodup_cons] at hn
    obtain ⟨s, t, rfl⟩ := List.append_of_mem (hs a List.mem_cons_self)
    have := sub_len r (s ++ t) hn.2 (fun x hx => by
      have h1 := hs x (List.mem_cons_of_mem _ hx)
      rw [List.mem_append, List.mem_cons] at h1
      rw [List.mem_append]
      rcases h1 with h1 | rfl | h1
      · exact .inl h1
      · exact absurd hx hn.1
      · exact .inr h1)
    simp only [List.length_append, List.length_cons] at this ⊢
    omega
noncomputable def keysAll : List (Option Lit) := ((List.range 64).map fun a => (List.range 64).map fun y => keyOf Try.prog 63 (stV a y)).flatten
theorem keysAll_len : keysAll.length = 4096 := by
  unfold keysAll
  rw [List.length_flatten, List.map_map]
  have : (List.map (List.length ∘ fun a => (List.range 64).map fun y => keyOf Try.prog 63 (stV a y)) (List.range 64)) = (List.range 64).map fun _ => 64 := by
    refine List.map_congr_left (fun a _ => ?_)
    simp
  rw [this]; rfl
theorem keysAll_mem {a y : Nat} (ha : a < 64) (hy : y < 64) : keyOf Try.prog 63 (stV a y) ∈ keysAll := by
  unfold keysAll
  rw [List.mem_flatten]
  exact ⟨_, List.mem_map.2 ⟨a, List.mem_range.2 ha, rfl⟩, List.mem_map.2 ⟨y, List.mem_range.2 hy, rfl⟩⟩
theorem own_key {w : World} {b k : Nat} {D : DataW Unit} (ho : w.ownsMap Try.prog 63 (plainElem Try.prog 2) b k D) {es : List (Lit × DataW Unit)} (hD : D = .map es) : ∀ e ∈ es, ∃ v, keyOf Try.prog 63 v = some e.1 := by
  intro e he
  obtain ⟨es', clock, hb, F, hs, hD'⟩ := ho
  rw [hD] at hD'
  injection hD' with hD'
  rw [hD'] at he
  have h1 := (WideShapes.sorted_perm (es'.toList.map (Go.WideElems.rg Try.prog 63 (plainElem Try.prog 2)))).mem_iff.1 he
  obtain ⟨x, hx, rfl⟩ := List.mem_map.1 h1
  obtain ⟨y, hy⟩ := F.reads x hx
  exact ⟨x.key, by rw [Go.WideElems.rg_of hy]; exact Go.WideElems.rd_key hy⟩
theorem mapV_size {n : Nat} (hn : n ≤ 6) {val : Nat → Nat → Int} {w : World} {b k : Nat} {D : DataW Unit} (ho : w.ownsMap Try.prog 63 (plainElem Try.prog 2) b k D) (hv : MapV n val D) : w.ownsMap Try.prog 63 (plainElem Try.prog 2) b 4096 D := by
  obtain ⟨es, hD, hp⟩ := ho.tidy stKeyed
  have hlen : es.length ≤ 4096 := by
    have h1 : (es.map fun e => some e.1).Nodup := by
      rw [List.nodup_iff_pairwise_ne, List.pairwise_map]
      exact hp.imp (fun h e => h (by injection e))
    have h2 := sub_len _ keysAll h1 (fun x hx => by
      obtain ⟨e, he, rfl⟩ := List.mem_map.1 hx
      have hk : Maps.has D e.1 = true := by
        rw [hD, Maps.has_eq, List.any_eq_true]
        obtain ⟨v, hv⟩ := own_key ho hD e he
        exact ⟨e, he, WideAt.sameKey_self (stKeyed.key hv)⟩
      obtain ⟨p, q, hpq, hk2, -⟩ := hv _ hk
      rw [← hk2]
      have := hpq.lt hn
      exact keysAll_mem (or_lt64 this.1 this.2) this.1)
    rw [List.length_map, keysAll_len] at h2
    exact h2
  obtain ⟨es', clock, hb, F, hs, hD'⟩ := ho
  refine ⟨es', clock, hb, F, ?_, hD'⟩
  rw [hD] at hD'
  injection hD' with hD'
  rw [hD', Go.length_sorted] at hlen
  simpa using hlen
end Go.Proofs.Ytpcjbdkdpcgdiaa.H
