/- The laws' eqPairS, markPairS, heldPairS. -/
import Derived.Test.YtllmbbaffhpheaaPair
import Derived.Test.YtllmbbaffhpheaaLawC
namespace Go.Proofs.Ytllmbbaffhpheaa.H
open Go.RowKit Go.Proofs.YtllmbbaffhpheaaW.PrintWords Go.Proofs.YtllmbbaffhpheaaW.PrintLast Go.Proofs.YtllmbbaffhpheaaW.PrintMore
set_option linter.unusedVariables false
set_option linter.unusedSimpArgs false

set_option maxRecDepth 100000 in
set_option maxHeartbeats 1000000 in
theorem eqPairS (u v : Value) (ps : List (Int × Int)) (w : World) (hu : ReadP w u ps) (hv : ReadP w v ps) :
    Calls Try.prog 33 #[u, v] w fun e w' => e = .returned (.bool true) ∧ Below w.heap.size w w' := by
  have HU := Aside0.mk hu
  have HV := Aside0.mk hv
  obtain ⟨A, c, rfl, hl, -⟩ := id hu
  obtain ⟨A', c', rfl, -⟩ := id hv
  clear hu hv
  go_enter Try.func33, Try.ntmps33
  go_wp2
  go_loopw [5] (fun s wr => ∃ i : Nat, s = .int .i64 i ∧ i ≤ ps.length ∧ Aside0 (Below w.heap.size w wr)) (fun s _ => ps.length - (intOf s).toNat)
  case atStart => exact ⟨0, rfl, Nat.zero_le _, ⟨Below.refl _ _⟩⟩
  case round =>
    obtain ⟨i, rfl, hi, HB⟩ := hrel
    by_cases hlt : i < ps.length
    · obtain ⟨g, x, y, e1, hxy, hc0, hc1⟩ := ReadP.get (HU.out.below HB.out) hlt
      cases e1
      obtain ⟨g', x', y', e1, hxy', hc0', hc1'⟩ := ReadP.get (HV.out.below HB.out) hlt
      cases e1
      rw [hxy] at hxy'
      cases hxy'
      have hiI : (i : Int) < (ps.length : Int) := by omega
      have x0 : ∀ z : Ext wr, z.1.cell? ⟨g, i * 2, none⟩ = some (.int .i64 x) := fun z => Ext.cell hc0 z
      have x1 : ∀ z : Ext wr, z.1.cell? ⟨g, i * 2 + 1, none⟩ = some (.int .i64 y) := fun z => Ext.cell hc1 z
      have x2 : ∀ z : Ext wr, z.1.cell? ⟨g', i * 2, none⟩ = some (.int .i64 x) := fun z => Ext.cell hc0' z
      have x3 : ∀ z : Ext wr, z.1.cell? ⟨g', i * 2 + 1, none⟩ = some (.int .i64 y) := fun z => Ext.cell hc1' z
      have HI : Aside0 (∀ z : Ext wr, Calls Try.prog 73 #[.agg #[.int .i64 x, .int .i64 y], .agg #[.int .i64 x, .int .i64 y]] z.1 fun e w' => e = .returned (.bool true) ∧ Below z.1.heap.size z.1 w') := ⟨fun z => by have := eqPair x y x y z.1; simpa using this⟩
      clear hc0 hc1 hc0' hc1' hxy
      go_wp2
      refine wp_region_ext (by kernel_rfl) (by kernel_rfl) ?_
      repeat (go_big_quiet_step ((first | (go_at_call 73; exact Calls.ext_of (HI.out _)))))
      refine wpQuiet_nil ?_
      rintro _ ⟨z, rfl⟩
      have hbz := z.2
      go_wp2
      go_roundw
      case rel => exact ⟨i + 1, by go_num, by omega, ⟨HB.out.trans (hbz.mono HB.out.size)⟩⟩
      case measure => simp [intOf]; omega
    · go_wp2
      go_ret
      exact ⟨rfl, HB.out⟩

/-- a row of pairs by its cells -/
def RowP (b : Nat) (w : World) (v : Value) (n : Nat) (xs : List Int) : Prop := w.ownsRow b 76 2 v n (xs.map (Value.int .i64))
section
variable {P : Program} {ops : Array Oper} {rest : List Oper} {o : Oper} {a : Act} {Q : Exit → Act → World → Prop}
theorem store_row {W : World} {b g n cap : Nat} {xs : List Int} (hgd : o.guard = none) {p : Tmp} {v : Operand} (ho : o.op = .store 2 (.tmp p) v) (hN : o.dst = none)
    (i : Nat) (x : Int) (HO : RowP b W (.slice (some ⟨g, 0, none⟩) n cap) n xs) (hi : i < xs.length) (hp : a.eval (.tmp p) = .pointer (some ⟨g, i, none⟩)) (hv : a.eval v = .int .i64 x)
    (h : ∀ w', RowP b w' (.slice (some ⟨g, 0, none⟩) n cap) n (xs.set i x) → W.grownBy w' (some g) → Below b W w' → wpList Try.prog ops Q rest a w') : wpList Try.prog ops Q (o :: rest) a W := by
  have hc : W.cell? ⟨g, i, none⟩ = some (.int .i64 xs[i]) ∧ W.frozen? ⟨g, i, none⟩ = false := by
    constructor
    · have hc := World.ownsRow.cells HO (g := g) rfl i (.int .i64 xs[i]) (by rw [List.getElem?_map, List.getElem?_eq_getElem hi]; rfl)
      rwa [add_plain] at hc
    · rcases HO.2 with ⟨h', _⟩ | ⟨g', cap', cur, h', _, hh, _⟩
      · cases h'
      · have : g = g' := by injection h' with h'; injection h' with h'; injection h' with h'
        subst this
        simp [World.frozen?, hh]
  have hs := World.ownsRow.stored HO i (.int .i64 x)
  have he : (xs.map (Value.int .i64)).set i (.int .i64 x) = (xs.set i x).map (Value.int .i64) := by simp [List.map_set]
  rw [he] at hs
  refine store_event (w1 := W.setCell ⟨g, i, none⟩ (.int .i64 x)) hgd ho hN ?_ (fun w' e => h w' ?_ ?_ ?_)
  · obtain ⟨h1, h2⟩ := hc
    generalize a.eval = ρ at hp hv ⊢
    simp [execOp, ho, hp, hv, go_sem, h1, h2]
  · rw [e]; exact hs.1
  · rw [e]; exact hs.2
  · rw [e]; exact Below.setCell (Below.refl _ _) (own_base HO g (by simp [Value.ownBlock])) _
end

set_option maxRecDepth 100000 in
set_option maxHeartbeats 2000000 in
theorem markPairS (b : Nat) (v : Value) (ps : List (Int × Int)) (k : Nat) (w : World) (ho : OwnP b w v ps) (hk : k ≤ 1073741824) (hl : ps.length ≤ 1073741824) :
    Calls Try.prog 34 #[v, .int .i64 k] w fun e w' => e = .returned (.int .i64 ((k : Int) + (ps.length * 2 : Nat))) ∧ RowP b w' v ps.length (marks k (ps.length * 2)) ∧ w.grownBy w' v.ownBlock ∧ Below b w w' := by
  have HO : Aside0 (RowP b w v ps.length (flat ps)) := ⟨ho⟩
  have hfl := flat_len ps
  obtain ⟨xs, hxs⟩ : ∃ xs, xs = flat ps := ⟨_, rfl⟩
  rw [← hxs] at HO hfl
  obtain ⟨A, c, rfl, -⟩ := ho.read
  clear ho hxs
  obtain ⟨n, hn⟩ : ∃ n, n = ps.length := ⟨_, rfl⟩
  rw [← hn] at HO hfl hl ⊢
  clear hn
  go_enter Try.func34, Try.ntmps34
  go_wp2
  go_loopw [1, 5] (fun vk vi wr => ∃ i : Nat, vi = .int .i64 i ∧ vk = .int .i64 ((k : Int) + (i * 2 : Nat)) ∧ i ≤ n ∧ Aside0 (RowP b wr (.slice A n c) n (marks k (i * 2) ++ xs.drop (i * 2))) ∧ Aside0 (w.grownBy wr (Value.slice A n c).ownBlock) ∧ Aside0 (Below b w wr)) (fun _ vi _ => n - (intOf vi).toNat)
  case atStart => exact ⟨0, rfl, by simp, Nat.zero_le _, by simpa [marks] using HO, ⟨⟨rfl, rfl, rfl, Nat.le_refl _, fun _ _ _ => rfl⟩⟩, ⟨Below.refl _ _⟩⟩
  case round =>
    obtain ⟨i, rfl, rfl, hi, HI, HG, HB⟩ := hrel
    by_cases hlt : i < n
    · obtain ⟨g, cap, e2⟩ : ∃ g cap, Value.slice A n c = .slice (some ⟨g, 0, none⟩) n cap := by
        rcases HI.out.2 with ⟨_, h0⟩ | ⟨g, cap, cur, e, _⟩
        · omega
        · exact ⟨g, cap, e⟩
      cases e2
      obtain ⟨wo, rfl⟩ : ∃ wo, wo = wr := ⟨_, rfl⟩
      go_wp2
      go_loopw [1, 6] (fun vk vj wr => ∃ j : Nat, vj = .int .i64 j ∧ vk = .int .i64 ((k : Int) + (i * 2 + j : Nat)) ∧ j ≤ 2 ∧ Aside0 (RowP b wr (.slice (some ⟨g, 0, none⟩) n c) n (marks k (i * 2 + j) ++ xs.drop (i * 2 + j))) ∧ Aside0 (w.grownBy wr (Value.slice (some ⟨g, 0, none⟩) n c).ownBlock) ∧ Aside0 (Below b w wr)) (fun _ vj _ => 2 - (intOf vj).toNat)
      case atStart => exact ⟨0, rfl, by simp, by decide, HI, HG, HB⟩
      case round =>
        obtain ⟨j, rfl, rfl, hj, HJ, HG2, HB2⟩ := hrel
        by_cases hlt2 : j < 2
        · have el : (marks (k : Int) (i * 2 + j) ++ xs.drop (i * 2 + j)).length = n * 2 := by rw [List.length_append, marks_len, List.length_drop]; omega
          have HM := Aside0.mk (marks_set (k := (k : Int)) (xs := xs) (i := i * 2 + j) (by omega))
          have hjI : (j : Int) < 2 := by omega
          have hiI : (i : Int) < (n : Int) := by omega
          go_wp2_with (first | ((with_reducible refine gate_store (t := 2) (p := 22) rfl ?_); refine store_row (W := wr) rfl (p := 22) rfl rfl (i * 2 + j) ((k : Int) + (i * 2 + j : Nat)) HJ.out ?ha ?hb ?hc ?_; (case ha => omega); (case hb => rfl); (case hc => rfl); intro w' ho hg hb; have HO2 := Aside0.mk ho; have HB3 := Aside0.mk (HB2.out.trans hb); have HG3 := Aside0.mk (grown_trans HG2.out hg); clear ho hg hb))
          go_roundw
          case rel => exact ⟨j + 1, by go_num, by rw [show i * 2 + (j + 1) = i * 2 + j + 1 by omega]; go_num, by omega, ⟨by rw [show i * 2 + (j + 1) = i * 2 + j + 1 by omega, ← HM.out]; exact HO2.out⟩, HG3, HB3⟩
          case measure => simp [intOf]; omega
        · have e : j = 2 := by omega
          subst e
          go_wp2
          go_roundw
          case rel => exact ⟨i + 1, by go_num, by rw [show (i + 1) * 2 = i * 2 + 2 by omega], by omega, by rw [show (i + 1) * 2 = i * 2 + 2 by omega]; exact HJ, HG2, HB2⟩
          case measure => simp [intOf]; omega
    · have e : i = n := by omega
      have HE := Aside0.mk e
      clear e
      go_wp2
      go_ret
      exact ⟨by rw [HE.out]; rfl, by have := HI.out; rw [HE.out, List.drop_eq_nil_of_le (by omega), List.append_nil] at this; exact this, HG.out, HB.out⟩

set_option maxRecDepth 100000 in
set_option maxHeartbeats 2000000 in
theorem heldPairS (b : Nat) (v : Value) (k n : Nat) (w : World) (ho : RowP b w v n (marks k (n * 2))) (hk : k ≤ 1073741824) (hl : n ≤ 1073741824) :
    Calls Try.prog 35 #[v, .int .i64 k] w fun e w' => e = .returned (.int .i64 ((k : Int) + (n * 2 : Nat))) ∧ Below w.heap.size w w' := by
  have hrd : ∃ A c, v = .slice A n c ∧ (0 < n → ∃ g, A = some ⟨g, 0, none⟩ ∧ ∀ m, m < n * 2 → w.cell? ⟨g, m, none⟩ = some (.int .i64 ((k : Int) + m))) := by
    rcases ho.2 with ⟨rfl, rfl⟩ | ⟨g, cap, cur, rfl, hb, hg, hnc, hcm, hcs, ht⟩
    · exact ⟨_, _, rfl, fun h => absurd h (by decide)⟩
    · refine ⟨_, _, rfl, fun _ => ⟨g, rfl, fun m hm => ?_⟩⟩
      have hc := World.ownsRow.cells ho (g := g) rfl m (.int .i64 ((k : Int) + m)) (by
        have h1 := marks_at (k : Int) hm
        rw [List.getD_eq_getElem?_getD] at h1
        rw [List.getElem?_map]
        have h2 : m < (marks (k : Int) (n * 2)).length := by rw [marks_len]; exact hm
        rw [List.getElem?_eq_getElem h2] at h1 ⊢
        rw [Option.getD_some] at h1
        rw [h1]; rfl)
      rwa [add_plain] at hc
  obtain ⟨A, c, rfl, hr⟩ := hrd
  have HR := Aside0.mk hr
  clear ho hr
  go_enter Try.func35, Try.ntmps35
  go_wp2
  go_loopw [1, 5] (fun vk vi wr => ∃ i : Nat, vi = .int .i64 i ∧ vk = .int .i64 ((k : Int) + (i * 2 : Nat)) ∧ i ≤ n ∧ wr = w) (fun _ vi _ => n - (intOf vi).toNat)
  case atStart => exact ⟨0, rfl, by simp, Nat.zero_le _, rfl⟩
  case round =>
    obtain ⟨i, rfl, rfl, hi, rfl⟩ := hrel
    by_cases hlt : i < n
    · obtain ⟨g, rfl, hcell⟩ := HR.out (by omega)
      have HC := Aside0.mk hcell
      clear hcell
      obtain ⟨wo, hwo⟩ : ∃ wo, wo = wr := ⟨_, rfl⟩
      subst hwo
      go_wp2
      go_loopw [1, 6] (fun vk vj wr => ∃ j : Nat, vj = .int .i64 j ∧ vk = .int .i64 ((k : Int) + (i * 2 + j : Nat)) ∧ j ≤ 2 ∧ wr = wo) (fun _ vj _ => 2 - (intOf vj).toNat)
      case atStart => exact ⟨0, rfl, by simp, by decide, rfl⟩
      case round =>
        obtain ⟨j, rfl, rfl, hj, rfl⟩ := hrel
        by_cases hlt2 : j < 2
        · have hcell := HC.out (i * 2 + j) (by omega)
          have hjI : (j : Int) < 2 := by omega
          have hiI : (i : Int) < (n : Int) := by omega
          go_wp2
          go_roundw
          case rel => exact ⟨j + 1, by go_num, by rw [show i * 2 + (j + 1) = i * 2 + j + 1 by omega]; go_num, by omega, trivial⟩
          case measure => simp [intOf]; omega
        · have e : j = 2 := by omega
          subst e
          go_wp2
          go_roundw
          case rel => exact ⟨i + 1, by go_num, by rw [show (i + 1) * 2 = i * 2 + 2 by omega], by omega, trivial⟩
          case measure => simp [intOf]; omega
    · have e : i = n := by omega
      have HE := Aside0.mk e
      clear e
      go_wp2
      go_ret
      exact ⟨by rw [HE.out]; rfl, Below.refl _ _⟩

theorem Aside0.ownP {b : Nat} {w w' : World} {v : Value} {ps : List (Int × Int)} (h : Aside0 (OwnP b w v ps)) (hb : Below w.heap.size w w') : Aside0 (OwnP b w' v ps) := ⟨OwnP.below h.out hb⟩
theorem Aside0.rowP {b n : Nat} {w w' : World} {v : Value} {xs : List Int} (h : Aside0 (RowP b w v n xs)) (hb : Below w.heap.size w w') : Aside0 (RowP b w' v n xs) := ⟨own_move h.out (fun k hk => hb.block k (own_lt h.out k hk))⟩
theorem own_grownP {W W' : World} {v u : Value} {b lo hi lo' hi' : Nat} {ps : List (Int × Int)} (hg : W.grownBy W' v.ownBlock) (hr : ∀ k, v.ownBlock = some k → lo ≤ k ∧ k < hi) (hr' : ∀ k, u.ownBlock = some k → lo' ≤ k ∧ k < hi') (hn : hi' ≤ lo ∨ hi ≤ lo') (ho : OwnP b W u ps) : OwnP b W' u ps :=
  ho.grown hg (fun k hk e => by have h1 := hr _ e.symm; have h2 := hr' _ hk; omega)
end Go.Proofs.Ytllmbbaffhpheaa.H
