/- The laying of slices.SortFunc at pairs (printed by a tool of the kit at this dump). slices.SortFunc at pairs. PairingByFibres of the program. OpenFibre of the reference. A region of open order whose last operations come one behind the other. append(v, p) as one operation of a region of open order. -/
import Derived.Shelf.SlGeneric
import Derived.Shelf.SlLaysF0
import Derived.Ground.SlsfProg
import Derived.Test.YtcbkchnfjeegmaaProg
import Derived.Shelf.SlSortCmp.NoneTotal
import Derived.Deep.AppendLies
import Derived.Test.YtcbkchnfjeegmaaKFnExactPairingByFibres1
import Derived.Test.YtcbkchnfjeegmaaKFnExactPairingByFibres2
import Derived.Test.YtcbkchnfjeegmaaKFnExactPairingByFibres3
import Derived.Test.YtcbkchnfjeegmaaKFnExactPairingByFibres4
import Derived.Test.YtcbkchnfjeegmaaKFnExactPairingByFibres5

namespace Go.Proofs
open Go.Shelf
def Try.sortPairs_ren : Go.Shelf.Ren := ⟨fun | 6 => 91 | 15 => 152 | 14 => 151 | 28 => 195 | 29 => 196 | 20 => 187 | 21 => 188 | 22 => 189 | 23 => 190 | 24 => 191 | 25 => 192 | 26 => 193 | 27 => 194 | 46 => 210 | 47 => 211 | 48 => 212 | 49 => 213 | 50 => 214 | 57 => 231 | n => n, fun | 22 => 43 | 24 => 83 | 25 => 103 | 3 => 3 | 39 => 136 | 0 => 0 | 53 => 168 | 55 => 66 | 4 => 4 | 46 => 162 | 45 => 161 | 50 => 150 | 5 => 5 | 9 => 9 | 66 => 175 | 70 => 179 | 76 => 191 | 77 => 192 | n => n, fun | n => n⟩
theorem Try.sortPairs : Go.Proofs.SlLaysF0.n6 Try.prog Try.sortPairs_ren := {
  mixed := by kernel_rfl
  f6 := ⟨Try.f91.name, by decide, Try.func91.trans (congrArg some (by kernel_rfl))⟩
  f14 := ⟨Try.f151.name, by decide, Try.func151.trans (congrArg some (by kernel_rfl))⟩
  f15 := Try.func152.trans (congrArg some (by kernel_rfl))
  f20 := ⟨Try.f187.name, by decide, Try.func187.trans (congrArg some (by kernel_rfl))⟩
  f21 := ⟨Try.f188.name, by decide, Try.func188.trans (congrArg some (by kernel_rfl))⟩
  f22 := ⟨Try.f189.name, by decide, Try.func189.trans (congrArg some (by kernel_rfl))⟩
  f23 := ⟨Try.f190.name, by decide, Try.func190.trans (congrArg some (by kernel_rfl))⟩
  f24 := ⟨Try.f191.name, by decide, Try.func191.trans (congrArg some (by kernel_rfl))⟩
  f25 := ⟨Try.f192.name, by decide, Try.func192.trans (congrArg some (by kernel_rfl))⟩
  f26 := ⟨Try.f193.name, by decide, Try.func193.trans (congrArg some (by kernel_rfl))⟩
  f27 := ⟨Try.f194.name, by decide, Try.func194.trans (congrArg some (by kernel_rfl))⟩
  f28 := Try.func195.trans (congrArg some (by kernel_rfl))
  f29 := Try.func196.trans (congrArg some (by kernel_rfl))
  f46 := ⟨Try.f210.name, by decide, Try.func210.trans (congrArg some (by kernel_rfl))⟩
  f47 := Try.func211.trans (congrArg some (by kernel_rfl))
  f48 := Try.func212.trans (congrArg some (by kernel_rfl))
  f49 := ⟨Try.f213.name, by decide, Try.func213.trans (congrArg some (by kernel_rfl))⟩
  f50 := ⟨Try.f214.name, by decide, Try.func214.trans (congrArg some (by kernel_rfl))⟩
  f57 := ⟨Try.f231.name, by decide, Try.func231.trans (congrArg some (by kernel_rfl))⟩
  t0 := Try.underlying0
  a0 := Try.isAgg0
  z0 := Try.sizeOf0
  v0 := Try.zeroValue0
  t3 := Try.underlying3
  a3 := Try.isAgg3
  z3 := Try.sizeOf3
  v3 := Try.zeroValue3
  t4 := Try.underlying4
  a4 := Try.isAgg4
  z4 := Try.sizeOf4
  v4 := Try.zeroValue4
  t5 := Try.underlying5
  a5 := Try.isAgg5
  z5 := Try.sizeOf5
  v5 := Try.zeroValue5
  t9 := Try.underlying9
  a9 := Try.isAgg9
  z9 := Try.sizeOf9
  v9 := Try.zeroValue9
  t22 := Try.underlying43
  a22 := Try.isAgg43
  z22 := Try.sizeOf43
  v22 := Try.zeroValue43
  t25 := Try.underlying103
  a25 := Try.isAgg103
  z25 := Try.sizeOf103
  v25 := Try.zeroValue103
  t39 := Try.underlying136
  a39 := Try.isAgg136
  z39 := Try.sizeOf136
  v39 := Try.zeroValue136
  t45 := Try.underlying161
  a45 := Try.isAgg161
  z45 := Try.sizeOf161
  v45 := Try.zeroValue161
  t46 := Try.underlying162
  a46 := Try.isAgg162
  z46 := Try.sizeOf162
  v46 := Try.zeroValue162
  t50 := Try.underlying150
  a50 := Try.isAgg150
  z50 := Try.sizeOf150
  v50 := Try.zeroValue150
  t53 := Try.underlying168
  a53 := Try.isAgg168
  z53 := Try.sizeOf168
  v53 := Try.zeroValue168
  t55 := Try.underlying66
  a55 := Try.isAgg66
  z55 := Try.sizeOf66
  v55 := Try.zeroValue66
  t66 := Try.underlying175
  a66 := Try.isAgg175
  z66 := Try.sizeOf175
  v66 := Try.zeroValue175
  t70 := Try.underlying179
  a70 := Try.isAgg179
  z70 := Try.sizeOf179
  v70 := Try.zeroValue179
  t76 := Try.underlying191
  a76 := Try.isAgg191
  z76 := Try.sizeOf191
  v76 := Try.zeroValue191
  t77 := Try.underlying192
  a77 := Try.isAgg192
  z77 := Try.sizeOf192
  v77 := Try.zeroValue192 }
end Go.Proofs

namespace Go.Proofs.Ytcbkchnfjeegmaa.H
open Go.RowKit Go.Sort Go.Proofs.YtcbkchnfjeegmaaW.PrintWords Go.Proofs.YtcbkchnfjeegmaaW.PrintLast Go.Proofs.YtcbkchnfjeegmaaW.PrintMore
set_option linter.unusedVariables false
set_option linter.unusedSimpArgs false

def cfP (p q : Int × Int) : Int := cmpP p.1 p.2 q.1 q.2
theorem ltP (p q : Int × Int) : ltOf cfP p q = decide (p.1 < q.1 ∨ (p.1 = q.1 ∧ p.2 < q.2)) := by
  unfold ltOf cfP cmpP cmpI
  rw [Bool.eq_iff_iff, decide_eq_true_eq, decide_eq_true_eq]
  split <;> split <;> (try split) <;> omega
theorem swoP : SWO (ltOf cfP) where
  irrefl x := by rw [ltP]; simp
  trans x y z h1 h2 := by rw [ltP] at *; simp only [decide_eq_true_eq] at *; omega
  ntrans x y z h1 h2 := by rw [ltP] at *; simp only [decide_eq_false_iff_not] at *; omega
theorem totP (x y : Int × Int) (h1 : ltOf cfP x y = false) (h2 : ltOf cfP y x = false) : x = y := by
  rw [ltP] at *
  simp only [decide_eq_false_iff_not] at *
  exact Prod.ext (by omega) (by omega)
/-- pairs in order -/
def sortL (ps : List (Int × Int)) : List (Int × Int) := ps.mergeSort fun x y => !(ltOf cfP) y x
theorem sort_eq {ps qs : List (Int × Int)} (hp : qs.Perm ps) (hq : qs.Pairwise fun p q => p.1 < q.1) : sortL ps = qs := by
  unfold sortL
  have hle : ∀ a b : Int × Int, ((!(ltOf cfP) b a) = true) ↔ (a.1 < b.1 ∨ (a.1 = b.1 ∧ a.2 ≤ b.2)) := fun a b => by
    rw [ltP]
    simp only [Bool.not_eq_true', decide_eq_false_iff_not]
    omega
  refine List.Perm.eq_of_pairwise (le := fun x y => (!(ltOf cfP) y x) = true) ?_ ?_ ?_ ((List.mergeSort_perm _ _).trans hp.symm)
  · intro a b _ _ h1 h2
    rw [hle] at h1 h2
    exact Prod.ext (by omega) (by omega)
  · exact List.pairwise_mergeSort (fun a b c h1 h2 => by rw [hle] at *; omega) (fun a b => by
      rw [Bool.or_eq_true, hle, hle]; omega) _
  · exact hq.imp (fun h => (hle _ _).2 (.inl h))

set_option maxRecDepth 100000 in
set_option maxHeartbeats 2000000 in
theorem sortPairs (base : Nat) (w : World) (v : Value) (ps : List (Int × Int)) (ho : OwnP base w v ps) (hl : ps.length ≤ 1000000) :
    Calls Try.prog 91 #[v, .func (.func 92) #[] #[]] w fun e w' => e = .returned (.tuple #[]) ∧ OwnP base w' v (sortL ps) ∧ Below base w w' := by
  have hown := ho
  obtain ⟨hl2, ⟨rfl, h0⟩ | ⟨g, cap, cur, rfl, -⟩⟩ := ho
  · have hp : ps = [] := List.length_eq_zero_iff.1 h0
    subst hp
    exact (AnyF.slices_SortFunc_none Try.sortPairs none 0 _ w).mono fun _ _ ⟨he, hw⟩ => ⟨he, by rw [hw, show sortL [] = [] by unfold sortL; simp]; exact OwnP.nil _ _, by rw [hw]; exact Below.refl _ _⟩
  · obtain ⟨hh, hlt, hbs⟩ := hown.holds
    have hcmp : CmpLays Try.prog 92 #[] encP 2 cfP g 0 ps.toArray.size w := fun m os dk _ x y => (comparePairsD x.1 x.2 y.1 y.2 _).mono fun _ _ ⟨he, hb⟩ => ⟨he, hb.grow⟩
    exact (AnyQ.slices_SortFunc_total Try.sortPairs 2 Try.isAgg83 Try.sizeOf83 encP (fun _ => rfl) (fun x v hv => by simp [encP] at hv; rcases hv with rfl | rfl <;> rfl) cfP swoP 92 #[] g 0 cap ps.toArray w (by have h : Enters 92 := (Enters.mk' Try.func92 rfl rfl); unfold Enters at h; exact h) hcmp hh hlt (by rw [List.size_toArray]; omega) totP).mono fun _ _ ⟨he, n, os, hw⟩ =>
      ⟨he, by rw [hw]; exact hown.sorted (by show (ps.mergeSort _).length = _; rw [List.length_mergeSort]) n os, by rw [hw]; exact below_sorted w hbs hlt n _ os⟩
end Go.Proofs.Ytcbkchnfjeegmaa.H

namespace Go.Proofs.Ytcbkchnfjeegmaa.H
open Go.RowKit Go.Proofs.YtcbkchnfjeegmaaW.PrintWords Go.Proofs.YtcbkchnfjeegmaaW.PrintLast Go.Proofs.YtcbkchnfjeegmaaW.PrintMore
set_option linter.unusedVariables false
set_option linter.unusedSimpArgs false

theorem infoP2 : (Try.prog.info? 83).map (fun i => (i.zero, i.size, i.bytes)) = some (some (.agg #[.int .i64 0, .int .i64 0]), 2, 16) := by kernel_rfl
theorem flat_app : ∀ (a b : List (Int × Int)), flat (a ++ b) = flat a ++ flat b
  | [], b => rfl
  | p :: r, b => by show p.1 :: p.2 :: flat (r ++ b) = _; rw [flat_app r b]; rfl
section
variable {ops : Array Oper} {rest : List Oper} {o : Oper} {a : Act} {Q : Exit → Act → World → Prop}
/-- append(v, u...) at pairs -/
theorem app_pairs {w0 W : World} (base : Nat) (hgd : o.guard = none) (s x : Operand) (ho : o.op = .call { callee := .builtin .append, args := #[s, x], argTypes := #[43, 43] })
    (v : Value) (ps : List (Int × Int)) (ad : Addr) (qs : List (Int × Int)) (m c : Nat) (hm : m = qs.length) (hs : a.eval s = v) (hx : a.eval x = .slice (some ad) m c)
    (HO : OwnP base W v ps) (HR : ReadP W (.slice (some ad) m c) qs) (hq : 0 < qs.length) (HB : Below base w0 W) (hbase : base ≤ W.heap.size) (hl : ps.length + qs.length ≤ 1000000)
    (h : ∀ v1 w1, OwnP base w1 v1 (ps ++ qs) → Below base w0 w1 → wpList Try.prog ops Q rest (a.put o.dst v1) w1) :
    wpList Try.prog ops Q (o :: rest) a W := by
  subst hm
  obtain ⟨i0, hi, hzz⟩ := Option.map_eq_some_iff.1 infoP2
  simp only [Prod.mk.injEq] at hzz
  obtain ⟨hz0, hz1, hz2⟩ := hzz
  obtain ⟨A, c', e, hle, hcell⟩ := HR
  obtain ⟨g, hA, hc⟩ := hcell hq
  cases e
  injection hA with hA
  subst hA
  refine wpList_append_own W hgd s x 43 ho base 83 i0 _ 2 16 Try.underlying43 hi hz0 hz1 hz2 rfl (by decide) v ps.length ((flat ps).map (Value.int .i64)) hs HO ⟨g, 0, none⟩ qs.length _ ((flat qs).map (Value.int .i64)) hx (by rw [List.length_map, flat_len]) (fun j u hj => ?_) (fun u hu => ?_) (by simp only [maxLen]; omega) (by omega) hbase ?_
  · rw [List.getElem?_map] at hj
    obtain ⟨y, hy, rfl⟩ := Option.map_eq_some_iff.1 hj
    rw [add_mk]
    exact hc j y hy
  · obtain ⟨y, -, rfl⟩ := List.mem_map.1 hu
    rfl
  · intro v1 w1 hown hg _
    refine h v1 w1 ?_ (HB.grown hg hbase (own_base HO))
    unfold OwnP
    rw [List.length_append, flat_app, List.map_append]
    exact hown
end
theorem pvs_len (F : List Int) (v : Nat) : (pvs F v).length ≤ F.length := byTo_len F v _
theorem fpv_len (F : List Int) : ∀ k v, (fpv F v k).length ≤ F.length
  | 0, v => by simp [fpv]
  | k + 1, v => by
    rw [fpv_succ]
    split
    · exact fpv_len F k (v + 1)
    · exact pvs_len F v
theorem all_len {xs f : List Int} {n : Nat} : ∀ ys : List Int, (allPv xs f n ys).length ≤ xs.length * ys.length
  | [] => by simp [allPv]
  | g :: r => by
    show ((g :: r).flatMap fun g => fpv (fibL xs f g) 0 n).length ≤ _
    rw [List.flatMap_cons, List.length_append, List.length_cons, Nat.mul_succ]
    have h1 := fpv_len (fibL xs f g) n 0
    have h2 : (fibL xs f g).length ≤ xs.length := List.length_filter_le _ _
    have h3 := all_len (xs := xs) (f := f) (n := n) r
    have h4 : (r.flatMap fun g => fpv (fibL xs f g) 0 n).length ≤ xs.length * r.length := h3
    omega

/-- what PairingByFibres answers -/
def ansPairingByFibres (a : Int) (xs : List Int) (b : Int) (ys f : List Int) : List (Int × Int) × Int :=
  if codeSimp a b xs ys [f] true = 0 then (tabOut xs (allPv xs f a.toNat ys), 0) else ([], codeSimp a b xs ys [f] true)

set_option maxRecDepth 100000 in
set_option maxHeartbeats 4000000 in
theorem implPairingByFibres (a : Int) (ku : Value) (xs : List Int) (b : Int) (lu : Value) (ys : List Int) (v : Value) (f : List Int) (w : World) (hk : ReadI w ku xs) (hl : ReadI w lu ys) (hv : ReadI w v f) :
    Calls Try.prog 45 #[cx a ku, cx b lu, v] w fun e w' => ∃ u, e = .returned (.tuple #[u, .int .i64 (ansPairingByFibres a xs b ys f).2]) ∧ OwnP w.heap.size w' u (ansPairingByFibres a xs b ys f).1 ∧ Below w.heap.size w w' := by
  obtain ⟨w1, hw1⟩ : ∃ w1, w1 = (w.alloc (.cells #[.int .i64 a, ku] 28)).alloc (.cells #[.int .i64 b, lu] 28) := ⟨_, rfl⟩
  obtain ⟨w2, hw2⟩ : ∃ w2, w2 = w1.alloc (.cells #[v] 22) := ⟨_, rfl⟩
  have hs1 : w1.heap.size = w.heap.size + 1 + 1 := by rw [hw1]; simp
  have hB1 : Below w.heap.size w w1 := by rw [hw1]; exact ((Below.refl _ w).alloc (Nat.le_refl _) _).alloc (by simp) _
  have hB2 : Below w1.heap.size w1 w2 := by rw [hw2]; exact Below.alloc (Below.refl _ _) (Nat.le_refl _) _
  have hB : Below w.heap.size w w2 := hB1.trans (hB2.mono hB1.size)
  have c0 : w2.cell? ⟨w.heap.size, 0, none⟩ = some (.int .i64 a) := pw_cell_below hB2 (by rw [hw1]; simp)
  have c1 : w2.cell? ⟨w.heap.size, 1, none⟩ = some ku := pw_cell_below hB2 (by rw [hw1]; simp)
  have c2 : w2.cell? ⟨w.heap.size + 1, 0, none⟩ = some (.int .i64 b) := pw_cell_below hB2 (by rw [hw1]; simp)
  have c3 : w2.cell? ⟨w.heap.size + 1, 1, none⟩ = some lu := pw_cell_below hB2 (by rw [hw1]; simp)
  have HK := Aside0.mk (fun W (h : Below w2.heap.size w2 W) => (hk.below hB).below h)
  have HL := Aside0.mk (fun W (h : Below w2.heap.size w2 W) => (hl.below hB).below h)
  have HV := Aside0.mk (fun W (h : Below w2.heap.size w2 W) => (hv.below hB).below h)
  have HS := Aside0.mk (ReadS.one' (hv.below hB1))
  rw [← hw2, hs1] at HS
  have HB := Aside0.mk hB
  have C0 := Aside0.mk (fun W (h : Below w2.heap.size w2 W) => pw_cell_below h c0)
  have C1 := Aside0.mk (fun W (h : Below w2.heap.size w2 W) => pw_cell_below h c1)
  have C3 := Aside0.mk (fun W (h : Below w2.heap.size w2 W) => pw_cell_below h c3)
  have hyl := hl.len
  obtain ⟨A1, d1, rfl, -⟩ := id hk
  obtain ⟨A2, d2, rfl, -⟩ := id hl
  obtain ⟨A3, d3, rfl, -⟩ := id hv
  have HM := Aside0.mk (simplicialCode a b _ _ xs ys _ _ true [f] w2 (HK.out _ (Below.refl _ _)) (HL.out _ (Below.refl _ _)) (fun _ _ => alwaysB w2) ⟨_, _, _, rfl⟩ HS.out)
  clear hk hl hv hB hB1 hB2 hs1
  subst hw1
  obtain ⟨q, hq⟩ : ∃ q, q = codeSimp a b xs ys [f] true := ⟨_, rfl⟩
  by_cases h0 : q = 0
  · have h0' := hq.symm.trans h0
    obtain ⟨n, m, rfl, rfl, hcn, hcm, hmp, -, -⟩ := codeSimp_zero' h0'
    have HA : Aside0 (ansPairingByFibres n xs m ys f = (tabOut xs (allPv xs f n ys), 0)) := ⟨by unfold ansPairingByFibres; rw [if_pos h0']; rfl⟩
    have hn6 := hcn.hi
    have HOF := Aside0.mk (fun g W (h : Below w2.heap.size w2 W) => openFibre n m _ xs _ f g W (HK.out W h) (HV.out W h) hcn hcm.hi (hmp f (by simp)))
    have HXD : Aside0 (∀ x ∈ xs, 0 ≤ x ∧ x ≤ 63) := ⟨fun x hx => by obtain ⟨z, h1, h2, h3⟩ := hcn.nat hx; omega⟩
    have HXL := Aside0.mk hcn.len
    have HYL := Aside0.mk hcm.len
    have HPERM := Aside0.mk (tab_perm (f := f) (n := n) hcn.asc hcm.asc)
    have HASC := Aside0.mk (tab_asc (allPv xs f n ys) hcn.asc)
    rw [← hq, h0] at HM
    clear hcn hcm hmp hq h0 h0'
    go_enter Try.func45, Try.ntmps45
    go_wp2_with (first | (go_at_call 88; rw [← hw2]; clear hw2; refine HM.out.mono ?_; rintro e w3 ⟨rfl, hb⟩; have c3 := C3.out _ hb; have HB3 := Aside0.mk hb; clear hb))
    go_loopw [9, 26] (fun s9 s26 wr => ∃ i : Nat, s26 = .int .i64 i ∧ i ≤ ys.length ∧ Aside0 (OwnP w2.heap.size wr s9 (allPv xs f n (ys.take i))) ∧ Aside0 (Below w2.heap.size w2 wr)) (fun _ s26 _ => ys.length - (intOf s26).toNat)
    case atStart => exact ⟨0, rfl, Nat.zero_le _, ⟨OwnP.nil _ _⟩, HB3⟩
    case round =>
      obtain ⟨i, rfl, hi, HO, HBr⟩ := hrel
      by_cases hlt : i < ys.length
      · obtain ⟨A_, c_, e_, -, hcc⟩ := HL.out _ HBr.out
        cases e_
        obtain ⟨ad, g, e1, hcell, HG⟩ := ReadI.get hcc hlt
        cases e1
        have c0 := C0.out _ HBr.out
        have c1 := C1.out _ HBr.out
        have HNX := Aside0.mk (allPv_next (xs := xs) (f := f) (n := n) hlt HG.out)
        clear hcc
        have HFD : Aside0 (∀ x ∈ fibL xs f g, 0 ≤ x ∧ x ≤ 63) := ⟨fun x hx => HXD.out x (List.mem_filter.1 hx).1⟩
        have HFL : Aside0 ((fibL xs f g).length ≤ 63) := ⟨Nat.le_trans (List.length_filter_le _ _) HXL.out⟩
        have HLL : Aside0 ((allPv xs f n (ys.take i)).length ≤ 3969) := ⟨by
          have h1 := all_len (xs := xs) (f := f) (n := n) (ys.take i)
          rw [List.length_take] at h1
          have h2 := HXL.out
          have h3 := HYL.out
          have h4 : xs.length * min i ys.length ≤ 63 * 63 := Nat.mul_le_mul h2 (by omega)
          omega⟩
        go_wp2_with (first | (go_at_call 89; refine (HOF.out g _ HBr.out).mono ?_; rintro e w4 ⟨u4, rfl, ho, hb⟩; obtain ⟨A4, d4, rfl, -⟩ := ho.read; have HO4 := Aside0.mk (ho.read : ReadI w4 _ (fibL xs f g)); have c0 := C0.out _ (HBr.out.trans (hb.mono HBr.out.size)); have HP4 := Aside0.mk (OwnP.below HO.out hb); have HB4 := Aside0.mk (HBr.out.trans (hb.mono HBr.out.size)); clear ho hb))
        go_loopw [9, 36] (fun s9 s36 wx => ∃ v : Nat, s36 = .int .i64 v ∧ v ≤ n ∧ s9 = u9 ∧ Aside0 (fpv (fibL xs f g) v (n - v) = fpv (fibL xs f g) 0 n) ∧ Aside0 (OwnP w2.heap.size wx u9 (allPv xs f n (ys.take i))) ∧ Aside0 (Below w4.heap.size w4 wx)) (fun _ s36 _ => n - (intOf s36).toNat)
        case atStart => exact ⟨0, rfl, Nat.zero_le _, rfl, ⟨rfl⟩, HP4, ⟨Below.refl _ _⟩⟩
        case round =>
          obtain ⟨v, rfl, hv, rfl, HF, HOx, HBx⟩ := hrel
          by_cases hvn : v < n
          · have hvI : (v : Int) < (n : Int) := by omega
            have HBY := Aside0.mk (byVertex _ (fibL xs f g) v (by omega) _ (HO4.out.below HBx.out) HFD.out HFL.out)
            obtain ⟨m9, hm9⟩ : ∃ m9, m9 = (pvs (fibL xs f g) v).length := ⟨_, rfl⟩
            have HM9 := Aside0.mk hm9
            have HMB : Aside0 (m9 ≤ 63) := ⟨by rw [hm9]; exact Nat.le_trans (pvs_len _ _) HFL.out⟩
            by_cases hz : m9 = 0
            · have HSK := Aside0.mk (fpv_skip (F := fibL xs f g) hvn (hm9.symm.trans hz))
              have hzI : ¬ (0 : Int) < (m9 : Int) := by omega
              clear hm9 hz
              go_wp2_with (first | (go_at_call 90; refine HBY.out.mono ?_; rintro e w5 ⟨u5, rfl, ho, hb⟩; obtain ⟨A5, d5, e5, -⟩ := id ho.read; change _ = Value.slice A5 (pvs (fibL xs f g) v).length d5 at e5; rw [← HM9.out] at e5; subst e5; have HO5 := Aside0.mk (ho : OwnP _ w5 _ (pvs (fibL xs f g) v)); have HP5 := Aside0.mk (OwnP.below HOx.out hb); have HB5 := Aside0.mk (HBx.out.trans (hb.mono HBx.out.size)); clear ho hb))
              go_roundw
              case rel => exact ⟨v + 1, by go_num, by omega, rfl, ⟨by rw [← HSK.out]; exact HF.out⟩, HP5, HB5⟩
              case measure => simp [intOf]; omega
            · have HHT := Aside0.mk (fpv_hit (F := fibL xs f g) hvn (fun h => hz (hm9.trans h)))
              have hzI : (0 : Int) < (m9 : Int) := by omega
              clear hm9 hz
              go_wp2_with (first | (go_at_call 90; refine HBY.out.mono ?_; rintro e w5 ⟨u5, rfl, ho, hb⟩; obtain ⟨A5, d5, e5, -⟩ := id ho.read; change _ = Value.slice A5 (pvs (fibL xs f g) v).length d5 at e5; rw [← HM9.out] at e5; subst e5; have HO5 := Aside0.mk (ho : OwnP _ w5 _ (pvs (fibL xs f g) v)); have HP5 := Aside0.mk (OwnP.below HOx.out hb); have HB5 := Aside0.mk (HBx.out.trans (hb.mono HBx.out.size)); clear ho hb; obtain ⟨ad5, rfl⟩ : ∃ ad, A5 = some ad := by (have h := HO5.out.read; obtain ⟨A, c, e, -, hh⟩ := h; obtain ⟨g8, e8, -⟩ := hh (by have h1 := HM9.out; show 0 < (pvs (fibL xs f g) v).length; omega); cases e; exact ⟨_, e8⟩)) | ((with_reducible refine gate_builtin (b := .append) (xs := #[.tmp 45, .tmp 46]) rfl ?_); refine app_pairs (w0 := w2) w2.heap.size rfl (.tmp 45) (.tmp 46) rfl u9 (allPv xs f n (ys.take i)) ad5 (pvs (fibL xs f g) v) m9 d5 HM9.out rfl rfl HP5.out HO5.out.read (by rw [← HM9.out]; omega) (HB4.out.trans (HB5.out.mono HB4.out.size)) (HB4.out.trans (HB5.out.mono HB4.out.size)).size (by have := HLL.out; have := HMB.out; rw [← HM9.out]; omega) ?_; intro v6 w6 ho6 hb6; have HO6 := Aside0.mk ho6; have HB6 := Aside0.mk hb6; clear ho6 hb6))
              go_roundw
              case rel => exact ⟨i + 1, by go_num, by omega, ⟨by rw [HNX.out, ← HF.out, HHT.out]; exact HO6.out⟩, HB6⟩
              case measure => simp [intOf]; omega
          · have e : v = n := by omega
            have HZ : Aside0 (fpv (fibL xs f g) 0 n = []) := ⟨by rw [← HF.out, e]; exact fpv_end _ _⟩
            clear e
            have hvI : ¬ (v : Int) < (n : Int) := by omega
            go_wp2
            go_roundw
            case rel => exact ⟨i + 1, by go_num, by omega, ⟨by rw [HNX.out, HZ.out, List.append_nil]; exact HOx.out⟩, ⟨HB4.out.trans (HBx.out.mono HB4.out.size)⟩⟩
            case measure => simp [intOf]; omega
      · have e : i = ys.length := by omega
        have HE : Aside0 (OwnP w2.heap.size wr u9 (allPv xs f n ys)) := ⟨by have h := HO.out; rw [e, List.take_length] at h; exact h⟩
        have HLL : Aside0 ((allPv xs f n ys).length ≤ 1000000) := ⟨by
          have h1 := all_len (xs := xs) (f := f) (n := n) ys
          have h2 := HXL.out
          have h3 := HYL.out
          have h4 : xs.length * ys.length ≤ 63 * 63 := Nat.mul_le_mul h2 h3
          omega⟩
        clear e
        go_wp2_with (first | (go_at_call 91; refine (sortPairs w2.heap.size _ _ (allPv xs f n ys) HE.out HLL.out).mono ?_; rintro e w7 ⟨rfl, ho, hb⟩; have HO7 := Aside0.mk (ho.lower HB.out.size); have HB7 := Aside0.mk (HBr.out.trans hb); clear ho hb))
        go_ret2
        exact ⟨_, by rw [HA.out]; rfl, by rw [HA.out]; have h := HO7.out; rw [sort_eq HPERM.out HASC.out] at h; exact h, HB.out.trans (HB7.out.mono HB.out.size)⟩
  · have HA : Aside0 (ansPairingByFibres a xs b ys f = ([], q)) := ⟨by unfold ansPairingByFibres; rw [← hq, if_neg h0]⟩
    have hqb : (q != 0) = true := by simpa using h0
    rw [← hq] at HM
    clear hq h0
    go_enter Try.func45, Try.ntmps45
    go_wp2_with (first | (go_at_call 88; rw [← hw2]; clear hw2; refine HM.out.mono ?_; rintro e w3 ⟨rfl, hb⟩; have HB3 := Aside0.mk hb; clear hb))
    go_ret2
    exact ⟨_, by rw [HA.out]; rfl, by rw [HA.out]; exact OwnP.nil _ _, HB.out.trans (HB3.out.mono HB.out.size)⟩
end Go.Proofs.Ytcbkchnfjeegmaa.H

namespace Go.Proofs.Ytcbkchnfjeegmaa.H
open Go.RowKit Go.Proofs.YtcbkchnfjeegmaaW.PrintWords Go.Proofs.YtcbkchnfjeegmaaW.PrintLast Go.Proofs.YtcbkchnfjeegmaaW.PrintMore
set_option linter.unusedVariables false
set_option linter.unusedSimpArgs false

set_option maxRecDepth 100000 in
set_option maxHeartbeats 2000000 in
theorem specOpen (n m : Nat) (ku : Value) (xs : List Int) (v : Value) (f : List Int) (g : Int) (w : World) (hk : ReadI w ku xs) (hv : ReadI w v f) (hcn : Cx n xs) (hm : m ≤ 6) (hf : Mp n m f) :
    Calls Try.prog 86 #[cx n ku, v, .int .i64 g] w fun e w' => ∃ u, e = .returned u ∧ OwnI w.heap.size w' u (xs.filter (opAt f g)) ∧ Below w.heap.size w w' := by
  obtain ⟨w1, hw1⟩ : ∃ w1, w1 = w.alloc (.cells #[.int .i64 n, ku] 28) := ⟨_, rfl⟩
  have hB : Below w.heap.size w w1 := by rw [hw1]; exact (Below.refl _ w).alloc (Nat.le_refl _) _
  have hsz1 : w1.heap.size = w.heap.size + 1 := by rw [hw1]; simp
  have c0 : w1.cell? ⟨w.heap.size, 0, none⟩ = some (.int .i64 n) := by rw [hw1]; simp
  have c1 : w1.cell? ⟨w.heap.size, 1, none⟩ = some ku := by rw [hw1]; simp
  have hk1 := hk.below hB
  have HV := Aside0.mk (hv.below hB)
  have HB := Aside0.mk hB
  obtain ⟨A2, d2, rfl, -⟩ := id hv
  obtain ⟨A1, d1, rfl, hc, hr⟩ := hk1
  have HR := Aside0.mk hr
  have hlen := hr.2.1
  have HN := Aside0.mk hcn
  have HF := Aside0.mk hf
  have hl63 := hcn.len
  have HS1 := Aside0.mk hsz1
  clear hk hv hB hr hcn hf hsz1
  go_enter Try.func86, Try.ntmps86
  go_wp2
  rw [← hw1]
  clear hw1
  go_loopw [7, 8] (fun s7 s8 wr => ∃ i : Nat, s8 = .int .i64 i ∧ i ≤ xs.length ∧ Aside0 (OwnI w1.heap.size wr s7 ((xs.take i).filter (opAt f g))) ∧ Aside0 (Below w1.heap.size w1 wr)) (fun _ s8 _ => xs.length - (intOf s8).toNat)
  case atStart => exact ⟨0, rfl, Nat.zero_le _, ⟨by have := OwnI.empty (b := w1.heap.size) w1 (Nat.le_refl _); rw [HS1.out] at this ⊢; exact this⟩, ⟨Below.alloc (Below.refl _ _) (Nat.le_refl _) _⟩⟩
  case round =>
    obtain ⟨i, rfl, hi, HO, HBw⟩ := hrel
    have c0 := pw_cell_below HBw.out c0
    have c1 := pw_cell_below HBw.out c1
    by_cases hlt : i < xs.length
    · obtain ⟨ad, y, rfl, hcell, HY⟩ := ReadI.get (Kd.C_below HR.out HBw.out) hlt
      obtain ⟨z, rfl, hz1, hz2⟩ := cx_dom HN.out HF.out (mem_at hlt HY.out)
      have HT := Aside0.mk (filter_take (opAt f g) hlt HY.out)
      have hlf : f.length ≤ 6 := by rw [HF.out.len]; exact HN.out.hi
      have HI := Aside0.mk (specMoved z hz2 _ f wr (HV.out.below HBw.out) hlf (HF.out.bd5 hm))
      have HFX : Aside0 (opAt f g (z : Int) = (((img z f : Nat) : Int) == g)) := ⟨rfl⟩
      have hll : ((xs.take i).filter (opAt f g)).length ≤ 63 := Nat.le_trans (List.length_filter_le _ _) (by rw [List.length_take]; omega)
      clear hz1 hlf
      obtain ⟨t, ht⟩ : ∃ t, t = img z f := ⟨_, rfl⟩
      rw [← ht] at HI HFX
      clear ht
      cases hfx : (((t : Nat) : Int) == g) with
      | true =>
        have HXX := Aside0.mk hfx
        go_wp2_with (first | (go_at_call 129; refine HI.out.mono ?_; rintro e w5 ⟨rfl, hb5⟩; have HO5 := Aside0.mk (OwnI.below HO.out hb5); have HB5 := Aside0.mk (HBw.out.trans (hb5.mono HBw.out.size)); have c0 := pw_cell_below hb5 c0; have c1 := pw_cell_below hb5 c1; have hcell := pw_cell_below hb5 hcell; clear hb5) | (at_builtin; refine app_own (w0 := w1) w1.heap.size rfl (.tmp 26) (.tmp 32) rfl _ ((xs.take i).filter (opAt f g)) z rfl rfl HO5.out HB5.out HB5.out.size ?hl ?_; (case hl => omega); intro v1 w6 ho hb hg hat; have HO1 := Aside0.mk ho; have HB1 := Aside0.mk hb; clear ho hb hg hat))
        go_roundw
        case rel => exact ⟨i + 1, by go_num, by omega, ⟨by rw [HT.out, HFX.out, HXX.out, if_pos rfl]; exact HO1.out⟩, HB1⟩
        case measure => simp [intOf]; omega
      | false =>
        have HXX := Aside0.mk hfx
        go_wp2_with (first | (go_at_call 129; refine HI.out.mono ?_; rintro e w5 ⟨rfl, hb5⟩; have HO5 := Aside0.mk (OwnI.below HO.out hb5); have HB5 := Aside0.mk (HBw.out.trans (hb5.mono HBw.out.size)); clear hb5))
        go_roundw
        case rel => exact ⟨i + 1, by go_num, by omega, ⟨by rw [HT.out, HFX.out, HXX.out, if_neg (by decide)]; exact HO5.out⟩, HB5⟩
        case measure => simp [intOf]; omega
    · have e : i = xs.length := by omega
      have HE := Aside0.mk e
      clear e
      go_wp2
      go_ret
      exact ⟨_, rfl, by have := HO.out; rw [HE.out, List.take_length] at this; exact this.lower HB.out.size, HB.out.trans (HBw.out.mono HB.out.size)⟩

end Go.Proofs.Ytcbkchnfjeegmaa.H

namespace Go.Proofs.Ytcbkchnfjeegmaa.H
open Go.RowKit Go.Proofs.YtcbkchnfjeegmaaW.PrintWords Go.Proofs.YtcbkchnfjeegmaaW.PrintLast Go.Proofs.YtcbkchnfjeegmaaW.PrintMore
set_option linter.unusedVariables false
set_option linter.unusedSimpArgs false

/-- the operations one behind the other -/
def tailList (P : Program) (Q : Exit → Act → World → Prop) : List Oper → Act → World → Prop
  | [], a, w => Q .normal a w
  | o :: r, a, w => opGives P o a.eval w (fun v w' => tailList P Q r (a.put o.dst v) w') ∨ ∃ w', (execOp a.eval o).run P w = .ok .skip w' ∧ tailList P Q r (a.put o.dst undef) w'
def tailOk (l : List Oper) (B : List Nat) (n k : Nat) : Bool :=
  decide (k < l.length) && (l.take k).all (fun o => o.dst.isSome) && l.all (fun o => o.guard.isNone) && decide (dsOf (l.take k)).Nodup && (dsOf (l.take k)).all (fun d => decide (d < n)) &&
  waitsOk (rtab .any l.toArray).2 B && baseOk (rtab .any l.toArray).2 (List.range l.length) &&
  (List.range l.length).all (fun i => decide (i < k) || (List.range i).all fun j => (B.getD i 0).testBit j) &&
  (List.range k).all (fun i => (List.range l.length).all fun j => decide (j < i) || !(B.getD i 0).testBit j)

theorem opGives_mono {P : Program} {o : Oper} {A : Act} {w : World} {R : Value → World → Prop} {K : Act → World → Prop} (h : opGives P o A.eval w R) (hR : ∀ v w', R v w' → K (A.put o.dst v) w') : opGives P o A.eval w fun v w' => K (A.put o.dst v) w' := by
  unfold opGives at h ⊢
  split
  · next h1 => rw [h1] at h; exact hR _ _ h
  · next f args w' h1 =>
    rw [h1] at h
    exact Calls.mono h fun e w'' ⟨v, e1, e2⟩ => ⟨v, e1, hR _ _ e2⟩
  · next h1 h2 =>
    split at h
    · next v w' h3 => exact (h1 _ _ h3).elim
    · next f args w' h3 => exact (h2 _ _ _ h3).elim
    · exact h

theorem wp_region_tail {P : Program} {id : Nat} {Q : Exit → Act → World → Prop} {a : Act} {w : World} {l : List Oper} (k : Nat) (V : Nat → Value → World → Prop) (B : List Nat) (hm : P.follows .mixedOrders = true) (hok : tailOk l B a.tmps.size k = true)
    (hV : ∀ i v w1 w2, Below w1.heap.size w1 w2 → V i v w1 → V i v w2)
    (hs : phiSteps P (l.take k) B V a w 0 (l.take k))
    (hend : ∀ s w1, Below w.heap.size w w1 → (∀ i, i < k → V i (s i) w1) → tailList P Q (l.drop k) (putAll (dsOf (l.take k)) 0 s a) w1) : (Code.region id l.toArray true).wp P Q a w := by
  simp only [tailOk, Bool.and_eq_true] at hok
  obtain ⟨⟨⟨⟨⟨⟨⟨⟨hk, h1⟩, h0⟩, h2⟩, h3⟩, h4⟩, h5⟩, hBt⟩, hBd⟩ := hok
  have hk : k < l.length := of_decide_eq_true hk
  have hnd : (dsOf (l.take k)).Nodup := of_decide_eq_true h2
  have hBt : ∀ i j, i < l.length → k ≤ i → j < i → (B.getD i 0).testBit j = true := by
    intro i j hi hki hj
    have := List.all_eq_true.1 hBt i (List.mem_range.2 hi)
    rw [decide_eq_false (by omega), Bool.false_or] at this
    exact List.all_eq_true.1 this j (List.mem_range.2 hj)
  have hBd : ∀ i j, i < k → j < l.length → (B.getD i 0).testBit j = true → j < i := by
    intro i j hi hj hij
    have := List.all_eq_true.1 (List.all_eq_true.1 hBd i (List.mem_range.2 hi)) j (List.mem_range.2 hj)
    rw [hij, Bool.not_true, Bool.or_false] at this
    exact of_decide_eq_true this
  have hTl : (rtab .any l.toArray).2.length = l.length := by rw [rtab_length]; simp
  have hdl : ∀ i, i < k → (l.take k)[i]? = l[i]? := fun i hi => by rw [List.getElem?_take_of_lt hi]
  have hlt : (l.take k).length = k := by rw [List.length_take]; omega
  have hds : ∀ (i : Nat) (o : Oper), i < k → l[i]? = some o → o.dst = some ((dsOf (l.take k))[i]?.getD 0) ∧ (dsOf (l.take k))[i]? = some (o.dst.getD 0) := by
    intro i o hi ho
    have ho' : (l.take k)[i]? = some o := (hdl i hi).trans ho
    have e : (dsOf (l.take k))[i]? = some (o.dst.getD 0) := by unfold dsOf; rw [List.getElem?_map, ho']; rfl
    refine ⟨?_, e⟩
    have := List.all_eq_true.1 h1 o (List.mem_of_getElem? ho')
    rw [e]
    cases hd : o.dst with
    | none => rw [hd] at this; cases this
    | some d => rfl
  have hrange : ∀ j, j < l.length → (List.range l.length).contains j = true := fun j hj => by simpa using hj
  refine wp_region_last_drew (S := fun _ => True) (ds := []) hm trivial (fun _ => ?_)
  refine inv_ (T := rtab .any l.toArray) (B := B) (List.range l.length) (fun b a' w' => (b k = false → ∃ s, a' = putAll (dsOf (l.take k)) 0 s a ∧ Below w.heap.size w w' ∧ ∀ i, i < k → b i = true → V i (s i) w') ∧ (∀ n, k < n → n ≤ l.length → (∀ j, j < n → b j = true) → (∀ j, n ≤ j → j < l.length → b j = false) → tailList P Q (l.drop n) a' w')) rfl h4 h5 ?_ ?_ ?_ ?_
  · rw [hTl, Bool.and_eq_true, beq_iff_eq, beq_iff_eq]
    refine ⟨?_, by simp⟩
    apply List.ext_getElem
    · simp [lof]
    · intro i hi1 hi2
      have hi : i < l.length := by simpa [lof] using hi1
      simp [lof, hi]
  · refine ⟨fun _ => ⟨fun k' => (a.tmps[(dsOf (l.take k))[k']?.getD 0]?).getD undef, ?_, (Below.refl _ _).drew, fun _ _ h => by cases h⟩, fun n hn _ hj _ => by have := hj 0 (by omega); cases this⟩
    refine (putAll_self _ _ _ _ (fun j d hj => ?_)).symm
    have hd := List.all_eq_true.1 h3 d (List.mem_of_getElem? hj)
    have hd' : d < a.tmps.size := of_decide_eq_true hd
    simp [hj, hd']
  · intro i hi b a' w' ⟨hA, hT⟩ hbi hon hoff
    have hil : i < l.length := List.mem_range.1 hi
    have ho : l[i]? = some l[i] := List.getElem?_eq_getElem hil
    refine ⟨l[i], by simp, fun K hK => ?_⟩
    have hK' := Shut.out hK
    have hg : l[i].guard = none := by
      have := List.all_eq_true.1 h0 l[i] (List.mem_of_getElem? ho)
      cases hq : l[i].guard with
      | none => rfl
      | some g => rw [hq] at this; cases this
    rw [if_pos (by simp [Region.wanted, hg])]
    have hon' : ∀ j, j < l.length → (B.getD i 0).testBit j = true → b j = true := fun j hj hb => hon j (by rw [hrange j hj, hb]; rfl)
    have hoff' : ∀ d, d < l.length → (B.getD d 0).testBit i = true → b d = false := fun d hd hb => hoff d (by rw [hrange d hd, hb]; rfl)
    by_cases hik : i < k
    · have hbk : b k = false := hoff' k hk (hBt k i hk (Nat.le_refl _) hik)
      obtain ⟨s, rfl, hbw, hvs⟩ := hA hbk
      have hst := phiSteps_at (l.take k) 0 hs i _ ((hdl i hik).trans ho)
      rw [Nat.zero_add] at hst
      refine opGives_wp (hst s w' hbw (fun j hj => ?_) _ (fun v w2 hb2 hv => ?_))
      · have hj1 := (Bool.and_eq_true _ _ ▸ hj : _ ∧ _)
        have hjk : j < k := by have := hj1.1; rw [hlt] at this; simpa using this
        exact hvs j hjk (hon' j (by omega) hj1.2)
      · rw [(hds i _ hik ho).1, (hds i _ hik ho).2, Option.getD_some, putAll_put _ _ _ _ _ _ _ hnd (Nat.zero_le _) (by rw [Nat.sub_zero]; exact (hds i _ hik ho).2)]
        refine hK' _ _ ⟨fun _ => ⟨upd s i v, rfl, hbw.trans (hb2.mono hbw.size), fun j hj hbj => ?_⟩, fun n hn hnl hj _ => ?_⟩
        · by_cases hji : j = i
          · subst hji; rw [show upd s j v j = v by simp [upd]]; exact hv
          · rw [up_ne hji] at hbj; rw [show upd s i v j = s j by simp [upd, hji]]
            exact hV _ _ _ _ hb2 (hvs j hj hbj)
        · have := hj k hn
          rw [up_ne (by omega), hbk] at this
          cases this
    · have hall : ∀ j, j < i → b j = true := fun j hj => hon' j (by omega) (hBt i j hil (by omega) hj)
      have hnone : ∀ j, i ≤ j → j < l.length → b j = false := by
        intro j hj hjl
        by_cases hji : j = i
        · subst hji; exact hbi
        · exact hoff' j hjl (hBt j i hjl (by omega) (by omega))
      have htl : tailList P Q (l.drop i) a' w' := by
        by_cases hki : i = k
        · subst hki
          obtain ⟨s, rfl, hbw, hvs⟩ := hA hbi
          exact hend s w' hbw (fun j hj => hvs j hj (hall j hj))
        · exact hT i (by omega) (by omega) hall hnone
      rw [List.drop_eq_getElem_cons hil] at htl
      have hnext : ∀ a2 w2, tailList P Q (l.drop (i + 1)) a2 w2 → K a2 w2 := by
        intro a2 w2 hq
        refine hK' _ _ ⟨fun h => ?_, fun n hn hnl hj hj2 => ?_⟩
        · by_cases hki : i = k
          · subst hki; rw [up_self] at h; cases h
          · rw [up_ne (by omega)] at h
            have := hall k (by omega)
            rw [h] at this; cases this
        · have hni : n = i + 1 := by
            by_cases h6 : n ≤ i
            · have := hj2 i h6 hil
              rw [up_self] at this; cases this
            · by_cases h7 : i + 1 < n
              · have := hj (i + 1) h7
                rw [up_ne (by omega), hnone (i + 1) (by omega) (by omega)] at this
                cases this
              · omega
          subst hni
          exact hq
      rcases htl with htl | ⟨w2, h1, h2⟩
      · refine opGives_wp (opGives_mono htl (fun v w2 hq => hnext _ _ hq))
      · unfold Oper.wp
        rw [h1]
        exact hnext _ _ h2
  · intro b a' w' hall ⟨hA, hT⟩
    have := hT l.length hk (Nat.le_refl _) (fun j hj => hall j (hrange j hj)) (fun j h1 h2 => by omega)
    rw [List.drop_length] at this
    exact this
end Go.Proofs.Ytcbkchnfjeegmaa.H

namespace Go.Proofs.Ytcbkchnfjeegmaa.H
open Go.RowKit Go.Proofs.YtcbkchnfjeegmaaW.PrintWords Go.Proofs.YtcbkchnfjeegmaaW.PrintLast Go.Proofs.YtcbkchnfjeegmaaW.PrintMore
set_option linter.unusedVariables false
set_option linter.unusedSimpArgs false

/-- into the kit's own word -/
theorem OwnI.row {b : Nat} {w : World} {v : Value} {xs : List Int} (h : OwnI b w v xs) : w.ownsRow b 2 1 v xs.length (xs.map (Value.int .i64)) := by
  obtain ⟨-, inner, ho, hl, hr⟩ := h
  have e : inner = xs.map (Value.int .i64) := by
    refine List.ext_getElem? (fun j => ?_)
    by_cases hj : j < xs.length
    · have h3 : List.take 1 (List.drop (j * 1) inner) = [Value.int .i64 xs[j]] := hr j xs[j] (List.getElem?_eq_getElem hj)
      rw [Nat.mul_one] at h3
      have h2 : (List.take 1 (List.drop j inner))[0]? = some (Value.int .i64 xs[j]) := by rw [h3]; rfl
      rw [List.getElem?_take_of_lt (by decide), List.getElem?_drop] at h2
      rw [Nat.add_zero] at h2
      rw [h2, List.getElem?_map, List.getElem?_eq_getElem hj]; rfl
    · have hl' : inner.length = xs.length * 1 := hl
      rw [List.getElem?_eq_none (by rw [hl']; omega), List.getElem?_eq_none (by rw [List.length_map]; omega)]
  rw [← e]
  exact ho

set_option maxRecDepth 100000 in
theorem append_gives {o : Oper} {ev : Operand → Value} {W : World} (base : Nat) (s x : Operand) (ho : o.op = .call { callee := .builtin .append, args := #[s, x], argTypes := #[22, 22] })
    (v : Value) (xs : List Int) (p : Int) (b c : Nat) (hs : ev s = v) (hx : ev x = .slice (some ⟨b, 0, none⟩) 1 c) (hc : W.cell? ⟨b, 0, none⟩ = some (.int .i64 p))
    (HO : OwnI base W v xs) (hbase : base ≤ W.heap.size) (hl : xs.length < 17592186044416) {R : Value → World → Prop}
    (h : ∀ v1 w1, OwnI base w1 v1 (xs ++ [p]) → W.grownBy w1 v.ownBlock → (v1.ownBlock = v.ownBlock ∨ v1.ownBlock = some W.heap.size) → R v1 w1) : opGives Try.prog o ev W R := by
  obtain ⟨i64, hi, hii⟩ : ∃ i, Try.prog.info? 2 = some i ∧ (i.zero, i.size, i.bytes) = (some (Value.int .i64 0), 1, 8) := by
    have h64 := info64
    cases hi : Try.prog.info? 2 with
    | none => rw [hi] at h64; cases h64
    | some i => rw [hi] at h64; exact ⟨i, rfl, Option.some.inj h64⟩
  have hi0 : i64.zero = some (Value.int .i64 0) := (Prod.mk.inj hii).1
  have hi1 : i64.size = 1 := (Prod.mk.inj (Prod.mk.inj hii).2).1
  have hi2 : i64.bytes = 8 := (Prod.mk.inj (Prod.mk.inj hii).2).2
  obtain ⟨v', w', hr, h2, h3, -, h5⟩ := run_append_own_at (P := Try.prog) W base 22 o.type 2 _ (.int .i64 0) 1 8 Try.underlying22 hi hi0 hi1 hi2 rfl (by decide) v xs.length (xs.map (Value.int .i64)) HO.row ⟨b, 0, none⟩ 1 c [.int .i64 p] rfl
    (fun j u hj => by
      cases j with
      | zero => cases hj; exact hc
      | succ j => cases hj) (fun u hu => by rw [List.mem_singleton] at hu; subst hu; rfl) (by simp only [maxLen]; omega) (by omega) hbase
  refine opGives_value (w' := w') (v := v') ?_ (h v' w' (OwnI.of_row (b := base) (by rw [List.length_append, List.map_append]; exact h2) (Nat.le_refl _)) h3 h5)
  unfold execOp
  simp only [ho, resolve, invoke, builtin, Sem.run_bind, Sem.run_pure, Result.andThen_ok, List.map_toArray, List.map_cons, List.map_nil, hs, hx, hr]
end Go.Proofs.Ytcbkchnfjeegmaa.H
